/-
reclaimref03: one access (access), for loads and swaps of an address in a register.
-/
import Derived.Test.YtbhbpfpggfcpgaaQRmL
import Derived.Test.YtbhbpfpggfcpgaaQPln
namespace Go.Proofs.Ytbhbpfpggfcpgaa
open Go.ChangeShapes Go.WideShapes Go.ChangeAt Go.RowKit Go.Shelf

set_option maxRecDepth 100000 in
set_option maxHeartbeats 4000000 in
theorem access_load {w : World} {base mb : Nat} {m : RM} {v : RMV} (H : RMAt w base mb m v) {i : Nat} (hi : i < m.T.length) (hp : 0 ≤ m.T[i].pos ∧ m.T[i].pos ≤ 1000) (d tgt : Int) (ra : Nat) (hra : ra < 48) (rc : Nat) (hrc : rc < 48) {an : Nat} (han : an < m.words.length) (hra0 : m.T[i].r.getD rc 0 = (an : Int)) (hwl : m.words.length ≤ 1000000) (htl : m.trace.length ≤ 1000000)  :
    Calls Try.prog 76 #[.pointer (some ⟨mb, 0, none⟩), .int .i64 (i : Int), .agg #[.int .i64 1, .int .i64 (ra : Int), .int .i64 0, .int .i64 (rc : Int), .int .i64 d, .int .i64 tgt]] w
      fun e w' => e = .returned (.tuple #[]) ∧ ROut w base mb v ({ (m.thr i RT.next).thr i (RT.put ra m.words[an]) with trace := m.trace ++ [⟨m.moves, i, 1, an, 0, 0, m.words[an]⟩] }) w' := by
  have hok := H.tok _ (List.getElem_mem hi)
  obtain ⟨g, cap, e4, h1, h1', h2, h3, h4, h5, h6, h7⟩ := H.thr hi
  have b11 := H.b11
  rw [e4] at b11
  have b23 := H.b23
  have lb := (H.lt mb (.inl rfl)).2
  have t2 := h6 2 _ (by omega) (RT.c2 _)
  have z2 := h5 (i * 658 + 2)
  have tc : w.cell? ⟨g, i * 658 + 3 + rc, none⟩ = some (.int .u64 (an : Int)) := by rw [Nat.add_assoc, ← hra0]; exact h6 (3 + rc) _ (by omega) (RT.cr hok rc hrc)
  have HN := Lib.hid (thr_next H h4 hi)
  have HO := Lib.hid (show Only (v.own mb) w (w.setCell ⟨g, i * 658 + 2, none⟩ (.int .i64 (m.T[i].pos + 1))) from (Only.refl _ w).set (.inl (own_row (by omega) h4)) _)
  have HH := Lib.hid H
  have H4 := Lib.hid h4
  have HR0 := Lib.hid hra0
  obtain ⟨hp1, hp2⟩ := hp
  unfold maxLen at h1'
  have h7' := Ne.symm h7
  clear H h5 h6 h4 e4 hra0
  go_enter Try.func76, Try.ntmps76
  go_wp2
  go_wp2
  refine wp_region_more_lit (by kernel_rfl) (by kernel_rfl) ?_
  repeat (first | go_big_quiet_skip | (go_big_quiet_want; go_big_quiet_op; first | go_big_quiet_on | (apply Exists.intro; refine ⟨fun _ => ?_, ?_⟩; (focus (fail)); go_big_quiet_on)))
  refine wpQuiet_nil ?_
  intro osq dq
  go_upto_region 7 with (fail)
  refine gen_world ?_
  intro W1 hW1
  have HB : Hid (RMAt W1 base mb (m.thr i RT.next) v) := Lib.hid (by rw [hW1]; exact ((HN.out.alloc _).more _ _).alloc _)
  have HO1 : Hid (Only (v.own mb) w W1) := Lib.hid (by rw [hW1]; exact ((HO.out.alloc _).more _ _).alloc _)
  have hs1 : W1.heap.size = w.heap.size + 1 + osq.size + 1 := by rw [hW1]; simp [World.size_more]
  have hm5 : W1.heap[w.heap.size]? = some (.cells #[.int .i64 1, .int .i64 (ra : Int), .int .i64 0, .int .i64 (rc : Int), .int .i64 d, .int .i64 tgt] 143 (0, 0)) := by
    rw [hW1, Below.heap_alloc _ _ _ (by simp [World.size_more]; omega), World.heap_more _ _ _ _ (by simp)]
    exact heap_alloc_at (by simp)
  have hm8 : W1.heap[w.heap.size + 1 + osq.size]? = some (.cells #[.int .i64 m.moves, .int .i64 (i : Int), .int .i64 0, .int .i64 (an : Int), .int .u64 0, .int .u64 0, .int .u64 0] 66 (0, 0)) := by
    rw [hW1]
    exact heap_alloc_at (by simp [World.size_more])
  obtain ⟨b5, hb5⟩ : ∃ b5, b5 = w.heap.size := ⟨_, rfl⟩
  obtain ⟨b8, hb8⟩ : ∃ b8, b8 = w.heap.size + 1 + osq.size := ⟨_, rfl⟩
  have HB5 := Lib.hid hb5
  have HB8 := Lib.hid hb8
  have n85 : b8 ≠ b5 := by omega
  have n58 : b5 ≠ b8 := by omega
  have ng5 : g ≠ b5 := by omega
  have n5g : b5 ≠ g := by omega
  have ng8 : g ≠ b8 := by omega
  have n8g : b8 ≠ g := by omega
  have nm5 : mb ≠ b5 := by omega
  have n5m : b5 ≠ mb := by omega
  have nm8 : mb ≠ b8 := by omega
  have n8m : b8 ≠ mb := by omega
  rw [← hb8] at hm8 ⊢
  rw [← hb5] at hm5 ⊢
  have k0 : W1.cell? ⟨b5, 0, none⟩ = some (.int .i64 1) := by simp [World.cell?, hm5]
  have k1 : W1.cell? ⟨b5, 1, none⟩ = some (.int .i64 (ra : Int)) := by simp [World.cell?, hm5]
  have k2 : W1.cell? ⟨b5, 2, none⟩ = some (.int .i64 0) := by simp [World.cell?, hm5]
  have k3 : W1.cell? ⟨b5, 3, none⟩ = some (.int .i64 (rc : Int)) := by simp [World.cell?, hm5]
  have k4 : W1.cell? ⟨b5, 4, none⟩ = some (.int .i64 d) := by simp [World.cell?, hm5]
  have k5 : W1.cell? ⟨b5, 5, none⟩ = some (.int .i64 tgt) := by simp [World.cell?, hm5]
  have l5 := (Array.getElem?_eq_some_iff.1 hm5).1
  have a0 : W1.cell? ⟨b8, 0, none⟩ = some (.int .i64 m.moves) := by simp [World.cell?, hm8]
  have a1 : W1.cell? ⟨b8, 1, none⟩ = some (.int .i64 (i : Int)) := by simp [World.cell?, hm8]
  have a2 : W1.cell? ⟨b8, 2, none⟩ = some (.int .i64 0) := by simp [World.cell?, hm8]
  have a3 : W1.cell? ⟨b8, 3, none⟩ = some (.int .i64 (an : Int)) := by simp [World.cell?, hm8]
  have a4 : W1.cell? ⟨b8, 4, none⟩ = some (.int .u64 0) := by simp [World.cell?, hm8]
  have a5 : W1.cell? ⟨b8, 5, none⟩ = some (.int .u64 0) := by simp [World.cell?, hm8]
  have a6 : W1.cell? ⟨b8, 6, none⟩ = some (.int .u64 0) := by simp [World.cell?, hm8]
  have az : ∀ j, W1.frozen? ⟨b8, j, none⟩ = false := fun j => by simp [World.frozen?, hm8]
  have l8 := (Array.getElem?_eq_some_iff.1 hm8).1
  have HM8 := Lib.hid hm8
  have hi1 : i < (m.thr i RT.next).T.length := by rw [RM.thr_len]; exact hi
  obtain ⟨g1, cap1, e41, p1, p1', p2, p3, p4, p5, p6, p7⟩ := HB.out.thr hi1
  obtain rfl : g = g1 := by rw [H4.out] at p4; exact Option.some.inj p4
  rw [RM.thr_get _ _ _ hi] at p6
  have lb1 := (HB.out.lt mb (.inl rfl)).2
  have hoks : (RT.next m.T[i]).ok := RT.next_ok hok
  obtain ⟨gw, capw, ew, w1, w1', w2, w3, w4, w5, w6, w7⟩ := HB.out.row (i := 0) (by omega) (show 0 < m.words.length by omega)
  change v.row 0 = .slice (some ⟨gw, 0, none⟩) m.words.length capw at ew
  change m.words.length ≤ capw at w1
  have b7 := HB.out.b7
  rw [ew] at b7
  have ngw : g ≠ gw := HB.out.apart2 (i := 4) (j := 0) (by omega) (by omega) (by omega) H4.out w4
  have nwg : gw ≠ g := Ne.symm ngw
  have nwm : mb ≠ gw := Ne.symm w7
  have nw5 : gw ≠ b5 := fun e => by have := (HH.out.lt gw (own_row (by omega) w4)).2; have := HB5.out; omega
  have n5w : b5 ≠ gw := Ne.symm nw5
  have nw8 : gw ≠ b8 := fun e => by have := (HH.out.lt gw (own_row (by omega) w4)).2; have := HB8.out; omega
  have n8w : b8 ≠ gw := Ne.symm nw8
  have cw : W1.cell? ⟨gw, an, none⟩ = some (.int .u64 m.words[an]) := w6 an _ (by show (u64s m.words)[an]? = _; simp [u64s, han])
  have zw := w5 an
  have z2 := az 2
  have z4 := az 4
  have z5 := az 5
  have z6 := az 6
  have W4 := Lib.hid w4
  unfold maxLen at w1'
  clear hW1 hm5 hm8 hb5 hb8 b11 b23 t2 tc e41 p1 p1' p2 p4 ew w2 w4 w5 w6 az lb hs1
  obtain ⟨ur, hur⟩ : ∃ ur, W1.cell? ⟨g, i * 658 + 3 + ra, none⟩ = some ur := ⟨_, by rw [Nat.add_assoc]; exact p6 (3 + ra) _ (by omega) (RT.cr hoks ra hra)⟩
  have zr := p5 (i * 658 + 3 + ra)
  clear p5 p6
  go_wp2
  go_wp2
  refine wp_region_more_tail 8 (by kernel_rfl) (by kernel_rfl) ?_
  simp only [List.take_succ_cons, List.take_zero, List.drop_succ_cons, List.drop_zero]
  repeat (first | go_big_quiet_skip | (go_big_quiet_want; go_big_quiet_op; first | go_big_quiet_on | (apply Exists.intro; refine ⟨fun _ => ?_, ?_⟩; (focus (fail)); go_big_quiet_on)))
  refine wpQuiet_nil ?_
  intro osq dq
  go_upto_region 24 with (fail)
  refine gen_world ?_
  intro W2 hW2
  have hn8o : ¬ v.own mb b8 := fun e => by have := (HH.out.lt b8 e).2; have := HB8.out; omega
  have HB2 : Hid (RMAt W2 base mb ((m.thr i RT.next).thr i (RT.put ra m.words[an])) v) := Lib.hid (by
    rw [hW2]
    exact (thr_put ((HB.out.set_other (p := ⟨b8, 2, none⟩) hn8o _).set_other (p := ⟨b8, 6, none⟩) hn8o _) H4.out hi1 ra hra _).more _ _)
  have HO2 : Hid (Only (v.own mb) w W2) := Lib.hid (by
    rw [hW2]
    exact (((HO1.out.set (p := ⟨b8, 2, none⟩) (.inr (by have := HB8.out; show w.heap.size ≤ b8; omega)) _).set (p := ⟨b8, 6, none⟩) (.inr (by have := HB8.out; show w.heap.size ≤ b8; omega)) _).set (.inl (own_row (i := 4) (by omega) H4.out)) _).more _ _)
  have hm82 : W2.heap[b8]? = some (.cells #[.int .i64 m.moves, .int .i64 (i : Int), .int .i64 1, .int .i64 (an : Int), .int .u64 0, .int .u64 0, .int .u64 m.words[an]] 66 (0, 0)) := by
    rw [hW2, World.heap_more _ _ _ _ (by simpa using l8), Below.heap_setCell _ _ _ _ n8g]
    simp [World.setCell, Array.getElem?_modify, HM8.out]
  clear hW2 cw zw zr z2 z4 z5 z6 a0 a1 a2 a3 a4 a5 a6 k0 k1 k2 k3 k4 k5 hur b7 l5 l8
  have x0 : W2.cell? ⟨b8, 0, none⟩ = some (.int .i64 m.moves) := by simp [World.cell?, hm82]
  have x1 : W2.cell? ⟨b8, 1, none⟩ = some (.int .i64 (i : Int)) := by simp [World.cell?, hm82]
  have x2 : W2.cell? ⟨b8, 2, none⟩ = some (.int .i64 1) := by simp [World.cell?, hm82]
  have x3 : W2.cell? ⟨b8, 3, none⟩ = some (.int .i64 (an : Int)) := by simp [World.cell?, hm82]
  have x4 : W2.cell? ⟨b8, 4, none⟩ = some (.int .u64 0) := by simp [World.cell?, hm82]
  have x5 : W2.cell? ⟨b8, 5, none⟩ = some (.int .u64 0) := by simp [World.cell?, hm82]
  have x6 : W2.cell? ⟨b8, 6, none⟩ = some (.int .u64 m.words[an]) := by simp [World.cell?, hm82]
  have l8' := (Array.getElem?_eq_some_iff.1 hm82).1
  clear hm82
  obtain ⟨i0, ii, iz0, iz1, iz2⟩ := info_parts infoAcc
  have HII := Lib.hid ii
  have HZ0 := Lib.hid iz0
  have HZ1 := Lib.hid iz1
  have HZ2 := Lib.hid iz2
  clear ii iz0 iz1 iz2
  obtain ⟨ot, ct, et, y1, y2⟩ := (HB2.out.rows 9 (by omega)).form
  change v.row 9 = .slice ot m.trace.length ct at et
  change m.trace.length ≤ ct at y1
  have b25 := HB2.out.b25
  rw [et] at b25
  have RT9 : Hid (W2.RowV base 66 7 (.slice ot m.trace.length ct) m.trace.length (accs m.trace)) := Lib.hid (by rw [← et]; exact HB2.out.rows 9 (by omega))
  have ET := Lib.hid et
  have lb2 := (HB2.out.lt mb (.inl rfl)).2
  have hbase : base ≤ W2.heap.size := Nat.le_trans HB2.out.ge (Nat.le_of_lt lb2)
  have S2 := Lib.hid (show m.trace.length + 1 ≤ maxLen by unfold maxLen; omega)
  have S3 := Lib.hid (show ((m.trace.length + 1) + (m.trace.length + 1) / 4 + 192) * 56 ≤ 281474976710656 by omega)
  have f25 := fun q : LaterF (fun k => (v.row 9).rowBlock = some k) W2 => q.cell b25 lb2 (fun e => HB2.out.apart (by omega) e rfl)
  have hn8 : ¬ (fun k => (v.row 9).rowBlock = some k) b8 := fun e => by have := (HH.out.lt b8 (own_row (by omega) e)).2; have := HB8.out; omega
  have q0 := fun q : LaterF (fun k => (v.row 9).rowBlock = some k) W2 => q.cell x0 l8' hn8
  have q1 := fun q : LaterF (fun k => (v.row 9).rowBlock = some k) W2 => q.cell x1 l8' hn8
  have q2 := fun q : LaterF (fun k => (v.row 9).rowBlock = some k) W2 => q.cell x2 l8' hn8
  have q3 := fun q : LaterF (fun k => (v.row 9).rowBlock = some k) W2 => q.cell x3 l8' hn8
  have q4 := fun q : LaterF (fun k => (v.row 9).rowBlock = some k) W2 => q.cell x4 l8' hn8
  have q5 := fun q : LaterF (fun k => (v.row 9).rowBlock = some k) W2 => q.cell x5 l8' hn8
  have q6 := fun q : LaterF (fun k => (v.row 9).rowBlock = some k) W2 => q.cell x6 l8' hn8
  have S1 := Lib.hid (accs_one [⟨m.moves, i, 1, an, 0, 0, m.words[an]⟩])
  unfold maxLen at y2
  clear x0 x1 x2 x3 x4 x5 x6 et b25
  go_wp2
  refine wp_region_plan (fun wz => ∃ q : LaterF (fun k => (v.row 9).rowBlock = some k) W2, wz = q.W) [6, 7, 10] [0, 1, 2, 3, 4, 5] (.fork 6 [] (.fork 7 [] (.tail 8) .none) .none) oper0 (by kernel_rfl) (by kernel_rfl) (laterF_in (Only.refl _ _).drew) ?_
  simp only [wpPlan, List.map_cons, List.map_nil, List.getD_cons_zero, List.getD_cons_succ, List.drop_succ_cons, List.drop_zero]
  repeat (first | go_big_quiet_skip | (go_big_quiet_want; go_big_quiet_op; go_big_quiet_on))
  refine wpQuiet_nil ?_
  refine ⟨?_, trivial⟩
  go_wp2_with fail
  refine strict_on ?_
  refine ⟨?_, ?_⟩
  · exact laterF_in (by repeat (first | exact Only.refl _ _ | apply Only.alloc | apply Only.drew))
  repeat (first | go_big_quiet_skip | (go_big_quiet_want; go_big_quiet_op; go_big_quiet_on))
  refine wpQuiet_nil ?_
  refine ⟨?_, trivial⟩
  go_wp2_with (at_builtin; refine wpList_append_row _ rfl _ _ 38 rfl base 66 i0 _ 7 56 Try.underlying38 HII.out HZ0.out HZ1.out HZ2.out rfl (.slice ot m.trace.length ct) m.trace.length (accs m.trace) rfl (by repeat (first | exact RT9.out | apply World.RowV.alloc | apply World.RowV.drew)) _ 1 _ rfl (by repeat (first | apply World.Src.drew | exact World.Src.one rfl rfl)) S1.out S2.out S3.out (by simp; omega) ?_; intro v' w5 hown hout; have HWN := Lib.hid hown; have HWO := Lib.hid hout; clear hown hout)
  refine strict_on ?_
  refine ⟨?_, ?_⟩
  · refine laterF_in (Only.trans ?_ (Only.out HWO.out (F := fun k => (Value.slice ot m.trace.length ct).rowBlock = some k) (fun k hk => hk)) (fun k hk => .inl (by rw [ET.out]; exact hk)))
    repeat (first | exact Only.refl _ _ | apply Only.alloc | apply Only.drew)
  repeat (first | go_big_quiet_skip | (go_big_quiet_want; go_big_quiet_op; go_big_quiet_on))
  refine wpQuiet_nil ?_
  have HWO2 := HWO.out
  rw [← ET.out] at HWO2
  have HFIN := Lib.hid (app_trace (mb := mb) (m := (m.thr i RT.next).thr i (RT.put ra m.words[an])) (v := v) (a := ⟨m.moves, i, 1, an, 0, 0, m.words[an]⟩) (by repeat (first | exact HB2.out | apply RMAt.alloc | apply RMAt.drew)) HWN.out HWO2)
  obtain ⟨d0, dz, dl⟩ := RMAt.aft (base := base) (mb := mb) (m := (m.thr i RT.next).thr i (RT.put ra m.words[an])) (v := v) (i := 9) (by repeat (first | exact HB2.out | apply RMAt.alloc | apply RMAt.drew)) (by omega) HWO2
  clear HWO2
  have d25 := d0 25 _ rfl
  have z25 := dz 25
  obtain ⟨ov, cv, ev, _, _⟩ := HWN.out.form
  subst ev
  clear d0 dz
  go_wp2
  go_end0
  refine ⟨rfl, ?_⟩
  refine ROut.ahead HO2.out (ROut.pre ?_ HFIN.out)
  repeat (first | exact Only.refl _ _ | apply Only.alloc | apply Only.drew)

def _root_.Go.RT.goto (p : Int) (t : RT) : RT := { t with pos := p }
theorem thr_goto {w : World} {base mb : Nat} {m : RM} {v : RMV} (h : RMAt w base mb m v) {g i : Nat} (hg : (v.row 4).rowBlock = some g) (hi : i < m.T.length) (p : Int) : RMAt (w.setCell ⟨g, i * 658 + 2, none⟩ (.int .i64 p)) base mb (m.thr i (RT.goto p)) v := by
  rw [RM.thr_eq _ _ _ hi]
  exact h.putT hg hi (j := 2) (by omega) _ (show (RT.goto p m.T[i]).ok from h.tok m.T[i] (List.getElem_mem hi)) _ (RT.set2 _ _)

set_option maxRecDepth 100000 in
set_option maxHeartbeats 4000000 in
theorem access_yes {w : World} {base mb : Nat} {m : RM} {v : RMV} (H : RMAt w base mb m v) {i : Nat} (hi : i < m.T.length) (hp : 0 ≤ m.T[i].pos ∧ m.T[i].pos ≤ 1000) (ra : Nat) (hra : ra < 48) (rd : Nat) (hrd : rd < 48) (tl : Nat) (rc : Nat) (hrc : rc < 48) {an : Nat} (han : an < m.words.length) (hra0 : m.T[i].r.getD rc 0 = (an : Int)) (hwl : m.words.length ≤ 1000000) (htl : m.trace.length ≤ 1000000) {ro rn : Int} (hro : m.T[i].r.getD ra 0 = ro) (hrn : m.T[i].r.getD rd 0 = rn) (heq : m.words[an] = ro) :
    Calls Try.prog 76 #[.pointer (some ⟨mb, 0, none⟩), .int .i64 (i : Int), .agg #[.int .i64 3, .int .i64 (ra : Int), .int .i64 0, .int .i64 (rc : Int), .int .i64 (rd : Int), .int .i64 (tl : Int)]] w
      fun e w' => e = .returned (.tuple #[]) ∧ ROut w base mb v ({ m.thr i RT.next with words := m.words.set an rn, trace := m.trace ++ [⟨m.moves, i, 3, an, ro, rn, ro⟩] }) w' := by
  have hok := H.tok _ (List.getElem_mem hi)
  obtain ⟨g, cap, e4, h1, h1', h2, h3, h4, h5, h6, h7⟩ := H.thr hi
  have b11 := H.b11
  rw [e4] at b11
  have b23 := H.b23
  have lb := (H.lt mb (.inl rfl)).2
  have t2 := h6 2 _ (by omega) (RT.c2 _)
  have z2 := h5 (i * 658 + 2)
  have tc : w.cell? ⟨g, i * 658 + 3 + rc, none⟩ = some (.int .u64 (an : Int)) := by rw [Nat.add_assoc, ← hra0]; exact h6 (3 + rc) _ (by omega) (RT.cr hok rc hrc)
  have HN := Lib.hid (thr_next H h4 hi)
  have HO := Lib.hid (show Only (v.own mb) w (w.setCell ⟨g, i * 658 + 2, none⟩ (.int .i64 (m.T[i].pos + 1))) from (Only.refl _ w).set (.inl (own_row (by omega) h4)) _)
  have HH := Lib.hid H
  have H4 := Lib.hid h4
  have HR0 := Lib.hid hra0
  obtain ⟨hp1, hp2⟩ := hp
  unfold maxLen at h1'
  have h7' := Ne.symm h7
  clear H h5 h6 h4 e4 hra0
  go_enter Try.func76, Try.ntmps76
  go_wp2
  go_wp2
  refine wp_region_more_lit (by kernel_rfl) (by kernel_rfl) ?_
  repeat (first | go_big_quiet_skip | (go_big_quiet_want; go_big_quiet_op; first | go_big_quiet_on | (apply Exists.intro; refine ⟨fun _ => ?_, ?_⟩; (focus (fail)); go_big_quiet_on)))
  refine wpQuiet_nil ?_
  intro osq dq
  go_upto_region 7 with (fail)
  refine gen_world ?_
  intro W1 hW1
  have HB : Hid (RMAt W1 base mb (m.thr i RT.next) v) := Lib.hid (by rw [hW1]; exact ((HN.out.alloc _).more _ _).alloc _)
  have HO1 : Hid (Only (v.own mb) w W1) := Lib.hid (by rw [hW1]; exact ((HO.out.alloc _).more _ _).alloc _)
  have hs1 : W1.heap.size = w.heap.size + 1 + osq.size + 1 := by rw [hW1]; simp [World.size_more]
  have hm5 : W1.heap[w.heap.size]? = some (.cells #[.int .i64 3, .int .i64 (ra : Int), .int .i64 0, .int .i64 (rc : Int), .int .i64 (rd : Int), .int .i64 (tl : Int)] 143 (0, 0)) := by
    rw [hW1, Below.heap_alloc _ _ _ (by simp [World.size_more]; omega), World.heap_more _ _ _ _ (by simp)]
    exact heap_alloc_at (by simp)
  have hm8 : W1.heap[w.heap.size + 1 + osq.size]? = some (.cells #[.int .i64 m.moves, .int .i64 (i : Int), .int .i64 0, .int .i64 (an : Int), .int .u64 0, .int .u64 0, .int .u64 0] 66 (0, 0)) := by
    rw [hW1]
    exact heap_alloc_at (by simp [World.size_more])
  obtain ⟨b5, hb5⟩ : ∃ b5, b5 = w.heap.size := ⟨_, rfl⟩
  obtain ⟨b8, hb8⟩ : ∃ b8, b8 = w.heap.size + 1 + osq.size := ⟨_, rfl⟩
  have HB5 := Lib.hid hb5
  have HB8 := Lib.hid hb8
  have n85 : b8 ≠ b5 := by omega
  have n58 : b5 ≠ b8 := by omega
  have ng5 : g ≠ b5 := by omega
  have n5g : b5 ≠ g := by omega
  have ng8 : g ≠ b8 := by omega
  have n8g : b8 ≠ g := by omega
  have nm5 : mb ≠ b5 := by omega
  have n5m : b5 ≠ mb := by omega
  have nm8 : mb ≠ b8 := by omega
  have n8m : b8 ≠ mb := by omega
  rw [← hb8] at hm8 ⊢
  rw [← hb5] at hm5 ⊢
  have k0 : W1.cell? ⟨b5, 0, none⟩ = some (.int .i64 3) := by simp [World.cell?, hm5]
  have k1 : W1.cell? ⟨b5, 1, none⟩ = some (.int .i64 (ra : Int)) := by simp [World.cell?, hm5]
  have k2 : W1.cell? ⟨b5, 2, none⟩ = some (.int .i64 0) := by simp [World.cell?, hm5]
  have k3 : W1.cell? ⟨b5, 3, none⟩ = some (.int .i64 (rc : Int)) := by simp [World.cell?, hm5]
  have k4 : W1.cell? ⟨b5, 4, none⟩ = some (.int .i64 (rd : Int)) := by simp [World.cell?, hm5]
  have k5 : W1.cell? ⟨b5, 5, none⟩ = some (.int .i64 (tl : Int)) := by simp [World.cell?, hm5]
  have l5 := (Array.getElem?_eq_some_iff.1 hm5).1
  have a0 : W1.cell? ⟨b8, 0, none⟩ = some (.int .i64 m.moves) := by simp [World.cell?, hm8]
  have a1 : W1.cell? ⟨b8, 1, none⟩ = some (.int .i64 (i : Int)) := by simp [World.cell?, hm8]
  have a2 : W1.cell? ⟨b8, 2, none⟩ = some (.int .i64 0) := by simp [World.cell?, hm8]
  have a3 : W1.cell? ⟨b8, 3, none⟩ = some (.int .i64 (an : Int)) := by simp [World.cell?, hm8]
  have a4 : W1.cell? ⟨b8, 4, none⟩ = some (.int .u64 0) := by simp [World.cell?, hm8]
  have a5 : W1.cell? ⟨b8, 5, none⟩ = some (.int .u64 0) := by simp [World.cell?, hm8]
  have a6 : W1.cell? ⟨b8, 6, none⟩ = some (.int .u64 0) := by simp [World.cell?, hm8]
  have az : ∀ j, W1.frozen? ⟨b8, j, none⟩ = false := fun j => by simp [World.frozen?, hm8]
  have l8 := (Array.getElem?_eq_some_iff.1 hm8).1
  have HM8 := Lib.hid hm8
  have hi1 : i < (m.thr i RT.next).T.length := by rw [RM.thr_len]; exact hi
  obtain ⟨g1, cap1, e41, p1, p1', p2, p3, p4, p5, p6, p7⟩ := HB.out.thr hi1
  obtain rfl : g = g1 := by rw [H4.out] at p4; exact Option.some.inj p4
  rw [RM.thr_get _ _ _ hi] at p6
  have lb1 := (HB.out.lt mb (.inl rfl)).2
  have hoks : (RT.next m.T[i]).ok := RT.next_ok hok
  obtain ⟨gw, capw, ew, w1, w1', w2, w3, w4, w5, w6, w7⟩ := HB.out.row (i := 0) (by omega) (show 0 < m.words.length by omega)
  change v.row 0 = .slice (some ⟨gw, 0, none⟩) m.words.length capw at ew
  change m.words.length ≤ capw at w1
  have b7 := HB.out.b7
  rw [ew] at b7
  have ngw : g ≠ gw := HB.out.apart2 (i := 4) (j := 0) (by omega) (by omega) (by omega) H4.out w4
  have nwg : gw ≠ g := Ne.symm ngw
  have nwm : mb ≠ gw := Ne.symm w7
  have nw5 : gw ≠ b5 := fun e => by have := (HH.out.lt gw (own_row (by omega) w4)).2; have := HB5.out; omega
  have n5w : b5 ≠ gw := Ne.symm nw5
  have nw8 : gw ≠ b8 := fun e => by have := (HH.out.lt gw (own_row (by omega) w4)).2; have := HB8.out; omega
  have n8w : b8 ≠ gw := Ne.symm nw8
  have cw : W1.cell? ⟨gw, an, none⟩ = some (.int .u64 m.words[an]) := w6 an _ (by show (u64s m.words)[an]? = _; simp [u64s, han])
  have zw := w5 an
  have z2 := az 2
  have z4 := az 4
  have z5 := az 5
  have z6 := az 6
  have W4 := Lib.hid w4
  unfold maxLen at w1'
  clear hW1 hm5 hm8 hb5 hb8 b11 b23 t2 tc e41 p1 p1' p2 p4 ew w2 w4 w5 w6 az lb hs1
  have tra : W1.cell? ⟨g, i * 658 + 3 + ra, none⟩ = some (.int .u64 (m.T[i].r.getD ra 0)) := by rw [Nat.add_assoc]; exact p6 (3 + ra) _ (by omega) (RT.cr hoks ra hra)
  have trd : W1.cell? ⟨g, i * 658 + 3 + rd, none⟩ = some (.int .u64 (m.T[i].r.getD rd 0)) := by rw [Nat.add_assoc]; exact p6 (3 + rd) _ (by omega) (RT.cr hoks rd hrd)
  rw [heq] at cw
  rw [hro] at tra
  rw [hrn] at trd
  clear p5 p6
  go_wp2
  go_wp2
  refine wp_region_more_tail 8 (by kernel_rfl) (by kernel_rfl) ?_
  simp only [List.take_succ_cons, List.take_zero, List.drop_succ_cons, List.drop_zero]
  repeat (first | go_big_quiet_skip | (go_big_quiet_want; go_big_quiet_op; first | go_big_quiet_on | (apply Exists.intro; refine ⟨fun _ => ?_, ?_⟩; (focus (fail)); go_big_quiet_on)))
  refine wpQuiet_nil ?_
  intro osq dq
  go_wp2
  go_wp2
  refine wp_region_more_tail 8 (by kernel_rfl) (by kernel_rfl) ?_
  simp only [List.take_succ_cons, List.take_zero, List.drop_succ_cons, List.drop_zero]
  repeat (first | go_big_quiet_skip | (go_big_quiet_want; go_big_quiet_op; first | go_big_quiet_on | (apply Exists.intro; refine ⟨fun _ => ?_, ?_⟩; (focus (fail)); go_big_quiet_on)))
  refine wpQuiet_nil ?_
  intro osq dq
  go_wp2
  go_wp2
  refine wp_region_more_tail 8 (by kernel_rfl) (by kernel_rfl) ?_
  simp only [List.take_succ_cons, List.take_zero, List.drop_succ_cons, List.drop_zero]
  repeat (first | go_big_quiet_skip | (go_big_quiet_want; go_big_quiet_op; first | go_big_quiet_on | (apply Exists.intro; refine ⟨fun _ => ?_, ?_⟩; (focus (fail)); go_big_quiet_on)))
  refine wpQuiet_nil ?_
  intro osq dq
  go_upto_region 24 with (fail)
  refine gen_world ?_
  intro W2 hW2
  have hn8o : ¬ v.own mb b8 := fun e => by have := (HH.out.lt b8 e).2; have := HB8.out; omega
  have HB2 : Hid (RMAt W2 base mb ({ m.thr i RT.next with words := m.words.set an rn }) v) := Lib.hid (by
    rw [hW2]
    repeat apply RMAt.more
    exact ((((HB.out.set_other (p := ⟨b8, 2, none⟩) hn8o _).set_other (p := ⟨b8, 4, none⟩) hn8o _).set_other (p := ⟨b8, 5, none⟩) hn8o _).set_other (p := ⟨b8, 6, none⟩) hn8o _).putW W4.out (by exact han) rn)
  have HO2 : Hid (Only (v.own mb) w W2) := Lib.hid (by
    rw [hW2]
    repeat apply Only.more
    exact ((((HO1.out.set (p := ⟨b8, 2, none⟩) (.inr (by have := HB8.out; show w.heap.size ≤ b8; omega)) _).set (p := ⟨b8, 4, none⟩) (.inr (by have := HB8.out; show w.heap.size ≤ b8; omega)) _).set (p := ⟨b8, 5, none⟩) (.inr (by have := HB8.out; show w.heap.size ≤ b8; omega)) _).set (p := ⟨b8, 6, none⟩) (.inr (by have := HB8.out; show w.heap.size ≤ b8; omega)) _).set (.inl (own_row (i := 0) (by omega) W4.out)) _)
  have hm82 : W2.heap[b8]? = some (.cells #[.int .i64 m.moves, .int .i64 (i : Int), .int .i64 3, .int .i64 (an : Int), .int .u64 ro, .int .u64 rn, .int .u64 ro] 66 (0, 0)) := by
    rw [hW2]
    repeat rw [World.heap_more _ _ _ _ (by first | simpa using l8 | (simp [World.size_more]; omega))]
    rw [Below.heap_setCell _ _ _ _ n8w]
    simp [World.setCell, Array.getElem?_modify, HM8.out]
  clear hW2 cw zw z2 z4 z5 z6 a0 a1 a2 a3 a4 a5 a6 k0 k1 k2 k3 k4 k5 b7 l5 l8 tra trd
  have x0 : W2.cell? ⟨b8, 0, none⟩ = some (.int .i64 m.moves) := by simp [World.cell?, hm82]
  have x1 : W2.cell? ⟨b8, 1, none⟩ = some (.int .i64 (i : Int)) := by simp [World.cell?, hm82]
  have x2 : W2.cell? ⟨b8, 2, none⟩ = some (.int .i64 3) := by simp [World.cell?, hm82]
  have x3 : W2.cell? ⟨b8, 3, none⟩ = some (.int .i64 (an : Int)) := by simp [World.cell?, hm82]
  have x4 : W2.cell? ⟨b8, 4, none⟩ = some (.int .u64 ro) := by simp [World.cell?, hm82]
  have x5 : W2.cell? ⟨b8, 5, none⟩ = some (.int .u64 rn) := by simp [World.cell?, hm82]
  have x6 : W2.cell? ⟨b8, 6, none⟩ = some (.int .u64 ro) := by simp [World.cell?, hm82]
  have l8' := (Array.getElem?_eq_some_iff.1 hm82).1
  clear hm82
  obtain ⟨i0, ii, iz0, iz1, iz2⟩ := info_parts infoAcc
  have HII := Lib.hid ii
  have HZ0 := Lib.hid iz0
  have HZ1 := Lib.hid iz1
  have HZ2 := Lib.hid iz2
  clear ii iz0 iz1 iz2
  obtain ⟨ot, ct, et, y1, y2⟩ := (HB2.out.rows 9 (by omega)).form
  change v.row 9 = .slice ot m.trace.length ct at et
  change m.trace.length ≤ ct at y1
  have b25 := HB2.out.b25
  rw [et] at b25
  have RT9 : Hid (W2.RowV base 66 7 (.slice ot m.trace.length ct) m.trace.length (accs m.trace)) := Lib.hid (by rw [← et]; exact HB2.out.rows 9 (by omega))
  have ET := Lib.hid et
  have lb2 := (HB2.out.lt mb (.inl rfl)).2
  have hbase : base ≤ W2.heap.size := Nat.le_trans HB2.out.ge (Nat.le_of_lt lb2)
  have S2 := Lib.hid (show m.trace.length + 1 ≤ maxLen by unfold maxLen; omega)
  have S3 := Lib.hid (show ((m.trace.length + 1) + (m.trace.length + 1) / 4 + 192) * 56 ≤ 281474976710656 by omega)
  have f25 := fun q : LaterF (fun k => (v.row 9).rowBlock = some k) W2 => q.cell b25 lb2 (fun e => HB2.out.apart (by omega) e rfl)
  have hn8 : ¬ (fun k => (v.row 9).rowBlock = some k) b8 := fun e => by have := (HH.out.lt b8 (own_row (by omega) e)).2; have := HB8.out; omega
  have q0 := fun q : LaterF (fun k => (v.row 9).rowBlock = some k) W2 => q.cell x0 l8' hn8
  have q1 := fun q : LaterF (fun k => (v.row 9).rowBlock = some k) W2 => q.cell x1 l8' hn8
  have q2 := fun q : LaterF (fun k => (v.row 9).rowBlock = some k) W2 => q.cell x2 l8' hn8
  have q3 := fun q : LaterF (fun k => (v.row 9).rowBlock = some k) W2 => q.cell x3 l8' hn8
  have q4 := fun q : LaterF (fun k => (v.row 9).rowBlock = some k) W2 => q.cell x4 l8' hn8
  have q5 := fun q : LaterF (fun k => (v.row 9).rowBlock = some k) W2 => q.cell x5 l8' hn8
  have q6 := fun q : LaterF (fun k => (v.row 9).rowBlock = some k) W2 => q.cell x6 l8' hn8
  have S1 := Lib.hid (accs_one [⟨m.moves, i, 3, an, ro, rn, ro⟩])
  unfold maxLen at y2
  clear x0 x1 x2 x3 x4 x5 x6 et b25
  go_wp2
  refine wp_region_plan (fun wz => ∃ q : LaterF (fun k => (v.row 9).rowBlock = some k) W2, wz = q.W) [6, 7, 10] [0, 1, 2, 3, 4, 5] (.fork 6 [] (.fork 7 [] (.tail 8) .none) .none) oper0 (by kernel_rfl) (by kernel_rfl) (laterF_in (Only.refl _ _).drew) ?_
  simp only [wpPlan, List.map_cons, List.map_nil, List.getD_cons_zero, List.getD_cons_succ, List.drop_succ_cons, List.drop_zero]
  repeat (first | go_big_quiet_skip | (go_big_quiet_want; go_big_quiet_op; go_big_quiet_on))
  refine wpQuiet_nil ?_
  refine ⟨?_, trivial⟩
  go_wp2_with fail
  refine strict_on ?_
  refine ⟨?_, ?_⟩
  · exact laterF_in (by repeat (first | exact Only.refl _ _ | apply Only.alloc | apply Only.drew))
  repeat (first | go_big_quiet_skip | (go_big_quiet_want; go_big_quiet_op; go_big_quiet_on))
  refine wpQuiet_nil ?_
  refine ⟨?_, trivial⟩
  go_wp2_with (at_builtin; refine wpList_append_row _ rfl _ _ 38 rfl base 66 i0 _ 7 56 Try.underlying38 HII.out HZ0.out HZ1.out HZ2.out rfl (.slice ot m.trace.length ct) m.trace.length (accs m.trace) rfl (by repeat (first | exact RT9.out | apply World.RowV.alloc | apply World.RowV.drew)) _ 1 _ rfl (by repeat (first | apply World.Src.drew | exact World.Src.one rfl rfl)) S1.out S2.out S3.out (by simp; omega) ?_; intro v' w5 hown hout; have HWN := Lib.hid hown; have HWO := Lib.hid hout; clear hown hout)
  refine strict_on ?_
  refine ⟨?_, ?_⟩
  · refine laterF_in (Only.trans ?_ (Only.out HWO.out (F := fun k => (Value.slice ot m.trace.length ct).rowBlock = some k) (fun k hk => hk)) (fun k hk => .inl (by rw [ET.out]; exact hk)))
    repeat (first | exact Only.refl _ _ | apply Only.alloc | apply Only.drew)
  repeat (first | go_big_quiet_skip | (go_big_quiet_want; go_big_quiet_op; go_big_quiet_on))
  refine wpQuiet_nil ?_
  have HWO2 := HWO.out
  rw [← ET.out] at HWO2
  have HFIN := Lib.hid (app_trace (mb := mb) (m := { m.thr i RT.next with words := m.words.set an rn }) (v := v) (a := ⟨m.moves, i, 3, an, ro, rn, ro⟩) (by repeat (first | exact HB2.out | apply RMAt.alloc | apply RMAt.drew)) HWN.out HWO2)
  obtain ⟨d0, dz, dl⟩ := RMAt.aft (base := base) (mb := mb) (m := { m.thr i RT.next with words := m.words.set an rn }) (v := v) (i := 9) (by repeat (first | exact HB2.out | apply RMAt.alloc | apply RMAt.drew)) (by omega) HWO2
  clear HWO2
  have d25 := d0 25 _ rfl
  have z25 := dz 25
  obtain ⟨ov, cv, ev, _, _⟩ := HWN.out.form
  subst ev
  clear d0 dz
  go_wp2
  go_end0
  refine ⟨rfl, ?_⟩
  refine ROut.ahead HO2.out (ROut.pre ?_ HFIN.out)
  repeat (first | exact Only.refl _ _ | apply Only.alloc | apply Only.drew)

set_option maxRecDepth 100000 in
set_option maxHeartbeats 4000000 in
theorem access_no {w : World} {base mb : Nat} {m : RM} {v : RMV} (H : RMAt w base mb m v) {i : Nat} (hi : i < m.T.length) (hp : 0 ≤ m.T[i].pos ∧ m.T[i].pos ≤ 1000) (ra : Nat) (hra : ra < 48) (rd : Nat) (hrd : rd < 48) (tl : Nat) (rc : Nat) (hrc : rc < 48) {an : Nat} (han : an < m.words.length) (hra0 : m.T[i].r.getD rc 0 = (an : Int)) (hwl : m.words.length ≤ 1000000) (htl : m.trace.length ≤ 1000000) {ro rn : Int} (hro : m.T[i].r.getD ra 0 = ro) (hrn : m.T[i].r.getD rd 0 = rn) (hne : m.words[an] ≠ ro) (htgt : tl < m.labels.length) :
    Calls Try.prog 76 #[.pointer (some ⟨mb, 0, none⟩), .int .i64 (i : Int), .agg #[.int .i64 3, .int .i64 (ra : Int), .int .i64 0, .int .i64 (rc : Int), .int .i64 (rd : Int), .int .i64 (tl : Int)]] w
      fun e w' => e = .returned (.tuple #[]) ∧ ROut w base mb v ({ (m.thr i RT.next).thr i (RT.goto m.labels[tl]) with trace := m.trace ++ [⟨m.moves, i, 3, an, ro, rn, m.words[an]⟩] }) w' := by
  have hok := H.tok _ (List.getElem_mem hi)
  obtain ⟨g, cap, e4, h1, h1', h2, h3, h4, h5, h6, h7⟩ := H.thr hi
  have b11 := H.b11
  rw [e4] at b11
  have b23 := H.b23
  have lb := (H.lt mb (.inl rfl)).2
  have t2 := h6 2 _ (by omega) (RT.c2 _)
  have z2 := h5 (i * 658 + 2)
  have tc : w.cell? ⟨g, i * 658 + 3 + rc, none⟩ = some (.int .u64 (an : Int)) := by rw [Nat.add_assoc, ← hra0]; exact h6 (3 + rc) _ (by omega) (RT.cr hok rc hrc)
  have HN := Lib.hid (thr_next H h4 hi)
  have HO := Lib.hid (show Only (v.own mb) w (w.setCell ⟨g, i * 658 + 2, none⟩ (.int .i64 (m.T[i].pos + 1))) from (Only.refl _ w).set (.inl (own_row (by omega) h4)) _)
  have HH := Lib.hid H
  have H4 := Lib.hid h4
  have HR0 := Lib.hid hra0
  obtain ⟨hp1, hp2⟩ := hp
  unfold maxLen at h1'
  have h7' := Ne.symm h7
  clear H h5 h6 h4 e4 hra0
  go_enter Try.func76, Try.ntmps76
  go_wp2
  go_wp2
  refine wp_region_more_lit (by kernel_rfl) (by kernel_rfl) ?_
  repeat (first | go_big_quiet_skip | (go_big_quiet_want; go_big_quiet_op; first | go_big_quiet_on | (apply Exists.intro; refine ⟨fun _ => ?_, ?_⟩; (focus (fail)); go_big_quiet_on)))
  refine wpQuiet_nil ?_
  intro osq dq
  go_upto_region 7 with (fail)
  refine gen_world ?_
  intro W1 hW1
  have HB : Hid (RMAt W1 base mb (m.thr i RT.next) v) := Lib.hid (by rw [hW1]; exact ((HN.out.alloc _).more _ _).alloc _)
  have HO1 : Hid (Only (v.own mb) w W1) := Lib.hid (by rw [hW1]; exact ((HO.out.alloc _).more _ _).alloc _)
  have hs1 : W1.heap.size = w.heap.size + 1 + osq.size + 1 := by rw [hW1]; simp [World.size_more]
  have hm5 : W1.heap[w.heap.size]? = some (.cells #[.int .i64 3, .int .i64 (ra : Int), .int .i64 0, .int .i64 (rc : Int), .int .i64 (rd : Int), .int .i64 (tl : Int)] 143 (0, 0)) := by
    rw [hW1, Below.heap_alloc _ _ _ (by simp [World.size_more]; omega), World.heap_more _ _ _ _ (by simp)]
    exact heap_alloc_at (by simp)
  have hm8 : W1.heap[w.heap.size + 1 + osq.size]? = some (.cells #[.int .i64 m.moves, .int .i64 (i : Int), .int .i64 0, .int .i64 (an : Int), .int .u64 0, .int .u64 0, .int .u64 0] 66 (0, 0)) := by
    rw [hW1]
    exact heap_alloc_at (by simp [World.size_more])
  obtain ⟨b5, hb5⟩ : ∃ b5, b5 = w.heap.size := ⟨_, rfl⟩
  obtain ⟨b8, hb8⟩ : ∃ b8, b8 = w.heap.size + 1 + osq.size := ⟨_, rfl⟩
  have HB5 := Lib.hid hb5
  have HB8 := Lib.hid hb8
  have n85 : b8 ≠ b5 := by omega
  have n58 : b5 ≠ b8 := by omega
  have ng5 : g ≠ b5 := by omega
  have n5g : b5 ≠ g := by omega
  have ng8 : g ≠ b8 := by omega
  have n8g : b8 ≠ g := by omega
  have nm5 : mb ≠ b5 := by omega
  have n5m : b5 ≠ mb := by omega
  have nm8 : mb ≠ b8 := by omega
  have n8m : b8 ≠ mb := by omega
  rw [← hb8] at hm8 ⊢
  rw [← hb5] at hm5 ⊢
  have k0 : W1.cell? ⟨b5, 0, none⟩ = some (.int .i64 3) := by simp [World.cell?, hm5]
  have k1 : W1.cell? ⟨b5, 1, none⟩ = some (.int .i64 (ra : Int)) := by simp [World.cell?, hm5]
  have k2 : W1.cell? ⟨b5, 2, none⟩ = some (.int .i64 0) := by simp [World.cell?, hm5]
  have k3 : W1.cell? ⟨b5, 3, none⟩ = some (.int .i64 (rc : Int)) := by simp [World.cell?, hm5]
  have k4 : W1.cell? ⟨b5, 4, none⟩ = some (.int .i64 (rd : Int)) := by simp [World.cell?, hm5]
  have k5 : W1.cell? ⟨b5, 5, none⟩ = some (.int .i64 (tl : Int)) := by simp [World.cell?, hm5]
  have l5 := (Array.getElem?_eq_some_iff.1 hm5).1
  have a0 : W1.cell? ⟨b8, 0, none⟩ = some (.int .i64 m.moves) := by simp [World.cell?, hm8]
  have a1 : W1.cell? ⟨b8, 1, none⟩ = some (.int .i64 (i : Int)) := by simp [World.cell?, hm8]
  have a2 : W1.cell? ⟨b8, 2, none⟩ = some (.int .i64 0) := by simp [World.cell?, hm8]
  have a3 : W1.cell? ⟨b8, 3, none⟩ = some (.int .i64 (an : Int)) := by simp [World.cell?, hm8]
  have a4 : W1.cell? ⟨b8, 4, none⟩ = some (.int .u64 0) := by simp [World.cell?, hm8]
  have a5 : W1.cell? ⟨b8, 5, none⟩ = some (.int .u64 0) := by simp [World.cell?, hm8]
  have a6 : W1.cell? ⟨b8, 6, none⟩ = some (.int .u64 0) := by simp [World.cell?, hm8]
  have az : ∀ j, W1.frozen? ⟨b8, j, none⟩ = false := fun j => by simp [World.frozen?, hm8]
  have l8 := (Array.getElem?_eq_some_iff.1 hm8).1
  have HM8 := Lib.hid hm8
  have hi1 : i < (m.thr i RT.next).T.length := by rw [RM.thr_len]; exact hi
  obtain ⟨g1, cap1, e41, p1, p1', p2, p3, p4, p5, p6, p7⟩ := HB.out.thr hi1
  obtain rfl : g = g1 := by rw [H4.out] at p4; exact Option.some.inj p4
  rw [RM.thr_get _ _ _ hi] at p6
  have lb1 := (HB.out.lt mb (.inl rfl)).2
  have hoks : (RT.next m.T[i]).ok := RT.next_ok hok
  obtain ⟨gw, capw, ew, w1, w1', w2, w3, w4, w5, w6, w7⟩ := HB.out.row (i := 0) (by omega) (show 0 < m.words.length by omega)
  change v.row 0 = .slice (some ⟨gw, 0, none⟩) m.words.length capw at ew
  change m.words.length ≤ capw at w1
  have b7 := HB.out.b7
  rw [ew] at b7
  have ngw : g ≠ gw := HB.out.apart2 (i := 4) (j := 0) (by omega) (by omega) (by omega) H4.out w4
  have nwg : gw ≠ g := Ne.symm ngw
  have nwm : mb ≠ gw := Ne.symm w7
  have nw5 : gw ≠ b5 := fun e => by have := (HH.out.lt gw (own_row (by omega) w4)).2; have := HB5.out; omega
  have n5w : b5 ≠ gw := Ne.symm nw5
  have nw8 : gw ≠ b8 := fun e => by have := (HH.out.lt gw (own_row (by omega) w4)).2; have := HB8.out; omega
  have n8w : b8 ≠ gw := Ne.symm nw8
  have cw : W1.cell? ⟨gw, an, none⟩ = some (.int .u64 m.words[an]) := w6 an _ (by show (u64s m.words)[an]? = _; simp [u64s, han])
  have zw := w5 an
  have z2 := az 2
  have z4 := az 4
  have z5 := az 5
  have z6 := az 6
  have W4 := Lib.hid w4
  unfold maxLen at w1'
  clear hW1 hm5 hm8 hb5 hb8 b11 b23 t2 tc e41 p1 p1' p2 p4 ew w2 w4 w5 w6 az lb hs1
  have tra : W1.cell? ⟨g, i * 658 + 3 + ra, none⟩ = some (.int .u64 (m.T[i].r.getD ra 0)) := by rw [Nat.add_assoc]; exact p6 (3 + ra) _ (by omega) (RT.cr hoks ra hra)
  have trd : W1.cell? ⟨g, i * 658 + 3 + rd, none⟩ = some (.int .u64 (m.T[i].r.getD rd 0)) := by rw [Nat.add_assoc]; exact p6 (3 + rd) _ (by omega) (RT.cr hoks rd hrd)
  obtain ⟨gl, capl, el, l1, l1', l2, l3, l4, lz5, l6, l7⟩ := HB.out.row (i := 2) (by omega) (show 0 < m.labels.length by omega)
  change v.row 2 = .slice (some ⟨gl, 0, none⟩) m.labels.length capl at el
  change m.labels.length ≤ capl at l1
  have b9 := HB.out.b9
  rw [el] at b9
  have ngl : g ≠ gl := HB.out.apart2 (i := 4) (j := 2) (by omega) (by omega) (by omega) H4.out l4
  have nlg : gl ≠ g := Ne.symm ngl
  have nlm : mb ≠ gl := Ne.symm l7
  have nl5 : gl ≠ b5 := fun e => by have := (HH.out.lt gl (own_row (by omega) l4)).2; have := HB5.out; omega
  have nl8 : gl ≠ b8 := fun e => by have := (HH.out.lt gl (own_row (by omega) l4)).2; have := HB8.out; omega
  have n5l : b5 ≠ gl := Ne.symm nl5
  have n8l : b8 ≠ gl := Ne.symm nl8
  have cl : W1.cell? ⟨gl, tl, none⟩ = some (.int .i64 m.labels[tl]) := l6 tl _ (by show (ints m.labels)[tl]? = _; simp [ints, htgt])
  have tp : W1.cell? ⟨g, i * 658 + 2, none⟩ = some (.int .i64 (m.T[i].pos + 1)) := p6 2 _ (by omega) (RT.c2 _)
  have zp := p5 (i * 658 + 2)
  unfold maxLen at l1'
  clear el l2 l4 lz5 l6
  rw [hro] at tra
  rw [hrn] at trd
  have hne' : (m.words[an] == ro) = false := by simpa using hne
  clear p5 p6
  go_wp2
  go_wp2
  refine wp_region_more_tail 8 (by kernel_rfl) (by kernel_rfl) ?_
  simp only [List.take_succ_cons, List.take_zero, List.drop_succ_cons, List.drop_zero]
  repeat (first | go_big_quiet_skip | (go_big_quiet_want; go_big_quiet_op; first | go_big_quiet_on | (apply Exists.intro; refine ⟨fun _ => ?_, ?_⟩; (focus (fail)); go_big_quiet_on)))
  refine wpQuiet_nil ?_
  intro osq dq
  go_wp2
  go_wp2
  refine wp_region_more_tail 8 (by kernel_rfl) (by kernel_rfl) ?_
  simp only [List.take_succ_cons, List.take_zero, List.drop_succ_cons, List.drop_zero]
  repeat (first | go_big_quiet_skip | (go_big_quiet_want; go_big_quiet_op; first | go_big_quiet_on | (apply Exists.intro; refine ⟨fun _ => ?_, ?_⟩; (focus (fail)); go_big_quiet_on)))
  refine wpQuiet_nil ?_
  intro osq dq
  go_wp2
  go_wp2
  refine wp_region_more_tail 11 (by kernel_rfl) (by kernel_rfl) ?_
  simp only [List.take_succ_cons, List.take_zero, List.drop_succ_cons, List.drop_zero]
  repeat (first | go_big_quiet_skip | (go_big_quiet_want; go_big_quiet_op; first | go_big_quiet_on | (apply Exists.intro; refine ⟨fun _ => ?_, ?_⟩; (focus (fail)); go_big_quiet_on)))
  refine wpQuiet_nil ?_
  intro osq dq
  go_upto_region 24 with (fail)
  refine gen_world ?_
  intro W2 hW2
  have hn8o : ¬ v.own mb b8 := fun e => by have := (HH.out.lt b8 e).2; have := HB8.out; omega
  have HB2 : Hid (RMAt W2 base mb ((m.thr i RT.next).thr i (RT.goto m.labels[tl])) v) := Lib.hid (by
    rw [hW2]
    repeat apply RMAt.more
    exact thr_goto ((((HB.out.set_other (p := ⟨b8, 2, none⟩) hn8o _).set_other (p := ⟨b8, 4, none⟩) hn8o _).set_other (p := ⟨b8, 5, none⟩) hn8o _).set_other (p := ⟨b8, 6, none⟩) hn8o _) H4.out hi1 _)
  have HO2 : Hid (Only (v.own mb) w W2) := Lib.hid (by
    rw [hW2]
    repeat apply Only.more
    exact ((((HO1.out.set (p := ⟨b8, 2, none⟩) (.inr (by have := HB8.out; show w.heap.size ≤ b8; omega)) _).set (p := ⟨b8, 4, none⟩) (.inr (by have := HB8.out; show w.heap.size ≤ b8; omega)) _).set (p := ⟨b8, 5, none⟩) (.inr (by have := HB8.out; show w.heap.size ≤ b8; omega)) _).set (p := ⟨b8, 6, none⟩) (.inr (by have := HB8.out; show w.heap.size ≤ b8; omega)) _).set (.inl (own_row (i := 4) (by omega) H4.out)) _)
  have hm82 : W2.heap[b8]? = some (.cells #[.int .i64 m.moves, .int .i64 (i : Int), .int .i64 3, .int .i64 (an : Int), .int .u64 ro, .int .u64 rn, .int .u64 m.words[an]] 66 (0, 0)) := by
    rw [hW2]
    repeat rw [World.heap_more _ _ _ _ (by first | simpa using l8 | (simp [World.size_more]; omega))]
    rw [Below.heap_setCell _ _ _ _ n8g]
    simp [World.setCell, Array.getElem?_modify, HM8.out]
  clear hW2 cw zw z2 z4 z5 z6 a0 a1 a2 a3 a4 a5 a6 k0 k1 k2 k3 k4 k5 b7 l5 l8 tra trd cl tp zp b9 hne'
  have x0 : W2.cell? ⟨b8, 0, none⟩ = some (.int .i64 m.moves) := by simp [World.cell?, hm82]
  have x1 : W2.cell? ⟨b8, 1, none⟩ = some (.int .i64 (i : Int)) := by simp [World.cell?, hm82]
  have x2 : W2.cell? ⟨b8, 2, none⟩ = some (.int .i64 3) := by simp [World.cell?, hm82]
  have x3 : W2.cell? ⟨b8, 3, none⟩ = some (.int .i64 (an : Int)) := by simp [World.cell?, hm82]
  have x4 : W2.cell? ⟨b8, 4, none⟩ = some (.int .u64 ro) := by simp [World.cell?, hm82]
  have x5 : W2.cell? ⟨b8, 5, none⟩ = some (.int .u64 rn) := by simp [World.cell?, hm82]
  have x6 : W2.cell? ⟨b8, 6, none⟩ = some (.int .u64 m.words[an]) := by simp [World.cell?, hm82]
  have l8' := (Array.getElem?_eq_some_iff.1 hm82).1
  clear hm82
  obtain ⟨i0, ii, iz0, iz1, iz2⟩ := info_parts infoAcc
  have HII := Lib.hid ii
  have HZ0 := Lib.hid iz0
  have HZ1 := Lib.hid iz1
  have HZ2 := Lib.hid iz2
  clear ii iz0 iz1 iz2
  obtain ⟨ot, ct, et, y1, y2⟩ := (HB2.out.rows 9 (by omega)).form
  change v.row 9 = .slice ot m.trace.length ct at et
  change m.trace.length ≤ ct at y1
  have b25 := HB2.out.b25
  rw [et] at b25
  have RT9 : Hid (W2.RowV base 66 7 (.slice ot m.trace.length ct) m.trace.length (accs m.trace)) := Lib.hid (by rw [← et]; exact HB2.out.rows 9 (by omega))
  have ET := Lib.hid et
  have lb2 := (HB2.out.lt mb (.inl rfl)).2
  have hbase : base ≤ W2.heap.size := Nat.le_trans HB2.out.ge (Nat.le_of_lt lb2)
  have S2 := Lib.hid (show m.trace.length + 1 ≤ maxLen by unfold maxLen; omega)
  have S3 := Lib.hid (show ((m.trace.length + 1) + (m.trace.length + 1) / 4 + 192) * 56 ≤ 281474976710656 by omega)
  have f25 := fun q : LaterF (fun k => (v.row 9).rowBlock = some k) W2 => q.cell b25 lb2 (fun e => HB2.out.apart (by omega) e rfl)
  have hn8 : ¬ (fun k => (v.row 9).rowBlock = some k) b8 := fun e => by have := (HH.out.lt b8 (own_row (by omega) e)).2; have := HB8.out; omega
  have q0 := fun q : LaterF (fun k => (v.row 9).rowBlock = some k) W2 => q.cell x0 l8' hn8
  have q1 := fun q : LaterF (fun k => (v.row 9).rowBlock = some k) W2 => q.cell x1 l8' hn8
  have q2 := fun q : LaterF (fun k => (v.row 9).rowBlock = some k) W2 => q.cell x2 l8' hn8
  have q3 := fun q : LaterF (fun k => (v.row 9).rowBlock = some k) W2 => q.cell x3 l8' hn8
  have q4 := fun q : LaterF (fun k => (v.row 9).rowBlock = some k) W2 => q.cell x4 l8' hn8
  have q5 := fun q : LaterF (fun k => (v.row 9).rowBlock = some k) W2 => q.cell x5 l8' hn8
  have q6 := fun q : LaterF (fun k => (v.row 9).rowBlock = some k) W2 => q.cell x6 l8' hn8
  have S1 := Lib.hid (accs_one [⟨m.moves, i, 3, an, ro, rn, m.words[an]⟩])
  unfold maxLen at y2
  clear x0 x1 x2 x3 x4 x5 x6 et b25
  go_wp2
  refine wp_region_plan (fun wz => ∃ q : LaterF (fun k => (v.row 9).rowBlock = some k) W2, wz = q.W) [6, 7, 10] [0, 1, 2, 3, 4, 5] (.fork 6 [] (.fork 7 [] (.tail 8) .none) .none) oper0 (by kernel_rfl) (by kernel_rfl) (laterF_in (Only.refl _ _).drew) ?_
  simp only [wpPlan, List.map_cons, List.map_nil, List.getD_cons_zero, List.getD_cons_succ, List.drop_succ_cons, List.drop_zero]
  repeat (first | go_big_quiet_skip | (go_big_quiet_want; go_big_quiet_op; go_big_quiet_on))
  refine wpQuiet_nil ?_
  refine ⟨?_, trivial⟩
  go_wp2_with fail
  refine strict_on ?_
  refine ⟨?_, ?_⟩
  · exact laterF_in (by repeat (first | exact Only.refl _ _ | apply Only.alloc | apply Only.drew))
  repeat (first | go_big_quiet_skip | (go_big_quiet_want; go_big_quiet_op; go_big_quiet_on))
  refine wpQuiet_nil ?_
  refine ⟨?_, trivial⟩
  go_wp2_with (at_builtin; refine wpList_append_row _ rfl _ _ 38 rfl base 66 i0 _ 7 56 Try.underlying38 HII.out HZ0.out HZ1.out HZ2.out rfl (.slice ot m.trace.length ct) m.trace.length (accs m.trace) rfl (by repeat (first | exact RT9.out | apply World.RowV.alloc | apply World.RowV.drew)) _ 1 _ rfl (by repeat (first | apply World.Src.drew | exact World.Src.one rfl rfl)) S1.out S2.out S3.out (by simp; omega) ?_; intro v' w5 hown hout; have HWN := Lib.hid hown; have HWO := Lib.hid hout; clear hown hout)
  refine strict_on ?_
  refine ⟨?_, ?_⟩
  · refine laterF_in (Only.trans ?_ (Only.out HWO.out (F := fun k => (Value.slice ot m.trace.length ct).rowBlock = some k) (fun k hk => hk)) (fun k hk => .inl (by rw [ET.out]; exact hk)))
    repeat (first | exact Only.refl _ _ | apply Only.alloc | apply Only.drew)
  repeat (first | go_big_quiet_skip | (go_big_quiet_want; go_big_quiet_op; go_big_quiet_on))
  refine wpQuiet_nil ?_
  have HWO2 := HWO.out
  rw [← ET.out] at HWO2
  have HFIN := Lib.hid (app_trace (mb := mb) (m := (m.thr i RT.next).thr i (RT.goto m.labels[tl])) (v := v) (a := ⟨m.moves, i, 3, an, ro, rn, m.words[an]⟩) (by repeat (first | exact HB2.out | apply RMAt.alloc | apply RMAt.drew)) HWN.out HWO2)
  obtain ⟨d0, dz, dl⟩ := RMAt.aft (base := base) (mb := mb) (m := (m.thr i RT.next).thr i (RT.goto m.labels[tl])) (v := v) (i := 9) (by repeat (first | exact HB2.out | apply RMAt.alloc | apply RMAt.drew)) (by omega) HWO2
  clear HWO2
  have d25 := d0 25 _ rfl
  have z25 := dz 25
  obtain ⟨ov, cv, ev, _, _⟩ := HWN.out.form
  subst ev
  clear d0 dz
  go_wp2
  go_end0
  refine ⟨rfl, ?_⟩
  refine ROut.ahead HO2.out (ROut.pre ?_ HFIN.out)
  repeat (first | exact Only.refl _ _ | apply Only.alloc | apply Only.drew)
end Go.Proofs.Ytbhbpfpggfcpgaa
