/-
reclaimref03: one instruction without an access (local), for the instructions of the machine's own calls.
A row of the document's machine grows (RMAt.app).
machine.Machine: Busy and Call.
-/
import Derived.Test.YtbhbpfpggfcpgaaQHis
import Derived.Test.YtbhbpfpggfcpgaaQMove
import Derived.Test.YtbhbpfpggfcpgaaQInS
namespace Go
open Go.RowKit
/-- the thread numbered i turns -/
def RM.thr (m : RM) (i : Nat) (f : RT → RT) : RM := { m with T := m.T.modify i f }
theorem modify_set {α : Type} : ∀ (l : List α) (i : Nat) (f : α → α) (h : i < l.length), l.modify i f = l.set i (f l[i]) := by
  intro l
  induction l with
  | nil => intro i f h; simp at h
  | cons x l ih =>
    intro i f h
    cases i with
    | zero => simp
    | succ i =>
      simp only [List.modify_succ_cons, List.set_cons_succ, List.getElem_cons_succ]
      rw [ih i f (by simpa using h)]
theorem RM.thr_eq (m : RM) (i : Nat) (f : RT → RT) (h : i < m.T.length) : m.thr i f = { m with T := m.T.set i (f m.T[i]) } := by unfold RM.thr; rw [modify_set _ _ _ h]
theorem RM.thr_len (m : RM) (i : Nat) (f : RT → RT) : (m.thr i f).T.length = m.T.length := by simp [RM.thr]
theorem RM.thr_get (m : RM) (i : Nat) (f : RT → RT) (h : i < m.T.length) : (m.thr i f).T[i]'(by rw [RM.thr_len]; exact h) = f m.T[i] := by simp [RM.thr]
theorem RM.thr_thr (m : RM) (i : Nat) (f f' : RT → RT) : (m.thr i f).thr i f' = m.thr i (f' ∘ f) := by simp [RM.thr, List.modify_modify_eq]
def RT.next (t : RT) : RT := { t with pos := t.pos + 1 }
def RT.put (a : Nat) (x : Int) (t : RT) : RT := { t with r := t.r.set a x }
theorem RT.next_ok {t : RT} (h : t.ok) : t.next.ok := h
theorem RT.put_ok {t : RT} (h : t.ok) (a : Nat) (x : Int) : (t.put a x).ok := ⟨by simp [RT.put, h.1], h.2⟩
def RM.cal (m : RM) (ci : Nat) (f : Cal → Cal) : RM := { m with calls := m.calls.modify ci f }
theorem RM.cal_eq (m : RM) (i : Nat) (f : Cal → Cal) (h : i < m.calls.length) : m.cal i f = { m with calls := m.calls.set i (f m.calls[i]) } := by unfold RM.cal; rw [modify_set _ _ _ h]
end Go
namespace Go.Proofs.Ytbhbpfpggfcpgaa
open Go.ChangeShapes Go.WideShapes Go.ChangeAt Go.RowKit Go.Shelf

section
variable {w : World} {base mb : Nat} {m : RM} {v : RMV}
theorem thr_next (h : RMAt w base mb m v) {g i : Nat} (hg : (v.row 4).rowBlock = some g) (hi : i < m.T.length) : RMAt (w.setCell ⟨g, i * 658 + 2, none⟩ (.int .i64 (m.T[i].pos + 1))) base mb (m.thr i RT.next) v := by
  rw [RM.thr_eq _ _ _ hi]
  exact h.putT hg hi (j := 2) (by omega) _ (RT.next_ok (h.tok _ (List.getElem_mem hi))) _ (RT.set2 _ _)
theorem thr_put (h : RMAt w base mb m v) {g i : Nat} (hg : (v.row 4).rowBlock = some g) (hi : i < m.T.length) (a : Nat) (ha : a < 48) (x : Int) : RMAt (w.setCell ⟨g, i * 658 + 3 + a, none⟩ (.int .u64 x)) base mb (m.thr i (RT.put a x)) v := by
  rw [RM.thr_eq _ _ _ hi, Nat.add_assoc]
  have hok := h.tok _ (List.getElem_mem hi)
  exact h.putT hg hi (j := 3 + a) (by omega) _ (RT.put_ok hok a x) _ (RT.setr hok a ha x)
theorem own_row {i g : Nat} (hi : i < 11) (hg : (v.row i).rowBlock = some g) : v.own mb g := .inr ⟨i, hi, hg⟩
end

set_option maxRecDepth 100000 in
set_option maxHeartbeats 4000000 in
theorem lists_label {w : World} {base mb : Nat} {m : RM} {v : RMV} (H : RMAt w base mb m v) {i : Nat} (hi : i < m.T.length) (a b c d tgt : Int) :
    Calls Try.prog 87 #[.pointer (some ⟨mb, 0, none⟩), .int .i64 (i : Int), .agg #[.int .i64 10, .int .i64 a, .int .i64 b, .int .i64 c, .int .i64 d, .int .i64 tgt]] w
      fun e w' => e = .returned (.tuple #[]) ∧ Below w.heap.size w w' := by
  obtain ⟨g, cap, e4, h1, h1', h2, h3, h4, h5, h6, h7⟩ := H.thr hi
  have b11 := H.b11
  rw [e4] at b11
  have lb := (H.lt mb (.inl rfl)).2
  unfold maxLen at h1'
  clear H h4 h5 h6 e4
  go_enter Try.func87, Try.ntmps87
  go_wp2
  go_end0
  exact ⟨rfl, (by repeat (first | exact Below.refl _ _ | apply Below.drew | apply Below.more1 | apply Below.alloc1))⟩

set_option maxRecDepth 100000 in
set_option maxHeartbeats 4000000 in
theorem local_label {w : World} {base mb : Nat} {m : RM} {v : RMV} (H : RMAt w base mb m v) {i : Nat} (hi : i < m.T.length) (hp : 0 ≤ m.T[i].pos ∧ m.T[i].pos ≤ 1000) (a b c d tgt : Int)  :
    Calls Try.prog 77 #[.pointer (some ⟨mb, 0, none⟩), .int .i64 (i : Int), .agg #[.int .i64 10, .int .i64 a, .int .i64 b, .int .i64 c, .int .i64 d, .int .i64 tgt]] w
      fun e w' => e = .returned (.tuple #[]) ∧ RMAt w' base mb (m.thr i RT.next) v ∧ Only (v.own mb) w w' := by
  obtain ⟨g, cap, e4, h1, h1', h2, h3, h4, h5, h6, h7⟩ := H.thr hi
  have b11 := H.b11
  rw [e4] at b11
  have lb := (H.lt mb (.inl rfl)).2
  have t2 := h6 2 _ (by omega) (RT.c2 _)
  have z2 := h5 (i * 658 + 2)
  have HN := Lib.hid ((thr_next H h4 hi).alloc (.cells #[.int .i64 10, .int .i64 a, .int .i64 b, .int .i64 c, .int .i64 d, .int .i64 tgt] 143))
  have HO := Lib.hid (show Only (v.own mb) w ((w.setCell ⟨g, i * 658 + 2, none⟩ (.int .i64 (m.T[i].pos + 1))).alloc (.cells #[.int .i64 10, .int .i64 a, .int .i64 b, .int .i64 c, .int .i64 d, .int .i64 tgt] 143)) from ((Only.refl _ w).set (.inl (own_row (by omega) h4)) _).alloc _)
  have HH := Lib.hid H
  obtain ⟨hp1, hp2⟩ := hp
  unfold maxLen at h1'
  clear H h5 h6
  go_enter Try.func77, Try.ntmps77
  go_upto_region 3 with (fail)
  refine gen_world ?_
  intro W1 hW1
  rw [← hW1] at HN HO
  have hm5 : W1.heap[w.heap.size]? = some (.cells #[.int .i64 10, .int .i64 a, .int .i64 b, .int .i64 c, .int .i64 d, .int .i64 tgt] 143 (0, 0)) := by
    rw [hW1]
    exact heap_alloc_at (by simp)
  obtain ⟨b5, hb5⟩ : ∃ b5, b5 = w.heap.size := ⟨_, rfl⟩
  have hg5 : g ≠ b5 := by omega
  have h5g : b5 ≠ g := by omega
  have hm5n : mb ≠ b5 := by omega
  have h5mn : b5 ≠ mb := by omega
  have HB5 := Lib.hid hb5
  rw [← hb5] at hm5 ⊢
  have k0 : W1.cell? ⟨b5, 0, none⟩ = some (.int .i64 10) := by simp [World.cell?, hm5]
  have k1 : W1.cell? ⟨b5, 1, none⟩ = some (.int .i64 a) := by simp [World.cell?, hm5]
  have k2 : W1.cell? ⟨b5, 2, none⟩ = some (.int .i64 b) := by simp [World.cell?, hm5]
  have k3 : W1.cell? ⟨b5, 3, none⟩ = some (.int .i64 c) := by simp [World.cell?, hm5]
  have k4 : W1.cell? ⟨b5, 4, none⟩ = some (.int .i64 d) := by simp [World.cell?, hm5]
  have k5 : W1.cell? ⟨b5, 5, none⟩ = some (.int .i64 tgt) := by simp [World.cell?, hm5]
  have l5 := (Array.getElem?_eq_some_iff.1 hm5).1
  have hi1 : i < (m.thr i RT.next).T.length := by rw [RM.thr_len]; exact hi
  obtain ⟨g1, cap1, e41, p1, p1', p2, p3, p4, p5, p6, p7⟩ := HN.out.thr hi1
  obtain rfl : g = g1 := by rw [h4] at p4; exact Option.some.inj p4
  rw [RM.thr_get _ _ _ hi] at p6
  have lb1 := (HN.out.lt mb (.inl rfl)).2
  have H4 := Lib.hid h4
  clear hW1 hm5 b11 t2 z2 e41 p1 p1' p2 p4 hb5 h4 e4 lb
  have HL := Lib.hid (fun W (hb : Only (fun _ => False) W1 W) => lists_label (w := W) (HN.out.only hb (fun _ _ x => x)) hi1 a b c d tgt)
  clear p5 p6
  go_wp2_with (go_at_call 87; refine (HL.out _ (Below.only0 (by repeat (first | exact Below.refl _ _ | apply Below.drew | apply Below.more1 | apply Below.alloc1 | (refine Below.setCell ?_ (by first | exact Nat.le_refl _ | (simp; done) | (simp; omega)) _))))).mono ?_; rintro e w3 ⟨rfl, hb3⟩; obtain ⟨os, d', rfl⟩ := hb3.more; clear hb3)
  go_end0
  exact ⟨rfl, HN.out.more _ _, HO.out.more _ _⟩

set_option maxRecDepth 100000 in
set_option maxHeartbeats 4000000 in
theorem local_arg {w : World} {base mb : Nat} {m : RM} {v : RMV} (H : RMAt w base mb m v) {i : Nat} (hi : i < m.T.length) (hp : 0 ≤ m.T[i].pos ∧ m.T[i].pos ≤ 1000) (b c d tgt : Int) {ci : Nat} (hc : ci < m.calls.length) (hcall : m.T[i].call = (ci : Int)) (ra : Nat) (hra : ra < 48) :
    Calls Try.prog 77 #[.pointer (some ⟨mb, 0, none⟩), .int .i64 (i : Int), .agg #[.int .i64 48, .int .i64 (ra : Int), .int .i64 b, .int .i64 c, .int .i64 d, .int .i64 tgt]] w
      fun e w' => e = .returned (.tuple #[]) ∧ RMAt w' base mb (m.thr i (RT.put ra (IntKind.u64.wrap m.calls[ci].arg) ∘ RT.next)) v ∧ Only (v.own mb) w w' := by
  obtain ⟨g, cap, e4, h1, h1', h2, h3, h4, h5, h6, h7⟩ := H.thr hi
  have b11 := H.b11
  rw [e4] at b11
  have lb := (H.lt mb (.inl rfl)).2
  have t2 := h6 2 _ (by omega) (RT.c2 _)
  have z2 := h5 (i * 658 + 2)
  have HN := Lib.hid ((thr_next H h4 hi).alloc (.cells #[.int .i64 48, .int .i64 (ra : Int), .int .i64 b, .int .i64 c, .int .i64 d, .int .i64 tgt] 143))
  have HO := Lib.hid (show Only (v.own mb) w ((w.setCell ⟨g, i * 658 + 2, none⟩ (.int .i64 (m.T[i].pos + 1))).alloc (.cells #[.int .i64 48, .int .i64 (ra : Int), .int .i64 b, .int .i64 c, .int .i64 d, .int .i64 tgt] 143)) from ((Only.refl _ w).set (.inl (own_row (by omega) h4)) _).alloc _)
  have HH := Lib.hid H
  obtain ⟨hp1, hp2⟩ := hp
  unfold maxLen at h1'
  clear H h5 h6
  go_enter Try.func77, Try.ntmps77
  go_upto_region 3 with (fail)
  refine gen_world ?_
  intro W1 hW1
  rw [← hW1] at HN HO
  have hm5 : W1.heap[w.heap.size]? = some (.cells #[.int .i64 48, .int .i64 (ra : Int), .int .i64 b, .int .i64 c, .int .i64 d, .int .i64 tgt] 143 (0, 0)) := by
    rw [hW1]
    exact heap_alloc_at (by simp)
  obtain ⟨b5, hb5⟩ : ∃ b5, b5 = w.heap.size := ⟨_, rfl⟩
  have hg5 : g ≠ b5 := by omega
  have h5g : b5 ≠ g := by omega
  have hm5n : mb ≠ b5 := by omega
  have h5mn : b5 ≠ mb := by omega
  have HB5 := Lib.hid hb5
  rw [← hb5] at hm5 ⊢
  have k0 : W1.cell? ⟨b5, 0, none⟩ = some (.int .i64 48) := by simp [World.cell?, hm5]
  have k1 : W1.cell? ⟨b5, 1, none⟩ = some (.int .i64 (ra : Int)) := by simp [World.cell?, hm5]
  have k2 : W1.cell? ⟨b5, 2, none⟩ = some (.int .i64 b) := by simp [World.cell?, hm5]
  have k3 : W1.cell? ⟨b5, 3, none⟩ = some (.int .i64 c) := by simp [World.cell?, hm5]
  have k4 : W1.cell? ⟨b5, 4, none⟩ = some (.int .i64 d) := by simp [World.cell?, hm5]
  have k5 : W1.cell? ⟨b5, 5, none⟩ = some (.int .i64 tgt) := by simp [World.cell?, hm5]
  have l5 := (Array.getElem?_eq_some_iff.1 hm5).1
  have hi1 : i < (m.thr i RT.next).T.length := by rw [RM.thr_len]; exact hi
  obtain ⟨g1, cap1, e41, p1, p1', p2, p3, p4, p5, p6, p7⟩ := HN.out.thr hi1
  obtain rfl : g = g1 := by rw [h4] at p4; exact Option.some.inj p4
  rw [RM.thr_get _ _ _ hi] at p6
  have lb1 := (HN.out.lt mb (.inl rfl)).2
  have H4 := Lib.hid h4
  clear hW1 hm5 b11 t2 z2 e41 p1 p1' p2 p4 hb5 h4 e4 lb
  obtain ⟨gc, capc, ec, c1, c1', c2, c3, c4, c5, c6, c7⟩ := HN.out.row (i := 8) (by omega) (show 0 < m.calls.length by omega)
  change v.row 8 = .slice (some ⟨gc, 0, none⟩) m.calls.length capc at ec
  have b24 := HN.out.b24
  rw [ec] at b24
  change m.calls.length ≤ capc at c1
  have hgc : g ≠ gc := HN.out.apart2 (i := 4) (j := 8) (by omega) (by omega) (by omega) H4.out c4
  have hcg : gc ≠ g := Ne.symm hgc
  have hcb : gc ≠ b5 := fun e => by have := (HH.out.lt gc (own_row (by omega) c4)).2; have := HB5.out; omega
  have hbc : b5 ≠ gc := Ne.symm hcb
  have hcm : gc ≠ mb := c7
  have hmc : mb ≠ gc := Ne.symm c7
  unfold maxLen at c1'
  have t1 := p6 1 _ (by omega) (RT.c1 _)
  simp only [RT.next] at t1
  rw [hcall] at t1
  have HC4 := Lib.hid c4
  have HCC := Lib.hid hcall
  have c8 := c6 (ci * 9 + 2) _ (cals_get m.calls ci 2 hc (by omega))
  replace c8 : W1.cell? ⟨gc, ci * 9 + 2, none⟩ = some (.int .i64 m.calls[ci].arg) := c8
  have b11' := HN.out.b11
  obtain ⟨ur, hur⟩ : ∃ ur, W1.cell? ⟨g, i * 658 + 3 + ra, none⟩ = some ur := ⟨_, by rw [Nat.add_assoc]; exact p6 (3 + ra) _ (by omega) (RT.cr (RT.next_ok (HH.out.tok _ (List.getElem_mem hi))) ra hra)⟩
  have zr := p5 (i * 658 + 3 + ra)
  clear c2 c4 c5 c6 p5 p6 b11' ec hcall
  go_wp2
  refine wp_region_more_tail 18 (by kernel_rfl) (by kernel_rfl) ?_
  simp only [List.take_succ_cons, List.take_zero, List.drop_succ_cons, List.drop_zero]
  repeat (first | go_big_quiet_skip | (go_big_quiet_want; go_big_quiet_op; first | go_big_quiet_on | (apply Exists.intro; refine ⟨fun _ => ?_, ?_⟩; (focus (fail)); go_big_quiet_on)))
  refine wpQuiet_nil ?_
  intro osq dq
  go_wp2
  go_end0
  refine ⟨rfl, ?_, ?_⟩
  · have := (thr_put HN.out H4.out hi1 ra hra (IntKind.u64.wrap m.calls[ci].arg)).more osq dq
    rw [RM.thr_thr] at this
    exact this
  · exact (HO.out.set (.inl (own_row (i := 4) (by omega) H4.out)) _).more _ _

set_option maxRecDepth 100000 in
set_option maxHeartbeats 4000000 in
theorem local_add {w : World} {base mb : Nat} {m : RM} {v : RMV} (H : RMAt w base mb m v) {i : Nat} (hi : i < m.T.length) (hp : 0 ≤ m.T[i].pos ∧ m.T[i].pos ≤ 1000) (c d tgt : Int) (ra : Nat) (hra : ra < 48) (rb : Nat) (hrb : rb < 48) :
    Calls Try.prog 77 #[.pointer (some ⟨mb, 0, none⟩), .int .i64 (i : Int), .agg #[.int .i64 17, .int .i64 (ra : Int), .int .i64 (rb : Int), .int .i64 c, .int .i64 d, .int .i64 tgt]] w
      fun e w' => e = .returned (.tuple #[]) ∧ RMAt w' base mb (m.thr i (RT.put ra (IntKind.u64.wrap (m.T[i].r.getD rb 0 + IntKind.u64.wrap d)) ∘ RT.next)) v ∧ Only (v.own mb) w w' := by
  obtain ⟨g, cap, e4, h1, h1', h2, h3, h4, h5, h6, h7⟩ := H.thr hi
  have b11 := H.b11
  rw [e4] at b11
  have lb := (H.lt mb (.inl rfl)).2
  have t2 := h6 2 _ (by omega) (RT.c2 _)
  have z2 := h5 (i * 658 + 2)
  have HN := Lib.hid ((thr_next H h4 hi).alloc (.cells #[.int .i64 17, .int .i64 (ra : Int), .int .i64 (rb : Int), .int .i64 c, .int .i64 d, .int .i64 tgt] 143))
  have HO := Lib.hid (show Only (v.own mb) w ((w.setCell ⟨g, i * 658 + 2, none⟩ (.int .i64 (m.T[i].pos + 1))).alloc (.cells #[.int .i64 17, .int .i64 (ra : Int), .int .i64 (rb : Int), .int .i64 c, .int .i64 d, .int .i64 tgt] 143)) from ((Only.refl _ w).set (.inl (own_row (by omega) h4)) _).alloc _)
  have HH := Lib.hid H
  obtain ⟨hp1, hp2⟩ := hp
  unfold maxLen at h1'
  clear H h5 h6
  go_enter Try.func77, Try.ntmps77
  go_upto_region 3 with (fail)
  refine gen_world ?_
  intro W1 hW1
  rw [← hW1] at HN HO
  have hm5 : W1.heap[w.heap.size]? = some (.cells #[.int .i64 17, .int .i64 (ra : Int), .int .i64 (rb : Int), .int .i64 c, .int .i64 d, .int .i64 tgt] 143 (0, 0)) := by
    rw [hW1]
    exact heap_alloc_at (by simp)
  obtain ⟨b5, hb5⟩ : ∃ b5, b5 = w.heap.size := ⟨_, rfl⟩
  have hg5 : g ≠ b5 := by omega
  have h5g : b5 ≠ g := by omega
  have hm5n : mb ≠ b5 := by omega
  have h5mn : b5 ≠ mb := by omega
  have HB5 := Lib.hid hb5
  rw [← hb5] at hm5 ⊢
  have k0 : W1.cell? ⟨b5, 0, none⟩ = some (.int .i64 17) := by simp [World.cell?, hm5]
  have k1 : W1.cell? ⟨b5, 1, none⟩ = some (.int .i64 (ra : Int)) := by simp [World.cell?, hm5]
  have k2 : W1.cell? ⟨b5, 2, none⟩ = some (.int .i64 (rb : Int)) := by simp [World.cell?, hm5]
  have k3 : W1.cell? ⟨b5, 3, none⟩ = some (.int .i64 c) := by simp [World.cell?, hm5]
  have k4 : W1.cell? ⟨b5, 4, none⟩ = some (.int .i64 d) := by simp [World.cell?, hm5]
  have k5 : W1.cell? ⟨b5, 5, none⟩ = some (.int .i64 tgt) := by simp [World.cell?, hm5]
  have l5 := (Array.getElem?_eq_some_iff.1 hm5).1
  have hi1 : i < (m.thr i RT.next).T.length := by rw [RM.thr_len]; exact hi
  obtain ⟨g1, cap1, e41, p1, p1', p2, p3, p4, p5, p6, p7⟩ := HN.out.thr hi1
  obtain rfl : g = g1 := by rw [h4] at p4; exact Option.some.inj p4
  rw [RM.thr_get _ _ _ hi] at p6
  have lb1 := (HN.out.lt mb (.inl rfl)).2
  have H4 := Lib.hid h4
  clear hW1 hm5 b11 t2 z2 e41 p1 p1' p2 p4 hb5 h4 e4 lb
  have b11' := HN.out.b11
  have hok := HH.out.tok _ (List.getElem_mem hi)
  have cb : W1.cell? ⟨g, i * 658 + 3 + rb, none⟩ = some (.int .u64 (m.T[i].r.getD rb 0)) := by rw [Nat.add_assoc]; exact p6 (3 + rb) _ (by omega) (RT.cr (RT.next_ok hok) rb hrb)
  obtain ⟨ur, hur⟩ : ∃ ur, W1.cell? ⟨g, i * 658 + 3 + ra, none⟩ = some ur := ⟨_, by rw [Nat.add_assoc]; exact p6 (3 + ra) _ (by omega) (RT.cr (RT.next_ok hok) ra hra)⟩
  have zr := p5 (i * 658 + 3 + ra)
  clear p5 p6 b11'
  go_wp2
  refine wp_region_more_tail 17 (by kernel_rfl) (by kernel_rfl) ?_
  simp only [List.take_succ_cons, List.take_zero, List.drop_succ_cons, List.drop_zero]
  repeat (first | go_big_quiet_skip | (go_big_quiet_want; go_big_quiet_op; first | go_big_quiet_on | (apply Exists.intro; refine ⟨fun _ => ?_, ?_⟩; (focus (fail)); go_big_quiet_on)))
  refine wpQuiet_nil ?_
  intro osq dq
  go_wp2
  go_end0
  refine ⟨rfl, ?_, ?_⟩
  · have := (thr_put HN.out H4.out hi1 ra hra (IntKind.u64.wrap (m.T[i].r.getD rb 0 + IntKind.u64.wrap d))).more osq dq
    rw [RM.thr_thr] at this
    exact this
  · exact (HO.out.set (.inl (own_row (i := 4) (by omega) H4.out)) _).more _ _

set_option maxRecDepth 100000 in
set_option maxHeartbeats 4000000 in
theorem local_point {w : World} {base mb : Nat} {m : RM} {v : RMV} (H : RMAt w base mb m v) {i : Nat} (hi : i < m.T.length) (hp : 0 ≤ m.T[i].pos ∧ m.T[i].pos ≤ 1000) (a b c d tgt : Int) {ci : Nat} (hc : ci < m.calls.length) (hcall : m.T[i].call = (ci : Int)) :
    Calls Try.prog 77 #[.pointer (some ⟨mb, 0, none⟩), .int .i64 (i : Int), .agg #[.int .i64 27, .int .i64 a, .int .i64 b, .int .i64 c, .int .i64 d, .int .i64 tgt]] w
      fun e w' => e = .returned (.tuple #[]) ∧ RMAt w' base mb ((m.thr i RT.next).cal ci fun c => { c with pt := m.moves }) v ∧ Only (v.own mb) w w' := by
  obtain ⟨g, cap, e4, h1, h1', h2, h3, h4, h5, h6, h7⟩ := H.thr hi
  have b11 := H.b11
  rw [e4] at b11
  have lb := (H.lt mb (.inl rfl)).2
  have t2 := h6 2 _ (by omega) (RT.c2 _)
  have z2 := h5 (i * 658 + 2)
  have HN := Lib.hid ((thr_next H h4 hi).alloc (.cells #[.int .i64 27, .int .i64 a, .int .i64 b, .int .i64 c, .int .i64 d, .int .i64 tgt] 143))
  have HO := Lib.hid (show Only (v.own mb) w ((w.setCell ⟨g, i * 658 + 2, none⟩ (.int .i64 (m.T[i].pos + 1))).alloc (.cells #[.int .i64 27, .int .i64 a, .int .i64 b, .int .i64 c, .int .i64 d, .int .i64 tgt] 143)) from ((Only.refl _ w).set (.inl (own_row (by omega) h4)) _).alloc _)
  have HH := Lib.hid H
  obtain ⟨hp1, hp2⟩ := hp
  unfold maxLen at h1'
  clear H h5 h6
  go_enter Try.func77, Try.ntmps77
  go_upto_region 3 with (fail)
  refine gen_world ?_
  intro W1 hW1
  rw [← hW1] at HN HO
  have hm5 : W1.heap[w.heap.size]? = some (.cells #[.int .i64 27, .int .i64 a, .int .i64 b, .int .i64 c, .int .i64 d, .int .i64 tgt] 143 (0, 0)) := by
    rw [hW1]
    exact heap_alloc_at (by simp)
  obtain ⟨b5, hb5⟩ : ∃ b5, b5 = w.heap.size := ⟨_, rfl⟩
  have hg5 : g ≠ b5 := by omega
  have h5g : b5 ≠ g := by omega
  have hm5n : mb ≠ b5 := by omega
  have h5mn : b5 ≠ mb := by omega
  have HB5 := Lib.hid hb5
  rw [← hb5] at hm5 ⊢
  have k0 : W1.cell? ⟨b5, 0, none⟩ = some (.int .i64 27) := by simp [World.cell?, hm5]
  have k1 : W1.cell? ⟨b5, 1, none⟩ = some (.int .i64 a) := by simp [World.cell?, hm5]
  have k2 : W1.cell? ⟨b5, 2, none⟩ = some (.int .i64 b) := by simp [World.cell?, hm5]
  have k3 : W1.cell? ⟨b5, 3, none⟩ = some (.int .i64 c) := by simp [World.cell?, hm5]
  have k4 : W1.cell? ⟨b5, 4, none⟩ = some (.int .i64 d) := by simp [World.cell?, hm5]
  have k5 : W1.cell? ⟨b5, 5, none⟩ = some (.int .i64 tgt) := by simp [World.cell?, hm5]
  have l5 := (Array.getElem?_eq_some_iff.1 hm5).1
  have hi1 : i < (m.thr i RT.next).T.length := by rw [RM.thr_len]; exact hi
  obtain ⟨g1, cap1, e41, p1, p1', p2, p3, p4, p5, p6, p7⟩ := HN.out.thr hi1
  obtain rfl : g = g1 := by rw [h4] at p4; exact Option.some.inj p4
  rw [RM.thr_get _ _ _ hi] at p6
  have lb1 := (HN.out.lt mb (.inl rfl)).2
  have H4 := Lib.hid h4
  clear hW1 hm5 b11 t2 z2 e41 p1 p1' p2 p4 hb5 h4 e4 lb
  obtain ⟨gc, capc, ec, c1, c1', c2, c3, c4, c5, c6, c7⟩ := HN.out.row (i := 8) (by omega) (show 0 < m.calls.length by omega)
  change v.row 8 = .slice (some ⟨gc, 0, none⟩) m.calls.length capc at ec
  have b24 := HN.out.b24
  rw [ec] at b24
  change m.calls.length ≤ capc at c1
  have hgc : g ≠ gc := HN.out.apart2 (i := 4) (j := 8) (by omega) (by omega) (by omega) H4.out c4
  have hcg : gc ≠ g := Ne.symm hgc
  have hcb : gc ≠ b5 := fun e => by have := (HH.out.lt gc (own_row (by omega) c4)).2; have := HB5.out; omega
  have hbc : b5 ≠ gc := Ne.symm hcb
  have hcm : gc ≠ mb := c7
  have hmc : mb ≠ gc := Ne.symm c7
  unfold maxLen at c1'
  have t1 := p6 1 _ (by omega) (RT.c1 _)
  simp only [RT.next] at t1
  rw [hcall] at t1
  have HC4 := Lib.hid c4
  have HCC := Lib.hid hcall
  have c8 := c6 (ci * 9 + 6) _ (cals_get m.calls ci 6 hc (by omega))
  replace c8 : W1.cell? ⟨gc, ci * 9 + 6, none⟩ = some (.int .i64 m.calls[ci].pt) := c8
  have zc := c5 (ci * 9 + 6)
  have b23 : W1.cell? ⟨mb, 23, none⟩ = some (.int .i64 m.moves) := HN.out.b23
  clear c2 c4 c5 c6 p5 p6 ec hcall
  go_wp2
  refine wp_region_more_tail 14 (by kernel_rfl) (by kernel_rfl) ?_
  simp only [List.take_succ_cons, List.take_zero, List.drop_succ_cons, List.drop_zero]
  repeat (first | go_big_quiet_skip | (go_big_quiet_want; go_big_quiet_op; first | go_big_quiet_on | (apply Exists.intro; refine ⟨fun _ => ?_, ?_⟩; (focus (fail)); go_big_quiet_on)))
  refine wpQuiet_nil ?_
  intro osq dq
  go_wp2
  go_end0
  refine ⟨rfl, ?_, ?_⟩
  · rw [RM.cal_eq _ _ _ (by exact hc)]
    exact (HN.out.putC (i := ci) (j := 6) HC4.out (by exact hc) (by omega) _ (.int .i64 m.moves) rfl).more osq dq
  · exact (HO.out.set (.inl (own_row (i := 8) (by omega) HC4.out)) _).more _ _

/-- a call's end, with an answer -/
def Cal.done (mv x : Int) (c : Cal) : Cal := { c with en := mv, ak := 2, av := x }
def RT.idle (t : RT) : RT := { t with busy := false }
theorem putC' {w : World} {base mb : Nat} {m : RM} {v : RMV} (h : RMAt w base mb m v) {g i j : Nat} (hg : (v.row 8).rowBlock = some g) (hi : i < m.calls.length) (hj : j < 9) (f : Cal → Cal) (u : Value) (hc : (f m.calls[i]).cells = m.calls[i].cells.set j u) :
    RMAt (w.setCell ⟨g, i * 9 + j, none⟩ u) base mb (m.cal i f) v := by
  rw [RM.cal_eq _ _ _ hi]
  exact h.putC hg hi hj _ u hc
theorem RM.cal_cal (m : RM) (i : Nat) (f f' : Cal → Cal) : (m.cal i f).cal i f' = m.cal i (f' ∘ f) := by simp [RM.cal, List.modify_modify_eq]
theorem cal_done {w : World} {base mb : Nat} {m : RM} {v : RMV} (h : RMAt w base mb m v) {gc ci : Nat} (hg : (v.row 8).rowBlock = some gc) (hc : ci < m.calls.length) (mv x : Int) :
    RMAt (((w.setCell ⟨gc, ci * 9 + 5, none⟩ (.int .i64 mv)).setCell ⟨gc, ci * 9 + 7, none⟩ (.int .i64 2)).setCell ⟨gc, ci * 9 + 8, none⟩ (.int .i64 x)) base mb (m.cal ci (Cal.done mv x)) v := by
  have h1 := putC' h (i := ci) (j := 5) hg hc (by omega) (fun c => { c with en := mv }) (.int .i64 mv) rfl
  have h2 := putC' h1 (i := ci) (j := 7) hg (by simpa [RM.cal] using hc) (by omega) (fun c => { c with ak := 2 }) (.int .i64 2) rfl
  have h3 := putC' h2 (i := ci) (j := 8) hg (by simpa [RM.cal] using hc) (by omega) (fun c => { c with av := x }) (.int .i64 x) rfl
  rw [RM.cal_cal, RM.cal_cal] at h3
  exact h3
theorem thr_idle {w : World} {base mb : Nat} {m : RM} {v : RMV} (h : RMAt w base mb m v) {g i : Nat} (hg : (v.row 4).rowBlock = some g) (hi : i < m.T.length) : RMAt (w.setCell ⟨g, i * 658, none⟩ (.bool false)) base mb (m.thr i RT.idle) v := by
  rw [RM.thr_eq _ _ _ hi]
  have := h.putT hg hi (j := 0) (by omega) (RT.idle m.T[i]) (show (RT.idle m.T[i]).ok from h.tok m.T[i] (List.getElem_mem hi)) _ (RT.set0 _ false)
  rw [Nat.add_zero] at this
  exact this
set_option maxRecDepth 100000 in
set_option maxHeartbeats 4000000 in
theorem end_any {w : World} {base mb : Nat} {m : RM} {v : RMV} (H : RMAt w base mb m v) {i : Nat} (hi : i < m.T.length) {ci : Nat} (hc : ci < m.calls.length) (hcall : m.T[i].call = (ci : Int)) (kd : Int) (ra : Nat) (hra : ra < 48) (b c tgt : Int) :
    Calls Try.prog 79 #[.pointer (some ⟨mb, 0, none⟩), .int .i64 (i : Int), .agg #[.int .i64 kd, .int .i64 (ra : Int), .int .i64 b, .int .i64 c, .int .i64 2, .int .i64 tgt]] w
      fun e w' => e = .returned (.tuple #[]) ∧ RMAt w' base mb ((m.cal ci (Cal.done m.moves (wrap64 (m.T[i].r.getD ra 0)))).thr i RT.idle) v ∧ Only (v.own mb) w w' := by
  have hok := H.tok _ (List.getElem_mem hi)
  obtain ⟨g, cap, e4, h1, h1', h2, h3, h4, h5, h6, h7⟩ := H.thr hi
  obtain ⟨gc, capc, ec, c1, c1', c2, c3, c4, c5, c6, c7⟩ := H.row (i := 8) (by omega) (show 0 < m.calls.length by omega)
  change v.row 8 = .slice (some ⟨gc, 0, none⟩) m.calls.length capc at ec
  change m.calls.length ≤ capc at c1
  have b11 := H.b11
  have b24 := H.b24
  have b23 := H.b23
  rw [e4] at b11
  rw [ec] at b24
  have lb := (H.lt mb (.inl rfl)).2
  have hgc : g ≠ gc := H.apart2 (i := 4) (j := 8) (by omega) (by omega) (by omega) h4 c4
  have hcg : gc ≠ g := Ne.symm hgc
  have hgm : mb ≠ g := Ne.symm h7
  have hcm : mb ≠ gc := Ne.symm c7
  have t0 := h6 0 _ (by omega) (RT.c0 _)
  have t1 := h6 1 _ (by omega) (RT.c1 _)
  rw [hcall] at t1
  have tr : w.cell? ⟨g, i * 658 + 3 + ra, none⟩ = some (.int .u64 (m.T[i].r.getD ra 0)) := by rw [Nat.add_assoc]; exact h6 (3 + ra) _ (by omega) (RT.cr hok ra hra)
  have y5 : w.cell? ⟨gc, ci * 9 + 5, none⟩ = some (.int .i64 m.calls[ci].en) := c6 (ci * 9 + 5) _ (cals_get m.calls ci 5 hc (by omega))
  have y7 : w.cell? ⟨gc, ci * 9 + 7, none⟩ = some (.int .i64 m.calls[ci].ak) := c6 (ci * 9 + 7) _ (cals_get m.calls ci 7 hc (by omega))
  have y8 : w.cell? ⟨gc, ci * 9 + 8, none⟩ = some (.int .i64 m.calls[ci].av) := c6 (ci * 9 + 8) _ (cals_get m.calls ci 8 hc (by omega))
  have z5 := c5 (ci * 9 + 5)
  have z7 := c5 (ci * 9 + 7)
  have z8 := c5 (ci * 9 + 8)
  have z0 := h5 (i * 658 + 0)
  simp only [Nat.add_zero] at t0 z0
  have H4 := Lib.hid h4
  have C4 := Lib.hid c4
  have HH := Lib.hid H
  unfold maxLen at h1' c1'
  clear H h4 h5 h6 e4 c4 c5 c6 ec hcall h2 c2
  go_enter Try.func79, Try.ntmps79
  go_wp2
  go_wp2
  refine wp_region_more_lit (by kernel_rfl) (by kernel_rfl) ?_
  repeat (first | go_big_quiet_skip | (go_big_quiet_want; go_big_quiet_op; first | go_big_quiet_on | (apply Exists.intro; refine ⟨fun _ => ?_, ?_⟩; (focus (fail)); go_big_quiet_on)))
  refine wpQuiet_nil ?_
  intro osq dq
  go_wp2
  go_wp2
  refine wp_region_more_tail 12 (by kernel_rfl) (by kernel_rfl) ?_
  simp only [List.take_succ_cons, List.take_zero, List.drop_succ_cons, List.drop_zero]
  repeat (first | go_big_quiet_skip | (go_big_quiet_want; go_big_quiet_op; first | go_big_quiet_on | (apply Exists.intro; refine ⟨fun _ => ?_, ?_⟩; (focus (fail)); go_big_quiet_on)))
  refine wpQuiet_nil ?_
  intro osq dq
  go_wp2
  go_end0
  refine ⟨rfl, ?_, ?_⟩
  · repeat (first | apply RMAt.more | apply RMAt.alloc)
    have hfin := thr_idle (cal_done HH.out C4.out hc m.moves (wrap64 (m.T[i].r.getD ra 0))) H4.out hi
    rw [List.getD_eq_getElem?_getD] at hfin ⊢
    exact hfin
  · repeat (first | apply Only.more | apply Only.alloc)
    exact ((((Only.refl _ w).set (.inl (own_row (i := 8) (by omega) C4.out)) _).set (.inl (own_row (i := 8) (by omega) C4.out)) _).set (.inl (own_row (i := 8) (by omega) C4.out)) _).set (.inl (own_row (i := 4) (by omega) H4.out)) _

set_option maxRecDepth 100000 in
set_option maxHeartbeats 4000000 in
theorem local_end {w : World} {base mb : Nat} {m : RM} {v : RMV} (H : RMAt w base mb m v) {i : Nat} (hi : i < m.T.length) (hp : 0 ≤ m.T[i].pos ∧ m.T[i].pos ≤ 1000) (b c tgt : Int) {ci : Nat} (hc : ci < m.calls.length) (hcall : m.T[i].call = (ci : Int)) (ra : Nat) (hra : ra < 48) :
    Calls Try.prog 77 #[.pointer (some ⟨mb, 0, none⟩), .int .i64 (i : Int), .agg #[.int .i64 14, .int .i64 (ra : Int), .int .i64 b, .int .i64 c, .int .i64 2, .int .i64 tgt]] w
      fun e w' => e = .returned (.tuple #[]) ∧ RMAt w' base mb ((((m.thr i RT.next).cal ci (Cal.done m.moves (wrap64 (m.T[i].r.getD ra 0)))).thr i RT.idle)) v ∧ Only (v.own mb) w w' := by
  obtain ⟨g, cap, e4, h1, h1', h2, h3, h4, h5, h6, h7⟩ := H.thr hi
  have b11 := H.b11
  rw [e4] at b11
  have lb := (H.lt mb (.inl rfl)).2
  have t2 := h6 2 _ (by omega) (RT.c2 _)
  have z2 := h5 (i * 658 + 2)
  have HN := Lib.hid ((thr_next H h4 hi).alloc (.cells #[.int .i64 14, .int .i64 (ra : Int), .int .i64 b, .int .i64 c, .int .i64 2, .int .i64 tgt] 143))
  have HO := Lib.hid (show Only (v.own mb) w ((w.setCell ⟨g, i * 658 + 2, none⟩ (.int .i64 (m.T[i].pos + 1))).alloc (.cells #[.int .i64 14, .int .i64 (ra : Int), .int .i64 b, .int .i64 c, .int .i64 2, .int .i64 tgt] 143)) from ((Only.refl _ w).set (.inl (own_row (by omega) h4)) _).alloc _)
  have HH := Lib.hid H
  obtain ⟨hp1, hp2⟩ := hp
  unfold maxLen at h1'
  clear H h5 h6
  go_enter Try.func77, Try.ntmps77
  go_upto_region 3 with (fail)
  refine gen_world ?_
  intro W1 hW1
  rw [← hW1] at HN HO
  have hm5 : W1.heap[w.heap.size]? = some (.cells #[.int .i64 14, .int .i64 (ra : Int), .int .i64 b, .int .i64 c, .int .i64 2, .int .i64 tgt] 143 (0, 0)) := by
    rw [hW1]
    exact heap_alloc_at (by simp)
  obtain ⟨b5, hb5⟩ : ∃ b5, b5 = w.heap.size := ⟨_, rfl⟩
  have hg5 : g ≠ b5 := by omega
  have h5g : b5 ≠ g := by omega
  have hm5n : mb ≠ b5 := by omega
  have h5mn : b5 ≠ mb := by omega
  have HB5 := Lib.hid hb5
  rw [← hb5] at hm5 ⊢
  have k0 : W1.cell? ⟨b5, 0, none⟩ = some (.int .i64 14) := by simp [World.cell?, hm5]
  have k1 : W1.cell? ⟨b5, 1, none⟩ = some (.int .i64 (ra : Int)) := by simp [World.cell?, hm5]
  have k2 : W1.cell? ⟨b5, 2, none⟩ = some (.int .i64 b) := by simp [World.cell?, hm5]
  have k3 : W1.cell? ⟨b5, 3, none⟩ = some (.int .i64 c) := by simp [World.cell?, hm5]
  have k4 : W1.cell? ⟨b5, 4, none⟩ = some (.int .i64 2) := by simp [World.cell?, hm5]
  have k5 : W1.cell? ⟨b5, 5, none⟩ = some (.int .i64 tgt) := by simp [World.cell?, hm5]
  have l5 := (Array.getElem?_eq_some_iff.1 hm5).1
  have hi1 : i < (m.thr i RT.next).T.length := by rw [RM.thr_len]; exact hi
  obtain ⟨g1, cap1, e41, p1, p1', p2, p3, p4, p5, p6, p7⟩ := HN.out.thr hi1
  obtain rfl : g = g1 := by rw [h4] at p4; exact Option.some.inj p4
  rw [RM.thr_get _ _ _ hi] at p6
  have lb1 := (HN.out.lt mb (.inl rfl)).2
  have H4 := Lib.hid h4
  clear hW1 hm5 b11 t2 z2 e41 p1 p1' p2 p4 hb5 h4 e4 lb
  have HE := Lib.hid (end_any HN.out hi1 (by exact hc) (by rw [RM.thr_get _ _ _ hi]; exact hcall) 14 ra hra b c tgt)
  rw [RM.thr_get _ _ _ hi] at HE
  clear p5 p6
  go_wp2_with (go_at_call 79; refine HE.out.mono ?_; rintro e w3 ⟨rfl, hm3, ho3⟩; have HM3 := Lib.hid hm3; have HO3 := Lib.hid ho3; clear hm3 ho3)
  go_end0
  exact ⟨rfl, HM3.out, HO.out.trans HO3.out (fun _ hk => .inl hk)⟩
end Go.Proofs.Ytbhbpfpggfcpgaa
namespace Go.Proofs.Ytbhbpfpggfcpgaa
open Go.ChangeShapes Go.WideShapes Go.ChangeAt Go.RowKit Go.Shelf

def growRow (i : Nat) (u : Value) (r : Nat → Value) : Nat → Value := fun j => if j = i then u else r j
section
variable {w w' : World} {base mb : Nat} {m m' : RM} {v : RMV}
theorem _root_.Go.RMAt.app0 (h : RMAt w base mb m v) {i off n k : Nat} {u : Value} (hi : i < 11) (hr : w'.RowV base (rmTy i) (rmSz i) u (m'.len i) (m'.xs i)) (ho : RowOut w w' (v.row i) u n k)
    (hb : (m.blk v.row).setIfInBounds off u = m'.blk (growRow i u v.row)) (hlen : ∀ j, j < 11 → j ≠ i → m'.len j = m.len j) (hx : ∀ j, j < 11 → j ≠ i → m'.xs j = m.xs j) (ht : ∀ t ∈ m'.T, t.ok) :
    ∃ v', RMAt (w'.setCell ⟨mb, off, none⟩ u) base mb m' v' ∧ Only (v.own mb) w (w'.setCell ⟨mb, off, none⟩ u) ∧ (∀ k, v'.own mb k → v.own mb k ∨ w.heap.size ≤ k) ∧ v'.row = growRow i u v.row := by
  have hml := (h.lt mb (.inl rfl)).2
  have hnew : ∀ b, u.rowBlock = some b → b ≠ mb := fun b hb' e => by
    rcases ho.news hb' with h1 | h1
    · exact h.apart hi h1 e
    · omega
  have hmb : w'.heap[mb]? = w.heap[mb]? := ho.block hml (fun e => h.apart hi e rfl)
  refine ⟨⟨growRow i u v.row, fun b => if w.heap.size ≤ b then i + 1 else v.col b⟩, ⟨?_, h.ge, fun j hj => ?_, ?_, fun j hj b hjb => ?_, ht⟩, ?_, ?_, rfl⟩
  · simp [World.setCell, Array.getElem?_modify, hmb, h.blk, hb]
  · by_cases e : j = i
    · subst e
      show World.RowV _ _ _ _ (growRow j u v.row j) _ _
      rw [show growRow j u v.row j = u by simp [growRow]]
      exact hr.set hnew u
    · show World.RowV _ _ _ _ (growRow i u v.row j) _ _
      rw [show growRow i u v.row j = v.row j by simp [growRow, e], hlen j hj e, hx j hj e]
      exact ((h.rows j hj).out ho (fun b hb1 hb2 => h.apart2 hj hi e hb1 hb2 rfl)).set (fun b hb1 => h.apart hj hb1) u
  · show (if _ then _ else _) = _
    rw [if_neg (by omega)]; exact h.cm
  · have hjb' : (growRow i u v.row j).rowBlock = some b := hjb
    show (if _ then _ else _) = _
    by_cases e : j = i
    · subst e
      rw [show growRow j u v.row j = u by simp [growRow]] at hjb'
      split
      · rfl
      · rename_i hlt
        rcases ho.news hjb' with h1 | h1
        · exact h.cr j hj b h1
        · omega
    · rw [show growRow i u v.row j = v.row j by simp [growRow, e]] at hjb'
      rw [if_neg (by have := ((h.rows j hj).lt b hjb').2; omega)]
      exact h.cr j hj b hjb'
  · exact ((Only.out ho (F := v.own mb) (fun b hb' => own_row hi hb'))).set (.inl (.inl rfl)) u
  · rintro b (rfl | ⟨j, hj, hjb⟩)
    · exact .inl (.inl rfl)
    · have hjb' : (growRow i u v.row j).rowBlock = some b := hjb
      by_cases e : j = i
      · subst e
        rw [show growRow j u v.row j = u by simp [growRow]] at hjb'
        rcases ho.news hjb' with h1 | h1
        · exact .inl (own_row hj h1)
        · exact .inr (by omega)
      · rw [show growRow i u v.row j = v.row j by simp [growRow, e]] at hjb'
        exact .inl (own_row hj hjb')
theorem _root_.Go.RMAt.app (h : RMAt w base mb m v) {i off n k : Nat} {u : Value} (hi : i < 11) (h8 : 8 ≤ i) (hr : w'.RowV base (rmTy i) (rmSz i) u (m'.len i) (m'.xs i)) (ho : RowOut w w' (v.row i) u n k)
    (hb : (m.blk v.row).setIfInBounds off u = m'.blk (growRow i u v.row)) (hlen : ∀ j, j < 11 → j ≠ i → m'.len j = m.len j) (hx : ∀ j, j < 11 → j ≠ i → m'.xs j = m.xs j) (ht : ∀ t ∈ m'.T, t.ok) :
    ROut w base mb v m' (w'.setCell ⟨mb, off, none⟩ u) := by
  obtain ⟨v', h1, h2, h3, h4⟩ := h.app0 hi hr ho hb hlen hx ht
  exact ⟨v', h1, h2, h3, fun j hj => by rw [h4]; simp [growRow, show j ≠ i by omega]⟩
theorem _root_.Go.RMAt.aft (h : RMAt w base mb m v) {i n k : Nat} {u : Value} (hi : i < 11) (ho : RowOut w w' (v.row i) u n k) : (∀ j x, (m.blk v.row)[j]? = some x → w'.cell? ⟨mb, j, none⟩ = some x) ∧ (∀ j, w'.frozen? ⟨mb, j, none⟩ = false) ∧ mb < w'.heap.size := by
  have hml := (h.lt mb (.inl rfl)).2
  have hmb : w'.heap[mb]? = w.heap[mb]? := ho.block hml (fun e => h.apart hi e rfl)
  exact ⟨fun j x hj => (World.cell?_of_block hmb).trans (h.head j x hj), fun j => (World.frozen?_of_block hmb).trans (h.frozen j), Nat.lt_of_lt_of_le hml ho.size⟩
theorem ROut.ahead {w0 : World} (hb : Only (v.own mb) w0 w) (h : ROut w base mb v m' w') : ROut w0 base mb v m' w' := by
  obtain ⟨v1, h1, h2, h3, h5⟩ := h
  refine ⟨v1, h1, hb.trans h2 (fun _ hk => .inl hk), fun i hi => ?_, h5⟩
  rcases h3 i hi with h4 | h4
  · exact .inl h4
  · have := hb.size; exact .inr (by omega)
theorem app_trace (h : RMAt w base mb m v) {u : Value} {a : Acc} (hr : w'.RowV base 66 7 u (m.trace.length + 1) (accs m.trace ++ a.cells)) (ho : RowOut w w' (v.row 9) u m.trace.length 1) :
    ROut w base mb v { m with trace := m.trace ++ [a] } (w'.setCell ⟨mb, 25, none⟩ u) := by
  refine h.app (i := 9) (by omega) (by omega) ?_ ho rfl ?_ ?_ h.tok
  · show w'.RowV base 66 7 u (m.trace ++ [a]).length (accs (m.trace ++ [a]))
    rw [List.length_append, show accs (m.trace ++ [a]) = accs m.trace ++ a.cells by simp [accs]]
    exact hr
  · intro j hj hne
    match j, hj with
    | 9, _ => exact absurd rfl hne
    | 0, _ | 1, _ | 2, _ | 3, _ | 4, _ | 5, _ | 6, _ | 7, _ | 8, _ | 10, _ => rfl
  · intro j hj hne
    match j, hj with
    | 9, _ => exact absurd rfl hne
    | 0, _ | 1, _ | 2, _ | 3, _ | 4, _ | 5, _ | 6, _ | 7, _ | 8, _ | 10, _ => rfl
theorem app_calls (h : RMAt w base mb m v) {u : Value} {a : Cal} (hr : w'.RowV base 63 9 u (m.calls.length + 1) (cals m.calls ++ a.cells)) (ho : RowOut w w' (v.row 8) u m.calls.length 1) :
    ROut w base mb v { m with calls := m.calls ++ [a] } (w'.setCell ⟨mb, 24, none⟩ u) := by
  refine h.app (i := 8) (by omega) (by omega) ?_ ho rfl ?_ ?_ h.tok
  · show w'.RowV base 63 9 u (m.calls ++ [a]).length (cals (m.calls ++ [a]))
    rw [List.length_append, cals_snoc]
    exact hr
  · intro j hj hne
    match j, hj with
    | 8, _ => exact absurd rfl hne
    | 0, _ | 1, _ | 2, _ | 3, _ | 4, _ | 5, _ | 6, _ | 7, _ | 9, _ | 10, _ => rfl
  · intro j hj hne
    match j, hj with
    | 8, _ => exact absurd rfl hne
    | 0, _ | 1, _ | 2, _ | 3, _ | 4, _ | 5, _ | 6, _ | 7, _ | 9, _ | 10, _ => rfl
end
end Go.Proofs.Ytbhbpfpggfcpgaa
namespace Go
open Go.RowKit
open Go.Proofs.Ytbhbpfpggfcpgaa
def Cal.zero : Cal := ⟨0, 0, 0, 0, 0, 0, 0, 0, 0⟩
def Cal.v (c : Cal) : Value := .agg #[.int .i64 c.th, .int .i64 c.op, .int .i64 c.arg, .int .i64 c.data, .int .i64 c.beg, .int .i64 c.en, .int .i64 c.pt, .int .i64 c.ak, .int .i64 c.av]
def PM.busyB {K : Kits} (p : PM K) (t : Int) : Bool := if t < 0 then false else match p.seats[t.toNat]? with
  | some se => se.task.isSome
  | none => false
def PM.callR {K : Kits} (p : PM K) (t : Int) : Cal × Bool := if t < 0 then (Cal.zero, false) else match p.seats[t.toNat]? with
  | some se => if se.last < 0 then (Cal.zero, false) else (p.calls.getD se.last.toNat default, true)
  | none => (Cal.zero, false)
end Go
namespace Go.Proofs.Ytbhbpfpggfcpgaa
open Go.ChangeShapes Go.WideShapes Go.ChangeAt Go.RowKit Go.Shelf
section
variable {K : Kits} {w : World} {base xb : Nat} {p : PM K} {kit : Value} {F : Nat → Prop}

theorem seatsNow_none {st : MachS} (h : st.on = none) : st.seatsNow = st.seats := by unfold MachS.seatsNow; rw [h]
theorem callsNow_none {st : MachS} (h : st.on = none) : st.callsNow = st.calls := by unfold MachS.callsNow; rw [h]

set_option maxRecDepth 100000 in
set_option maxHeartbeats 1000000 in
theorem busy_at (hK : KitsOk K) (hG : p.Good) (h : PMAt K w base xb p kit F) (t : Int) : Calls Try.prog 39 #[.pointer (some ⟨xb, 0, none⟩), .int .i64 t] w fun e w' => e = .returned (.bool (p.busyB t)) ∧ Below w.heap.size w w' := by
  obtain ⟨st, v, vs, Fk, H, R, rfl, rfl⟩ := h
  have hlen := R.len
  have hpos := hG.pos
  have hfew := hG.few
  have c8 := H.m.head.2.2.2.2.2.2.2.2.1
  have lx := H.m.head.2.2.2.2.2.2.2.2.2.2.2.2
  unfold PM.busyB
  by_cases h0 : t < 0
  · rw [if_pos h0]
    obtain ⟨g, cap, e, hcap, hrb, hglt, hgx, gz, gc⟩ := H.m.seats_form (si := 0) (by omega)
    rw [e] at c8
    have t1 : decide (0 ≤ t) = false := by simp; omega
    clear H gc e R h0 gz
    go_enter Try.func39, Try.ntmps39
    go_wp2
    go_ret
    exact ⟨rfl, (by repeat (first | exact Below.refl _ _ | apply Below.drew | apply Below.more1 | apply Below.alloc1))⟩
  · rw [if_neg h0]
    obtain ⟨i, rfl⟩ : ∃ i : Nat, t = (i : Int) := ⟨t.toNat, by omega⟩
    rw [Int.toNat_natCast]
    cases hse : p.seats[i]? with
    | none =>
      have hge := List.getElem?_eq_none_iff.1 hse
      obtain ⟨g, cap, e, hcap, hrb, hglt, hgx, gz, gc⟩ := H.m.seats_form (si := 0) (by omega)
      rw [e] at c8
      have t1 : decide ((0 : Int) ≤ (i : Int)) = true := by simp
      have t2 : decide ((i : Int) < (st.seats.length : Int)) = false := by simp; omega
      clear H gc e R h0 gz hse
      go_enter Try.func39, Try.ntmps39
      go_wp2
      go_ret
      exact ⟨rfl, (by repeat (first | exact Below.refl _ _ | apply Below.drew | apply Below.more1 | apply Below.alloc1))⟩
    | some se =>
      have hlt := (List.getElem?_eq_some_iff.1 hse).1
      obtain ⟨y, hy⟩ := R.seat hse
      have hil : i < st.seats.length := by omega
      obtain ⟨g, cap, e, hcap, hrb, hglt, hgx, gz, gc⟩ := H.m.seats_form hil
      rw [e] at c8
      have t1 : decide ((0 : Int) ≤ (i : Int)) = true := by simp
      have t2 : decide ((i : Int) < (st.seats.length : Int)) = true := by simp; omega
      have hvy : vs[i]? = some y := by rw [← H.tasks, List.getElem?_map, hy]; rfl
      have g0 : w.cell? ⟨g, i * 5, none⟩ = some y := by
        have := gc 0 (by omega)
        rw [Nat.add_zero] at this
        rw [this]
        simp only [seatsNow_none R.on]
        rw [(List.getElem?_eq_some_iff.1 hy).2]
        rfl
      have hts : (p.seats.map (·.task))[i]? = some se.task := by rw [List.getElem?_map, hse]; rfl
      show Calls _ _ _ _ fun e w' => e = .returned (.bool se.task.isSome) ∧ _
      cases htk : se.task with
      | none =>
        obtain rfl : y = .nilIface := by have := hK.idle H.k i (by rw [hts, htk]); rw [hvy] at this; cases this; rfl
        clear H gc e R h0 gz hse hvy hy hts htk hK hG
        go_enter Try.func39, Try.ntmps39
        go_wp2
        go_ret
        exact ⟨rfl, (by repeat (first | exact Below.refl _ _ | apply Below.drew | apply Below.more1 | apply Below.alloc1))⟩
      | some tk =>
        obtain ⟨ty, x, hx⟩ := hK.busy H.k i tk (by rw [hts, htk])
        obtain rfl : y = .iface ty x := by rw [hvy] at hx; cases hx; rfl
        clear H gc e R h0 gz hse hvy hy hts htk hK hG hx
        go_enter Try.func39, Try.ntmps39
        go_wp2
        go_ret
        exact ⟨rfl, (by repeat (first | exact Below.refl _ _ | apply Below.drew | apply Below.more1 | apply Below.alloc1))⟩

set_option maxRecDepth 100000 in
set_option maxHeartbeats 1000000 in
theorem call_at (hG : p.Good) (h : PMAt K w base xb p kit F) (t : Int) : Calls Try.prog 37 #[.pointer (some ⟨xb, 0, none⟩), .int .i64 t] w fun e w' => e = .returned (.tuple #[(p.callR t).1.v, .bool (p.callR t).2]) ∧ Below w.heap.size w w' := by
  obtain ⟨st, v, vs, Fk, H, R, rfl, rfl⟩ := h
  have hlen := R.len
  have hpos := hG.pos
  have hfew := hG.few
  have c8 := H.m.head.2.2.2.2.2.2.2.2.1
  have c10 := H.m.head.2.2.2.2.2.2.2.2.2.2.1
  have lx := H.m.head.2.2.2.2.2.2.2.2.2.2.2.2
  unfold PM.callR
  by_cases h0 : t < 0
  · rw [if_pos h0]
    obtain ⟨g, cap, e, hcap, hrb, hglt, hgx, gz, gc⟩ := H.m.seats_form (si := 0) (by omega)
    rw [e] at c8
    have t1 : decide (t < 0) = true := by simpa using h0
    unfold Cal.v Cal.zero
    clear H gc e R h0 gz c10
    go_enter Try.func37, Try.ntmps37
    go_wp2
    refine bodyPost_ret (v := .tuple #[.agg #[.int .i64 0, .int .i64 0, .int .i64 0, .int .i64 0, .int .i64 0, .int .i64 0, .int .i64 0, .int .i64 0, .int .i64 0], .bool false]) (by simp [results, Try.results37, go_sem]) rfl ⟨rfl, (by repeat (first | exact Below.refl _ _ | apply Below.drew | apply Below.more1 | apply Below.alloc1 | (refine Below.setCell ?_ (by first | exact Nat.le_refl _ | (simp; done) | (simp; omega)) _)))⟩
  · rw [if_neg h0]
    obtain ⟨i, rfl⟩ : ∃ i : Nat, t = (i : Int) := ⟨t.toNat, by omega⟩
    rw [Int.toNat_natCast]
    have t1 : decide ((i : Int) < 0) = false := by simp
    cases hse : p.seats[i]? with
    | none =>
      have hge := List.getElem?_eq_none_iff.1 hse
      obtain ⟨g, cap, e, hcap, hrb, hglt, hgx, gz, gc⟩ := H.m.seats_form (si := 0) (by omega)
      rw [e] at c8
      have t2 : decide ((st.seats.length : Int) ≤ (i : Int)) = true := by simp; omega
      show Calls _ _ _ _ fun e w' => e = .returned (.tuple #[Cal.zero.v, .bool false]) ∧ _
      unfold Cal.v Cal.zero
      clear H gc e R h0 gz hse c10
      go_enter Try.func37, Try.ntmps37
      go_wp2
      refine bodyPost_ret (v := .tuple #[.agg #[.int .i64 0, .int .i64 0, .int .i64 0, .int .i64 0, .int .i64 0, .int .i64 0, .int .i64 0, .int .i64 0, .int .i64 0], .bool false]) (by simp [results, Try.results37, go_sem]) rfl ⟨rfl, (by repeat (first | exact Below.refl _ _ | apply Below.drew | apply Below.more1 | apply Below.alloc1 | (refine Below.setCell ?_ (by first | exact Nat.le_refl _ | (simp; done) | (simp; omega)) _)))⟩
    | some se =>
      have hlt := (List.getElem?_eq_some_iff.1 hse).1
      obtain ⟨y, hy⟩ := R.seat hse
      have hil : i < st.seats.length := by omega
      obtain ⟨g, cap, e, hcap, hrb, hglt, hgx, gz, gc⟩ := H.m.seats_form hil
      rw [e] at c8
      have t2 : decide ((st.seats.length : Int) ≤ (i : Int)) = false := by simp; omega
      have g2 : w.cell? ⟨g, i * 5 + 2, none⟩ = some (.int .i64 se.last) := by
        rw [gc 2 (by omega)]
        simp only [seatsNow_none R.on]
        rw [(List.getElem?_eq_some_iff.1 hy).2]
        rfl
      show Calls _ _ _ _ fun e w' => e = .returned (.tuple #[(if se.last < 0 then (Cal.zero, false) else (p.calls.getD se.last.toNat default, true)).1.v, .bool (if se.last < 0 then (Cal.zero, false) else (p.calls.getD se.last.toNat default, true)).2]) ∧ _
      by_cases hl : se.last < 0
      · rw [if_pos hl]
        have t3 : decide (se.last < 0) = true := by simpa using hl
        generalize se.last = la at *
        unfold Cal.v Cal.zero
        clear H gc e R h0 gz hse hy c10 hl
        go_enter Try.func37, Try.ntmps37
        go_wp2
        refine bodyPost_ret (v := .tuple #[.agg #[.int .i64 0, .int .i64 0, .int .i64 0, .int .i64 0, .int .i64 0, .int .i64 0, .int .i64 0, .int .i64 0, .int .i64 0], .bool false]) (by simp [results, Try.results37, go_sem]) rfl ⟨rfl, (by repeat (first | exact Below.refl _ _ | apply Below.drew | apply Below.more1 | apply Below.alloc1 | (refine Below.setCell ?_ (by first | exact Nat.le_refl _ | (simp; done) | (simp; omega)) _)))⟩
      · rw [if_neg hl]
        obtain ⟨h5, h6⟩ := hG.last i se hse
        obtain ⟨ci, hci⟩ : ∃ ci : Nat, se.last = (ci : Int) := ⟨se.last.toNat, by omega⟩
        rw [hci] at g2 h6 ⊢
        rw [Int.toNat_natCast]
        have hcl : ci < p.calls.length := by omega
        have hcs : ci < st.calls.length := by rw [R.calls]; exact hcl
        have hcl2 := hG.calls
        have htop := hG.top
        obtain ⟨g2b, cap2, e2, hcap2, hrb2, hglt2, hgx2, gz2, gc2⟩ := H.m.calls_form hcs
        rw [e2] at c10
        have hcd : p.calls.getD ci default = p.calls[ci] := by rw [List.getD_eq_getElem?_getD, List.getElem?_eq_getElem hcl]; rfl
        have gcc : ∀ j, j < 9 → w.cell? ⟨g2b, ci * 9 + j, none⟩ = p.calls[ci].cells[j]? := fun j hj => by
          rw [gc2 j hj]
          simp only [callsNow_none R.on, R.calls]
        have hcsl : st.calls.length = p.calls.length := by rw [R.calls]
        rw [hcd]
        generalize p.calls[ci] = c at *
        obtain ⟨z0, z1, z2, z3, z4, z5, z6, z7, z8⟩ := c
        have y0 := gcc 0 (by omega)
        have y1 := gcc 1 (by omega)
        have y2 := gcc 2 (by omega)
        have y3 := gcc 3 (by omega)
        have y4 := gcc 4 (by omega)
        have y5 := gcc 5 (by omega)
        have y6 := gcc 6 (by omega)
        have y7 := gcc 7 (by omega)
        have y8 := gcc 8 (by omega)
        simp only [Nat.add_zero] at y0
        simp only [Cal.cells, List.getElem?_cons_zero, List.getElem?_cons_succ] at y0 y1 y2 y3 y4 y5 y6 y7 y8
        unfold Cal.v
        have t3 : decide ((ci : Int) < 0) = false := by simp
        clear H gc e R h0 gz hse hy hl gcc gc2 gz2 e2 hcd
        go_enter Try.func37, Try.ntmps37
        go_wp2
        refine wp_region_more_tail 12 (by kernel_rfl) (by kernel_rfl) ?_
        simp only [List.take_succ_cons, List.take_zero, List.drop_succ_cons, List.drop_zero]
        repeat (first | go_big_quiet_skip | (go_big_quiet_want; go_big_quiet_op; first | go_big_quiet_on | (apply Exists.intro; refine ⟨fun _ => ?_, ?_⟩; (focus (fail)); go_big_quiet_on)))
        refine wpQuiet_nil ?_
        intro osq dq
        go_wp2
        refine bodyPost_ret (v := .tuple #[.agg #[.int .i64 z0, .int .i64 z1, .int .i64 z2, .int .i64 z3, .int .i64 z4, .int .i64 z5, .int .i64 z6, .int .i64 z7, .int .i64 z8], .bool true]) (by simp [results, Try.results37, go_sem]) rfl ⟨rfl, (by repeat (first | exact Below.refl _ _ | apply Below.drew | apply Below.more1 | apply Below.alloc1 | (refine Below.setCell ?_ (by first | exact Nat.le_refl _ | (simp; done) | (simp; omega)) _)))⟩
end
end Go.Proofs.Ytbhbpfpggfcpgaa
