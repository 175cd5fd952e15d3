/-
machine.Machine: Run.
-/
import Derived.Test.YtjcggokhminmoaaQPm
import Derived.Test.YtjcggokhminmoaaQMixF
namespace Go.Proofs.Ytjcggokhminmoaa
open Go.ChangeShapes Go.WideShapes Go.ChangeAt Go.RowKit Go.Shelf

abbrev run0 (w : World) : World := w.alloc (.cells #[.slice none 0 0, .slice none 0 0, .slice none 0 0, .slice none 0 0] 42)

attribute [local go_sem] Oper.semAt_some

set_option maxRecDepth 100000 in
set_option maxHeartbeats 2000000 in
theorem run_any {w : World} {base xb : Nat} {st : MachS} {v : MachV} (H : MachAt w base xb st v) (hon : st.on = none) (hs : 0 < st.seats.length) (h1 : st.calls.length ≤ 1000000) (h2 : st.d.shifts.length ≤ 1000000) (h3 : st.d.mem.words.length ≤ 1000000) (h4 : st.d.mem.log.length ≤ 1000000) :
    Calls Try.prog 30 #[.pointer (some ⟨xb, 0, none⟩)] w (RunRes w ⟨st.calls, st.d.mem.log, st.d.shifts, st.d.mem.words⟩) := by
  obtain ⟨c0, c1, c2, c3, c4, c5, c6, c7, c8, c9, c10, z, lt⟩ := H.head
  obtain ⟨g, cap, e, hcap, hrb, hglt, hgx, gz, gc⟩ := H.seats_form hs
  rw [e] at c8
  have hnz : ((st.seats.length : Int) == 0) = false := by rw [beq_eq_false_iff_ne]; omega
  have H1 := H.alloc (.cells #[.slice none 0 0, .slice none 0 0, .slice none 0 0, .slice none 0 0] 42)
  have HC1 := Lib.hid (fun W d (h : RunAcc (run0 w) st.calls st.d.shifts st.d.mem.words W none none none d) => (clone_cal (w := W) (vx := v.vca) (l := st.calls) (by
      have := (H1.only h.on (fun _ _ x => x)).rca.src
      rwa [show st.callsNow = st.calls by unfold MachS.callsNow; rw [hon]] at this) (by omega)).mono fun e w' (hc : Cloned W 50 9 st.calls.length (cals st.calls) e w') => (show ∃ o c, e = .returned (.slice o st.calls.length c) ∧ RunAcc (run0 w) st.calls st.d.shifts st.d.mem.words w' (some (.slice o st.calls.length c)) none none d from by
      obtain ⟨o, c, he, _, _, hr, ho⟩ := hc
      exact ⟨o, c, he, h.setA hr ho⟩))
  have HC2 := Lib.hid (fun W a d (h : RunAcc (run0 w) st.calls st.d.shifts st.d.mem.words W a none none d) => (clone_shf (w := W) (vx := v.vsh) (l := st.d.shifts) (H1.only h.on (fun _ _ x => x)).rsh.src (by omega)).mono fun e w' (hc : Cloned W 68 5 st.d.shifts.length (shfs st.d.shifts) e w') => (show ∃ o c, e = .returned (.slice o st.d.shifts.length c) ∧ RunAcc (run0 w) st.calls st.d.shifts st.d.mem.words w' a (some (.slice o st.d.shifts.length c)) none d from by
      obtain ⟨o, c, he, _, _, hr, ho⟩ := hc
      exact ⟨o, c, he, h.setB hr ho⟩))
  have HC3 := Lib.hid (fun W a b d (h : RunAcc (run0 w) st.calls st.d.shifts st.d.mem.words W a b none d) => (words_mem (H1.only h.on (fun _ _ x => x)).mem (by omega)).mono fun e w' (hc : Cloned W 52 1 st.d.mem.words.length (u64s st.d.mem.words) e w') => (show ∃ o c, e = .returned (.slice o st.d.mem.words.length c) ∧ RunAcc (run0 w) st.calls st.d.shifts st.d.mem.words w' a b (some (.slice o st.d.mem.words.length c)) d from by
      obtain ⟨o, c, he, _, _, hr, ho⟩ := hc
      exact ⟨o, c, he, h.setC hr ho⟩))
  have A0 := Lib.hid (RunAcc.of (cl := st.calls) (sl := st.d.shifts) (wl := st.d.mem.words) (Only.refl (fun _ => False) (run0 w)))
  have hd1 := H1.head
  have f0 := fun g : LaterF (fun _ => False) (run0 w) => g.cell hd1.1 hd1.2.2.2.2.2.2.2.2.2.2.2.2 (fun x => x)
  have f6 := fun g : LaterF (fun _ => False) (run0 w) => g.cell hd1.2.2.2.2.2.2.1 hd1.2.2.2.2.2.2.2.2.2.2.2.2 (fun x => x)
  have f10 := fun g : LaterF (fun _ => False) (run0 w) => g.cell hd1.2.2.2.2.2.2.2.2.2.2.1 hd1.2.2.2.2.2.2.2.2.2.2.2.2 (fun x => x)
  clear hd1
  clear c1 c2 c3 c4 c5 c7 c9 e
  refine (callsIn_wide (n := 9)).1 (callsIn_of_wp_marks Try.func30 rfl trivial ?_ rfl)
  simp only [Try.ntmps30, List.size_toArray, List.length_cons, List.length_nil, Nat.reduceAdd, Nat.reduceSub, Array.replicate_succ, Array.replicate_zero, List.push_toArray, List.append_toArray, List.nil_append, List.cons_append]
  refine wpIn_wide.2 ?_
  go_upto_region 3 with (fail)
  go_cut [3] from 3 to 40 (fun rp wx => ∃ rb va vb vc, rp = .pointer (some ⟨rb, 0, none⟩) ∧ Hid (RunSet (run0 w) st.calls st.d.shifts st.d.mem.words wx rb va vb vc (.slice none 0 0)))
  case first =>
    go_wp2
    refine wp_region_float (fun wz => ∃ g : LaterF (fun _ => False) (run0 w), wz = g.W) [4, 5, 5] 18 _ rfl (by kernel_rfl) (by kernel_rfl) (laterF_in A0.out.on.drew) ?_
    simp only [cutSteps, List.take_succ_cons, List.take_zero, List.drop_succ_cons, List.drop_zero, wpFloat, wpSteps]
    have A0' := Lib.hid A0.out.drew
    repeat (first | go_big_quiet_skip | (go_big_quiet_want; go_big_quiet_op; go_big_quiet_on))
    refine wpQuiet_nil ?_
    refine ⟨?_, ?_⟩
    · go_wp2_with fail
      try unfold Strict
      have AX := Lib.hid A0'.out.allocRun
      rw [show (run0 w).drew.heap.size = w.heap.size + 1 by simp [run0]] at AX
      refine ⟨laterF_in AX.out.on, ?_⟩
      repeat (first | go_big_quiet_skip | (go_big_quiet_want; go_big_quiet_op; go_big_quiet_on))
      refine wpQuiet_nil ?_
      go_wp2_with (go_at_call 46; refine (HC1.out _ _ AX.out).mono ?_; rintro e w1 ⟨o1, q1, rfl, ha⟩; have A1 := Lib.hid ha; clear ha)
      try unfold Strict
      refine ⟨?_, ?_⟩
      · exact laterF_in A1.out.on
      repeat (first | go_big_quiet_skip | (go_big_quiet_want; go_big_quiet_op; go_big_quiet_on))
      refine wpQuiet_nil ?_
      go_wp2_with (go_at_call 47; refine (HC2.out _ _ _ A1.out).mono ?_; rintro e w2 ⟨o2, q2, rfl, ha⟩; have A2 := Lib.hid ha; clear ha)
      try unfold Strict
      refine ⟨?_, ?_⟩
      · exact laterF_in A2.out.on
      repeat (first | go_big_quiet_skip | (go_big_quiet_want; go_big_quiet_op; go_big_quiet_on))
      refine wpQuiet_nil ?_
      go_wp2_with (go_at_call 48; refine (HC3.out _ _ _ _ A2.out).mono ?_; rintro e w3 ⟨o3, q3, rfl, ha⟩; have A3 := Lib.hid ha; clear ha)
      try unfold Strict
      refine ⟨?_, ?_⟩
      · exact laterF_in A3.out.on
      try (obtain ⟨x0, x1, x2, x3, xz, xlt⟩ := A3.out.facts rfl)
      repeat (first | go_big_quiet_skip | (go_big_quiet_want; go_big_quiet_op; go_big_quiet_on))
      refine wpQuiet_nil ?_
      go_wp2
      go_meet
      first
        | exact ⟨_, _, _, _, rfl, Lib.hid A3.out.last⟩
        | exact ⟨_, _, _, _, rfl, Lib.hid A3.out.store⟩
    go_wp2_with (go_at_call 46; refine (HC1.out _ _ A0'.out).mono ?_; rintro e w1 ⟨o1, q1, rfl, ha⟩; have A1 := Lib.hid ha; clear ha)
    try unfold Strict
    refine ⟨?_, ?_⟩
    · exact laterF_in A1.out.on
    repeat (first | go_big_quiet_skip | (go_big_quiet_want; go_big_quiet_op; go_big_quiet_on))
    refine wpQuiet_nil ?_
    refine ⟨?_, ?_⟩
    · go_wp2_with fail
      try unfold Strict
      have AX := Lib.hid A1.out.allocRun
      refine ⟨laterF_in AX.out.on, ?_⟩
      repeat (first | go_big_quiet_skip | (go_big_quiet_want; go_big_quiet_op; go_big_quiet_on))
      refine wpQuiet_nil ?_
      go_wp2_with (go_at_call 47; refine (HC2.out _ _ _ AX.out).mono ?_; rintro e w2 ⟨o2, q2, rfl, ha⟩; have A2 := Lib.hid ha; clear ha)
      try unfold Strict
      refine ⟨?_, ?_⟩
      · exact laterF_in A2.out.on
      repeat (first | go_big_quiet_skip | (go_big_quiet_want; go_big_quiet_op; go_big_quiet_on))
      refine wpQuiet_nil ?_
      go_wp2_with (go_at_call 48; refine (HC3.out _ _ _ _ A2.out).mono ?_; rintro e w3 ⟨o3, q3, rfl, ha⟩; have A3 := Lib.hid ha; clear ha)
      try unfold Strict
      refine ⟨?_, ?_⟩
      · exact laterF_in A3.out.on
      try (obtain ⟨x0, x1, x2, x3, xz, xlt⟩ := A3.out.facts rfl)
      repeat (first | go_big_quiet_skip | (go_big_quiet_want; go_big_quiet_op; go_big_quiet_on))
      refine wpQuiet_nil ?_
      go_wp2
      go_meet
      first
        | exact ⟨_, _, _, _, rfl, Lib.hid A3.out.last⟩
        | exact ⟨_, _, _, _, rfl, Lib.hid A3.out.store⟩
    go_wp2_with (go_at_call 47; refine (HC2.out _ _ _ A1.out).mono ?_; rintro e w2 ⟨o2, q2, rfl, ha⟩; have A2 := Lib.hid ha; clear ha)
    try unfold Strict
    refine ⟨?_, ?_⟩
    · exact laterF_in A2.out.on
    repeat (first | go_big_quiet_skip | (go_big_quiet_want; go_big_quiet_op; go_big_quiet_on))
    refine wpQuiet_nil ?_
    refine ⟨?_, ?_⟩
    · go_wp2_with fail
      try unfold Strict
      have AX := Lib.hid A2.out.allocRun
      refine ⟨laterF_in AX.out.on, ?_⟩
      repeat (first | go_big_quiet_skip | (go_big_quiet_want; go_big_quiet_op; go_big_quiet_on))
      refine wpQuiet_nil ?_
      go_wp2_with (go_at_call 48; refine (HC3.out _ _ _ _ AX.out).mono ?_; rintro e w3 ⟨o3, q3, rfl, ha⟩; have A3 := Lib.hid ha; clear ha)
      try unfold Strict
      refine ⟨?_, ?_⟩
      · exact laterF_in A3.out.on
      try (obtain ⟨x0, x1, x2, x3, xz, xlt⟩ := A3.out.facts rfl)
      repeat (first | go_big_quiet_skip | (go_big_quiet_want; go_big_quiet_op; go_big_quiet_on))
      refine wpQuiet_nil ?_
      go_wp2
      go_meet
      first
        | exact ⟨_, _, _, _, rfl, Lib.hid A3.out.last⟩
        | exact ⟨_, _, _, _, rfl, Lib.hid A3.out.store⟩
    go_wp2_with (go_at_call 48; refine (HC3.out _ _ _ _ A2.out).mono ?_; rintro e w3 ⟨o3, q3, rfl, ha⟩; have A3 := Lib.hid ha; clear ha)
    try unfold Strict
    refine ⟨?_, ?_⟩
    · exact laterF_in A3.out.on
    repeat (first | go_big_quiet_skip | (go_big_quiet_want; go_big_quiet_op; go_big_quiet_on))
    refine wpQuiet_nil ?_
    go_wp2_with fail
    try unfold Strict
    have AX := Lib.hid A3.out.allocRun
    refine ⟨laterF_in AX.out.on, ?_⟩
    try (obtain ⟨x0, x1, x2, x3, xz, xlt⟩ := AX.out.facts rfl)
    go_wp2
    go_meet
    first
      | exact ⟨_, _, _, _, rfl, Lib.hid A3.out.last⟩
      | exact ⟨_, _, _, _, rfl, Lib.hid AX.out.store⟩
  case rest =>
    obtain ⟨rb, va, vb, vc, rfl, HR⟩ := hcut
    obtain ⟨oa, ca, rfl, _, _⟩ := HR.out.wa.form
    obtain ⟨ob, cb, rfl, _, _⟩ := HR.out.wb.form
    obtain ⟨oc, cc, rfl, _, _⟩ := HR.out.wc.form
    have HM := Lib.hid (H1.only HR.out.on (fun _ _ x => x))
    obtain ⟨c0, c1, c2, c3, c4, c5, c6, c7, c8, c9, c10, z, lt2⟩ := HM.out.head
    clear c1 c2 c3 c4 c5 c6 c7 c8 c9 c10 f0 f6 f10 HC1 HC2 HC3 A0 gc gz
    go_wp2_with (go_at_call 49; refine (log_any _ _ _).mono ?_; rintro e w2 ⟨rfl, rfl⟩)
    rename_i K hKK
    obtain ⟨W0, hW0⟩ : ∃ W0, W0 = ((wc.alloc (.cells #[.pointer (some ⟨v.mb, 0, none⟩)] 113)).alloc (.cells #[.int .i64 0] 3)) := ⟨_, rfl⟩
    have hsz : W0.heap.size = wc.heap.size + 1 + 1 := by rw [hW0]; simp
    have bp : Boxed W0 wc.heap.size 113 (.pointer (some ⟨v.mb, 0, none⟩)) := by rw [hW0]; exact (Boxed.new _ _ _).alloc _
    have bf : Boxed W0 (wc.heap.size + 1) 3 (.int .i64 0) := by
      rw [hW0]; have := Boxed.new (wc.alloc (.cells #[.pointer (some ⟨v.mb, 0, none⟩)] 113)) 3 (.int .i64 0); rw [World.size_alloc] at this; exact this
    have hM : MemAt W0 base v.mb st.d.mem v.mv := by rw [hW0]; exact (HM.out.mem.alloc _).alloc _
    have hb0 : Below wc.heap.size wc W0 := by rw [hW0]; exact (((Below.refl _ wc).alloc1 _).alloc1 _)
    rw [← hW0]
    clear hW0
    have hrlt : rb < wc.heap.size := (Array.getElem?_eq_some_iff.1 HR.out.bx).1
    have hbx : W0.heap[rb]? = some (.cells #[.slice oa st.calls.length ca, .slice none 0 0, .slice ob st.d.shifts.length cb, .slice oc st.d.mem.words.length cc] 42 (0, 0)) := by rw [hb0.block rb hrlt]; exact HR.out.bx
    have hI0 : RunI W0 rb (.slice oa st.calls.length ca) (.slice ob st.d.shifts.length cb) (.slice oc st.d.mem.words.length cc) [] W0 := ⟨.slice none 0 0, hbx, World.RowV_none _ _ _ _ _, Only.refl _ _, by omega⟩
    have hF : ∀ W, Below W0.heap.size W0 W → ∀ k, RunFoot rb W k → k < W0.heap.size := by
      rintro W hW k (hk | ⟨u, hu, hk⟩)
      · omega
      · rw [hW.cell (p := ⟨rb, 1, none⟩) (show rb < W0.heap.size by omega)] at hu
        simp [World.cell?, hbx] at hu
        subst hu
        simp [Value.rowBlock] at hk
    have hrc : (run0 w).heap[w.heap.size]? = some (.cells #[.slice none 0 0, .slice none 0 0, .slice none 0 0, .slice none 0 0] 42 (0, 0)) := heap_alloc_new w _
    have hrge : (run0 w).heap.size = w.heap.size + 1 := by simp [run0]
    have HB := Lib.hid hb0
    clear c0 z lt2 hbx
    refine (wpIn_wide (n := 9)).1 (wpIn_rangeFunc_ownH rfl (by omega) (gf := 69) (lb := #[.pointer (some ⟨wc.heap.size, 0, none⟩), .pointer (some ⟨wc.heap.size + 1, 0, none⟩)]) rfl trivial (enters_of Try.func69 (by kernel_rfl) rfl)
      (log_stops hM (by omega) wc.heap.size (wc.heap.size + 1) 0 0 (.inl rfl) 8 (by omega) (RunFoot rb) hF bp.cell bf.cell) LogKp.trans (fun W l o o' hl' ho hc _ => LogKp.putObj1 (by omega) o o' ho hc) (Below.refl _ _) (fun _ => rfl)
      (RunI W0 rb (.slice oa st.calls.length ca) (.slice ob st.d.shifts.length cb) (.slice oc st.d.mem.words.length cc)) (fun _ _ _ => False) RunI.ownFrom (fun _ _ _ _ _ h _ _ => h) hI0
      (fun x a' W => ∃ Bx, W.heap[Bx]? = some (.cells #[.int .i64 x.2.mv, .int .i64 x.2.th, .int .i64 x.2.kd, .int .i64 x.2.ad, .int .u64 x.2.old, .int .u64 x.2.nw, .int .u64 x.2.saw] 56 (0, 0)) ∧ a' = { tmps := #[Value.pointer (some ⟨xb, 0, none⟩), undef, .pointer (some ⟨w.heap.size, 0, none⟩), .pointer (some ⟨rb, 0, none⟩), u4, .pointer (some ⟨Bx, 0, none⟩), u6, u7, u8, u9, u10, u11, u12, u13, u14, u15, u16, u17, u18, u19, u20, u21, u22, u23, u24, u25, u26, u27, u28, u29, u30, u31, u32, u33, u34, .pointer (some ⟨xb, 0, none⟩), .pointer (some ⟨xb, 0, none⟩), .pointer (some ⟨xb, 0, none⟩), .pointer (some ⟨xb, 0, none⟩), .pointer (some ⟨v.mb, 0, none⟩), .func (.func 69) #[] #[.pointer (some ⟨wc.heap.size, 0, none⟩), .pointer (some ⟨wc.heap.size + 1, 0, none⟩)], .int .i64 (x.1 : Int), .agg #[.int .i64 x.2.mv, .int .i64 x.2.th, .int .i64 x.2.kd, .int .i64 x.2.ad, .int .u64 x.2.old, .int .u64 x.2.nw, .int .u64 x.2.saw], undef, undef, undef, undef, undef, undef, undef], defers := [] })
      (fun x a' => ?_) ?assign ?body ?done ?stop)
    · rintro _ W W' row ⟨Bx, e1, e2⟩ hg hr
      refine ⟨Bx, ?_, e2⟩
      rw [hg.block Bx (Array.getElem?_eq_some_iff.1 e1).1 (fun e => ?_)]
      · exact e1
      · obtain ⟨_, o, ho, hc⟩ := hr Bx e.symm
        rw [e1] at ho
        cases ho
        cases hc
    case assign =>
      intro l pre x W K hI hK
      obtain ⟨vt, hV⟩ := hI
      simp only [encItem]
      gi_wp2
      exact hK _ _ ((KeepsOthers.alloc _ _).from _) (LogKp.alloc1 hV.facts.2.2.2.2.2 _) ⟨vt, hV.of_grown (World.grownBy_alloc _ _ none) (fun r e => by cases e)⟩ ⟨W.heap.size, heap_alloc_new W _, rfl⟩
    case body =>
      rintro l pre x a' W hl' hr ⟨vt, hV⟩ ⟨Bx, hB, rfl⟩ hlt
      obtain ⟨ot, ct, rfl, f1, f2⟩ := hV.rt.form
      unfold maxLen at f2
      obtain ⟨b0, b1, b2, b3, bz, bl⟩ := hV.facts
      obtain ⟨r0, r1, r2, r3, r4, r5, r6⟩ := boxA hB
      obtain ⟨j0, ji, jz0, jz1, jz2⟩ := info_parts infoAcc
      have HV := Lib.hid hV
      have JI := Lib.hid ji
      have JZ0 := Lib.hid jz0
      have JZ1 := Lib.hid jz1
      have JZ2 := Lib.hid jz2
      have S2 := Lib.hid (show pre.length + 1 ≤ maxLen by unfold maxLen; omega)
      have S4 := Lib.hid (show ((pre.length + 1) + (pre.length + 1) / 4 + 192) * 56 ≤ 281474976710656 by omega)
      have S5 := Lib.hid (show ∀ u ∈ x.2.cells, u.oneCell' = true by simp [Acc.cells, Value.oneCell'])
      clear hV hB ji jz0 jz1 jz2 hr hl' hI0 hF bp bf hM hb0 hrc b0 b2 b3
      gi_wp2_with (gi_at_builtin; refine wpListIn_append_row _ rfl _ _ 38 rfl W0.heap.size 56 j0 _ 7 56 Try.underlying38 JI.out JZ0.out JZ1.out JZ2.out rfl (.slice ot pre.length ct) pre.length (ents pre) rfl (HV.out.rt.alloc _) _ 1 _ rfl (World.Src.one rfl rfl) S5.out S2.out S4.out (by have := HV.out.on.size; simp; omega) ?_; intro v1 w1 hown1 hout1; obtain ⟨o1, c1, rfl, q1, q2⟩ := hown1.form; have hm1 : w1.heap[rb]? = W.heap[rb]? := (hout1.block (k := rb) (by simp; omega) (fun e => by have := (HV.out.rt.lt rb e).1; omega)).trans (Below.heap_alloc _ _ _ bl); have p1 := (World.cell?_of_block (a := ⟨rb, 1, none⟩) hm1).trans b1; have p2 := fun j => (World.frozen?_of_block (a := ⟨rb, j, none⟩) hm1).trans (bz j); have p3 : rb < w1.heap.size := Nat.lt_of_lt_of_le (by simp; omega) hout1.size; have HS := Lib.hid (HV.out.step x hown1 hout1); clear hown1 hout1 q2 hm1)
      exact ⟨HS.out.2.2, HS.out.2.1, _, HS.out.1⟩
    case done =>
      rintro D xs W hD rfl ⟨vt, hV⟩ hK
      obtain ⟨ot, ct, rfl, _, _⟩ := hV.rt.form
      have HRUN := Lib.hid (HR.out.run HB.out hV rfl)
      obtain ⟨b0, b1, b2, b3, bz, bl⟩ := hV.facts
      have hcc : W.heap[w.heap.size]? = some (.cells #[.slice none 0 0, .slice none 0 0, .slice none 0 0, .slice none 0 0] 42 (0, 0)) := by
        have h1 := HR.out.ge
        have h2 := HR.out.on.size
        rw [hV.on.block w.heap.size (by omega) (by omega), HB.out.block w.heap.size (by omega), HR.out.on.block w.heap.size (by omega) (fun x => x)]
        exact hrc
      have HCC := Lib.hid hcc
      have HK := Lib.hid hK
      have hrne : rb ≠ w.heap.size := by have := HR.out.ge; omega
      have hrlc := (Array.getElem?_eq_some_iff.1 hcc).1
      have e0 : W.cell? ⟨w.heap.size, 0, none⟩ = some (.slice none 0 0) := by simp [World.cell?, hcc]
      have e1 : W.cell? ⟨w.heap.size, 1, none⟩ = some (.slice none 0 0) := by simp [World.cell?, hcc]
      have e2 : W.cell? ⟨w.heap.size, 2, none⟩ = some (.slice none 0 0) := by simp [World.cell?, hcc]
      have e3 : W.cell? ⟨w.heap.size, 3, none⟩ = some (.slice none 0 0) := by simp [World.cell?, hcc]
      have ez : ∀ j, W.frozen? ⟨w.heap.size, j, none⟩ = false := fun j => by simp [World.frozen?, hcc]
      have HV := Lib.hid hV
      clear hV hK hM hI0 hF bp bf hb0 hcc hrc HM
      refine hKK _ _ ?_
      have hD2 : D ≠ w.heap.size := by have := HR.out.on.size; omega
      have HDW := Lib.hid (show w.heap.size ≤ D by have := HR.out.on.size; omega)
      have HRL := Lib.hid (show (run0 w).heap.size = w.heap.size + 1 from hrge)
      have HLEN := Lib.hid (show (items st.d.mem.log 0 st.d.mem.log.length).length = st.d.mem.log.length by rw [items_len]; omega)
      clear HR
      go_wp2
      have hDD : ((((W.setCell ⟨w.heap.size, 0, none⟩ (.slice oa st.calls.length ca)).setCell ⟨w.heap.size, 1, none⟩ (.slice ot (items st.d.mem.log 0 st.d.mem.log.length).length ct)).setCell ⟨w.heap.size, 2, none⟩ (.slice ob st.d.shifts.length cb)).setCell ⟨w.heap.size, 3, none⟩ (.slice oc st.d.mem.words.length cc)).heap[D]? = some (.deferred (some [])) := by
        rw [Below.heap_setCell _ _ _ _ hD2, Below.heap_setCell _ _ _ _ hD2, Below.heap_setCell _ _ _ _ hD2, Below.heap_setCell _ _ _ _ hD2]
        exact HK.out
      refine ⟨by simp, .inl ⟨_, _, rfl, run_takeDeferred hDD, ?_⟩⟩
      have hL := fun (W' : World) hk h1 h2 h3 h4 => RunAt.left (w := w) (W' := W') HRUN.out.1 (by rw [HRL.out]; omega) (((Only.refl _ w).alloc _).trans HRUN.out.2 (fun _ x => x.elim)) HK.out HDW.out hk h1 h2 h3 h4
      refine ⟨.agg #[.slice oa st.calls.length ca, .slice ot (items st.d.mem.log 0 st.d.mem.log.length).length ct, .slice ob st.d.shifts.length cb, .slice oc st.d.mem.words.length cc], ?_, ⟨⟨.slice oa st.calls.length ca, .slice ot (items st.d.mem.log 0 st.d.mem.log.length).length ct, .slice ob st.d.shifts.length cb, .slice oc st.d.mem.words.length cc⟩, rfl, hL _ (fun k g1 g2 => (World.putObj_heap_other g2).trans ((Below.heap_setCell _ _ _ _ g1).trans ((Below.heap_setCell _ _ _ _ g1).trans ((Below.heap_setCell _ _ _ _ g1).trans (Below.heap_setCell _ _ _ _ g1))))) rfl rfl rfl (by simp [World.setCell])⟩⟩
      have hf : (((((W.setCell ⟨w.heap.size, 0, none⟩ (.slice oa st.calls.length ca)).setCell ⟨w.heap.size, 1, none⟩ (.slice ot (items st.d.mem.log 0 st.d.mem.log.length).length ct)).setCell ⟨w.heap.size, 2, none⟩ (.slice ob st.d.shifts.length cb)).setCell ⟨w.heap.size, 3, none⟩ (.slice oc st.d.mem.words.length cc)).putObj D (.deferred none)).heap[w.heap.size]? = some (.cells #[.slice oa st.calls.length ca, .slice ot (items st.d.mem.log 0 st.d.mem.log.length).length ct, .slice ob st.d.shifts.length cb, .slice oc st.d.mem.words.length cc] 42 (0, 0)) := by
        rw [World.putObj_heap_other (Ne.symm hD2)]
        simp [World.setCell, Array.getElem?_modify, HCC.out]
      clear hL hDD
      generalize (((((W.setCell ⟨w.heap.size, 0, none⟩ (.slice oa st.calls.length ca)).setCell ⟨w.heap.size, 1, none⟩ (.slice ot (items st.d.mem.log 0 st.d.mem.log.length).length ct)).setCell ⟨w.heap.size, 2, none⟩ (.slice ob st.d.shifts.length cb)).setCell ⟨w.heap.size, 3, none⟩ (.slice oc st.d.mem.words.length cc)).putObj D (.deferred none)) = Wf at hf ⊢
      have g0 : Wf.cell? ⟨w.heap.size, 0, none⟩ = some (.slice oa st.calls.length ca) := by simp [World.cell?, hf]
      have g1 : Wf.cell? ⟨w.heap.size, 1, none⟩ = some (.slice ot (items st.d.mem.log 0 st.d.mem.log.length).length ct) := by simp [World.cell?, hf]
      have g2 : Wf.cell? ⟨w.heap.size, 2, none⟩ = some (.slice ob st.d.shifts.length cb) := by simp [World.cell?, hf]
      have g3 : Wf.cell? ⟨w.heap.size, 3, none⟩ = some (.slice oc st.d.mem.words.length cc) := by simp [World.cell?, hf]
      simp [results, Try.results30, go_sem, g0, g1, g2, g3]
    case stop =>
      rintro D c ps W hD hp h hK
      exact h.elim
end Go.Proofs.Ytjcggokhminmoaa
