/-
machine.Machine: Run.
machine.New.
machine: the kit of the machine's own calls: its functions and methods.
machine: maps with whole numbers as keys: what such a map reads as (Reads), an entry laid or changed in whatever block.
-/
import Derived.Test.YtbhbpfpggfcpgaaQRunC
import Derived.Test.YtbhbpfpggfcpgaaQMove
import Derived.Maps.Own
import Derived.Test.YtbhbpfpggfcpgaaQMem
import Derived.Maps.RangeWalk
namespace Go.Proofs.Ytbhbpfpggfcpgaa
open Go.ChangeShapes Go.WideShapes Go.ChangeAt Go.RowKit Go.Shelf

abbrev run0 (w : World) : World := w.alloc (.cells #[.slice none 0 0, .slice none 0 0, .slice none 0 0, .slice none 0 0] 41)

attribute [local go_sem] Oper.semAt_some

set_option maxRecDepth 100000 in
set_option maxHeartbeats 2000000 in
theorem run_any {w : World} {base xb : Nat} {st : MachS} {v : MachV} (H : MachAt w base xb st v) (hon : st.on = none) (hs : 0 < st.seats.length) (h1 : st.calls.length ≤ 1000000) (h2 : st.d.shifts.length ≤ 1000000) (h3 : st.d.mem.words.length ≤ 1000000) (h4 : st.d.mem.log.length ≤ 1000000) :
    Calls Try.prog 19 #[.pointer (some ⟨xb, 0, none⟩)] w (RunRes w ⟨st.calls, st.d.mem.log, st.d.shifts, st.d.mem.words⟩) := by
  obtain ⟨c0, c1, c2, c3, c4, c5, c6, c7, c8, c9, c10, z, lt⟩ := H.head
  obtain ⟨g, cap, e, hcap, hrb, hglt, hgx, gz, gc⟩ := H.seats_form hs
  rw [e] at c8
  have hnz : ((st.seats.length : Int) == 0) = false := by rw [beq_eq_false_iff_ne]; omega
  have H1 := H.alloc (.cells #[.slice none 0 0, .slice none 0 0, .slice none 0 0, .slice none 0 0] 41)
  have HC1 := Lib.hid (fun W d (h : RunAcc (run0 w) st.calls st.d.shifts st.d.mem.words W none none none d) => (clone_cal (w := W) (vx := v.vca) (l := st.calls) (by
      have := (H1.only h.on (fun _ _ x => x)).rca.src
      rwa [show st.callsNow = st.calls by unfold MachS.callsNow; rw [hon]] at this) (by omega)).mono fun e w' (hc : Cloned W 63 9 st.calls.length (cals st.calls) e w') => (show ∃ o c, e = .returned (.slice o st.calls.length c) ∧ RunAcc (run0 w) st.calls st.d.shifts st.d.mem.words w' (some (.slice o st.calls.length c)) none none d from by
      obtain ⟨o, c, he, _, _, hr, ho⟩ := hc
      exact ⟨o, c, he, h.setA hr ho⟩))
  have HC2 := Lib.hid (fun W a d (h : RunAcc (run0 w) st.calls st.d.shifts st.d.mem.words W a none none d) => (clone_shf (w := W) (vx := v.vsh) (l := st.d.shifts) (H1.only h.on (fun _ _ x => x)).rsh.src (by omega)).mono fun e w' (hc : Cloned W 132 5 st.d.shifts.length (shfs st.d.shifts) e w') => (show ∃ o c, e = .returned (.slice o st.d.shifts.length c) ∧ RunAcc (run0 w) st.calls st.d.shifts st.d.mem.words w' a (some (.slice o st.d.shifts.length c)) none d from by
      obtain ⟨o, c, he, _, _, hr, ho⟩ := hc
      exact ⟨o, c, he, h.setB hr ho⟩))
  have HC3 := Lib.hid (fun W a b d (h : RunAcc (run0 w) st.calls st.d.shifts st.d.mem.words W a b none d) => (words_mem (H1.only h.on (fun _ _ x => x)).mem (by omega)).mono fun e w' (hc : Cloned W 27 1 st.d.mem.words.length (u64s st.d.mem.words) e w') => (show ∃ o c, e = .returned (.slice o st.d.mem.words.length c) ∧ RunAcc (run0 w) st.calls st.d.shifts st.d.mem.words w' a b (some (.slice o st.d.mem.words.length c)) d from by
      obtain ⟨o, c, he, _, _, hr, ho⟩ := hc
      exact ⟨o, c, he, h.setC hr ho⟩))
  have A0 := Lib.hid (RunAcc.of (cl := st.calls) (sl := st.d.shifts) (wl := st.d.mem.words) (Only.refl (fun _ => False) (run0 w)))
  have hd1 := H1.head
  have f0 := fun g : LaterF (fun _ => False) (run0 w) => g.cell hd1.1 hd1.2.2.2.2.2.2.2.2.2.2.2.2 (fun x => x)
  have f6 := fun g : LaterF (fun _ => False) (run0 w) => g.cell hd1.2.2.2.2.2.2.1 hd1.2.2.2.2.2.2.2.2.2.2.2.2 (fun x => x)
  have f10 := fun g : LaterF (fun _ => False) (run0 w) => g.cell hd1.2.2.2.2.2.2.2.2.2.2.1 hd1.2.2.2.2.2.2.2.2.2.2.2.2 (fun x => x)
  clear hd1
  clear c1 c2 c3 c4 c5 c7 c9 e
  refine (callsIn_wide (n := 9)).1 (callsIn_of_wp_marks Try.func19 rfl trivial ?_ rfl)
  simp only [Try.ntmps19, List.size_toArray, List.length_cons, List.length_nil, Nat.reduceAdd, Nat.reduceSub, Array.replicate_succ, Array.replicate_zero, List.push_toArray, List.append_toArray, List.nil_append, List.cons_append]
  refine wpIn_wide.2 ?_
  go_upto_region 3 with (fail)
  go_cut [3] from 3 to 40 (fun rp wx => ∃ rb va vb vc, rp = .pointer (some ⟨rb, 0, none⟩) ∧ Hid (RunSet (run0 w) st.calls st.d.shifts st.d.mem.words wx rb va vb vc (.slice none 0 0)))
  case first =>
    go_wp2
    refine wp_region_float (fun wz => ∃ g : LaterF (fun _ => False) (run0 w), wz = g.W) [4, 5, 5] 18 _ rfl (by kernel_rfl) (by kernel_rfl) (laterF_in A0.out.on.drew) ?_
    simp only [cutSteps, List.take_succ_cons, List.take_zero, List.drop_succ_cons, List.drop_zero, wpFloat, wpSteps]
    have A0' := Lib.hid A0.out.drew
    repeat (first | go_big_quiet_skip | (go_big_quiet_want; go_big_quiet_op; go_big_quiet_on))
    refine wpQuiet_nil ?_
    refine ⟨?_, ?_⟩
    · go_wp2_with fail
      try unfold Strict
      have AX := Lib.hid A0'.out.allocRun
      rw [show (run0 w).drew.heap.size = w.heap.size + 1 by simp [run0]] at AX
      refine ⟨laterF_in AX.out.on, ?_⟩
      repeat (first | go_big_quiet_skip | (go_big_quiet_want; go_big_quiet_op; go_big_quiet_on))
      refine wpQuiet_nil ?_
      go_wp2_with (go_at_call 54; refine (HC1.out _ _ AX.out).mono ?_; rintro e w1 ⟨o1, q1, rfl, ha⟩; have A1 := Lib.hid ha; clear ha)
      try unfold Strict
      refine ⟨?_, ?_⟩
      · exact laterF_in A1.out.on
      repeat (first | go_big_quiet_skip | (go_big_quiet_want; go_big_quiet_op; go_big_quiet_on))
      refine wpQuiet_nil ?_
      go_wp2_with (go_at_call 55; refine (HC2.out _ _ _ A1.out).mono ?_; rintro e w2 ⟨o2, q2, rfl, ha⟩; have A2 := Lib.hid ha; clear ha)
      try unfold Strict
      refine ⟨?_, ?_⟩
      · exact laterF_in A2.out.on
      repeat (first | go_big_quiet_skip | (go_big_quiet_want; go_big_quiet_op; go_big_quiet_on))
      refine wpQuiet_nil ?_
      go_wp2_with (go_at_call 56; refine (HC3.out _ _ _ _ A2.out).mono ?_; rintro e w3 ⟨o3, q3, rfl, ha⟩; have A3 := Lib.hid ha; clear ha)
      try unfold Strict
      refine ⟨?_, ?_⟩
      · exact laterF_in A3.out.on
      try (obtain ⟨x0, x1, x2, x3, xz, xlt⟩ := A3.out.facts rfl)
      repeat (first | go_big_quiet_skip | (go_big_quiet_want; go_big_quiet_op; go_big_quiet_on))
      refine wpQuiet_nil ?_
      go_wp2
      go_meet
      first
        | exact ⟨_, _, _, _, rfl, Lib.hid A3.out.last⟩
        | exact ⟨_, _, _, _, rfl, Lib.hid A3.out.store⟩
    go_wp2_with (go_at_call 54; refine (HC1.out _ _ A0'.out).mono ?_; rintro e w1 ⟨o1, q1, rfl, ha⟩; have A1 := Lib.hid ha; clear ha)
    try unfold Strict
    refine ⟨?_, ?_⟩
    · exact laterF_in A1.out.on
    repeat (first | go_big_quiet_skip | (go_big_quiet_want; go_big_quiet_op; go_big_quiet_on))
    refine wpQuiet_nil ?_
    refine ⟨?_, ?_⟩
    · go_wp2_with fail
      try unfold Strict
      have AX := Lib.hid A1.out.allocRun
      refine ⟨laterF_in AX.out.on, ?_⟩
      repeat (first | go_big_quiet_skip | (go_big_quiet_want; go_big_quiet_op; go_big_quiet_on))
      refine wpQuiet_nil ?_
      go_wp2_with (go_at_call 55; refine (HC2.out _ _ _ AX.out).mono ?_; rintro e w2 ⟨o2, q2, rfl, ha⟩; have A2 := Lib.hid ha; clear ha)
      try unfold Strict
      refine ⟨?_, ?_⟩
      · exact laterF_in A2.out.on
      repeat (first | go_big_quiet_skip | (go_big_quiet_want; go_big_quiet_op; go_big_quiet_on))
      refine wpQuiet_nil ?_
      go_wp2_with (go_at_call 56; refine (HC3.out _ _ _ _ A2.out).mono ?_; rintro e w3 ⟨o3, q3, rfl, ha⟩; have A3 := Lib.hid ha; clear ha)
      try unfold Strict
      refine ⟨?_, ?_⟩
      · exact laterF_in A3.out.on
      try (obtain ⟨x0, x1, x2, x3, xz, xlt⟩ := A3.out.facts rfl)
      repeat (first | go_big_quiet_skip | (go_big_quiet_want; go_big_quiet_op; go_big_quiet_on))
      refine wpQuiet_nil ?_
      go_wp2
      go_meet
      first
        | exact ⟨_, _, _, _, rfl, Lib.hid A3.out.last⟩
        | exact ⟨_, _, _, _, rfl, Lib.hid A3.out.store⟩
    go_wp2_with (go_at_call 55; refine (HC2.out _ _ _ A1.out).mono ?_; rintro e w2 ⟨o2, q2, rfl, ha⟩; have A2 := Lib.hid ha; clear ha)
    try unfold Strict
    refine ⟨?_, ?_⟩
    · exact laterF_in A2.out.on
    repeat (first | go_big_quiet_skip | (go_big_quiet_want; go_big_quiet_op; go_big_quiet_on))
    refine wpQuiet_nil ?_
    refine ⟨?_, ?_⟩
    · go_wp2_with fail
      try unfold Strict
      have AX := Lib.hid A2.out.allocRun
      refine ⟨laterF_in AX.out.on, ?_⟩
      repeat (first | go_big_quiet_skip | (go_big_quiet_want; go_big_quiet_op; go_big_quiet_on))
      refine wpQuiet_nil ?_
      go_wp2_with (go_at_call 56; refine (HC3.out _ _ _ _ AX.out).mono ?_; rintro e w3 ⟨o3, q3, rfl, ha⟩; have A3 := Lib.hid ha; clear ha)
      try unfold Strict
      refine ⟨?_, ?_⟩
      · exact laterF_in A3.out.on
      try (obtain ⟨x0, x1, x2, x3, xz, xlt⟩ := A3.out.facts rfl)
      repeat (first | go_big_quiet_skip | (go_big_quiet_want; go_big_quiet_op; go_big_quiet_on))
      refine wpQuiet_nil ?_
      go_wp2
      go_meet
      first
        | exact ⟨_, _, _, _, rfl, Lib.hid A3.out.last⟩
        | exact ⟨_, _, _, _, rfl, Lib.hid A3.out.store⟩
    go_wp2_with (go_at_call 56; refine (HC3.out _ _ _ _ A2.out).mono ?_; rintro e w3 ⟨o3, q3, rfl, ha⟩; have A3 := Lib.hid ha; clear ha)
    try unfold Strict
    refine ⟨?_, ?_⟩
    · exact laterF_in A3.out.on
    repeat (first | go_big_quiet_skip | (go_big_quiet_want; go_big_quiet_op; go_big_quiet_on))
    refine wpQuiet_nil ?_
    go_wp2_with fail
    try unfold Strict
    have AX := Lib.hid A3.out.allocRun
    refine ⟨laterF_in AX.out.on, ?_⟩
    try (obtain ⟨x0, x1, x2, x3, xz, xlt⟩ := AX.out.facts rfl)
    go_wp2
    go_meet
    first
      | exact ⟨_, _, _, _, rfl, Lib.hid A3.out.last⟩
      | exact ⟨_, _, _, _, rfl, Lib.hid AX.out.store⟩
  case rest =>
    obtain ⟨rb, va, vb, vc, rfl, HR⟩ := hcut
    obtain ⟨oa, ca, rfl, _, _⟩ := HR.out.wa.form
    obtain ⟨ob, cb, rfl, _, _⟩ := HR.out.wb.form
    obtain ⟨oc, cc, rfl, _, _⟩ := HR.out.wc.form
    have HM := Lib.hid (H1.only HR.out.on (fun _ _ x => x))
    obtain ⟨c0, c1, c2, c3, c4, c5, c6, c7, c8, c9, c10, z, lt2⟩ := HM.out.head
    clear c1 c2 c3 c4 c5 c6 c7 c8 c9 c10 f0 f6 f10 HC1 HC2 HC3 A0 gc gz
    go_wp2_with (go_at_call 57; refine (log_any _ _ _).mono ?_; rintro e w2 ⟨rfl, rfl⟩)
    rename_i K hKK
    obtain ⟨W0, hW0⟩ : ∃ W0, W0 = ((wc.alloc (.cells #[.pointer (some ⟨v.mb, 0, none⟩)] 93)).alloc (.cells #[.int .i64 0] 3)) := ⟨_, rfl⟩
    have hsz : W0.heap.size = wc.heap.size + 1 + 1 := by rw [hW0]; simp
    have bp : Boxed W0 wc.heap.size 93 (.pointer (some ⟨v.mb, 0, none⟩)) := by rw [hW0]; exact (Boxed.new _ _ _).alloc _
    have bf : Boxed W0 (wc.heap.size + 1) 3 (.int .i64 0) := by
      rw [hW0]; have := Boxed.new (wc.alloc (.cells #[.pointer (some ⟨v.mb, 0, none⟩)] 93)) 3 (.int .i64 0); rw [World.size_alloc] at this; exact this
    have hM : MemAt W0 base v.mb st.d.mem v.mv := by rw [hW0]; exact (HM.out.mem.alloc _).alloc _
    have hb0 : Below wc.heap.size wc W0 := by rw [hW0]; exact (((Below.refl _ wc).alloc1 _).alloc1 _)
    rw [← hW0]
    clear hW0
    have hrlt : rb < wc.heap.size := (Array.getElem?_eq_some_iff.1 HR.out.bx).1
    have hbx : W0.heap[rb]? = some (.cells #[.slice oa st.calls.length ca, .slice none 0 0, .slice ob st.d.shifts.length cb, .slice oc st.d.mem.words.length cc] 41 (0, 0)) := by rw [hb0.block rb hrlt]; exact HR.out.bx
    have hI0 : RunI W0 rb (.slice oa st.calls.length ca) (.slice ob st.d.shifts.length cb) (.slice oc st.d.mem.words.length cc) [] W0 := ⟨.slice none 0 0, hbx, World.RowV_none _ _ _ _ _, Only.refl _ _, by omega⟩
    have hF : ∀ W, Below W0.heap.size W0 W → ∀ k, RunFoot rb W k → k < W0.heap.size := by
      rintro W hW k (hk | ⟨u, hu, hk⟩)
      · omega
      · rw [hW.cell (p := ⟨rb, 1, none⟩) (show rb < W0.heap.size by omega)] at hu
        simp [World.cell?, hbx] at hu
        subst hu
        simp [Value.rowBlock] at hk
    have hrc : (run0 w).heap[w.heap.size]? = some (.cells #[.slice none 0 0, .slice none 0 0, .slice none 0 0, .slice none 0 0] 41 (0, 0)) := heap_alloc_new w _
    have hrge : (run0 w).heap.size = w.heap.size + 1 := by simp [run0]
    have HB := Lib.hid hb0
    clear c0 z lt2 hbx
    refine (wpIn_wide (n := 9)).1 (wpIn_rangeFunc_ownH rfl (by omega) (gf := 69) (lb := #[.pointer (some ⟨wc.heap.size, 0, none⟩), .pointer (some ⟨wc.heap.size + 1, 0, none⟩)]) rfl trivial (enters_of Try.func69 (by kernel_rfl) rfl)
      (log_stops hM (by omega) wc.heap.size (wc.heap.size + 1) 0 0 (.inl rfl) 8 (by omega) (RunFoot rb) hF bp.cell bf.cell) LogKp.trans (fun W l o o' hl' ho hc _ => LogKp.putObj1 (by omega) o o' ho hc) (Below.refl _ _) (fun _ => rfl)
      (RunI W0 rb (.slice oa st.calls.length ca) (.slice ob st.d.shifts.length cb) (.slice oc st.d.mem.words.length cc)) (fun _ _ _ => False) RunI.ownFrom (fun _ _ _ _ _ h _ _ => h) hI0
      (fun x a' W => ∃ Bx, W.heap[Bx]? = some (.cells #[.int .i64 x.2.mv, .int .i64 x.2.th, .int .i64 x.2.kd, .int .i64 x.2.ad, .int .u64 x.2.old, .int .u64 x.2.nw, .int .u64 x.2.saw] 66 (0, 0)) ∧ a' = { tmps := #[Value.pointer (some ⟨xb, 0, none⟩), undef, .pointer (some ⟨w.heap.size, 0, none⟩), .pointer (some ⟨rb, 0, none⟩), u4, .pointer (some ⟨Bx, 0, none⟩), u6, u7, u8, u9, u10, u11, u12, u13, u14, u15, u16, u17, u18, u19, u20, u21, u22, u23, u24, u25, u26, u27, u28, u29, u30, u31, u32, u33, u34, .pointer (some ⟨xb, 0, none⟩), .pointer (some ⟨xb, 0, none⟩), .pointer (some ⟨xb, 0, none⟩), .pointer (some ⟨xb, 0, none⟩), .pointer (some ⟨v.mb, 0, none⟩), .func (.func 69) #[] #[.pointer (some ⟨wc.heap.size, 0, none⟩), .pointer (some ⟨wc.heap.size + 1, 0, none⟩)], .int .i64 (x.1 : Int), .agg #[.int .i64 x.2.mv, .int .i64 x.2.th, .int .i64 x.2.kd, .int .i64 x.2.ad, .int .u64 x.2.old, .int .u64 x.2.nw, .int .u64 x.2.saw], undef, undef, undef, undef, undef, undef, undef], defers := [] })
      (fun x a' => ?_) ?assign ?body ?done ?stop)
    · rintro _ W W' row ⟨Bx, e1, e2⟩ hg hr
      refine ⟨Bx, ?_, e2⟩
      rw [hg.block Bx (Array.getElem?_eq_some_iff.1 e1).1 (fun e => ?_)]
      · exact e1
      · obtain ⟨_, o, ho, hc⟩ := hr Bx e.symm
        rw [e1] at ho
        cases ho
        cases hc
    case assign =>
      intro l pre x W K hI hK
      obtain ⟨vt, hV⟩ := hI
      simp only [encItem]
      gi_wp2
      exact hK _ _ ((KeepsOthers.alloc _ _).from _) (LogKp.alloc1 hV.facts.2.2.2.2.2 _) ⟨vt, hV.of_grown (World.grownBy_alloc _ _ none) (fun r e => by cases e)⟩ ⟨W.heap.size, heap_alloc_new W _, rfl⟩
    case body =>
      rintro l pre x a' W hl' hr ⟨vt, hV⟩ ⟨Bx, hB, rfl⟩ hlt
      obtain ⟨ot, ct, rfl, f1, f2⟩ := hV.rt.form
      unfold maxLen at f2
      obtain ⟨b0, b1, b2, b3, bz, bl⟩ := hV.facts
      obtain ⟨r0, r1, r2, r3, r4, r5, r6⟩ := boxA hB
      obtain ⟨j0, ji, jz0, jz1, jz2⟩ := info_parts infoAcc
      have HV := Lib.hid hV
      have JI := Lib.hid ji
      have JZ0 := Lib.hid jz0
      have JZ1 := Lib.hid jz1
      have JZ2 := Lib.hid jz2
      have S2 := Lib.hid (show pre.length + 1 ≤ maxLen by unfold maxLen; omega)
      have S4 := Lib.hid (show ((pre.length + 1) + (pre.length + 1) / 4 + 192) * 56 ≤ 281474976710656 by omega)
      have S5 := Lib.hid (show ∀ u ∈ x.2.cells, u.oneCell' = true by simp [Acc.cells, Value.oneCell'])
      clear hV hB ji jz0 jz1 jz2 hr hl' hI0 hF bp bf hM hb0 hrc b0 b2 b3
      gi_wp2_with (gi_at_builtin; refine wpListIn_append_row _ rfl _ _ 38 rfl W0.heap.size 66 j0 _ 7 56 Try.underlying38 JI.out JZ0.out JZ1.out JZ2.out rfl (.slice ot pre.length ct) pre.length (ents pre) rfl (HV.out.rt.alloc _) _ 1 _ rfl (World.Src.one rfl rfl) S5.out S2.out S4.out (by have := HV.out.on.size; simp; omega) ?_; intro v1 w1 hown1 hout1; obtain ⟨o1, c1, rfl, q1, q2⟩ := hown1.form; have hm1 : w1.heap[rb]? = W.heap[rb]? := (hout1.block (k := rb) (by simp; omega) (fun e => by have := (HV.out.rt.lt rb e).1; omega)).trans (Below.heap_alloc _ _ _ bl); have p1 := (World.cell?_of_block (a := ⟨rb, 1, none⟩) hm1).trans b1; have p2 := fun j => (World.frozen?_of_block (a := ⟨rb, j, none⟩) hm1).trans (bz j); have p3 : rb < w1.heap.size := Nat.lt_of_lt_of_le (by simp; omega) hout1.size; have HS := Lib.hid (HV.out.step x hown1 hout1); clear hown1 hout1 q2 hm1)
      exact ⟨HS.out.2.2, HS.out.2.1, _, HS.out.1⟩
    case done =>
      rintro D xs W hD rfl ⟨vt, hV⟩ hK
      obtain ⟨ot, ct, rfl, _, _⟩ := hV.rt.form
      have HRUN := Lib.hid (HR.out.run HB.out hV rfl)
      obtain ⟨b0, b1, b2, b3, bz, bl⟩ := hV.facts
      have hcc : W.heap[w.heap.size]? = some (.cells #[.slice none 0 0, .slice none 0 0, .slice none 0 0, .slice none 0 0] 41 (0, 0)) := by
        have h1 := HR.out.ge
        have h2 := HR.out.on.size
        rw [hV.on.block w.heap.size (by omega) (by omega), HB.out.block w.heap.size (by omega), HR.out.on.block w.heap.size (by omega) (fun x => x)]
        exact hrc
      have HCC := Lib.hid hcc
      have HK := Lib.hid hK
      have hrne : rb ≠ w.heap.size := by have := HR.out.ge; omega
      have hrlc := (Array.getElem?_eq_some_iff.1 hcc).1
      have e0 : W.cell? ⟨w.heap.size, 0, none⟩ = some (.slice none 0 0) := by simp [World.cell?, hcc]
      have e1 : W.cell? ⟨w.heap.size, 1, none⟩ = some (.slice none 0 0) := by simp [World.cell?, hcc]
      have e2 : W.cell? ⟨w.heap.size, 2, none⟩ = some (.slice none 0 0) := by simp [World.cell?, hcc]
      have e3 : W.cell? ⟨w.heap.size, 3, none⟩ = some (.slice none 0 0) := by simp [World.cell?, hcc]
      have ez : ∀ j, W.frozen? ⟨w.heap.size, j, none⟩ = false := fun j => by simp [World.frozen?, hcc]
      have HV := Lib.hid hV
      clear hV hK hM hI0 hF bp bf hb0 hcc hrc HM
      refine hKK _ _ ?_
      have hD2 : D ≠ w.heap.size := by have := HR.out.on.size; omega
      have HDW := Lib.hid (show w.heap.size ≤ D by have := HR.out.on.size; omega)
      have HRL := Lib.hid (show (run0 w).heap.size = w.heap.size + 1 from hrge)
      have HLEN := Lib.hid (show (items st.d.mem.log 0 st.d.mem.log.length).length = st.d.mem.log.length by rw [items_len]; omega)
      clear HR
      go_wp2
      have hDD : ((((W.setCell ⟨w.heap.size, 0, none⟩ (.slice oa st.calls.length ca)).setCell ⟨w.heap.size, 1, none⟩ (.slice ot (items st.d.mem.log 0 st.d.mem.log.length).length ct)).setCell ⟨w.heap.size, 2, none⟩ (.slice ob st.d.shifts.length cb)).setCell ⟨w.heap.size, 3, none⟩ (.slice oc st.d.mem.words.length cc)).heap[D]? = some (.deferred (some [])) := by
        rw [Below.heap_setCell _ _ _ _ hD2, Below.heap_setCell _ _ _ _ hD2, Below.heap_setCell _ _ _ _ hD2, Below.heap_setCell _ _ _ _ hD2]
        exact HK.out
      refine ⟨by simp, .inl ⟨_, _, rfl, run_takeDeferred hDD, ?_⟩⟩
      have hL := fun (W' : World) hk h1 h2 h3 h4 => RunAt.left (w := w) (W' := W') HRUN.out.1 (by rw [HRL.out]; omega) (((Only.refl _ w).alloc _).trans HRUN.out.2 (fun _ x => x.elim)) HK.out HDW.out hk h1 h2 h3 h4
      refine ⟨.agg #[.slice oa st.calls.length ca, .slice ot (items st.d.mem.log 0 st.d.mem.log.length).length ct, .slice ob st.d.shifts.length cb, .slice oc st.d.mem.words.length cc], ?_, ⟨⟨.slice oa st.calls.length ca, .slice ot (items st.d.mem.log 0 st.d.mem.log.length).length ct, .slice ob st.d.shifts.length cb, .slice oc st.d.mem.words.length cc⟩, rfl, hL _ (fun k g1 g2 => (World.putObj_heap_other g2).trans ((Below.heap_setCell _ _ _ _ g1).trans ((Below.heap_setCell _ _ _ _ g1).trans ((Below.heap_setCell _ _ _ _ g1).trans (Below.heap_setCell _ _ _ _ g1))))) rfl rfl rfl (by simp [World.setCell])⟩⟩
      have hf : (((((W.setCell ⟨w.heap.size, 0, none⟩ (.slice oa st.calls.length ca)).setCell ⟨w.heap.size, 1, none⟩ (.slice ot (items st.d.mem.log 0 st.d.mem.log.length).length ct)).setCell ⟨w.heap.size, 2, none⟩ (.slice ob st.d.shifts.length cb)).setCell ⟨w.heap.size, 3, none⟩ (.slice oc st.d.mem.words.length cc)).putObj D (.deferred none)).heap[w.heap.size]? = some (.cells #[.slice oa st.calls.length ca, .slice ot (items st.d.mem.log 0 st.d.mem.log.length).length ct, .slice ob st.d.shifts.length cb, .slice oc st.d.mem.words.length cc] 41 (0, 0)) := by
        rw [World.putObj_heap_other (Ne.symm hD2)]
        simp [World.setCell, Array.getElem?_modify, HCC.out]
      clear hL hDD
      generalize (((((W.setCell ⟨w.heap.size, 0, none⟩ (.slice oa st.calls.length ca)).setCell ⟨w.heap.size, 1, none⟩ (.slice ot (items st.d.mem.log 0 st.d.mem.log.length).length ct)).setCell ⟨w.heap.size, 2, none⟩ (.slice ob st.d.shifts.length cb)).setCell ⟨w.heap.size, 3, none⟩ (.slice oc st.d.mem.words.length cc)).putObj D (.deferred none)) = Wf at hf ⊢
      have g0 : Wf.cell? ⟨w.heap.size, 0, none⟩ = some (.slice oa st.calls.length ca) := by simp [World.cell?, hf]
      have g1 : Wf.cell? ⟨w.heap.size, 1, none⟩ = some (.slice ot (items st.d.mem.log 0 st.d.mem.log.length).length ct) := by simp [World.cell?, hf]
      have g2 : Wf.cell? ⟨w.heap.size, 2, none⟩ = some (.slice ob st.d.shifts.length cb) := by simp [World.cell?, hf]
      have g3 : Wf.cell? ⟨w.heap.size, 3, none⟩ = some (.slice oc st.d.mem.words.length cc) := by simp [World.cell?, hf]
      simp [results, Try.results19, go_sem, g0, g1, g2, g3]
    case stop =>
      rintro D c ps W hD hp h hK
      exact h.elim
end Go.Proofs.Ytbhbpfpggfcpgaa
namespace Go
open Go.RowKit
theorem MachAt.app_seat {w w1 : World} {base xb : Nat} {st : MachS} {v : MachV} (H : MachAt w base xb st v) (hon : st.on = none) {v' : Value} {x : Seat} (hown : w1.RowV base 118 5 v' (st.seats.length + 1) (seatC st.seats ++ x.cells)) (ho : RowOut w w1 v.vse v' st.seats.length 1) :
    MachOut w base xb v { st with seats := st.seats ++ [x] } (w1.setCell ⟨xb, 8, none⟩ v') := by
  have hn : ∀ k, v'.rowBlock = some k → v.vse.rowBlock = some k ∨ k = w.heap.size := fun k hk => ho.news hk
  have hlt := H.lt
  have hx := hlt xb (.inl rfl)
  have hc2 : ∀ k, v.col k ≠ 3 → v.vse.rowBlock ≠ some k := fun k hk e => hk (H.ce k e)
  have e2 : ({ st with seats := st.seats ++ [x] } : MachS).seatsNow = st.seats ++ [x] := by unfold MachS.seatsNow; simp only [hon]
  have e3 : ({ st with seats := st.seats ++ [x] } : MachS).callsNow = st.callsNow := by unfold MachS.callsNow; simp only [hon]
  have hblk : w1.heap[xb]? = some (.cells #[.pointer (some ⟨v.mb, 0, none⟩), .int .i64 st.d.th, .int .i64 st.d.now, st.callC v, st.toldC v, .bool st.d.used, v.vsh, v.kit, v.vse, .int .i64 st.moves, v.vca] 100) := by
    rw [ho.block hx.2 (hc2 _ (by rw [H.cx]; decide))]; exact H.blk
  have hne : ∀ k, v'.rowBlock = some k → k ≠ xb := fun k hk e => by
    rcases hn k hk with h1 | h1
    · exact H.ne k h1 e
    · omega
  refine ⟨{ v with vse := v', col := fun k => if w.heap.size ≤ k then 3 else v.col k }, ⟨?_, H.ge, ?_, ?_, ?_, ?_, ?_, ?_, ?_, ?_, ?_⟩, ?_, ?_, rfl, rfl⟩
  · simp [World.setCell, Array.getElem?_modify, hblk]
    unfold MachS.callC MachS.toldC
    simp only [hon]
    exact ⟨trivial, trivial⟩
  · exact (ho.mem H.mem (fun k hk => hc2 k (by rw [H.cm k hk]; decide))).set_other H.nm _
  · exact (ho.kept H.rsh (fun k hk => hc2 k (by rw [H.cs k hk]; decide))).set H.ns _
  · rw [e2, seatC_snoc, List.length_append]
    exact hown.set hne _
  · rw [e3]; exact (ho.kept H.rca (fun k hk => hc2 k (by rw [H.cc k hk]; decide))).set H.nc _
  · show (if _ then _ else _) = _
    rw [if_neg (by omega)]; exact H.cx
  · intro k e
    show (if _ then _ else _) = _
    rw [if_neg (by have := (H.mem.lt k e).2; omega)]; exact H.cm k e
  · intro k e
    show (if _ then _ else _) = _
    rw [if_neg (by have := (H.rsh.lt k e).2; omega)]; exact H.cs k e
  · intro k e
    show (if _ then _ else _) = _
    split
    · rfl
    · rcases hn k e with h1 | h1
      · exact H.ce k h1
      · omega
  · intro k e
    show (if _ then _ else _) = _
    rw [if_neg (by have := (H.rca.lt k e).2; omega)]; exact H.cc k e
  · exact (Only.out ho (fun k hk => .inr (.inr (.inr (.inl hk))))).set (.inl (.inl rfl)) _
  · rintro k (e | e | e | e | e)
    · exact .inl (.inl e)
    · exact .inl (.inr (.inl e))
    · exact .inl (.inr (.inr (.inl e)))
    · rcases hn k e with h1 | h1
      · exact .inl (.inr (.inr (.inr (.inl h1))))
      · exact .inr (by omega)
    · exact .inl (.inr (.inr (.inr (.inr e))))
/-- a new machine with k seats -/
def newS (l : List Int) (k : Nat) : MachS := { d := ⟨⟨l, [], [], 0⟩, [], false, 0, 0, 0, 0, 0⟩, on := none, seats := List.replicate k ⟨.nilIface, false, -1, 0, 0⟩, moves := 0, calls := [] }
def NewAt (w : World) (kit : Value) (l : List Int) (k xb : Nat) (wr : World) : Prop := ∃ v, MachAt wr w.heap.size xb (newS l k) v ∧ Only (fun _ => False) w wr ∧ v.kit = kit
theorem Only.own {F : Nat → Prop} {w wr w1 : World} (h : Only (fun _ => False) w wr) (k : Only F wr w1) (hF : ∀ i, F i → w.heap.size ≤ i) : Only (fun _ => False) w w1 :=
  h.trans k (fun i hi => .inr (hF i hi))
end Go
namespace Go.Proofs.Ytbhbpfpggfcpgaa
open Go.ChangeShapes Go.WideShapes Go.ChangeAt Go.RowKit

theorem infoSeat : (Try.prog.info? 118).map (fun i => (i.zero, i.size, i.bytes)) = some (some (.agg #[.nilIface, .bool false, .int .i64 0, .int .i64 0, .int .i64 0]), 5, 48) := by kernel_rfl

theorem newm_bad {w : World} (n : Int) (vx kit : Value) (hn : n < 1 ∨ 16 < n) : Calls Try.prog 15 #[.int .i64 n, vx, kit] w fun e w' => e = .returned (.tuple #[.pointer none, .int .i64 1]) ∧ w = w' := by
  rcases hn with hn | hn
  · go_enter Try.func15, Try.ntmps15
    go_wp2
    go_ret2
    exact ⟨rfl, rfl⟩
  · have hn2 : decide (n < 1) = false := by simp; omega
    go_enter Try.func15, Try.ntmps15
    go_wp2
    go_ret2
    exact ⟨rfl, rfl⟩
theorem newm_long {w : World} (n : Int) (o : Option Addr) (m c : Nat) (kit : Value) (h1 : 1 ≤ n) (h16 : n ≤ 16) (hm : 8192 < m) (hm2 : m ≤ 9223372036854775807) : Calls Try.prog 15 #[.int .i64 n, .slice o m c, kit] w fun e w' => e = .returned (.tuple #[.pointer none, .int .i64 3]) ∧ w = w' := by
  have HL := Lib.hid (new_long (w := w) o m c hm hm2)
  have hn2 : decide (n < 1) = false := by simp; omega
  clear hm hm2
  go_enter Try.func15, Try.ntmps15
  go_wp2_with (go_at_call 49; refine HL.out.mono ?_; rintro e w1 ⟨rfl, rfl⟩)
  go_ret2
  exact ⟨rfl, rfl⟩

/-- what New leaves -/
def NewRes (w : World) (kit : Value) (l : List Int) (n : Nat) (e : Ending) (w' : World) : Prop := ∃ xb, e = .returned (.tuple #[.pointer (some ⟨xb, 0, none⟩), .int .i64 0]) ∧ NewAt w kit l n xb w'

set_option maxRecDepth 100000 in
set_option maxHeartbeats 2000000 in
theorem newm_ok {w : World} (n : Nat) {vx : Value} {km : Option Nat} {l : List Int} (hs : w.Src 1 vx l.length (u64s l)) (hl : l.length ≤ 8192) (h1 : 1 ≤ n) (h16 : n ≤ 16) :
    Calls Try.prog 15 #[.int .i64 (n : Int), vx, .map km] w (NewRes w (.map km) l n) := by
  have HN := Lib.hid (new_ok hs hl)
  have hn2 : decide ((n : Int) < 1) = false := by simp; omega
  obtain ⟨i0, ii, iz0, iz1, iz2⟩ := info_parts infoSeat
  have HII := Lib.hid ii
  have HZ0 := Lib.hid iz0
  have HZ1 := Lib.hid iz1
  have HZ2 := Lib.hid iz2
  have S1 := Lib.hid (show ∀ u ∈ [Value.nilIface, .bool false, .int .i64 (-1), .int .i64 0, .int .i64 0], u.oneCell' = true by simp [Value.oneCell'])
  clear hs ii iz0 iz1 iz2
  go_enter Try.func15, Try.ntmps15
  go_wp2_with (go_at_call 49; refine HN.out.mono ?_; rintro e w1 ⟨mb, mv, rfl, hm, ho⟩; have HM := Lib.hid hm; have HO := Lib.hid ho; clear hm ho)
  go_loopg [31] n (fun g sl wr => ∃ k : Nat, k ≤ n ∧ n ≤ k + g ∧ sl = .int .i64 (k : Int) ∧ Hid (NewAt w (.map km) l k w1.heap.size wr))
  case atStart =>
    refine ⟨0, by omega, by omega, by go_num, Lib.hid ?_⟩
    have hlt := HM.out.lt
    have hsz := HO.out.size
    refine ⟨⟨mb, mv, .slice none 0 0, .slice none 0 0, .slice none 0 0, .map km, fun k => if k = w1.heap.size then 0 else 1⟩, ⟨heap_alloc_new w1 _, hsz, HM.out.alloc _, World.RowV_none _ _ _ _ _, World.RowV_none _ _ _ _ _, World.RowV_none _ _ _ _ _, by simp, ?_, by simp [Value.rowBlock], by simp [Value.rowBlock], by simp [Value.rowBlock]⟩, HO.out.alloc _, rfl⟩
    intro k hk
    have := (hlt k hk).2
    simp; omega
  case round =>
    obtain ⟨k, hk1, hk2, rfl, hN⟩ := hrel
    by_cases hlt : k < n
    · obtain ⟨v, hA, hO, hKi⟩ := hN.out
      obtain ⟨c0, c1, c2, c3, c4, c5, c6, c7, c8, c9, c10, z, lt⟩ := hA.head
      have S2 := Lib.hid (show (newS l k).seats.length + 1 ≤ maxLen by simp [newS, maxLen]; omega)
      have S3 := Lib.hid (show (((newS l k).seats.length + 1) + ((newS l k).seats.length + 1) / 4 + 192) * 48 ≤ 281474976710656 by simp [newS]; omega)
      have HA := Lib.hid hA
      have HOO := Lib.hid hO
      have HKi := Lib.hid hKi
      have hnx : v.vse.rowBlock ≠ some w1.heap.size := fun e => HA.out.ne _ e rfl
      clear c0 c1 c2 c3 c4 c5 c6 c7 c9 c10 hA hO hKi hN
      go_wp2_with (at_builtin; refine wpList_append_row _ rfl _ _ 98 rfl w.heap.size 118 i0 _ 5 48 Try.underlying98 HII.out HZ0.out HZ1.out HZ2.out rfl v.vse (newS l k).seats.length (seatC (newS l k).seats) rfl (HA.out.rse.alloc _) _ 1 _ rfl (World.Src.one rfl rfl) S1.out S2.out S3.out (by have := HA.out.base_le; simp; omega) ?_; intro v' w3 hown hout; obtain ⟨o', c', rfl, hn', hm'⟩ := hown.form; have hx3 := hout.block (k := w1.heap.size) (by have := lt; simp; omega) hnx; have r8 : w3.cell? ⟨w1.heap.size, 8, none⟩ = some v.vse := (World.cell?_of_block hx3).trans (HA.out.alloc _).head.2.2.2.2.2.2.2.2.1; have rz : ∀ j, w3.frozen? ⟨w1.heap.size, j, none⟩ = false := fun j => (World.frozen?_of_block hx3).trans ((HA.out.alloc _).head.2.2.2.2.2.2.2.2.2.2.2.1 j); have rlt : w1.heap.size < w3.heap.size := Nat.lt_of_lt_of_le (by have := lt; simp; omega) hout.size; have HWN := Lib.hid hown; have HOU := Lib.hid hout; clear hown hout hm' hx3)
      go_roundg (n - (k + 1))
      case measure => omega
      case rel =>
        refine ⟨k + 1, by omega, by omega, by go_num, Lib.hid ?_⟩
        obtain ⟨v4, k1, k2, k3, e3, e4⟩ := MachAt.app_seat (x := ⟨.nilIface, false, -1, 0, 0⟩) (HA.out.alloc _) rfl HWN.out HOU.out
        refine ⟨v4, ?_, ?_, by rw [e4]; exact HKi.out⟩
        · have : (newS l (k + 1)) = { newS l k with seats := (newS l k).seats ++ [⟨.nilIface, false, -1, 0, 0⟩] } := by unfold newS; rw [List.replicate_succ']
          rw [this]
          exact k1
        · exact (HOO.out.alloc _).own k2 (fun i hi => (HA.out.lt i hi).1)
    · obtain rfl : k = n := by omega
      go_wp2
      go_ret2
      exact ⟨_, rfl, hN.out⟩
end Go.Proofs.Ytbhbpfpggfcpgaa
namespace Go
open Go.RowKit
/-- a step that tells: point, answer -/
def DeskS.tell (d : DeskS) (x : Int) : DeskS := { d with pt := d.now, ak := 2, av := wrap64 x }
end Go
namespace Go.Proofs.Ytbhbpfpggfcpgaa
open Go.ChangeShapes Go.WideShapes Go.ChangeAt Go.RowKit

theorem there_any {w : World} {sb : Nat} {size : Int} (c0 : w.cell? ⟨sb, 0, none⟩ = some (.int .i64 size)) (_z : w.frozen? ⟨sb, 0, none⟩ = false) (a : Int) : Calls Try.prog 50 #[.int .i64 a, .pointer (some ⟨sb, 0, none⟩)] w fun e w' =>
    e = .returned (.bool (decide (0 ≤ a) && decide (a < size))) ∧ w = w' := by
  by_cases h0 : 0 ≤ a
  all_goals
    go_enter Try.func50, Try.ntmps50
    go_wp2
    go_ret
    exact ⟨ret_bool (by rw [Bool.eq_iff_iff]; simp <;> omega), rfl⟩

/-- what a maker of the own kit leaves -/
def OwnMade (w : World) (ok : Bool) (T : TypeId) (o : Obj) (e : Ending) (w' : World) : Prop :=
  (ok = false ∧ e = .returned .nilIface ∧ Only (fun _ => False) w w') ∨ (ok = true ∧ ∃ k, w.heap.size ≤ k ∧ e = .returned (.iface T (.pointer (some ⟨k, 0, none⟩))) ∧ w'.heap[k]? = some o ∧ Only (fun _ => False) w w')

theorem look_make {w : World} {sb tb : Nat} {size : Int} (c0 : w.cell? ⟨sb, 0, none⟩ = some (.int .i64 size)) (z : w.frozen? ⟨sb, 0, none⟩ = false) (lt : sb < w.heap.size)
    (t0 : w.cell? ⟨tb, 0, none⟩ = some (.func (.func 50) #[] #[.pointer (some ⟨sb, 0, none⟩)])) (_tz : w.frozen? ⟨tb, 0, none⟩ = false) (tlt : tb < w.heap.size) (mv : Mv) :
    Calls Try.prog 51 #[.int .i64 mv.th, mv.v, .pointer (some ⟨tb, 0, none⟩)] w (OwnMade w (decide (0 ≤ mv.arg) && decide (mv.arg < size)) 119 (.cells #[.int .i64 mv.arg] 121)) := by
  obtain ⟨a0, a1, a2, a3⟩ := mv
  unfold Mv.v
  obtain ⟨ok, hok⟩ : ∃ ok, Hid ((decide (0 ≤ a2) && decide (a2 < size)) = ok) := ⟨_, Lib.hid rfl⟩
  simp only
  rw [hok.out]
  have HT := Lib.hid (there_any (w := w.alloc (.cells #[.int .i64 a0, .int .i64 a1, .int .i64 a2, .int .i64 a3] 34)) (sb := sb) (size := size) (by rw [World.cell?_alloc_ite, if_neg (by omega)]; exact c0) (by rw [World.frozen?_alloc_ite, if_neg (by omega)]; exact z) a2)
  rw [hok.out] at HT
  cases ok with
  | false =>
    go_enter Try.func51, Try.ntmps51
    go_wp2_with (go_at_call 50; refine HT.out.mono ?_; rintro e w1 ⟨rfl, rfl⟩)
    go_ret
    exact .inl ⟨rfl, rfl, (Only.refl _ _).alloc _⟩
  | true =>
    go_enter Try.func51, Try.ntmps51
    go_wp2_with (go_at_call 50; refine HT.out.mono ?_; rintro e w1 ⟨rfl, rfl⟩)
    go_ret
    exact .inr ⟨rfl, _, by simp, rfl, by have := heap_alloc_new (w.alloc (.cells #[.int .i64 a0, .int .i64 a1, .int .i64 a2, .int .i64 a3] 34)) (.cells #[.int .i64 a2] 121); simpa using this, ((Only.refl _ _).alloc _).alloc _⟩
theorem bump_make {w : World} {sb tb : Nat} {size : Int} (c0 : w.cell? ⟨sb, 0, none⟩ = some (.int .i64 size)) (z : w.frozen? ⟨sb, 0, none⟩ = false) (lt : sb < w.heap.size)
    (t0 : w.cell? ⟨tb, 0, none⟩ = some (.func (.func 50) #[] #[.pointer (some ⟨sb, 0, none⟩)])) (_tz : w.frozen? ⟨tb, 0, none⟩ = false) (tlt : tb < w.heap.size) (mv : Mv) :
    Calls Try.prog 52 #[.int .i64 mv.th, mv.v, .pointer (some ⟨tb, 0, none⟩)] w (OwnMade w (decide (0 ≤ mv.arg) && decide (mv.arg < size)) 123 (.cells #[.int .i64 mv.arg, .int .u64 0, .bool false] 125)) := by
  obtain ⟨a0, a1, a2, a3⟩ := mv
  unfold Mv.v
  obtain ⟨ok, hok⟩ : ∃ ok, Hid ((decide (0 ≤ a2) && decide (a2 < size)) = ok) := ⟨_, Lib.hid rfl⟩
  simp only
  rw [hok.out]
  have HT := Lib.hid (there_any (w := w.alloc (.cells #[.int .i64 a0, .int .i64 a1, .int .i64 a2, .int .i64 a3] 34)) (sb := sb) (size := size) (by rw [World.cell?_alloc_ite, if_neg (by omega)]; exact c0) (by rw [World.frozen?_alloc_ite, if_neg (by omega)]; exact z) a2)
  rw [hok.out] at HT
  cases ok with
  | false =>
    go_enter Try.func52, Try.ntmps52
    go_wp2_with (go_at_call 50; refine HT.out.mono ?_; rintro e w1 ⟨rfl, rfl⟩)
    go_ret
    exact .inl ⟨rfl, rfl, (Only.refl _ _).alloc _⟩
  | true =>
    go_enter Try.func52, Try.ntmps52
    go_wp2_with (go_at_call 50; refine HT.out.mono ?_; rintro e w1 ⟨rfl, rfl⟩)
    go_ret
    exact .inr ⟨rfl, _, by simp, rfl, by have := heap_alloc_new (w.alloc (.cells #[.int .i64 a0, .int .i64 a1, .int .i64 a2, .int .i64 a3] 34)) (.cells #[.int .i64 a2, .int .u64 0, .bool false] 125); simpa using this, ((Only.refl _ _).alloc _).alloc _⟩

theorem lready_any (p : Value) (q : Value) (w : World) : Calls Try.prog 107 #[p, q] w fun e w' => e = .returned (.bool false) ∧ w = w' := by
  go_enter Try.func107, Try.ntmps107
  go_wp2
  go_ret
  exact ⟨rfl, rfl⟩
theorem bready_any (p : Value) (q : Value) (w : World) : Calls Try.prog 109 #[p, q] w fun e w' => e = .returned (.bool false) ∧ w = w' := by
  go_enter Try.func109, Try.ntmps109
  go_wp2
  go_ret
  exact ⟨rfl, rfl⟩



set_option maxHeartbeats 1000000 in
theorem lstep_any {w : World} {base xb db k ci si : Nat} {st : MachS} {v : MachV} (H : MachAt w base xb st v) (D : DeskBox w xb db) (O : st.On ci si) (hd : ¬ v.own xb db) (hf : st.d.Fits) (a : Int) (hk : w.heap[k]? = some (.cells #[.int .i64 a] 121)) :
    Calls Try.prog 108 #[.pointer (some ⟨k, 0, none⟩), .pointer (some ⟨db, 0, none⟩)] w fun e w' => e = .returned (.bool true) ∧ DeskOut w base xb v { st with d := (st.d.load a).tell (st.d.word a) } w' := by
  have k0 : w.cell? ⟨k, 0, none⟩ = some (.int .i64 a) := by simp [World.cell?, hk]
  have HL := Lib.hid (dload_any H D hd hf a)
  have HD := Lib.hid D
  have Hd := Lib.hid hd
  have HO := Lib.hid O
  clear H D hd hf O
  go_enter Try.func108, Try.ntmps108
  go_wp2_with (first
    | (go_at_call 47; refine HL.out.mono ?_; rintro e w1 ⟨rfl, hs⟩; obtain ⟨v1, hs1⟩ := hs.step; have D1 := Lib.hid (HD.out.only hs1.only Hd.out); have n1 := Lib.hid (hs1.not_own Hd.out HD.out.facts.2.2); have HN := Lib.hid (dnow_any hs1.at' D1.out); have HP := Lib.hid (dpoint_any hs1.at' D1.out (ci := ci) (si := si) ⟨HO.out.on, HO.out.c, HO.out.s⟩ (st.d.load a).now); have HX := Lib.hid hs1; clear hs hs1)
    | (go_at_call 46; refine HN.out.mono ?_; rintro e w2 ⟨rfl, rfl⟩)
    | (go_at_call 43; refine HP.out.mono ?_; rintro e w3 ⟨rfl, hs⟩; obtain ⟨v2, hs2⟩ := hs.step; have D2 := Lib.hid (D1.out.only hs2.only n1.out); have HA := Lib.hid (danswer_any hs2.at' D2.out (ci := ci) (si := si) ⟨HO.out.on, HO.out.c, HO.out.s⟩ 2 (wrap64 (st.d.word a))); have HY := Lib.hid hs2; clear hs hs2)
    | (go_at_call 44; refine HA.out.mono ?_; rintro e w4 ⟨rfl, hs⟩; have HZ := Lib.hid hs; clear hs))
  go_ret
  exact ⟨rfl, HX.out.then (HY.out.then HZ.out)⟩

/-- what a bump's step leaves: the desk's part, then its own two cells -/
def BumpOut (w : World) (base xb k : Nat) (v : MachV) (st' : MachS) (a saw : Int) (ld over : Bool) (e : Ending) (w' : World) : Prop :=
  e = .returned (.bool over) ∧ ∃ v', MachAt w' base xb st' v' ∧ Only (fun i => v.own xb i ∨ i = k) w w' ∧ (∀ i, v'.own xb i → v.own xb i ∨ w.heap.size ≤ i) ∧ v'.vse = v.vse ∧ v'.vca = v.vca ∧ v'.mb = v.mb ∧ v'.kit = v.kit ∧
    w'.heap[k]? = some (.cells #[.int .i64 a, .int .u64 saw, .bool ld] 125)

set_option maxHeartbeats 1000000 in
theorem bstep_load {w : World} {base xb db k : Nat} {st : MachS} {v : MachV} (H : MachAt w base xb st v) (D : DeskBox w xb db) (hd : ¬ v.own xb db) (hf : st.d.Fits) (a saw : Int) (hk : w.heap[k]? = some (.cells #[.int .i64 a, .int .u64 saw, .bool false] 125)) (hkv : ¬ v.own xb k) :
    Calls Try.prog 110 #[.pointer (some ⟨k, 0, none⟩), .pointer (some ⟨db, 0, none⟩)] w (BumpOut w base xb k v { st with d := st.d.load a } a (st.d.word a) true false) := by
  have k0 : w.cell? ⟨k, 0, none⟩ = some (.int .i64 a) := by simp [World.cell?, hk]
  have k2 : w.cell? ⟨k, 2, none⟩ = some (.bool false) := by simp [World.cell?, hk]
  have klt : k < w.heap.size := (Array.getElem?_eq_some_iff.1 hk).1
  have HL := Lib.hid (dload_any H D hd hf a)
  have HK := Lib.hid hk
  have HV := Lib.hid hkv
  clear H D hd hf hk hkv
  go_enter Try.func110, Try.ntmps110
  go_wp2_with (go_at_call 47; refine HL.out.mono ?_; rintro e w1 ⟨rfl, hs⟩; obtain ⟨v1, hs1⟩ := hs.step; have hk1 := (hs1.only.block k klt HV.out).trans HK.out; have q1 : w1.cell? ⟨k, 1, none⟩ = some (.int .u64 saw) := (by simp [World.cell?, hk1]); have q2 : w1.cell? ⟨k, 2, none⟩ = some (.bool false) := (by simp [World.cell?, hk1]); have qz : ∀ j, w1.frozen? ⟨k, j, none⟩ = false := fun j => (by simp [World.frozen?, hk1]); have qlt : k < w1.heap.size := (Array.getElem?_eq_some_iff.1 hk1).1; have HX := Lib.hid hs1; have HK1 := Lib.hid hk1; clear hs hs1 hk1)
  go_ret
  have hn1 := HX.out.not_own HV.out klt
  refine ⟨rfl, v1, (HX.out.at'.set_other hn1 _).set_other hn1 _, ?_, HX.out.own, HX.out.vse, HX.out.vca, HX.out.mb, HX.out.kit, ?_⟩
  · exact ((HX.out.only.mono (fun i _ hi => .inl hi)).set (.inl (.inr rfl)) _).set (.inl (.inr rfl)) _
  · simp [World.setCell, Array.getElem?_modify, HK1.out]

set_option maxRecDepth 100000 in
set_option maxHeartbeats 1000000 in
theorem bstep_fail {w : World} {base xb db k : Nat} {st : MachS} {v : MachV} (H : MachAt w base xb st v) (D : DeskBox w xb db) (hd : ¬ v.own xb db) (hf : st.d.Fits) (a saw : Int) (hk : w.heap[k]? = some (.cells #[.int .i64 a, .int .u64 saw, .bool true] 125)) (hkv : ¬ v.own xb k)
    (hsw : st.d.swaps a saw = false) :
    Calls Try.prog 110 #[.pointer (some ⟨k, 0, none⟩), .pointer (some ⟨db, 0, none⟩)] w (BumpOut w base xb k v { st with d := st.d.swap a saw (IntKind.u64.wrap (saw + 1)) } a saw false false) := by
  have k0 : w.cell? ⟨k, 0, none⟩ = some (.int .i64 a) := by simp [World.cell?, hk]
  have k1 : w.cell? ⟨k, 1, none⟩ = some (.int .u64 saw) := by simp [World.cell?, hk]
  have k2 : w.cell? ⟨k, 2, none⟩ = some (.bool true) := by simp [World.cell?, hk]
  have klt : k < w.heap.size := (Array.getElem?_eq_some_iff.1 hk).1
  have HL := Lib.hid (dswap_any H.drew (D.of_block rfl) hd hf a saw (IntKind.u64.wrap (saw + 1)))
  rw [hsw] at HL
  have HK := Lib.hid hk
  have HV := Lib.hid hkv
  have f0 := fun g : LaterF (v.own xb) w => g.cell k0 klt hkv
  have f1 := fun g : LaterF (v.own xb) w => g.cell k1 klt hkv
  clear H D hd hf hk hsw hkv
  go_enter Try.func110, Try.ntmps110
  go_wp2
  refine wp_region_steps (fun wz => ∃ g : LaterF (v.own xb) w, wz = g.W) [14] (by kernel_rfl) (by kernel_rfl) (laterF_in (Only.drew (Only.refl _ _))) ?_
  simp only [cutSteps, List.take_succ_cons, List.take_zero, List.drop_succ_cons, List.drop_zero, wpSteps]
  repeat (first | go_big_quiet_skip | (go_big_quiet_want; go_big_quiet_op; go_big_quiet_on))
  refine wpQuiet_nil ?_
  go_wp2_with (go_at_call 48; refine HL.out.mono ?_; rintro e w1 ⟨rfl, hs⟩; obtain ⟨v1, hs1⟩ := (DeskOut.pre (w0 := w) (Only.drew (Only.refl _ _)) hs).step; have HX := Lib.hid hs1; clear hs hs1)
  try unfold Strict
  refine ⟨?_, ?_⟩
  · exact laterF_in HX.out.only
  repeat (first | go_big_quiet_skip | (go_big_quiet_want; go_big_quiet_op; go_big_quiet_on))
  refine wpQuiet_nil ?_
  have hk1 := (HX.out.only.block k klt HV.out).trans HK.out
  have q2 : w1.cell? ⟨k, 2, none⟩ = some (.bool true) := by simp [World.cell?, hk1]
  have qz : ∀ j, w1.frozen? ⟨k, j, none⟩ = false := fun j => by simp [World.frozen?, hk1]
  have qlt : k < w1.heap.size := (Array.getElem?_eq_some_iff.1 hk1).1
  have HK1 := Lib.hid hk1
  clear f0 f1 hk1
  go_wp2
  go_ret
  have hn1 := HX.out.not_own HV.out klt
  refine ⟨rfl, v1, HX.out.at'.set_other hn1 _, ?_, HX.out.own, HX.out.vse, HX.out.vca, HX.out.mb, HX.out.kit, ?_⟩
  · exact (HX.out.only.mono (fun i _ hi => .inl hi)).set (.inl (.inr rfl)) _
  · simp [World.setCell, Array.getElem?_modify, HK1.out]

set_option maxRecDepth 100000 in
set_option maxHeartbeats 1000000 in
theorem bstep_ok {w : World} {base xb db k ci si : Nat} {st : MachS} {v : MachV} (H : MachAt w base xb st v) (D : DeskBox w xb db) (O : st.On ci si) (hd : ¬ v.own xb db) (hf : st.d.Fits) (a saw : Int) (hk : w.heap[k]? = some (.cells #[.int .i64 a, .int .u64 saw, .bool true] 125)) (hkv : ¬ v.own xb k)
    (hsw : st.d.swaps a saw = true) :
    Calls Try.prog 110 #[.pointer (some ⟨k, 0, none⟩), .pointer (some ⟨db, 0, none⟩)] w (BumpOut w base xb k v { st with d := (st.d.swap a saw (IntKind.u64.wrap (saw + 1))).tell saw } a saw true true) := by
  have k0 : w.cell? ⟨k, 0, none⟩ = some (.int .i64 a) := by simp [World.cell?, hk]
  have k1 : w.cell? ⟨k, 1, none⟩ = some (.int .u64 saw) := by simp [World.cell?, hk]
  have k2 : w.cell? ⟨k, 2, none⟩ = some (.bool true) := by simp [World.cell?, hk]
  have klt : k < w.heap.size := (Array.getElem?_eq_some_iff.1 hk).1
  have HL := Lib.hid (dswap_any H.drew (D.of_block rfl) hd hf a saw (IntKind.u64.wrap (saw + 1)))
  rw [hsw] at HL
  have HK := Lib.hid hk
  have HV := Lib.hid hkv
  have HD := Lib.hid D
  have Hd := Lib.hid hd
  have HO := Lib.hid O
  have f0 := fun g : LaterF (v.own xb) w => g.cell k0 klt hkv
  have f1 := fun g : LaterF (v.own xb) w => g.cell k1 klt hkv
  clear H D hd hf hk hsw hkv O
  go_enter Try.func110, Try.ntmps110
  go_wp2
  refine wp_region_steps (fun wz => ∃ g : LaterF (v.own xb) w, wz = g.W) [14] (by kernel_rfl) (by kernel_rfl) (laterF_in (Only.drew (Only.refl _ _))) ?_
  simp only [cutSteps, List.take_succ_cons, List.take_zero, List.drop_succ_cons, List.drop_zero, wpSteps]
  repeat (first | go_big_quiet_skip | (go_big_quiet_want; go_big_quiet_op; go_big_quiet_on))
  refine wpQuiet_nil ?_
  go_wp2_with (go_at_call 48; refine HL.out.mono ?_; rintro e w1 ⟨rfl, hs⟩; obtain ⟨v1, hs1⟩ := (DeskOut.pre (w0 := w) (Only.drew (Only.refl _ _)) hs).step; have HX := Lib.hid hs1; clear hs hs1)
  try unfold Strict
  refine ⟨?_, ?_⟩
  · exact laterF_in HX.out.only
  repeat (first | go_big_quiet_skip | (go_big_quiet_want; go_big_quiet_op; go_big_quiet_on))
  refine wpQuiet_nil ?_
  have hk1 := (HX.out.only.block k klt HV.out).trans HK.out
  have q1 : w1.cell? ⟨k, 1, none⟩ = some (.int .u64 saw) := by simp [World.cell?, hk1]
  have D1 := Lib.hid (HD.out.only HX.out.only Hd.out)
  have n1 := Lib.hid (HX.out.not_own Hd.out HD.out.facts.2.2)
  have m1 := Lib.hid (HX.out.not_own HV.out klt)
  have HN := Lib.hid (dnow_any HX.out.at' D1.out)
  have HP := Lib.hid (dpoint_any HX.out.at' D1.out (ci := ci) (si := si) ⟨HO.out.on, HO.out.c, HO.out.s⟩ (st.d.swap a saw (IntKind.u64.wrap (saw + 1))).now)
  have HK1 := Lib.hid hk1
  clear f0 f1 hk1
  go_wp2_with (first
    | (go_at_call 46; refine HN.out.mono ?_; rintro e w2 ⟨rfl, rfl⟩)
    | (go_at_call 43; refine HP.out.mono ?_; rintro e w3 ⟨rfl, hs⟩; obtain ⟨v2, hs2⟩ := hs.step; have D2 := Lib.hid (D1.out.only hs2.only n1.out); have HA := Lib.hid (danswer_any hs2.at' D2.out (ci := ci) (si := si) ⟨HO.out.on, HO.out.c, HO.out.s⟩ 2 (wrap64 saw)); have hk2 := (hs2.only.block k (Array.getElem?_eq_some_iff.1 HK1.out).1 m1.out).trans HK1.out; have q12 : w3.cell? ⟨k, 1, none⟩ = some (.int .u64 saw) := (by simp [World.cell?, hk2]); have HY := Lib.hid hs2; have HK2 := Lib.hid hk2; clear hs hs2 hk2)
    | (go_at_call 44; refine HA.out.mono ?_; rintro e w4 ⟨rfl, hs⟩; have HZ := Lib.hid hs; clear hs))
  go_ret
  have hall := (HX.out.then (HY.out.then HZ.out))
  obtain ⟨v4, hs4⟩ := hall.step
  refine ⟨rfl, v4, hs4.at', hs4.only.mono (fun i _ hi => .inl hi), hs4.own, hs4.vse, hs4.vca, hs4.mb, hs4.kit, ?_⟩
  exact (hs4.only.block k klt HV.out).trans HK.out
end Go.Proofs.Ytbhbpfpggfcpgaa
namespace Go
open Go.RowKit Go.ChangeMaps

/-- every key is a whole number -/
def IntKeys (es : List MapEntry) : Prop := ∀ e ∈ es, ∃ k, e.key = .int .i64 k
def isKey : Value → Int → Bool
  | .int .i64 k, op => k == op
  | _, _ => false
theorem isKey_int (k op : Int) : isKey (.int .i64 k) op = (k == op) := rfl
theorem isKey_eq {v : Value} {op : Int} (h : isKey v op = true) : v = .int .i64 op := by
  unfold isKey at h
  split at h
  · rw [eq_of_beq h]
  · cases h
def intAt : List MapEntry → Int → Nat → Option (Nat × Value)
  | [], _, _ => none
  | e :: es, op, i => if isKey e.key op = true then some (i, e.val) else intAt es op (i + 1)
theorem IntKeys.tail {e : MapEntry} {es : List MapEntry} (h : IntKeys (e :: es)) : IntKeys es := fun x hx => h x (List.mem_cons_of_mem _ hx)
theorem findNow_int {es : List MapEntry} (h : IntKeys es) (op : Int) (i : Nat) : Instr.findNow (.int .i64) (.int .i64 op) es i = some (intAt es op i) := by
  induction es generalizing i with
  | nil => rfl
  | cons e es ih =>
    obtain ⟨k, hk⟩ := h e (List.mem_cons_self ..)
    simp only [Instr.findNow, Instr.sameNow, hk, intAt, if_true, isKey_int]
    by_cases e1 : op = k
    · subst e1; simp
    · have e2 : ¬ k = op := fun x => e1 x.symm
      simp only [beq_eq_false_iff_ne.2 e1, beq_eq_false_iff_ne.2 e2, Bool.false_eq_true, if_false]
      exact ih h.tail _
theorem intAt_some {es : List MapEntry} {op : Int} {j i : Nat} {y : Value} (h : intAt es op j = some (i, y)) : j ≤ i ∧ i < j + es.length ∧ ∃ e, es[i - j]? = some e ∧ e.key = .int .i64 op := by
  induction es generalizing j with
  | nil => cases h
  | cons e es ih =>
    unfold intAt at h
    split at h
    · rename_i hk
      cases h
      exact ⟨Nat.le_refl _, by simp, e, by simp, isKey_eq hk⟩
    · obtain ⟨h1, h2, e', h3, h4⟩ := ih h
      refine ⟨by omega, by simp only [List.length_cons]; omega, e', ?_, h4⟩
      rw [show i - j = (i - (j + 1)) + 1 by omega, List.getElem?_cons_succ]
      exact h3
/-- where it stands does not matter -/
theorem intAt_val (es : List MapEntry) (op : Int) (i j : Nat) : (intAt es op i).map (·.2) = (intAt es op j).map (·.2) := by
  induction es generalizing i j with
  | nil => rfl
  | cons e es ih =>
    unfold intAt
    split
    · rfl
    · exact ih _ _
theorem intAt_modify {es : List MapEntry} {op : Int} {j i : Nat} {y : Value} (v : Value) (h : intAt es op j = some (i, y)) (op' : Int) (m : Nat) :
    (intAt (es.modify (i - j) fun e => { e with key := .int .i64 op, val := v }) op' m).map (·.2) = if op' = op then some v else (intAt es op' m).map (·.2) := by
  induction es generalizing j m with
  | nil => cases h
  | cons e es ih =>
    unfold intAt at h
    split at h
    · rename_i hk
      cases h
      rw [Nat.sub_self, List.modify_zero_cons]
      simp only [intAt, isKey_int, isKey_eq hk]
      by_cases e1 : op' = op
      · subst e1; simp
      · have e2 : ¬ op = op' := fun x => e1 x.symm
        simp [e1, e2]
    · rename_i hk
      have hlt := (intAt_some h).1
      rw [show i - j = (i - (j + 1)) + 1 by omega, List.modify_succ_cons]
      unfold intAt
      split
      · rename_i hk2
        have e1 : ¬ op' = op := fun x => hk (by rw [← x]; exact hk2)
        rw [if_neg e1]
      · exact ih h _
theorem intAt_push {es : List MapEntry} {op : Int} {j : Nat} (v : Value) (c : Nat) (h : intAt es op j = none) (op' : Int) (m : Nat) :
    (intAt (es ++ [⟨.int .i64 op, v, c⟩]) op' m).map (·.2) = if op' = op then some v else (intAt es op' m).map (·.2) := by
  induction es generalizing j m with
  | nil =>
    simp only [List.nil_append, intAt, isKey_int]
    by_cases e1 : op' = op
    · subst e1; simp
    · have e2 : ¬ op = op' := fun x => e1 x.symm
      simp [e1, e2]
  | cons e es ih =>
    unfold intAt at h
    split at h
    · cases h
    · rename_i hk
      rw [List.cons_append]
      unfold intAt
      split
      · rename_i hk2
        have e1 : ¬ op' = op := fun x => hk (by rw [← x]; exact hk2)
        rw [if_neg e1]
      · exact ih h _

/-- what a map with such keys reads as -/
def Reads (es : Array MapEntry) (g : Int → Option Value) : Prop := IntKeys es.toList ∧ ∀ op, (intAt es.toList op 0).map (·.2) = g op
def upd (g : Int → Option Value) (op : Int) (v : Value) : Int → Option Value := fun k => if k = op then some v else g k
theorem Reads.empty : Reads #[] (fun _ => none) := ⟨(fun _ h => nomatch h), fun _ => rfl⟩
theorem Reads.now {es : Array MapEntry} {g : Int → Option Value} (h : Reads es g) (op : Int) : ∃ r, Instr.findNow (.int .i64) (.int .i64 op) es.toList 0 = some r ∧ r.map (·.2) = g op := ⟨_, findNow_int h.1 op 0, h.2 op⟩
theorem Reads.push {es : Array MapEntry} {g : Int → Option Value} (h : Reads es g) {op : Int} (v : Value) (c : Nat) (hn : Instr.findNow (.int .i64) (.int .i64 op) es.toList 0 = some none) : Reads (es.push ⟨.int .i64 op, v, c⟩) (upd g op v) := by
  rw [findNow_int h.1] at hn
  refine ⟨fun e he => ?_, fun k => ?_⟩
  · rw [Array.toList_push, List.mem_append] at he
    rcases he with he | he
    · exact h.1 e he
    · simp only [List.mem_singleton] at he
      subst he
      exact ⟨op, rfl⟩
  · rw [Array.toList_push, intAt_push v c (Option.some.inj hn) k 0, h.2 k]
    rfl
theorem Reads.set {es : Array MapEntry} {g : Int → Option Value} (h : Reads es g) {op : Int} (v : Value) {i : Nat} {y : Value} (hn : Instr.findNow (.int .i64) (.int .i64 op) es.toList 0 = some (some (i, y))) :
    Reads (es.modify i fun e => { e with key := .int .i64 op, val := v }) (upd g op v) := by
  rw [findNow_int h.1] at hn
  refine ⟨fun e he => ?_, fun k => ?_⟩
  · rw [Array.toList_modify] at he
    obtain ⟨n, hn2⟩ := List.getElem?_of_mem he
    rw [List.getElem?_modify] at hn2
    cases h0 : es.toList[n]? with
    | none => rw [h0] at hn2; cases hn2
    | some e0 =>
      rw [h0] at hn2
      simp only [Option.map_eq_map, Option.map_some, Option.some.injEq] at hn2
      subst hn2
      split
      · exact ⟨op, rfl⟩
      · exact h.1 e0 (List.mem_of_getElem? h0)
  · have := intAt_modify v (Option.some.inj hn) k 0
    rw [Nat.sub_zero] at this
    rw [Array.toList_modify, this, h.2 k]
    rfl

theorem run_setObj_any {P : Program} {w : World} {kb : Nat} {es : Array MapEntry} {clk : Nat} (hb : w.heap[kb]? = some (.map es clk)) (o : Obj) : (setObj kb o).run P w = .ok () (setBlock w kb o) := by
  simp [setObj, Sem.run, hb, setBlock]
theorem setBlock_at {w : World} {r : Nat} {o o' : Obj} (h : w.heap[r]? = some o) : (setBlock w r o').heap[r]? = some o' := by
  have := (Array.getElem?_eq_some_iff.1 h).1
  simp [setBlock, this]
theorem setBlock_ne {w : World} {r i : Nat} {o' : Obj} (h : i ≠ r) : (setBlock w r o').heap[i]? = w.heap[i]? := by
  simp [setBlock, Ne.symm h]
theorem setBlock_size {w : World} {r : Nat} {o' : Obj} : (setBlock w r o').heap.size = w.heap.size := by simp [setBlock]
theorem Only.setBlock {F : Nat → Prop} {a w : World} (h : Only F a w) {r : Nat} (hr : F r ∨ a.heap.size ≤ r) (o : Obj) : Only F a (ChangeMaps.setBlock w r o) :=
  ⟨h.os, h.tape, h.output, by rw [setBlock_size]; exact h.size, fun k hk hn => by
    rw [setBlock_ne (fun e => by subst e; exact hr.elim hn (fun x => by omega))]
    exact h.block k hk hn⟩
end Go
