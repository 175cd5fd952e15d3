/-
MachinePlays returns true.
-/
import Derived.Test.YtbhbpfpggfcpgaaQPlE
import Derived.Test.YtbhbpfpggfcpgaaQOwnOk
namespace Go.Proofs.Ytbhbpfpggfcpgaa
open Go.ChangeShapes Go.WideShapes Go.ChangeAt Go.RowKit Go.Shelf

theorem TwinI.mvs {w W : World} {ms : List Mv} {o : Option Addr} {c : Nat} (h : TwinI w ms 9 (.slice o (ms.length + 9) c) W) : MvsIn W (.slice o ms.length c) ms := by
  obtain ⟨g, cap, e, h1, h2, h3, h4, h5, h6⟩ := h.row.some_form (by omega)
  have hm : cap ≤ maxLen := by obtain ⟨_, _, e2, _, h7⟩ := h.row.form; rw [e] at e2; cases e2; exact h7
  cases e
  refine ⟨_, _, rfl, by omega, hm, fun i hi => ⟨g, 0, rfl, h3, ?_⟩⟩
  have hc : ∀ j u, ms[i].cells[j]? = some u → j < 4 → W.cell? ⟨g, 0 + i * 4 + j, none⟩ = some u := fun j u hu hj => by rw [Nat.zero_add]; exact h6 (i * 4 + j) u (by rw [app_get ms i j hi hj]; exact hu)
  exact ⟨hc 0 _ rfl (by omega), hc 1 _ rfl (by omega), hc 2 _ rfl (by omega), hc 3 _ rfl (by omega)⟩
theorem row_init {w : World} {base e : Nat} {o : Option Addr} {n c : Nat} {xs : List Value} {y : Value} (h : w.RowV base e 1 (.slice o (n + 1) c) (n + 1) (xs ++ [y])) : w.Src 1 (.slice o n c) n xs ∧ ∃ g, o = some ⟨g, 0, none⟩ ∧ n + 1 ≤ c ∧ c ≤ maxLen ∧ base ≤ g ∧ g < w.heap.size ∧ w.cell? ⟨g, n, none⟩ = some y := by
  obtain ⟨g, cap, e1, h1, h2, h3, h4, h5, h6⟩ := h.some_form (by omega)
  have hm : cap ≤ maxLen := by obtain ⟨_, _, e2, _, h7⟩ := h.form; rw [e1] at e2; cases e2; exact h7
  cases e1
  have hl := h.1
  simp only [List.length_append, List.length_singleton, Nat.mul_one] at hl
  refine ⟨⟨by omega, .inr ⟨_, _, rfl, by omega, fun j u hu => ?_⟩⟩, g, rfl, h1, hm, h2, h3, h6 n y (by rw [List.getElem?_append_right (by omega), show n - xs.length = 0 by omega]; rfl)⟩
  rw [add_none]
  exact h6 j u (by rw [List.getElem?_append_left ((List.getElem?_eq_some_iff.1 hu).1)]; exact hu)

set_option maxRecDepth 100000 in
set_option maxHeartbeats 4000000 in
theorem plays_walk {w : World} {v : Value} {th : Int} {l : List Int} {ms : List Mv} {ox : Option Addr} {cx : Nat} {om : Option Addr} {cm : Nat} (h : ScrIn w v th l ms ox cx om cm) (hl : l.length ≤ 17592186044416) (hms : ms.length ≤ 4398046511104) :
    Calls Try.prog 4 #[v] w fun e w' => e = .returned (.bool true) ∧ Below w.heap.size w w' := by
  obtain ⟨rfl, hs0, hm0, hx0, hy0⟩ := h
  have HS := Lib.hid hs0
  have HM := Lib.hid hm0
  have HMS := Lib.hid (MvsIn.src hm0 hy0.2.2)
  obtain ⟨i1, ii1, iz10, iz11, iz12⟩ := info_parts infoU64
  have II1 := Lib.hid ii1
  have IZ10 := Lib.hid iz10
  have IZ11 := Lib.hid iz11
  have IZ12 := Lib.hid iz12
  have SO1 := Lib.hid (u64s_one l)
  have SL1 := Lib.hid (show 0 + l.length ≤ maxLen by unfold maxLen; omega)
  have SB1 := Lib.hid (show ((0 + l.length) + (0 + l.length) / 4 + 192) * 8 ≤ 281474976710656 by omega)
  have SO2 := Lib.hid (show ∀ u ∈ [Value.int .u64 4711], u.oneCell' = true by simp [Value.oneCell'])
  have SL2 := Lib.hid (show l.length + 1 ≤ maxLen by unfold maxLen; omega)
  have SB2 := Lib.hid (show ((l.length + 1) + (l.length + 1) / 4 + 192) * 8 ≤ 281474976710656 by omega)
  obtain ⟨p, hp⟩ : ∃ p, p = playOut th l ms := ⟨_, rfl⟩
  have HSM := Lib.hid (show RunS.small p.1 by rw [hp]; exact playOut_small _ _ _)
  have HPA : Hid (∀ (W : World) (vx vm : Value), W.Src 1 vx l.length (u64s l) → MvsIn W vm ms → Calls Try.prog 21 #[.int .i64 th, vx, vm] W (PlayOut W p)) := Lib.hid (fun W vx vm h1 h2 => by rw [hp]; exact play_any th h1 (by omega) h2)
  have HRA : Hid (∀ (W : World) (vx vm : Value), W.Src 1 vx l.length (u64s l) → MvsIn W vm ms → Calls Try.prog 22 #[.int .i64 th, vx, vm] W (PlayOut W p)) := Lib.hid (fun W vx vm h1 h2 => by rw [hp]; exact rplay_any th h1 (by omega) h2)
  have hne : (p.2 != p.2) = false := by simp
  clear hs0 hm0 hx0 hy0 ii1 iz10 iz11 iz12 hp
  go_enter Try.func4, Try.ntmps4
  go_upto_region 1 with (fail)
  refine gen_world ?_
  intro W0 hW0
  have HW0 : Hid (Only (fun _ => False) w W0) := Lib.hid (by rw [hW0]; exact (Only.refl _ w).alloc _)
  have hbx : W0.heap[w.heap.size]? = some (.cells #[.int .i64 th, .slice ox l.length cx, .slice om ms.length cm] 45 (0, 0)) := by rw [hW0]; exact heap_alloc_new w _
  have s0 : W0.cell? ⟨w.heap.size, 0, none⟩ = some (.int .i64 th) := by simp [World.cell?, hbx]
  have s1 : W0.cell? ⟨w.heap.size, 1, none⟩ = some (.slice ox l.length cx) := by simp [World.cell?, hbx]
  have s2 : W0.cell? ⟨w.heap.size, 2, none⟩ = some (.slice om ms.length cm) := by simp [World.cell?, hbx]
  have hl0 := (Array.getElem?_eq_some_iff.1 hbx).1
  have HTW := Lib.hid (twin_any (HMS.out.only HW0.out) hms)
  clear hW0 hbx
  generalize w.heap.size = sb at *
  go_upto_region 4 with (first
    | (go_at_call 20; refine HTW.out.mono ?_; rintro e w1 ⟨oT, cT, rfl, hT, hc1, hc2⟩; have HT := Lib.hid hT; have HOA := Lib.hid (HW0.out.trans hT.on (fun _ x => x.elim)); have s0 := (hT.on.cellAt (p := ⟨sb, 0, none⟩) hl0 (fun x => x)).trans s0; have s1 := (hT.on.cellAt (p := ⟨sb, 1, none⟩) hl0 (fun x => x)).trans s1; have s2 := (hT.on.cellAt (p := ⟨sb, 2, none⟩) hl0 (fun x => x)).trans s2; have hl1 := Nat.lt_of_lt_of_le hl0 hT.on.size; clear hT)
    | (at_builtin; refine wpList_append_row _ rfl _ _ 28 rfl w1.heap.size 27 i1 _ 1 8 Try.underlying28 II1.out IZ10.out IZ11.out IZ12.out rfl (.slice none 0 0) 0 [] rfl (World.RowV_none _ _ _ _ _) _ l.length (u64s l) rfl (HS.out.only HOA.out) SO1.out SL1.out SB1.out (Nat.le_refl _) ?_; intro v1 w2 hown hout; obtain ⟨o5, c5, rfl, _, _⟩ := hown.form; simp only [Nat.zero_add, List.nil_append] at hown; have HR5 := Lib.hid hown; have ho5 := (show Only (fun _ => False) w1 w2 from Only.out (F := fun _ => False) hout (by simp [Value.rowBlock])); have HO5 := Lib.hid ho5; clear hown hout; have hl2 := Nat.lt_of_lt_of_le hl1 ho5.size; clear ho5)
    | (at_builtin; refine wpList_append_row _ rfl _ _ 28 rfl w1.heap.size 27 i1 _ 1 8 Try.underlying28 II1.out IZ10.out IZ11.out IZ12.out rfl (.slice o5 l.length c5) l.length (u64s l) rfl (HR5.out.alloc _) _ 1 _ rfl (World.Src.one rfl rfl) SO2.out SL2.out SB2.out (by have := HO5.out.size; simp; omega) ?_; intro v3 w3 hown hout; obtain ⟨o6, c6, rfl, _, _⟩ := hown.form; have HR6 := Lib.hid hown; have ho3 := (show Only (fun _ => False) w1 w3 from (HO5.out.alloc _).trans (Only.out (F := fun k => (Value.slice o5 l.length c5).rowBlock = some k) hout (fun _ hk => hk)) (fun k hk => .inr (HR5.out.lt k hk).1)); have HO3 := Lib.hid ho3; clear hown hout; have s0 := (ho3.cellAt (p := ⟨sb, 0, none⟩) hl1 (fun x => x)).trans s0; have s1 := (ho3.cellAt (p := ⟨sb, 1, none⟩) hl1 (fun x => x)).trans s1; have s2 := (ho3.cellAt (p := ⟨sb, 2, none⟩) hl1 (fun x => x)).trans s2; have hl3 := Nat.lt_of_lt_of_le hl1 ho3.size; clear ho3))
  obtain ⟨hsr, g6, rfl, hg1, hg2, hg3, hg4, hg5⟩ := row_init HR6.out
  have HSR := Lib.hid hsr
  have HTM := Lib.hid (HT.out.mvs.only HO3.out)
  have HTS : Hid (w3.Src 4 (.slice oT (ms.length + 9) cT) (ms.length + 9) (mvsC (ms ++ marks 9))) := Lib.hid (HT.out.row.src.only HO3.out)
  have HPC : Hid (∀ W, Only (fun _ => False) w3 W → Calls Try.prog 21 #[.int .i64 th, .slice (some ⟨g6, 0, none⟩) l.length c6, .slice oT ms.length cT] W (PlayOut W p)) := Lib.hid (fun W ho => HPA.out W _ _ (HSR.out.only ho) (HTM.out.only ho))
  have HOB := Lib.hid (HOA.out.trans HO3.out (fun _ x => x.elim))
  clear hsr HR5 HR6 HPA HTW II1 IZ10 IZ11 IZ12 SO1 SL1 SB1 SO2 SL2 SB2 HT HO5 HOA
  unfold maxLen at hg2 hc2
  have q0 := fun q : LaterF (fun _ => False) w3 => q.cell s0 hl3 (fun x => x)
  have q1 := fun q : LaterF (fun _ => False) w3 => q.cell s1 hl3 (fun x => x)
  have q2 := fun q : LaterF (fun _ => False) w3 => q.cell s2 hl3 (fun x => x)
  refine wp_region_plan (fun wz => ∃ q : LaterF (fun _ => False) w3, wz = q.W) [8, 12, 13] [0, 1, 2, 3, 4, 5, 6, 7] (.fork 8 [9, 10, 11] (.fork 12 [] (.fork 13 [] (.tail 14) .none) .none) (.fork 12 [] (.fork 8 [9, 10, 11] (.fork 13 [] (.tail 14) .none) .none) .none)) oper0 (by kernel_rfl) (by kernel_rfl) (laterF_in (Only.refl _ _).drew) ?_
  simp only [wpPlan, List.map_cons, List.map_nil, List.getD_cons_zero, List.getD_cons_succ, List.drop_succ_cons, List.drop_zero]
  repeat (first | go_big_quiet_skip | (go_big_quiet_want; go_big_quiet_op; go_big_quiet_on))
  refine wpQuiet_nil ?_
  refine ⟨?_, ?_, trivial⟩
  · skip
    go_wp2_with (go_at_call 21; refine (HPC.out _ (by repeat (first | exact Only.refl _ _ | apply Only.alloc | apply Only.drew))).mono ?_; rintro e w4 ⟨x, rfl, hx, ho⟩; obtain ⟨oa, ca, ot, ct, ob, cb, oc, cc, rfl⟩ := hx.src.forms; have HX := Lib.hid hx; have HO4 := Lib.hid ho; (unfold RunVs.v); clear hx ho)
    refine strict_on ?_
    refine ⟨?_, ?_⟩
    · exact laterF_in (((Only.refl _ _).drew).trans HO4.out (fun _ x => x.elim))
    repeat (first | go_big_quiet_skip | (go_big_quiet_want; go_big_quiet_op; go_big_quiet_on))
    refine wpQuiet_nil ?_
    refine ⟨?_, trivial⟩
    go_wp2_with fail
    refine strict_on ?_
    refine ⟨?_, ?_⟩
    · exact laterF_in ((((Only.refl _ _).drew).trans HO4.out (fun _ x => x.elim)).alloc _)
    repeat (first | go_big_quiet_skip | (go_big_quiet_want; go_big_quiet_op; go_big_quiet_on))
    refine wpQuiet_nil ?_
    try with_reducible refine ⟨?_, trivial⟩
    go_wp2_with fail
    refine strict_on ?_
    refine ⟨?_, ?_⟩
    · exact laterF_in ((((Only.refl _ _).drew).trans HO4.out (fun _ x => x.elim)).alloc _)
    repeat (first | go_big_quiet_skip | (go_big_quiet_want; go_big_quiet_op; go_big_quiet_on))
    refine wpQuiet_nil ?_
    go_upto_region 5 with (fail)
    refine gen_world ?_
    intro W4 hW4
    have HB4 : Hid (W4.heap[w4.heap.size]? = some (.cells #[.slice oa p.1.calls.length ca, .slice ot p.1.trace.length ct, .slice ob p.1.shifts.length cb, .slice oc p.1.words.length cc] 41 (0, 0))) := Lib.hid (by rw [hW4]; exact heap_alloc_new _ _)
    have o45 : Only (fun _ => False) w4 W4 := by rw [hW4]; exact (Only.refl _ _).alloc _
    have HOC : Hid (Only (fun _ => False) w3 W4) := Lib.hid (((Only.refl _ _).drew.trans HO4.out (fun _ x => x.elim)).trans o45 (fun _ x => x.elim))
    have HXX : Hid (RunSrc W4 ⟨.slice oa p.1.calls.length ca, .slice ot p.1.trace.length ct, .slice ob p.1.shifts.length cb, .slice oc p.1.words.length cc⟩ p.1) := Lib.hid (HX.out W4 (o45.mono (fun _ _ x => x.elim)))
    clear hW4 o45 HX HO4
    generalize w4.heap.size = rb at *
    clear w4
    have HOW4 := Lib.hid (HOB.out.trans HOC.out (fun _ x => x.elim))
    have s0 := (HOC.out.cellAt (p := ⟨sb, 0, none⟩) hl3 (fun x => x)).trans s0
    have s1 := (HOC.out.cellAt (p := ⟨sb, 1, none⟩) hl3 (fun x => x)).trans s1
    have s2 := (HOC.out.cellAt (p := ⟨sb, 2, none⟩) hl3 (fun x => x)).trans s2
    have hl4 := Nat.lt_of_lt_of_le hl3 HOC.out.size
    have HRC := Lib.hid (HRA.out W4 _ _ (HS.out.only HOW4.out) (HM.out.only HOW4.out))
    clear HRA q0 q1 q2
    go_upto_region 6 with (go_at_call 22; refine HRC.out.mono ?_; rintro e w5 ⟨x, rfl, hx, ho⟩; obtain ⟨oa2, ca2, ot2, ct2, ob2, cb2, oc2, cc2, rfl⟩ := hx.src.forms; have HX2 := Lib.hid hx.src; have HO5 := Lib.hid ho; (unfold RunVs.v); clear hx ho)
    refine gen_world ?_
    intro W5 hW5
    have HB6 : Hid (W5.heap[w5.heap.size]? = some (.cells #[.slice oa2 p.1.calls.length ca2, .slice ot2 p.1.trace.length ct2, .slice ob2 p.1.shifts.length cb2, .slice oc2 p.1.words.length cc2] 41 (0, 0))) := Lib.hid (by rw [hW5]; exact heap_alloc_new _ _)
    have o56 : Only (fun _ => False) w5 W5 := by rw [hW5]; exact (Only.refl _ _).alloc _
    have o46 := HO5.out.trans o56 (fun _ x => x.elim)
    have HB5 := Lib.hid ((o46.block rb (Array.getElem?_eq_some_iff.1 HB4.out).1 (fun x => x)).trans HB4.out)
    have HXA := Lib.hid (HXX.out.only o46)
    have HXB := Lib.hid (HX2.out.only o56)
    have HO46 := Lib.hid o46
    clear hW5 o56 o46 HX2 HO5 HXX HB4
    generalize w5.heap.size = rc at *
    have a0 : W5.cell? ⟨rb, 0, none⟩ = some (.slice oa p.1.calls.length ca) := by simp [World.cell?, HB5.out]
    have a1 : W5.cell? ⟨rb, 1, none⟩ = some (.slice ot p.1.trace.length ct) := by simp [World.cell?, HB5.out]
    have a2 : W5.cell? ⟨rb, 2, none⟩ = some (.slice ob p.1.shifts.length cb) := by simp [World.cell?, HB5.out]
    have a3 : W5.cell? ⟨rb, 3, none⟩ = some (.slice oc p.1.words.length cc) := by simp [World.cell?, HB5.out]
    have b0 : W5.cell? ⟨rc, 0, none⟩ = some (.slice oa2 p.1.calls.length ca2) := by simp [World.cell?, HB6.out]
    have b1 : W5.cell? ⟨rc, 1, none⟩ = some (.slice ot2 p.1.trace.length ct2) := by simp [World.cell?, HB6.out]
    have b2 : W5.cell? ⟨rc, 2, none⟩ = some (.slice ob2 p.1.shifts.length cb2) := by simp [World.cell?, HB6.out]
    have b3 : W5.cell? ⟨rc, 3, none⟩ = some (.slice oc2 p.1.words.length cc2) := by simp [World.cell?, HB6.out]
    have HCR := Lib.hid (sameRun_yes HXA.out HXB.out HSM.out.1 HSM.out.2.1 HSM.out.2.2.1 HSM.out.2.2.2)
    go_upto_region 8 with (go_at_call 23; refine HCR.out.mono ?_; rintro e w6 ⟨rfl, hb6⟩; obtain ⟨os6, d6, rfl⟩ := hb6.more; clear hb6)
    refine gen_world ?_
    intro W6 hW6
    have HO56 : Hid (Only (fun _ => False) W4 W6) := Lib.hid (by rw [hW6]; exact HO46.out.more _ _)
    clear hW6 a0 a1 a2 a3 b0 b1 b2 b3 HCR HXA HXB HB5 HB6
    have s1 := (HO56.out.cellAt (p := ⟨sb, 1, none⟩) hl4 (fun x => x)).trans s1
    have s2 := (HO56.out.cellAt (p := ⟨sb, 2, none⟩) hl4 (fun x => x)).trans s2
    have hl6 := Nat.lt_of_lt_of_le hl4 HO56.out.size
    have HO36 := Lib.hid (HOC.out.trans HO56.out (fun _ x => x.elim))
    have z0 := (HO36.out.cellAt (p := ⟨g6, l.length, none⟩) hg4 (fun x => x)).trans hg5
    have hg6 := Nat.lt_of_lt_of_le hg4 HO36.out.size
    have HOWW := Lib.hid (HOB.out.trans HO36.out (fun _ x => x.elim))
    have q1 := fun q : LaterF (fun _ => False) W6 => q.cell s1 hl6 (fun x => x)
    have q2 := fun q : LaterF (fun _ => False) W6 => q.cell s2 hl6 (fun x => x)
    have q3 := fun q : LaterF (fun _ => False) W6 => q.cell z0 hg6 (fun x => x)
    have HWH : Hid (∀ W, Only (fun _ => False) W6 W → Calls Try.prog 24 #[.slice om ms.length cm, .slice oT (ms.length + 9) cT] W fun e w' => e = .returned (.bool true) ∧ Below W.heap.size W w') := Lib.hid (fun W ho => whole_yes ((HMS.out.only HOWW.out).only ho) ((HTS.out.only HO36.out).only ho) hms)
    have HWS : Hid (∀ W, Only (fun _ => False) W6 W → Calls Try.prog 25 #[.slice (some ⟨g6, 0, none⟩) l.length c6, .slice ox l.length cx] W fun e w' => e = .returned (.bool true) ∧ Below W.heap.size W w') := Lib.hid (fun W ho => sameWords3_yes ((HSR.out.only HO36.out).only ho) ((HS.out.only HOWW.out).only ho) (by omega))
    refine wp_region_plan (fun wz => ∃ q : LaterF (fun _ => False) W6, wz = q.W) [3, 21, 24] [0, 1, 2] (.fork 3 [4, 5, 6, 7, 8, 9, 10, 11, 12, 13, 14, 15, 16, 17, 18, 19, 20] (.tail 21) .none) oper0 (by kernel_rfl) (by kernel_rfl) (laterF_in (Only.refl _ _).drew) ?_
    simp only [wpPlan, List.map_cons, List.map_nil, List.getD_cons_zero, List.getD_cons_succ, List.drop_succ_cons, List.drop_zero]
    repeat (first | go_big_quiet_skip | (go_big_quiet_want; go_big_quiet_op; go_big_quiet_on))
    refine wpQuiet_nil ?_
    refine ⟨?_, trivial⟩
    go_wp2_with (go_at_call 24; refine (HWH.out _ (Only.refl _ _).drew).mono ?_; rintro e w7 ⟨rfl, hb7⟩; have HO7 := Lib.hid ((Only.refl (fun _ => False) W6).drew.trans (Below.only0 hb7) (fun _ x => x.elim)); clear hb7)
    refine strict_on ?_
    refine ⟨?_, ?_⟩
    · exact laterF_in HO7.out
    repeat (first | go_big_quiet_skip | (go_big_quiet_want; go_big_quiet_op; go_big_quiet_on))
    refine wpQuiet_nil ?_
    go_wp2_with (first
      | (go_at_call 25; refine (HWS.out _ HO7.out).mono ?_; rintro e w8 ⟨rfl, hb8⟩; have HO8 := Lib.hid (HO7.out.trans (Below.only0 hb8) (fun _ x => x.elim)); clear hb8)
      | (go_at_call 26; refine awake_ok.mono ?_; rintro e w9 ⟨rfl, ho9⟩; have HO9 := Lib.hid (HO8.out.trans ho9 (fun _ x => x.elim)); clear ho9))
    go_ret
    exact ⟨rfl, Only.below (HOWW.out.trans HO9.out (fun _ x => x.elim)) (fun _ h => h.elim) (Nat.le_refl _)⟩
  · skip
    go_wp2_with fail
    refine strict_on ?_
    refine ⟨?_, ?_⟩
    · exact laterF_in ((Only.refl _ _).drew.alloc _)
    repeat (first | go_big_quiet_skip | (go_big_quiet_want; go_big_quiet_op; go_big_quiet_on))
    refine wpQuiet_nil ?_
    try with_reducible refine ⟨?_, trivial⟩
    go_wp2_with (go_at_call 21; refine (HPC.out _ (by repeat (first | exact Only.refl _ _ | apply Only.alloc | apply Only.drew))).mono ?_; rintro e w4 ⟨x, rfl, hx, ho⟩; obtain ⟨oa, ca, ot, ct, ob, cb, oc, cc, rfl⟩ := hx.src.forms; have HX := Lib.hid hx; have HO4 := Lib.hid ho; (unfold RunVs.v); clear hx ho)
    refine strict_on ?_
    refine ⟨?_, ?_⟩
    · exact laterF_in ((((Only.refl _ _).drew).alloc _).trans HO4.out (fun _ x => x.elim))
    repeat (first | go_big_quiet_skip | (go_big_quiet_want; go_big_quiet_op; go_big_quiet_on))
    refine wpQuiet_nil ?_
    have hbx4 := HO4.out.block w3.heap.size (by simp) (fun x => x)
    rw [show (w3.alloc (.cells #[.slice none 0 0, .slice none 0 0, .slice none 0 0, .slice none 0 0] 41)).drew.heap[w3.heap.size]? = some (.cells #[.slice none 0 0, .slice none 0 0, .slice none 0 0, .slice none 0 0] 41 (0, 0)) from heap_alloc_new w3 _] at hbx4
    have b0 : w4.cell? ⟨w3.heap.size, 0, none⟩ = some (.slice none 0 0) := by simp [World.cell?, hbx4]
    have b1 : w4.cell? ⟨w3.heap.size, 1, none⟩ = some (.slice none 0 0) := by simp [World.cell?, hbx4]
    have b2 : w4.cell? ⟨w3.heap.size, 2, none⟩ = some (.slice none 0 0) := by simp [World.cell?, hbx4]
    have b3 : w4.cell? ⟨w3.heap.size, 3, none⟩ = some (.slice none 0 0) := by simp [World.cell?, hbx4]
    have bz : ∀ j, w4.frozen? ⟨w3.heap.size, j, none⟩ = false := fun j => by simp [World.frozen?, hbx4]
    have bl := (Array.getElem?_eq_some_iff.1 hbx4).1
    try with_reducible refine ⟨?_, trivial⟩
    go_wp2_with fail
    refine strict_on ?_
    refine ⟨?_, ?_⟩
    · exact laterF_in ((((((((Only.refl _ _).drew).alloc _).trans HO4.out (fun _ x => x.elim)).set (p := ⟨w3.heap.size, 0, none⟩) (.inr (Nat.le_refl _)) _).set (p := ⟨w3.heap.size, 1, none⟩) (.inr (Nat.le_refl _)) _).set (p := ⟨w3.heap.size, 2, none⟩) (.inr (Nat.le_refl _)) _).set (p := ⟨w3.heap.size, 3, none⟩) (.inr (Nat.le_refl _)) _)
    repeat (first | go_big_quiet_skip | (go_big_quiet_want; go_big_quiet_op; go_big_quiet_on))
    refine wpQuiet_nil ?_
    go_upto_region 5 with (fail)
    refine gen_world ?_
    intro W4 hW4
    have HB4 : Hid (W4.heap[w3.heap.size]? = some (.cells #[.slice oa p.1.calls.length ca, .slice ot p.1.trace.length ct, .slice ob p.1.shifts.length cb, .slice oc p.1.words.length cc] 41 (0, 0))) := Lib.hid (by rw [hW4]; simp [World.setCell, Array.getElem?_modify, hbx4])
    have o45 : Only (fun k => k = w3.heap.size) w4 W4 := by rw [hW4]; exact (((((Only.refl (fun k => k = w3.heap.size) w4).set (p := ⟨w3.heap.size, 0, none⟩) (.inl rfl) _).set (p := ⟨w3.heap.size, 1, none⟩) (.inl rfl) _).set (p := ⟨w3.heap.size, 2, none⟩) (.inl rfl) _).set (p := ⟨w3.heap.size, 3, none⟩) (.inl rfl) _)
    have HOC : Hid (Only (fun _ => False) w3 W4) := Lib.hid ((((Only.refl _ _).drew.alloc _).trans HO4.out (fun _ x => x.elim)).trans o45 (fun k hk => .inr (Nat.le_of_eq hk.symm)))
    have HXX : Hid (RunSrc W4 ⟨.slice oa p.1.calls.length ca, .slice ot p.1.trace.length ct, .slice ob p.1.shifts.length cb, .slice oc p.1.words.length cc⟩ p.1) := Lib.hid (HX.out W4 (o45.mono (fun k _ hk => by rw [hk]; simp)))
    clear hW4 o45 HX HO4 hbx4 b0 b1 b2 b3 bz bl
    generalize w3.heap.size = rb at HB4 ⊢
    clear w4
    have HOW4 := Lib.hid (HOB.out.trans HOC.out (fun _ x => x.elim))
    have s0 := (HOC.out.cellAt (p := ⟨sb, 0, none⟩) hl3 (fun x => x)).trans s0
    have s1 := (HOC.out.cellAt (p := ⟨sb, 1, none⟩) hl3 (fun x => x)).trans s1
    have s2 := (HOC.out.cellAt (p := ⟨sb, 2, none⟩) hl3 (fun x => x)).trans s2
    have hl4 := Nat.lt_of_lt_of_le hl3 HOC.out.size
    have HRC := Lib.hid (HRA.out W4 _ _ (HS.out.only HOW4.out) (HM.out.only HOW4.out))
    clear HRA q0 q1 q2
    go_upto_region 6 with (go_at_call 22; refine HRC.out.mono ?_; rintro e w5 ⟨x, rfl, hx, ho⟩; obtain ⟨oa2, ca2, ot2, ct2, ob2, cb2, oc2, cc2, rfl⟩ := hx.src.forms; have HX2 := Lib.hid hx.src; have HO5 := Lib.hid ho; (unfold RunVs.v); clear hx ho)
    refine gen_world ?_
    intro W5 hW5
    have HB6 : Hid (W5.heap[w5.heap.size]? = some (.cells #[.slice oa2 p.1.calls.length ca2, .slice ot2 p.1.trace.length ct2, .slice ob2 p.1.shifts.length cb2, .slice oc2 p.1.words.length cc2] 41 (0, 0))) := Lib.hid (by rw [hW5]; exact heap_alloc_new _ _)
    have o56 : Only (fun _ => False) w5 W5 := by rw [hW5]; exact (Only.refl _ _).alloc _
    have o46 := HO5.out.trans o56 (fun _ x => x.elim)
    have HB5 := Lib.hid ((o46.block rb (Array.getElem?_eq_some_iff.1 HB4.out).1 (fun x => x)).trans HB4.out)
    have HXA := Lib.hid (HXX.out.only o46)
    have HXB := Lib.hid (HX2.out.only o56)
    have HO46 := Lib.hid o46
    clear hW5 o56 o46 HX2 HO5 HXX HB4
    generalize w5.heap.size = rc at *
    have a0 : W5.cell? ⟨rb, 0, none⟩ = some (.slice oa p.1.calls.length ca) := by simp [World.cell?, HB5.out]
    have a1 : W5.cell? ⟨rb, 1, none⟩ = some (.slice ot p.1.trace.length ct) := by simp [World.cell?, HB5.out]
    have a2 : W5.cell? ⟨rb, 2, none⟩ = some (.slice ob p.1.shifts.length cb) := by simp [World.cell?, HB5.out]
    have a3 : W5.cell? ⟨rb, 3, none⟩ = some (.slice oc p.1.words.length cc) := by simp [World.cell?, HB5.out]
    have b0 : W5.cell? ⟨rc, 0, none⟩ = some (.slice oa2 p.1.calls.length ca2) := by simp [World.cell?, HB6.out]
    have b1 : W5.cell? ⟨rc, 1, none⟩ = some (.slice ot2 p.1.trace.length ct2) := by simp [World.cell?, HB6.out]
    have b2 : W5.cell? ⟨rc, 2, none⟩ = some (.slice ob2 p.1.shifts.length cb2) := by simp [World.cell?, HB6.out]
    have b3 : W5.cell? ⟨rc, 3, none⟩ = some (.slice oc2 p.1.words.length cc2) := by simp [World.cell?, HB6.out]
    have HCR := Lib.hid (sameRun_yes HXA.out HXB.out HSM.out.1 HSM.out.2.1 HSM.out.2.2.1 HSM.out.2.2.2)
    go_upto_region 8 with (go_at_call 23; refine HCR.out.mono ?_; rintro e w6 ⟨rfl, hb6⟩; obtain ⟨os6, d6, rfl⟩ := hb6.more; clear hb6)
    refine gen_world ?_
    intro W6 hW6
    have HO56 : Hid (Only (fun _ => False) W4 W6) := Lib.hid (by rw [hW6]; exact HO46.out.more _ _)
    clear hW6 a0 a1 a2 a3 b0 b1 b2 b3 HCR HXA HXB HB5 HB6
    have s1 := (HO56.out.cellAt (p := ⟨sb, 1, none⟩) hl4 (fun x => x)).trans s1
    have s2 := (HO56.out.cellAt (p := ⟨sb, 2, none⟩) hl4 (fun x => x)).trans s2
    have hl6 := Nat.lt_of_lt_of_le hl4 HO56.out.size
    have HO36 := Lib.hid (HOC.out.trans HO56.out (fun _ x => x.elim))
    have z0 := (HO36.out.cellAt (p := ⟨g6, l.length, none⟩) hg4 (fun x => x)).trans hg5
    have hg6 := Nat.lt_of_lt_of_le hg4 HO36.out.size
    have HOWW := Lib.hid (HOB.out.trans HO36.out (fun _ x => x.elim))
    have q1 := fun q : LaterF (fun _ => False) W6 => q.cell s1 hl6 (fun x => x)
    have q2 := fun q : LaterF (fun _ => False) W6 => q.cell s2 hl6 (fun x => x)
    have q3 := fun q : LaterF (fun _ => False) W6 => q.cell z0 hg6 (fun x => x)
    have HWH : Hid (∀ W, Only (fun _ => False) W6 W → Calls Try.prog 24 #[.slice om ms.length cm, .slice oT (ms.length + 9) cT] W fun e w' => e = .returned (.bool true) ∧ Below W.heap.size W w') := Lib.hid (fun W ho => whole_yes ((HMS.out.only HOWW.out).only ho) ((HTS.out.only HO36.out).only ho) hms)
    have HWS : Hid (∀ W, Only (fun _ => False) W6 W → Calls Try.prog 25 #[.slice (some ⟨g6, 0, none⟩) l.length c6, .slice ox l.length cx] W fun e w' => e = .returned (.bool true) ∧ Below W.heap.size W w') := Lib.hid (fun W ho => sameWords3_yes ((HSR.out.only HO36.out).only ho) ((HS.out.only HOWW.out).only ho) (by omega))
    refine wp_region_plan (fun wz => ∃ q : LaterF (fun _ => False) W6, wz = q.W) [3, 21, 24] [0, 1, 2] (.fork 3 [4, 5, 6, 7, 8, 9, 10, 11, 12, 13, 14, 15, 16, 17, 18, 19, 20] (.tail 21) .none) oper0 (by kernel_rfl) (by kernel_rfl) (laterF_in (Only.refl _ _).drew) ?_
    simp only [wpPlan, List.map_cons, List.map_nil, List.getD_cons_zero, List.getD_cons_succ, List.drop_succ_cons, List.drop_zero]
    repeat (first | go_big_quiet_skip | (go_big_quiet_want; go_big_quiet_op; go_big_quiet_on))
    refine wpQuiet_nil ?_
    refine ⟨?_, trivial⟩
    go_wp2_with (go_at_call 24; refine (HWH.out _ (Only.refl _ _).drew).mono ?_; rintro e w7 ⟨rfl, hb7⟩; have HO7 := Lib.hid ((Only.refl (fun _ => False) W6).drew.trans (Below.only0 hb7) (fun _ x => x.elim)); clear hb7)
    refine strict_on ?_
    refine ⟨?_, ?_⟩
    · exact laterF_in HO7.out
    repeat (first | go_big_quiet_skip | (go_big_quiet_want; go_big_quiet_op; go_big_quiet_on))
    refine wpQuiet_nil ?_
    go_wp2_with (first
      | (go_at_call 25; refine (HWS.out _ HO7.out).mono ?_; rintro e w8 ⟨rfl, hb8⟩; have HO8 := Lib.hid (HO7.out.trans (Below.only0 hb8) (fun _ x => x.elim)); clear hb8)
      | (go_at_call 26; refine awake_ok.mono ?_; rintro e w9 ⟨rfl, ho9⟩; have HO9 := Lib.hid (HO8.out.trans ho9 (fun _ x => x.elim)); clear ho9))
    go_ret
    exact ⟨rfl, Only.below (HOWW.out.trans HO9.out (fun _ x => x.elim)) (fun _ h => h.elim) (Nat.le_refl _)⟩
end Go.Proofs.Ytbhbpfpggfcpgaa
