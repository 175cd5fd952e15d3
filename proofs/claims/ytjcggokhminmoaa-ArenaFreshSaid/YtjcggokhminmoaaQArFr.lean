/-
ArenaFresh returns true.
-/
import Derived.Test.YtjcggokhminmoaaQArFq
import Derived.Test.YtjcggokhminmoaaQMixF
import Derived.Deep.DeepCutAuto
namespace Go.Proofs.Ytjcggokhminmoaa
open Go.ChangeShapes Go.WideShapes Go.ChangeAt Go.RowKit Go.Shelf

set_option maxRecDepth 100000 in
set_option maxHeartbeats 2000000 in
theorem fresh_out {w : World} (a0 a1 a2 a3 a4 a5 a6 : Int) {om : Option Addr} {nm cm : Nat} (h : okCfg a0 a1 a2 a3 a4 a5 a6 = false ∨ (okCfg a0 a1 a2 a3 a4 a5 a6 = true ∧ 65536 < nm)) :
    Calls Try.prog 7 #[.agg #[.int .i64 a0, .int .i64 a1, .int .i64 a2, .int .i64 a3, .int .i64 a4, .int .i64 a5, .int .i64 a6], .slice om nm cm] w fun e w' => e = .returned (.bool true) ∧ Below w.heap.size w w' := by
  have HC := Lib.hid (fun w => config_any a0 a1 a2 a3 a4 a5 a6 w)
  have HW := Lib.hid awake_any
  rcases h with h | ⟨hok, h⟩
  · rw [h] at HC
    clear h
    go_enter Try.func7, Try.ntmps7
    go_wp2_with (first
      | (go_at_call 12; refine (HC.out _).mono ?_; rintro e w1 ⟨rfl, hb1⟩; obtain ⟨os, d, rfl⟩ := hb1.more; clear hb1)
      | (go_at_call 17; refine (HW.out _).mono ?_; rintro e w2 ⟨rfl, ho⟩; have HO := Lib.hid ho; clear ho))
    go_ret
    exact ⟨rfl, (Only.trans (Below.only0 (by repeat (first | exact Below.refl _ _ | apply Below.drew | apply Below.more1 | apply Below.alloc1 | (refine Below.setCell ?_ (by first | exact Nat.le_refl _ | (simp; done) | (simp; omega)) _)))) HO.out (fun _ x => x.elim)).belowF⟩
  · rw [hok] at HC
    have hd : decide ((65536 : Int) < (nm : Int)) = true := by simp; omega
    clear hok h
    go_enter Try.func7, Try.ntmps7
    go_wp2_with (first
      | (go_at_call 12; refine (HC.out _).mono ?_; rintro e w1 ⟨rfl, hb1⟩; obtain ⟨os, d, rfl⟩ := hb1.more; clear hb1)
      | (go_at_call 17; refine (HW.out _).mono ?_; rintro e w2 ⟨rfl, ho⟩; have HO := Lib.hid ho; clear ho))
    go_ret
    exact ⟨rfl, (Only.trans (Below.only0 (by repeat (first | exact Below.refl _ _ | apply Below.drew | apply Below.more1 | apply Below.alloc1 | (refine Below.setCell ?_ (by first | exact Nat.le_refl _ | (simp; done) | (simp; omega)) _)))) HO.out (fun _ x => x.elim)).belowF⟩

theorem FrW.puts {w : World} {C : Obj} {g cg : Nat} {ms : List Mv} {rb qb b1 b2 : Nat} {x y : RunVs} {R : RunS} {i r : Nat} (hi : i < 4) (hg : (frRow x i).rowBlock = some r) : ∀ (ys : List Value) (o : Nat) (wr : World), o + ys.length ≤ frLen R i * frSz i → FrW w C g cg ms rb qb b1 b2 x y R wr → FrW w C g cg ms rb qb b1 b2 x y R (wr.setCells r o ys)
  | [], _, _, _, h => h
  | u :: ys, o, wr, ho, h => by
    simp only [List.length_cons] at ho
    exact FrW.puts hi hg ys (o + 1) _ (by omega) (h.put hi hg (by omega) u)
theorem only_more {w w' : World} (h : Only (fun _ => False) w w') : ∃ os d, w' = w.more os d := RowKit.Below.more h.belowF

set_option maxRecDepth 100000 in
set_option maxHeartbeats 8000000 in
theorem fresh_in {w : World} (a0 a1 a2 a3 a4 a5 a6 : Int) {om : Option Addr} {cm : Nat} {ms : List Mv} (hok : okCfg a0 a1 a2 a3 a4 a5 a6 = true) (hl : ms.length ≤ 65536) (hm : MvsIn w (.slice om ms.length cm) ms) (hcm : om = none → cm = 0) :
    Calls Try.prog 7 #[.agg #[.int .i64 a0, .int .i64 a1, .int .i64 a2, .int .i64 a3, .int .i64 a4, .int .i64 a5, .int .i64 a6], .slice om ms.length cm] w fun e w' => e = .returned (.bool true) ∧ Below w.heap.size w w' := by
  have HC := Lib.hid (fun w => config_any a0 a1 a2 a3 a4 a5 a6 w)
  rw [hok] at HC
  have HW : Hid (∀ w : World, Calls Try.prog 17 #[] w fun e w' => e = .returned (.bool true) ∧ Below w.heap.size w w') := Lib.hid (fun w => (awake_any w).mono fun e w' ⟨he, ho⟩ => ⟨he, ho.belowF⟩)
  have HT := Lib.hid (fun w => table_any a0 a1 a2 a3 a4 a5 a6 hok w)
  have HOK := Lib.hid hok
  have HP := Lib.hid (fun W (vm : Value) (h : MvsIn W vm ms) => arplay_ok _ _ _ _ _ _ _ hok h hl)
  have HS := Lib.hid (hm.src hcm)
  have hg := arP_goodN (ab := 0) (u := 0) hok ms
  have hn1 : (arRun a0 a1 a2 a3 a4 a5 a6 ms).calls.length ≤ 1000000 := Nat.le_trans hg.calls (by have := hg.top; omega)
  have hn2 : (arRun a0 a1 a2 a3 a4 a5 a6 ms).trace.length ≤ 1000000 := Nat.le_trans hg.log (by have := hg.top; omega)
  have hn3 : (arRun a0 a1 a2 a3 a4 a5 a6 ms).shifts.length ≤ 1000000 := Nat.le_trans hg.shifts (by have := hg.top; omega)
  have hn4 : (arRun a0 a1 a2 a3 a4 a5 a6 ms).words.length ≤ 1000000 := by
    have h1 := (arK_words (ab := 0) (u := 0) hok (by have := (ok_bounds hok).2.2.2.2.2.1; omega) ms).1
    have h2 := ar_size (h := hok) (u := 0)
    exact Nat.le_trans (Nat.le_of_eq h1) (by omega)
  obtain ⟨R, hR⟩ : ∃ R, R = arRun a0 a1 a2 a3 a4 a5 a6 ms := ⟨_, rfl⟩
  rw [← hR] at hn1 hn2 hn3 hn4 HP
  obtain ⟨T, hT⟩ : ∃ T : Nat, a0 = (T : Int) := ⟨a0.toNat, by have := (ok_bounds hok).1; omega⟩
  have hT16 : T ≤ 16 := by have := (ok_bounds hok).1; omega
  have HTT := Lib.hid hT
  clear hT
  have HN1 := Lib.hid hn1
  have HN2 := Lib.hid hn2
  have HN3 := Lib.hid hn3
  have HN4 := Lib.hid hn4
  clear hR hg hn1 hn2 hn3 hn4
  have hd : decide ((65536 : Int) < (ms.length : Int)) = false := by simp; omega
  obtain ⟨om', cm', e', hm1, hm2, hm3⟩ := hm
  cases e'
  have HM := Lib.hid hm3
  unfold maxLen at hm2
  obtain ⟨i0, ii, iz0, iz1, iz2⟩ := info_parts infoMove
  have HII := Lib.hid ii
  have HZ0 := Lib.hid iz0
  have HZ1 := Lib.hid iz1
  have HZ2 := Lib.hid iz2
  have S1 := Lib.hid (mvsC_one ms)
  have S2 := Lib.hid (show 0 + ms.length ≤ maxLen by unfold maxLen; omega)
  have S3 := Lib.hid (show ((0 + ms.length) + (0 + ms.length) / 4 + 192) * 32 ≤ 281474976710656 by omega)
  have S4 := Lib.hid (mvsC_one [m77])
  have S5 := Lib.hid (show ms.length + 1 ≤ maxLen by unfold maxLen; omega)
  have S6 := Lib.hid (show ((ms.length + 1) + (ms.length + 1) / 4 + 192) * 32 ≤ 281474976710656 by omega)
  clear hok hm3 ii iz0 iz1 iz2 hcm
  go_enter Try.func7, Try.ntmps7
  go_upto_region 3 with (go_at_call 12; refine (HC.out _).mono ?_; rintro e w1 ⟨rfl, hb1⟩; obtain ⟨os, d, rfl⟩ := hb1.more; clear hb1)
  refine gen_world ?_
  intro W0 hW0
  have HW0 : Hid (Only (fun _ => False) w W0) := Lib.hid (by rw [hW0]; exact (Below.only0 (by repeat (first | exact Below.refl _ _ | apply Below.drew | apply Below.more1 | apply Below.alloc1 | (refine Below.setCell ?_ (by first | exact Nat.le_refl _ | (simp; done) | (simp; omega)) _)))))
  have HCB := Lib.hid (show W0.heap[w.heap.size]? = some (cfgO a0 a1 a2 a3 a4 a5 a6) by rw [hW0]; exact (World.heap_more _ _ _ _ (by simp)).trans (heap_alloc_new w _))
  have HS0 := Lib.hid (HS.out.only HW0.out)
  clear hW0 HC
  go_upto_region 4 with (first
    | (at_builtin; refine wpList_append_row _ rfl _ _ 35 rfl W0.heap.size 64 i0 _ 4 32 Try.underlying35 HII.out HZ0.out HZ1.out HZ2.out rfl (.slice (some ⟨W0.heap.size, 0, none⟩) 0 0) 0 [] rfl (World.RowV_none _ _ _ _ _) _ ms.length (mvsC ms) rfl (HS0.out.alloc _) S1.out S2.out S3.out (by simp) ?_; intro v' w1 hown hout; simp only [Nat.zero_add, List.nil_append] at hown; obtain ⟨o1, c1, rfl, hc1, hc2⟩ := hown.form; have HG1 := Lib.hid hown; have HO1 := Lib.hid (Only.trans ((Only.refl (fun _ => False) W0).alloc _) (Only.out (F := fun _ => False) hout (by simp [Value.rowBlock])) (fun _ x => x.elim)); clear hown hout; unfold maxLen at hc2)
    | (at_builtin; refine wpList_append_row _ rfl _ _ 35 rfl W0.heap.size 64 i0 _ 4 32 Try.underlying35 HII.out HZ0.out HZ1.out HZ2.out rfl (.slice o1 ms.length c1) ms.length (mvsC ms) rfl (HG1.out.alloc _) _ 1 _ rfl (World.Src.one rfl rfl) S4.out S5.out S6.out (by have := HO1.out.size; simp at this ⊢; omega) ?_; intro v' w2 hown hout; obtain ⟨o2, cg, rfl, hc3, hc4⟩ := hown.form; have HG2 := Lib.hid hown; have HO2 := Lib.hid ((HO1.out.alloc _).trans (Only.out hout (F := fun k => (Value.slice o1 ms.length c1).rowBlock = some k) (fun _ hk => hk)) (fun k hk => .inr (HG1.out.lt k hk).1)); clear hown hout; unfold maxLen at hc4))
  refine gen_world ?_
  intro W3 hW3
  obtain rfl : W3 = w2 := hW3
  obtain ⟨g, cg', eg, hg1, hg2, hg3, hg4, hg5, hg6⟩ := HG2.out.some_form (by omega)
  cases eg
  clear hg5 hg6 HG1 HO1
  have HGV : Hid (W3.RowV w.heap.size 64 4 (.slice (some ⟨g, 0, none⟩) (ms.length + 1) cg) (ms.length + 1) (mvsC (ms ++ [m77]))) := Lib.hid (by rw [mvsC_app]; exact HG2.out.base_mono HW0.out.size)
  have HO3 := Lib.hid (HW0.out.trans HO2.out (fun _ x => x.elim))
  have HCB3 := Lib.hid (HO2.out.blockF HCB.out (fun x => x))
  have hgw : w.heap.size < g := by
    have := (Array.getElem?_eq_some_iff.1 HCB.out).1
    omega
  clear HG2 HCB HO2 HS0 HS HII HZ0 HZ1 HZ2 S1 S2 S3 S4 S5 S6 hg2
  have HMV1 := Lib.hid (fun W (ho : Only (fun _ => False) W3 W) => (fr_mvs HGV.out).only ho)
  obtain ⟨k0, k1, k2, k3, k4, k5, k6, kl⟩ := boxC HCB3.out
  go_cut [6, 7] (fun s6 s7 wx => ∃ (rb : Nat) (x : RunVs), s6 = .pointer (some ⟨rb, 0, none⟩) ∧ s7 = .int .i64 0 ∧ Hid (PlayB W3 wx rb x R))
  case first =>
    have f0 := fun q : LaterF (fun _ => False) W3 => q.cell k0 kl (fun x => x)
    have f1 := fun q : LaterF (fun _ => False) W3 => q.cell k1 kl (fun x => x)
    have f2 := fun q : LaterF (fun _ => False) W3 => q.cell k2 kl (fun x => x)
    have f3 := fun q : LaterF (fun _ => False) W3 => q.cell k3 kl (fun x => x)
    have f4 := fun q : LaterF (fun _ => False) W3 => q.cell k4 kl (fun x => x)
    have f5 := fun q : LaterF (fun _ => False) W3 => q.cell k5 kl (fun x => x)
    have f6 := fun q : LaterF (fun _ => False) W3 => q.cell k6 kl (fun x => x)
    clear k0 k1 k2 k3 k4 k5 k6
    go_wp2
    refine wp_region_plan (fun wz => ∃ g : LaterF (fun _ => False) W3, wz = g.W) [5, 9, 10] [0, 1, 2, 3, 4] (.fork 5 [6, 7, 8] (.fork 9 [] (.fork 10 [] (.tail 11) .none) .none) (.fork 9 [] (.fork 5 [6, 7, 8] (.fork 10 [] (.tail 11) .none) .none) .none)) oper0 (by kernel_rfl) (by kernel_rfl) (laterF_in (Only.refl _ _).drew) ?_
    simp only [wpPlan, List.map_cons, List.map_nil, List.getD_cons_zero, List.getD_cons_succ, List.drop_succ_cons, List.drop_zero]
    repeat (first | go_big_quiet_skip | (go_big_quiet_want; go_big_quiet_op; go_big_quiet_on))
    refine wpQuiet_nil ?_
    refine ⟨?_, ?_, trivial⟩
    · skip
      go_wp2_with (go_at_call 18; refine (HP.out _ _ (HMV1.out _ (by repeat (with_reducible (first | exact Only.refl _ _ | apply Only.alloc | apply Only.drew | apply Only.more))))).mono ?_; rintro e w5 ⟨⟨va, vt, vb, vc⟩, he, hra, ho⟩; obtain ⟨oa5, ca5, e1, _, _⟩ := hra.wa.form; obtain ⟨ot5, ct5, e2, _, _⟩ := hra.wt.form; obtain ⟨ob5, cb5, e3, _, _⟩ := hra.wb.form; obtain ⟨oc5, cc5, e4, _, _⟩ := hra.wc.form; simp only at e1 e2 e3 e4; subst e1; subst e2; subst e3; subst e4; (unfold RunVs.v at he); subst he; have HRA := Lib.hid hra; clear hra; obtain ⟨os, d, rfl⟩ := (Only.below ho (fun _ h => h.elim) (Nat.le_refl _)).more; clear ho)
      refine strict_on ?_
      refine ⟨?_, ?_⟩
      · exact laterF_in (by repeat (with_reducible (first | exact Only.refl _ _ | apply Only.alloc | apply Only.drew | apply Only.more)))
      repeat (first | go_big_quiet_skip | (go_big_quiet_want; go_big_quiet_op; go_big_quiet_on))
      refine wpQuiet_nil ?_
      refine ⟨?_, trivial⟩
      go_wp2_with fail
      refine strict_on ?_
      refine ⟨?_, ?_⟩
      · exact laterF_in (by repeat (with_reducible (first | exact Only.refl _ _ | apply Only.alloc | apply Only.drew | apply Only.more)))
      repeat (first | go_big_quiet_skip | (go_big_quiet_want; go_big_quiet_op; go_big_quiet_on))
      refine wpQuiet_nil ?_
      refine ⟨?_, trivial⟩
      go_wp2_with fail
      refine strict_on ?_
      refine ⟨?_, ?_⟩
      · exact laterF_in (by repeat (with_reducible (first | exact Only.refl _ _ | apply Only.alloc | apply Only.drew | apply Only.more)))
      repeat (first | go_big_quiet_skip | (go_big_quiet_want; go_big_quiet_op; go_big_quiet_on))
      refine wpQuiet_nil ?_
      go_wp2
      go_meet
      exact ⟨_, ⟨_, _, _, _⟩, rfl, rfl, Lib.hid (PlayB.ofB HRA.out)⟩
    · skip
      go_wp2_with fail
      refine strict_on ?_
      refine ⟨?_, ?_⟩
      · exact laterF_in (by repeat (with_reducible (first | exact Only.refl _ _ | apply Only.alloc | apply Only.drew | apply Only.more)))
      repeat (first | go_big_quiet_skip | (go_big_quiet_want; go_big_quiet_op; go_big_quiet_on))
      refine wpQuiet_nil ?_
      refine ⟨?_, trivial⟩
      go_wp2_with (go_at_call 18; refine (HP.out _ _ (HMV1.out _ (by repeat (with_reducible (first | exact Only.refl _ _ | apply Only.alloc | apply Only.drew | apply Only.more))))).mono ?_; rintro e w5 ⟨⟨va, vt, vb, vc⟩, he, hra, ho⟩; obtain ⟨oa5, ca5, e1, _, _⟩ := hra.wa.form; obtain ⟨ot5, ct5, e2, _, _⟩ := hra.wt.form; obtain ⟨ob5, cb5, e3, _, _⟩ := hra.wb.form; obtain ⟨oc5, cc5, e4, _, _⟩ := hra.wc.form; simp only at e1 e2 e3 e4; subst e1; subst e2; subst e3; subst e4; (unfold RunVs.v at he); subst he; have HRA := Lib.hid hra; clear hra; obtain ⟨os, d, rfl⟩ := (Only.below ho (fun _ h => h.elim) (Nat.le_refl _)).more; clear ho)
      refine strict_on ?_
      refine ⟨?_, ?_⟩
      · exact laterF_in (by repeat (with_reducible (first | exact Only.refl _ _ | apply Only.alloc | apply Only.drew | apply Only.more)))
      repeat (first | go_big_quiet_skip | (go_big_quiet_want; go_big_quiet_op; go_big_quiet_on))
      refine wpQuiet_nil ?_
      refine ⟨?_, trivial⟩
      go_wp2_with fail
      refine strict_on ?_
      refine ⟨?_, ?_⟩
      · exact laterF_in (by repeat (with_reducible (first | exact Only.refl _ _ | apply Only.alloc | apply Only.drew | apply Only.more)))
      repeat (first | go_big_quiet_skip | (go_big_quiet_want; go_big_quiet_op; go_big_quiet_on))
      refine wpQuiet_nil ?_
      go_wp2
      go_meet
      exact ⟨_, ⟨_, _, _, _⟩, rfl, rfl, Lib.hid (PlayB.ofA HRA.out)⟩
  case rest =>
    obtain ⟨rb, ⟨va, vt, vb, vc⟩, rfl, rfl, HA⟩ := hcut
    obtain ⟨WA, hWA⟩ : ∃ W, W = wc := ⟨_, rfl⟩
    subst hWA
    have HCBA := Lib.hid (HA.out.on.blockF HCB3.out (fun x => x))
    have HMV2 := Lib.hid (fun W (ho : Only (fun _ => False) WA W) => HMV1.out W (HA.out.on.trans ho (fun _ x => x.elim)))
    clear k0 k1 k2 k3 k4 k5 k6 kl
    obtain ⟨k0, k1, k2, k3, k4, k5, k6, kl⟩ := boxC HCBA.out
    go_upto_region 5 with (fail)
    go_cut [8, 9] (fun s6 s7 wx => ∃ (rb : Nat) (x : RunVs), s6 = .pointer (some ⟨rb, 0, none⟩) ∧ s7 = .int .i64 0 ∧ Hid (PlayB WA wx rb x R))
    case first =>
      have f0 := fun q : LaterF (fun _ => False) WA => q.cell k0 kl (fun x => x)
      have f1 := fun q : LaterF (fun _ => False) WA => q.cell k1 kl (fun x => x)
      have f2 := fun q : LaterF (fun _ => False) WA => q.cell k2 kl (fun x => x)
      have f3 := fun q : LaterF (fun _ => False) WA => q.cell k3 kl (fun x => x)
      have f4 := fun q : LaterF (fun _ => False) WA => q.cell k4 kl (fun x => x)
      have f5 := fun q : LaterF (fun _ => False) WA => q.cell k5 kl (fun x => x)
      have f6 := fun q : LaterF (fun _ => False) WA => q.cell k6 kl (fun x => x)
      clear k0 k1 k2 k3 k4 k5 k6
      go_wp2
      refine wp_region_plan (fun wz => ∃ g : LaterF (fun _ => False) WA, wz = g.W) [5, 9, 10] [0, 1, 2, 3, 4] (.fork 5 [6, 7, 8] (.fork 9 [] (.fork 10 [] (.tail 11) .none) .none) (.fork 9 [] (.fork 5 [6, 7, 8] (.fork 10 [] (.tail 11) .none) .none) .none)) oper0 (by kernel_rfl) (by kernel_rfl) (laterF_in (Only.refl _ _).drew) ?_
      simp only [wpPlan, List.map_cons, List.map_nil, List.getD_cons_zero, List.getD_cons_succ, List.drop_succ_cons, List.drop_zero]
      repeat (first | go_big_quiet_skip | (go_big_quiet_want; go_big_quiet_op; go_big_quiet_on))
      refine wpQuiet_nil ?_
      refine ⟨?_, ?_, trivial⟩
      · skip
        go_wp2_with (go_at_call 18; refine (HP.out _ _ (HMV2.out _ (by repeat (with_reducible (first | exact Only.refl _ _ | apply Only.alloc | apply Only.drew | apply Only.more))))).mono ?_; rintro e w5 ⟨⟨va, vt, vb, vc⟩, he, hra, ho⟩; obtain ⟨oa5, ca5, e1, _, _⟩ := hra.wa.form; obtain ⟨ot5, ct5, e2, _, _⟩ := hra.wt.form; obtain ⟨ob5, cb5, e3, _, _⟩ := hra.wb.form; obtain ⟨oc5, cc5, e4, _, _⟩ := hra.wc.form; simp only at e1 e2 e3 e4; subst e1; subst e2; subst e3; subst e4; (unfold RunVs.v at he); subst he; have HRA := Lib.hid hra; clear hra; obtain ⟨os, d, rfl⟩ := (Only.below ho (fun _ h => h.elim) (Nat.le_refl _)).more; clear ho)
        refine strict_on ?_
        refine ⟨?_, ?_⟩
        · exact laterF_in (by repeat (with_reducible (first | exact Only.refl _ _ | apply Only.alloc | apply Only.drew | apply Only.more)))
        repeat (first | go_big_quiet_skip | (go_big_quiet_want; go_big_quiet_op; go_big_quiet_on))
        refine wpQuiet_nil ?_
        refine ⟨?_, trivial⟩
        go_wp2_with fail
        refine strict_on ?_
        refine ⟨?_, ?_⟩
        · exact laterF_in (by repeat (with_reducible (first | exact Only.refl _ _ | apply Only.alloc | apply Only.drew | apply Only.more)))
        repeat (first | go_big_quiet_skip | (go_big_quiet_want; go_big_quiet_op; go_big_quiet_on))
        refine wpQuiet_nil ?_
        refine ⟨?_, trivial⟩
        go_wp2_with fail
        refine strict_on ?_
        refine ⟨?_, ?_⟩
        · exact laterF_in (by repeat (with_reducible (first | exact Only.refl _ _ | apply Only.alloc | apply Only.drew | apply Only.more)))
        repeat (first | go_big_quiet_skip | (go_big_quiet_want; go_big_quiet_op; go_big_quiet_on))
        refine wpQuiet_nil ?_
        go_wp2
        go_meet
        exact ⟨_, ⟨_, _, _, _⟩, rfl, rfl, Lib.hid (PlayB.ofB HRA.out)⟩
      · skip
        go_wp2_with fail
        refine strict_on ?_
        refine ⟨?_, ?_⟩
        · exact laterF_in (by repeat (with_reducible (first | exact Only.refl _ _ | apply Only.alloc | apply Only.drew | apply Only.more)))
        repeat (first | go_big_quiet_skip | (go_big_quiet_want; go_big_quiet_op; go_big_quiet_on))
        refine wpQuiet_nil ?_
        refine ⟨?_, trivial⟩
        go_wp2_with (go_at_call 18; refine (HP.out _ _ (HMV2.out _ (by repeat (with_reducible (first | exact Only.refl _ _ | apply Only.alloc | apply Only.drew | apply Only.more))))).mono ?_; rintro e w5 ⟨⟨va, vt, vb, vc⟩, he, hra, ho⟩; obtain ⟨oa5, ca5, e1, _, _⟩ := hra.wa.form; obtain ⟨ot5, ct5, e2, _, _⟩ := hra.wt.form; obtain ⟨ob5, cb5, e3, _, _⟩ := hra.wb.form; obtain ⟨oc5, cc5, e4, _, _⟩ := hra.wc.form; simp only at e1 e2 e3 e4; subst e1; subst e2; subst e3; subst e4; (unfold RunVs.v at he); subst he; have HRA := Lib.hid hra; clear hra; obtain ⟨os, d, rfl⟩ := (Only.below ho (fun _ h => h.elim) (Nat.le_refl _)).more; clear ho)
        refine strict_on ?_
        refine ⟨?_, ?_⟩
        · exact laterF_in (by repeat (with_reducible (first | exact Only.refl _ _ | apply Only.alloc | apply Only.drew | apply Only.more)))
        repeat (first | go_big_quiet_skip | (go_big_quiet_want; go_big_quiet_op; go_big_quiet_on))
        refine wpQuiet_nil ?_
        refine ⟨?_, trivial⟩
        go_wp2_with fail
        refine strict_on ?_
        refine ⟨?_, ?_⟩
        · exact laterF_in (by repeat (with_reducible (first | exact Only.refl _ _ | apply Only.alloc | apply Only.drew | apply Only.more)))
        repeat (first | go_big_quiet_skip | (go_big_quiet_want; go_big_quiet_op; go_big_quiet_on))
        refine wpQuiet_nil ?_
        go_wp2
        go_meet
        exact ⟨_, ⟨_, _, _, _⟩, rfl, rfl, Lib.hid (PlayB.ofA HRA.out)⟩
    case rest =>
      obtain ⟨qb, ⟨ya, yt, yb, yc⟩, rfl, rfl, HB⟩ := hcut
      obtain ⟨WB, hWB⟩ : ∃ W, W = wc := ⟨_, rfl⟩
      subst hWB
      have hrx : RunAt WB W3.heap.size ⟨va, vt, vb, vc⟩ R := HA.out.run.of_block (fun k hk => HB.out.on.block k (HA.out.run.lt k hk).2 (fun x => x))
      have hOAB := HA.out.on.trans HB.out.on (fun _ x => x.elim)
      have HAB := Lib.hid HB.out.on.size
      have HOB := Lib.hid (HO3.out.trans hOAB (fun _ x => x.elim))
      have HK : Hid (FrK w (cfgO a0 a1 a2 a3 a4 a5 a6) g cg ms rb qb WA.heap.size ⟨va, vt, vb, vc⟩ ⟨ya, yt, yb, yc⟩ R WB) := Lib.hid ⟨hOAB.blockF HCB3.out (fun x => x), HGV.out.of_block (fun k hk => hOAB.block k (HGV.out.lt k hk).2 (fun x => x)), HB.out.on.blockF HA.out.box (fun x => x), HB.out.box, HB.out.run, HOB.out, fun k hk => by
        have h1 := HA.out.run.lt k hk
        have h2 := HB.out.ge
        have h3 := HO3.out.size
        refine ⟨by omega, by omega, fun e => HA.out.no (e ▸ hk), by omega, fun e => by have := (HB.out.run.lt k e).1; omega, by omega⟩⟩
      have HR := Lib.hid (FrR.ofRun hrx)
      have HSA := Lib.hid (fun W (hb : Below WB.heap.size WB W) => sameRun4_yes (hrx.src.below hb) (HB.out.run.src.below hb) HN1.out HN2.out HN3.out HN4.out)
      obtain ⟨oa, ca, e1, _, _⟩ := hrx.wa.form
      obtain ⟨ot, ct, e2, _, _⟩ := hrx.wt.form
      obtain ⟨ob, cb, e3, _, _⟩ := hrx.wb.form
      obtain ⟨oc, cc, e4, _, _⟩ := hrx.wc.form
      obtain ⟨oa', ca', f1, _, _⟩ := HB.out.run.wa.form
      obtain ⟨ot', ct', f2, _, _⟩ := HB.out.run.wt.form
      obtain ⟨ob', cb', f3, _, _⟩ := HB.out.run.wb.form
      obtain ⟨oc', cc', f4, _, _⟩ := HB.out.run.wc.form
      simp only at e1 e2 e3 e4 f1 f2 f3 f4
      subst e1 e2 e3 e4 f1 f2 f3 f4
      have hxs := hrx.src
      clear hrx hOAB HA HCBA HMV1 HMV2 HCB3 HGV k0 k1 k2 k3 k4 k5 k6 kl
      unfold RunVs.v at HSA
      obtain ⟨k0, k1, k2, k3, k4, k5, k6, kl⟩ := boxC HK.out.cfg
      have hb1 := HK.out.rbx
      have hb2 := HK.out.qbx
      have r0 : WB.cell? ⟨rb, 0, none⟩ = some (.slice oa R.calls.length ca) := by simp [World.cell?, hb1]
      have r1 : WB.cell? ⟨rb, 1, none⟩ = some (.slice ot R.trace.length ct) := by simp [World.cell?, hb1]
      have r2 : WB.cell? ⟨rb, 2, none⟩ = some (.slice ob R.shifts.length cb) := by simp [World.cell?, hb1]
      have r3 : WB.cell? ⟨rb, 3, none⟩ = some (.slice oc R.words.length cc) := by simp [World.cell?, hb1]
      have p0 : WB.cell? ⟨qb, 0, none⟩ = some (.slice oa' R.calls.length ca') := by simp [World.cell?, hb2]
      have p1 : WB.cell? ⟨qb, 1, none⟩ = some (.slice ot' R.trace.length ct') := by simp [World.cell?, hb2]
      have p2 : WB.cell? ⟨qb, 2, none⟩ = some (.slice ob' R.shifts.length cb') := by simp [World.cell?, hb2]
      have p3 : WB.cell? ⟨qb, 3, none⟩ = some (.slice oc' R.words.length cc') := by simp [World.cell?, hb2]
      have rl := (Array.getElem?_eq_some_iff.1 hb1).1
      have pl := (Array.getElem?_eq_some_iff.1 hb2).1
      obtain ⟨g', cg', eg, _, _, gl, _, _, gx⟩ := HK.out.giv.some_form (by omega)
      cases eg
      have gm : WB.cell? ⟨g, ms.length * 4, none⟩ = some (.int .i64 77) := gx _ _ (fr77 ms)
      clear gx hb1 hb2 hxs
      go_upto_region 9 with (first
        | (go_at_call 13; refine (num4_any _ _).mono ?_; rintro e wn ⟨rfl, rfl⟩)
        | (go_at_call 17; refine (HW.out _).mono ?_; rintro e w1 ⟨rfl, hb1⟩; obtain ⟨os, d, rfl⟩ := hb1.more; clear hb1)
        | (go_at_call 22; refine (HSA.out _ (by repeat (first | exact Below.refl _ _ | apply Below.drew | apply Below.more1 | apply Below.alloc1))).mono ?_; rintro e w6 ⟨rfl, hb6⟩; obtain ⟨os6, d6, rfl⟩ := hb6.more; clear hb6))
      clear k0 k1 k2 k3 k4 k5 k6 kl r0 r1 r2 r3 p0 p1 p2 p3 rl pl gm gl HSA HB
      go_wp2
      go_loopg [10] ms.length (fun gh s10 wr => ∃ i : Nat, i ≤ ms.length ∧ ms.length ≤ i + gh ∧ s10 = .int .i64 (i : Int) ∧ ∃ os d, wr = WB.more os d)
      case atStart => exact ⟨0, by omega, by omega, by go_num, RowKit.Below.more (by repeat (first | exact Below.refl _ _ | apply Below.drew | apply Below.more1 | apply Below.alloc1))⟩
      case round =>
        obtain ⟨i, hi1, hi2, rfl, os7, d7, rfl⟩ := hrel
        by_cases hlt : i < ms.length
        · obtain ⟨b, off, rfl, hb, m0, m1, m2, m3⟩ := HM.out i hlt
          replace m0 := (HOB.out.cellAt (p := ⟨b, off + i * 4 + 0, none⟩) hb (fun x => x)).trans m0
          replace m1 := (HOB.out.cellAt (p := ⟨b, off + i * 4 + 1, none⟩) hb (fun x => x)).trans m1
          replace m2 := (HOB.out.cellAt (p := ⟨b, off + i * 4 + 2, none⟩) hb (fun x => x)).trans m2
          replace m3 := (HOB.out.cellAt (p := ⟨b, off + i * 4 + 3, none⟩) hb (fun x => x)).trans m3
          have hbl : b < WB.heap.size := Nat.lt_of_lt_of_le hb HOB.out.size
          simp only [Nat.add_zero] at m0
          obtain ⟨g', cg', eg, _, _, gl, _, _, gx⟩ := HK.out.giv.some_form (by omega)
          cases eg
          have z0 := gx (i * 4 + 0) _ (frget ms hlt (by omega : 0 < 4))
          have z1 := gx (i * 4 + 1) _ (frget ms hlt (by omega : 1 < 4))
          have z2 := gx (i * 4 + 2) _ (frget ms hlt (by omega : 2 < 4))
          have z3 := gx (i * 4 + 3) _ (frget ms hlt (by omega : 3 < 4))
          simp only [Nat.add_zero] at z0
          generalize ms[i] = mk at *
          obtain ⟨mth, mop, marg, mdata⟩ := mk
          simp only [Mv.cells, List.getElem_cons_zero, List.getElem_cons_succ] at m0 m1 m2 m3 z0 z1 z2 z3
          clear gx
          go_wp2
          refine wp_region_more_lit (by kernel_rfl) (by kernel_rfl) ?_
          repeat (first | go_big_quiet_skip | (go_big_quiet_want; go_big_quiet_op; first | go_big_quiet_on | (apply Exists.intro; refine ⟨fun _ => ?_, ?_⟩; (focus (fail)); go_big_quiet_on)))
          refine wpQuiet_nil ?_
          intro osq dq
          go_wp2
          go_roundg (ms.length - (i + 1))
          case measure => omega
          case rel => exact ⟨i + 1, by omega, by omega, by go_num, RowKit.Below.more (by repeat (first | exact Below.refl _ _ | apply Below.drew | apply Below.more1 | apply Below.alloc1))⟩
        · obtain rfl : i = ms.length := by omega
          clear hi1 hi2 hlt
          go_upto_region 13 with (fail)
          refine gen_world ?_
          intro W6 hW6
          have oW6 : Only (fun _ => False) WB W6 := by rw [hW6]; exact (Only.refl _ _).more _ _
          have HW6 := Lib.hid (show FrW w (cfgO a0 a1 a2 a3 a4 a5 a6) g cg ms rb qb W3.heap.size WA.heap.size ⟨.slice oa R.calls.length ca, .slice ot R.trace.length ct, .slice ob R.shifts.length cb, .slice oc R.words.length cc⟩ ⟨.slice oa' R.calls.length ca', .slice ot' R.trace.length ct', .slice ob' R.shifts.length cb', .slice oc' R.words.length cc'⟩ R W6 from ⟨HK.out.only oW6, HR.out.only oW6⟩)
          have HB26 := Lib.hid (Nat.le_trans HAB.out oW6.size)
          clear hW6 oW6 HK HR HOB os7 d7
          go_wp2
          go_loopg [11] R.words.length (fun gh sl wr => ∃ j : Nat, j ≤ R.words.length ∧ R.words.length ≤ j + gh ∧ sl = .int .i64 (j : Int) ∧ Hid (FrW w (cfgO a0 a1 a2 a3 a4 a5 a6) g cg ms rb qb W3.heap.size WA.heap.size ⟨.slice oa R.calls.length ca, .slice ot R.trace.length ct, .slice ob R.shifts.length cb, .slice oc R.words.length cc⟩ ⟨.slice oa' R.calls.length ca', .slice ot' R.trace.length ct', .slice ob' R.shifts.length cb', .slice oc' R.words.length cc'⟩ R wr))
          case atStart => exact ⟨0, by omega, by omega, by go_num, HW6⟩
          case round =>
            clear HW6
            obtain ⟨j, hj1, hj2, rfl, hI⟩ := hrel
            have hrb := hI.out.1.rbx
            have r0 : wr.cell? ⟨rb, 3, none⟩ = some (.slice oc R.words.length cc) := by simp [World.cell?, hrb]
            have rl := (Array.getElem?_eq_some_iff.1 hrb).1
            by_cases hlt : j < R.words.length
            · obtain ⟨xs, hx⟩ := hI.out.2.row 3 (by omega)
              obtain ⟨rg, cap, e, h1, h2, h3, h4, h5, h6⟩ := hx.some_form (by show 0 < R.words.length; omega)
              have e2 : Value.slice oc R.words.length cc = .slice (some ⟨rg, 0, none⟩) R.words.length cap := e
              cases e2
              have hle : j * 1 + 1 ≤ R.words.length * 1 := by rw [← Nat.succ_mul]; exact Nat.mul_le_mul_right 1 hlt
              have HN := Lib.hid (FrW.puts (i := 3) (by omega) h4 [.int .u64 5] (j) wr (by show j + 1 ≤ R.words.length * 1; omega) hI.out)
              have hgb : rg ≠ rb := (hI.out.1.apart rg (fr_own (i := 3) (by omega) h4)).2.2.1
              have hcap : R.words.length ≤ cc := h1
              have hnn := HN4.out
              obtain ⟨u0, hu0⟩ : ∃ u, wr.cell? ⟨rg, j, none⟩ = some u := ⟨_, h6 j _ (List.getElem?_eq_getElem (by rw [hx.1]; show _ < R.words.length * 1; omega))⟩
              have hz := h5
              clear h6 hx hrb hI h4 e h1 h2
              go_wp2
              go_roundg (R.words.length - (j + 1))
              case measure => omega
              case rel => exact ⟨j + 1, by omega, by omega, by go_num, HN⟩
            · obtain rfl : j = R.words.length := by omega
              have HX1 := Lib.hid hI.out
              clear hI hrb hj1 hj2 hlt
              go_wp2
              clear r0 rl
              go_loopg [12] R.trace.length (fun gh sl wr => ∃ j : Nat, j ≤ R.trace.length ∧ R.trace.length ≤ j + gh ∧ sl = .int .i64 (j : Int) ∧ Hid (FrW w (cfgO a0 a1 a2 a3 a4 a5 a6) g cg ms rb qb W3.heap.size WA.heap.size ⟨.slice oa R.calls.length ca, .slice ot R.trace.length ct, .slice ob R.shifts.length cb, .slice oc R.words.length cc⟩ ⟨.slice oa' R.calls.length ca', .slice ot' R.trace.length ct', .slice ob' R.shifts.length cb', .slice oc' R.words.length cc'⟩ R wr))
              case atStart => exact ⟨0, by omega, by omega, by go_num, HX1⟩
              case round =>
                clear HX1
                obtain ⟨j, hj1, hj2, rfl, hI⟩ := hrel
                have hrb := hI.out.1.rbx
                have r0 : wr.cell? ⟨rb, 1, none⟩ = some (.slice ot R.trace.length ct) := by simp [World.cell?, hrb]
                have rl := (Array.getElem?_eq_some_iff.1 hrb).1
                by_cases hlt : j < R.trace.length
                · obtain ⟨xs, hx⟩ := hI.out.2.row 1 (by omega)
                  obtain ⟨rg, cap, e, h1, h2, h3, h4, h5, h6⟩ := hx.some_form (by show 0 < R.trace.length; omega)
                  have e2 : Value.slice ot R.trace.length ct = .slice (some ⟨rg, 0, none⟩) R.trace.length cap := e
                  cases e2
                  have hle : j * 7 + 7 ≤ R.trace.length * 7 := by rw [← Nat.succ_mul]; exact Nat.mul_le_mul_right 7 hlt
                  have HN := Lib.hid (FrW.puts (i := 1) (by omega) h4 [.int .i64 (-9), .int .i64 0, .int .i64 0, .int .i64 0, .int .u64 0, .int .u64 0, .int .u64 0] (j * 7) wr (by show j * 7 + 7 ≤ R.trace.length * 7; omega) hI.out)
                  have hgb : rg ≠ rb := (hI.out.1.apart rg (fr_own (i := 1) (by omega) h4)).2.2.1
                  have hcap : R.trace.length ≤ ct := h1
                  have hnn := HN2.out
                  obtain ⟨u0, hu0⟩ : ∃ u, wr.cell? ⟨rg, j * 7, none⟩ = some u := ⟨_, h6 (j * 7) _ (List.getElem?_eq_getElem (by rw [hx.1]; show _ < R.trace.length * 7; omega))⟩
                  obtain ⟨u1, hu1⟩ : ∃ u, wr.cell? ⟨rg, j * 7 + 1, none⟩ = some u := ⟨_, h6 (j * 7 + 1) _ (List.getElem?_eq_getElem (by rw [hx.1]; show _ < R.trace.length * 7; omega))⟩
                  obtain ⟨u2, hu2⟩ : ∃ u, wr.cell? ⟨rg, j * 7 + 2, none⟩ = some u := ⟨_, h6 (j * 7 + 2) _ (List.getElem?_eq_getElem (by rw [hx.1]; show _ < R.trace.length * 7; omega))⟩
                  obtain ⟨u3, hu3⟩ : ∃ u, wr.cell? ⟨rg, j * 7 + 3, none⟩ = some u := ⟨_, h6 (j * 7 + 3) _ (List.getElem?_eq_getElem (by rw [hx.1]; show _ < R.trace.length * 7; omega))⟩
                  obtain ⟨u4, hu4⟩ : ∃ u, wr.cell? ⟨rg, j * 7 + 4, none⟩ = some u := ⟨_, h6 (j * 7 + 4) _ (List.getElem?_eq_getElem (by rw [hx.1]; show _ < R.trace.length * 7; omega))⟩
                  obtain ⟨u5, hu5⟩ : ∃ u, wr.cell? ⟨rg, j * 7 + 5, none⟩ = some u := ⟨_, h6 (j * 7 + 5) _ (List.getElem?_eq_getElem (by rw [hx.1]; show _ < R.trace.length * 7; omega))⟩
                  obtain ⟨u6, hu6⟩ : ∃ u, wr.cell? ⟨rg, j * 7 + 6, none⟩ = some u := ⟨_, h6 (j * 7 + 6) _ (List.getElem?_eq_getElem (by rw [hx.1]; show _ < R.trace.length * 7; omega))⟩
                  have hz := h5
                  clear h6 hx hrb hI h4 e h1 h2
                  go_wp2
                  go_roundg (R.trace.length - (j + 1))
                  case measure => omega
                  case rel => exact ⟨j + 1, by omega, by omega, by go_num, HN⟩
                · obtain rfl : j = R.trace.length := by omega
                  have HX2 := Lib.hid hI.out
                  clear hI hrb hj1 hj2 hlt
                  go_wp2
                  clear r0 rl
                  go_loopg [13] R.shifts.length (fun gh sl wr => ∃ j : Nat, j ≤ R.shifts.length ∧ R.shifts.length ≤ j + gh ∧ sl = .int .i64 (j : Int) ∧ Hid (FrW w (cfgO a0 a1 a2 a3 a4 a5 a6) g cg ms rb qb W3.heap.size WA.heap.size ⟨.slice oa R.calls.length ca, .slice ot R.trace.length ct, .slice ob R.shifts.length cb, .slice oc R.words.length cc⟩ ⟨.slice oa' R.calls.length ca', .slice ot' R.trace.length ct', .slice ob' R.shifts.length cb', .slice oc' R.words.length cc'⟩ R wr))
                  case atStart => exact ⟨0, by omega, by omega, by go_num, HX2⟩
                  case round =>
                    clear HX2
                    obtain ⟨j, hj1, hj2, rfl, hI⟩ := hrel
                    have hrb := hI.out.1.rbx
                    have r0 : wr.cell? ⟨rb, 2, none⟩ = some (.slice ob R.shifts.length cb) := by simp [World.cell?, hrb]
                    have rl := (Array.getElem?_eq_some_iff.1 hrb).1
                    by_cases hlt : j < R.shifts.length
                    · obtain ⟨xs, hx⟩ := hI.out.2.row 2 (by omega)
                      obtain ⟨rg, cap, e, h1, h2, h3, h4, h5, h6⟩ := hx.some_form (by show 0 < R.shifts.length; omega)
                      have e2 : Value.slice ob R.shifts.length cb = .slice (some ⟨rg, 0, none⟩) R.shifts.length cap := e
                      cases e2
                      have hle : j * 5 + 5 ≤ R.shifts.length * 5 := by rw [← Nat.succ_mul]; exact Nat.mul_le_mul_right 5 hlt
                      have HN := Lib.hid (FrW.puts (i := 2) (by omega) h4 [.int .i64 (-9), .int .i64 0, .int .i64 0, .int .i64 0, .int .i64 0] (j * 5) wr (by show j * 5 + 5 ≤ R.shifts.length * 5; omega) hI.out)
                      have hgb : rg ≠ rb := (hI.out.1.apart rg (fr_own (i := 2) (by omega) h4)).2.2.1
                      have hcap : R.shifts.length ≤ cb := h1
                      have hnn := HN3.out
                      obtain ⟨u0, hu0⟩ : ∃ u, wr.cell? ⟨rg, j * 5, none⟩ = some u := ⟨_, h6 (j * 5) _ (List.getElem?_eq_getElem (by rw [hx.1]; show _ < R.shifts.length * 5; omega))⟩
                      obtain ⟨u1, hu1⟩ : ∃ u, wr.cell? ⟨rg, j * 5 + 1, none⟩ = some u := ⟨_, h6 (j * 5 + 1) _ (List.getElem?_eq_getElem (by rw [hx.1]; show _ < R.shifts.length * 5; omega))⟩
                      obtain ⟨u2, hu2⟩ : ∃ u, wr.cell? ⟨rg, j * 5 + 2, none⟩ = some u := ⟨_, h6 (j * 5 + 2) _ (List.getElem?_eq_getElem (by rw [hx.1]; show _ < R.shifts.length * 5; omega))⟩
                      obtain ⟨u3, hu3⟩ : ∃ u, wr.cell? ⟨rg, j * 5 + 3, none⟩ = some u := ⟨_, h6 (j * 5 + 3) _ (List.getElem?_eq_getElem (by rw [hx.1]; show _ < R.shifts.length * 5; omega))⟩
                      obtain ⟨u4, hu4⟩ : ∃ u, wr.cell? ⟨rg, j * 5 + 4, none⟩ = some u := ⟨_, h6 (j * 5 + 4) _ (List.getElem?_eq_getElem (by rw [hx.1]; show _ < R.shifts.length * 5; omega))⟩
                      have hz := h5
                      clear h6 hx hrb hI h4 e h1 h2
                      go_wp2
                      go_roundg (R.shifts.length - (j + 1))
                      case measure => omega
                      case rel => exact ⟨j + 1, by omega, by omega, by go_num, HN⟩
                    · obtain rfl : j = R.shifts.length := by omega
                      have HX3 := Lib.hid hI.out
                      clear hI hrb hj1 hj2 hlt
                      go_wp2
                      clear r0 rl
                      go_loopg [14] R.calls.length (fun gh sl wr => ∃ j : Nat, j ≤ R.calls.length ∧ R.calls.length ≤ j + gh ∧ sl = .int .i64 (j : Int) ∧ Hid (FrW w (cfgO a0 a1 a2 a3 a4 a5 a6) g cg ms rb qb W3.heap.size WA.heap.size ⟨.slice oa R.calls.length ca, .slice ot R.trace.length ct, .slice ob R.shifts.length cb, .slice oc R.words.length cc⟩ ⟨.slice oa' R.calls.length ca', .slice ot' R.trace.length ct', .slice ob' R.shifts.length cb', .slice oc' R.words.length cc'⟩ R wr))
                      case atStart => exact ⟨0, by omega, by omega, by go_num, HX3⟩
                      case round =>
                        clear HX3
                        obtain ⟨j, hj1, hj2, rfl, hI⟩ := hrel
                        have hrb := hI.out.1.rbx
                        have r0 : wr.cell? ⟨rb, 0, none⟩ = some (.slice oa R.calls.length ca) := by simp [World.cell?, hrb]
                        have rl := (Array.getElem?_eq_some_iff.1 hrb).1
                        by_cases hlt : j < R.calls.length
                        · obtain ⟨xs, hx⟩ := hI.out.2.row 0 (by omega)
                          obtain ⟨rg, cap, e, h1, h2, h3, h4, h5, h6⟩ := hx.some_form (by show 0 < R.calls.length; omega)
                          have e2 : Value.slice oa R.calls.length ca = .slice (some ⟨rg, 0, none⟩) R.calls.length cap := e
                          cases e2
                          have hle : j * 9 + 9 ≤ R.calls.length * 9 := by rw [← Nat.succ_mul]; exact Nat.mul_le_mul_right 9 hlt
                          have HN := Lib.hid (FrW.puts (i := 0) (by omega) h4 [.int .i64 0, .int .i64 0, .int .i64 0, .int .i64 0, .int .i64 (-9), .int .i64 0, .int .i64 0, .int .i64 0, .int .i64 0] (j * 9) wr (by show j * 9 + 9 ≤ R.calls.length * 9; omega) hI.out)
                          have hgb : rg ≠ rb := (hI.out.1.apart rg (fr_own (i := 0) (by omega) h4)).2.2.1
                          have hcap : R.calls.length ≤ ca := h1
                          have hnn := HN1.out
                          obtain ⟨u0, hu0⟩ : ∃ u, wr.cell? ⟨rg, j * 9, none⟩ = some u := ⟨_, h6 (j * 9) _ (List.getElem?_eq_getElem (by rw [hx.1]; show _ < R.calls.length * 9; omega))⟩
                          obtain ⟨u1, hu1⟩ : ∃ u, wr.cell? ⟨rg, j * 9 + 1, none⟩ = some u := ⟨_, h6 (j * 9 + 1) _ (List.getElem?_eq_getElem (by rw [hx.1]; show _ < R.calls.length * 9; omega))⟩
                          obtain ⟨u2, hu2⟩ : ∃ u, wr.cell? ⟨rg, j * 9 + 2, none⟩ = some u := ⟨_, h6 (j * 9 + 2) _ (List.getElem?_eq_getElem (by rw [hx.1]; show _ < R.calls.length * 9; omega))⟩
                          obtain ⟨u3, hu3⟩ : ∃ u, wr.cell? ⟨rg, j * 9 + 3, none⟩ = some u := ⟨_, h6 (j * 9 + 3) _ (List.getElem?_eq_getElem (by rw [hx.1]; show _ < R.calls.length * 9; omega))⟩
                          obtain ⟨u4, hu4⟩ : ∃ u, wr.cell? ⟨rg, j * 9 + 4, none⟩ = some u := ⟨_, h6 (j * 9 + 4) _ (List.getElem?_eq_getElem (by rw [hx.1]; show _ < R.calls.length * 9; omega))⟩
                          obtain ⟨u5, hu5⟩ : ∃ u, wr.cell? ⟨rg, j * 9 + 5, none⟩ = some u := ⟨_, h6 (j * 9 + 5) _ (List.getElem?_eq_getElem (by rw [hx.1]; show _ < R.calls.length * 9; omega))⟩
                          obtain ⟨u6, hu6⟩ : ∃ u, wr.cell? ⟨rg, j * 9 + 6, none⟩ = some u := ⟨_, h6 (j * 9 + 6) _ (List.getElem?_eq_getElem (by rw [hx.1]; show _ < R.calls.length * 9; omega))⟩
                          obtain ⟨u7, hu7⟩ : ∃ u, wr.cell? ⟨rg, j * 9 + 7, none⟩ = some u := ⟨_, h6 (j * 9 + 7) _ (List.getElem?_eq_getElem (by rw [hx.1]; show _ < R.calls.length * 9; omega))⟩
                          obtain ⟨u8, hu8⟩ : ∃ u, wr.cell? ⟨rg, j * 9 + 8, none⟩ = some u := ⟨_, h6 (j * 9 + 8) _ (List.getElem?_eq_getElem (by rw [hx.1]; show _ < R.calls.length * 9; omega))⟩
                          have hz := h5
                          clear h6 hx hrb hI h4 e h1 h2
                          go_wp2
                          go_roundg (R.calls.length - (j + 1))
                          case measure => omega
                          case rel => exact ⟨j + 1, by omega, by omega, by go_num, HN⟩
                        · obtain rfl : j = R.calls.length := by omega
                          have HX4 := Lib.hid hI.out
                          clear hI hrb hj1 hj2 hlt
                          go_wp2
                          clear r0 rl
                          obtain ⟨V, hV⟩ : ∃ V, V = wr := ⟨_, rfl⟩
                          subst hV
                          obtain ⟨k0, k1, k2, k3, k4, k5, k6, kl⟩ := boxC HX4.out.1.cfg
                          have HMV3 := Lib.hid (fun W (ho : Only (fun _ => False) V W) => HX4.out.1.mvs.only ho)
                          go_upto_region 29 with (fail)
                          go_cut [15, 16] (fun s6 s7 wx => ∃ (rb : Nat) (x : RunVs), s6 = .pointer (some ⟨rb, 0, none⟩) ∧ s7 = .int .i64 0 ∧ Hid (PlayB V wx rb x R))
                          case first =>
                            have f0 := fun q : LaterF (fun _ => False) V => q.cell k0 kl (fun x => x)
                            have f1 := fun q : LaterF (fun _ => False) V => q.cell k1 kl (fun x => x)
                            have f2 := fun q : LaterF (fun _ => False) V => q.cell k2 kl (fun x => x)
                            have f3 := fun q : LaterF (fun _ => False) V => q.cell k3 kl (fun x => x)
                            have f4 := fun q : LaterF (fun _ => False) V => q.cell k4 kl (fun x => x)
                            have f5 := fun q : LaterF (fun _ => False) V => q.cell k5 kl (fun x => x)
                            have f6 := fun q : LaterF (fun _ => False) V => q.cell k6 kl (fun x => x)
                            clear k0 k1 k2 k3 k4 k5 k6
                            go_wp2
                            refine wp_region_plan (fun wz => ∃ g : LaterF (fun _ => False) V, wz = g.W) [5, 9, 10] [0, 1, 2, 3, 4] (.fork 5 [6, 7, 8] (.fork 9 [] (.fork 10 [] (.tail 11) .none) .none) (.fork 9 [] (.fork 5 [6, 7, 8] (.fork 10 [] (.tail 11) .none) .none) .none)) oper0 (by kernel_rfl) (by kernel_rfl) (laterF_in (Only.refl _ _).drew) ?_
                            simp only [wpPlan, List.map_cons, List.map_nil, List.getD_cons_zero, List.getD_cons_succ, List.drop_succ_cons, List.drop_zero]
                            repeat (first | go_big_quiet_skip | (go_big_quiet_want; go_big_quiet_op; go_big_quiet_on))
                            refine wpQuiet_nil ?_
                            refine ⟨?_, ?_, trivial⟩
                            · skip
                              go_wp2_with (go_at_call 18; refine (HP.out _ _ (HMV3.out _ (by repeat (with_reducible (first | exact Only.refl _ _ | apply Only.alloc | apply Only.drew | apply Only.more))))).mono ?_; rintro e w5 ⟨⟨va, vt, vb, vc⟩, he, hra, ho⟩; obtain ⟨oa5, ca5, e1, _, _⟩ := hra.wa.form; obtain ⟨ot5, ct5, e2, _, _⟩ := hra.wt.form; obtain ⟨ob5, cb5, e3, _, _⟩ := hra.wb.form; obtain ⟨oc5, cc5, e4, _, _⟩ := hra.wc.form; simp only at e1 e2 e3 e4; subst e1; subst e2; subst e3; subst e4; (unfold RunVs.v at he); subst he; have HRA := Lib.hid hra; clear hra; obtain ⟨os, d, rfl⟩ := (Only.below ho (fun _ h => h.elim) (Nat.le_refl _)).more; clear ho)
                              refine strict_on ?_
                              refine ⟨?_, ?_⟩
                              · exact laterF_in (by repeat (with_reducible (first | exact Only.refl _ _ | apply Only.alloc | apply Only.drew | apply Only.more)))
                              repeat (first | go_big_quiet_skip | (go_big_quiet_want; go_big_quiet_op; go_big_quiet_on))
                              refine wpQuiet_nil ?_
                              refine ⟨?_, trivial⟩
                              go_wp2_with fail
                              refine strict_on ?_
                              refine ⟨?_, ?_⟩
                              · exact laterF_in (by repeat (with_reducible (first | exact Only.refl _ _ | apply Only.alloc | apply Only.drew | apply Only.more)))
                              repeat (first | go_big_quiet_skip | (go_big_quiet_want; go_big_quiet_op; go_big_quiet_on))
                              refine wpQuiet_nil ?_
                              refine ⟨?_, trivial⟩
                              go_wp2_with fail
                              refine strict_on ?_
                              refine ⟨?_, ?_⟩
                              · exact laterF_in (by repeat (with_reducible (first | exact Only.refl _ _ | apply Only.alloc | apply Only.drew | apply Only.more)))
                              repeat (first | go_big_quiet_skip | (go_big_quiet_want; go_big_quiet_op; go_big_quiet_on))
                              refine wpQuiet_nil ?_
                              go_wp2
                              go_meet
                              exact ⟨_, ⟨_, _, _, _⟩, rfl, rfl, Lib.hid (PlayB.ofB HRA.out)⟩
                            · skip
                              go_wp2_with fail
                              refine strict_on ?_
                              refine ⟨?_, ?_⟩
                              · exact laterF_in (by repeat (with_reducible (first | exact Only.refl _ _ | apply Only.alloc | apply Only.drew | apply Only.more)))
                              repeat (first | go_big_quiet_skip | (go_big_quiet_want; go_big_quiet_op; go_big_quiet_on))
                              refine wpQuiet_nil ?_
                              refine ⟨?_, trivial⟩
                              go_wp2_with (go_at_call 18; refine (HP.out _ _ (HMV3.out _ (by repeat (with_reducible (first | exact Only.refl _ _ | apply Only.alloc | apply Only.drew | apply Only.more))))).mono ?_; rintro e w5 ⟨⟨va, vt, vb, vc⟩, he, hra, ho⟩; obtain ⟨oa5, ca5, e1, _, _⟩ := hra.wa.form; obtain ⟨ot5, ct5, e2, _, _⟩ := hra.wt.form; obtain ⟨ob5, cb5, e3, _, _⟩ := hra.wb.form; obtain ⟨oc5, cc5, e4, _, _⟩ := hra.wc.form; simp only at e1 e2 e3 e4; subst e1; subst e2; subst e3; subst e4; (unfold RunVs.v at he); subst he; have HRA := Lib.hid hra; clear hra; obtain ⟨os, d, rfl⟩ := (Only.below ho (fun _ h => h.elim) (Nat.le_refl _)).more; clear ho)
                              refine strict_on ?_
                              refine ⟨?_, ?_⟩
                              · exact laterF_in (by repeat (with_reducible (first | exact Only.refl _ _ | apply Only.alloc | apply Only.drew | apply Only.more)))
                              repeat (first | go_big_quiet_skip | (go_big_quiet_want; go_big_quiet_op; go_big_quiet_on))
                              refine wpQuiet_nil ?_
                              refine ⟨?_, trivial⟩
                              go_wp2_with fail
                              refine strict_on ?_
                              refine ⟨?_, ?_⟩
                              · exact laterF_in (by repeat (with_reducible (first | exact Only.refl _ _ | apply Only.alloc | apply Only.drew | apply Only.more)))
                              repeat (first | go_big_quiet_skip | (go_big_quiet_want; go_big_quiet_op; go_big_quiet_on))
                              refine wpQuiet_nil ?_
                              go_wp2
                              go_meet
                              exact ⟨_, ⟨_, _, _, _⟩, rfl, rfl, Lib.hid (PlayB.ofA HRA.out)⟩
                          case rest =>
                            obtain ⟨sb, ⟨za, zt, zb, zc⟩, rfl, rfl, HC3⟩ := hcut
                            obtain ⟨WC, hWC⟩ : ∃ W, W = wc := ⟨_, rfl⟩
                            subst hWC
                            have HKC := Lib.hid (HX4.out.1.only HC3.out.on)
                            have HSC := Lib.hid (fun W (hb : Below WC.heap.size WC W) => sameRun4_yes (HC3.out.run.src.below hb) (HKC.out.qrow.src.below hb) HN1.out HN2.out HN3.out HN4.out)
                            obtain ⟨oa3, ca3, e1, _, _⟩ := HC3.out.run.wa.form
                            obtain ⟨ot3, ct3, e2, _, _⟩ := HC3.out.run.wt.form
                            obtain ⟨ob3, cb3, e3, _, _⟩ := HC3.out.run.wb.form
                            obtain ⟨oc3, cc3, e4, _, _⟩ := HC3.out.run.wc.form
                            simp only at e1 e2 e3 e4
                            subst e1 e2 e3 e4
                            unfold RunVs.v at HSC
                            have hb1 := HC3.out.box
                            have hb2 := HKC.out.qbx
                            have s0 : WC.cell? ⟨sb, 0, none⟩ = some (.slice oa3 R.calls.length ca3) := by simp [World.cell?, hb1]
                            have s1 : WC.cell? ⟨sb, 1, none⟩ = some (.slice ot3 R.trace.length ct3) := by simp [World.cell?, hb1]
                            have s2 : WC.cell? ⟨sb, 2, none⟩ = some (.slice ob3 R.shifts.length cb3) := by simp [World.cell?, hb1]
                            have s3 : WC.cell? ⟨sb, 3, none⟩ = some (.slice oc3 R.words.length cc3) := by simp [World.cell?, hb1]
                            have p0 : WC.cell? ⟨qb, 0, none⟩ = some (.slice oa' R.calls.length ca') := by simp [World.cell?, hb2]
                            have p1 : WC.cell? ⟨qb, 1, none⟩ = some (.slice ot' R.trace.length ct') := by simp [World.cell?, hb2]
                            have p2 : WC.cell? ⟨qb, 2, none⟩ = some (.slice ob' R.shifts.length cb') := by simp [World.cell?, hb2]
                            have p3 : WC.cell? ⟨qb, 3, none⟩ = some (.slice oc' R.words.length cc') := by simp [World.cell?, hb2]
                            have sl := (Array.getElem?_eq_some_iff.1 hb1).1
                            have pl := (Array.getElem?_eq_some_iff.1 hb2).1
                            clear hb1 hb2 k0 k1 k2 k3 k4 k5 k6 kl HX4 HMV3 HC3
                            obtain ⟨k0, k1, k2, k3, k4, k5, k6, kl⟩ := boxC HKC.out.cfg
                            go_upto_region 33 with (first
                              | (go_at_call 13; refine (num4_any _ _).mono ?_; rintro e wn ⟨rfl, rfl⟩)
                              | (go_at_call 22; refine (HSC.out _ (by repeat (first | exact Below.refl _ _ | apply Below.drew | apply Below.more1 | apply Below.alloc1))).mono ?_; rintro e w8 ⟨rfl, hb8⟩; obtain ⟨os8, d8, rfl⟩ := hb8.more; clear hb8)
                              | (go_at_call 19; refine (HT.out _).mono ?_; rintro e w9 hr; obtain ⟨tb, ab, xb, kit, w0, rfl, hL⟩ := LwI.start hr; have HL : Hid (LwI WC a0 a1 a2 a3 a4 a5 a6 tb ab xb kit w0 (arP ab a0 a1 a2 a3 a4 a5 a6 0) w9) := Lib.hid ⟨hL.tab, hL.blk, Only.trans (show Only (fun _ => False) WC _ by repeat (with_reducible (first | exact Only.refl _ _ | apply Only.more))) hL.on0 (fun _ x => x.elim)⟩; clear hr hL))
                            have HOC := Lib.hid HKC.out.on
                            have HCG := Lib.hid HKC.out.cfg
                            clear k0 k1 k2 k3 k4 k5 k6 kl s0 s1 s2 s3 p0 p1 p2 p3 sl pl HSC HKC HT HP
                            go_wp2
                            go_loopg [18] ms.length (fun gh s18 wr => ∃ k : Nat, k ≤ ms.length ∧ ms.length ≤ k + gh ∧ s18 = .int .i64 (k : Int) ∧ Hid (LwI WC a0 a1 a2 a3 a4 a5 a6 tb ab xb kit w0 ((arP ab a0 a1 a2 a3 a4 a5 a6 0).goes (ms.take k)) wr))
                            case atStart => exact ⟨0, by omega, by omega, by go_num, HL⟩
                            case round =>
                              clear HL
                              obtain ⟨k, hk1, hk2, rfl, hI⟩ := hrel
                              by_cases hlt : k < ms.length
                              · have hw : Only (fun _ => False) w wr := HOC.out.trans hI.out.on (fun _ x => x.elim)
                                obtain ⟨b, off, rfl, hb, m0, m1, m2, m3⟩ := HM.out k hlt
                                replace m0 := (hw.cellAt (p := ⟨b, off + k * 4 + 0, none⟩) hb (fun x => x)).trans m0
                                replace m1 := (hw.cellAt (p := ⟨b, off + k * 4 + 1, none⟩) hb (fun x => x)).trans m1
                                replace m2 := (hw.cellAt (p := ⟨b, off + k * 4 + 2, none⟩) hb (fun x => x)).trans m2
                                replace m3 := (hw.cellAt (p := ⟨b, off + k * 4 + 3, none⟩) hb (fun x => x)).trans m3
                                simp only [Nat.add_zero] at m0
                                have hbr : b < wr.heap.size := Nat.lt_of_lt_of_le hb hw.size
                                have HG := Lib.hid (arP_goodN (ab := ab) (u := 0) HOK.out (ms.take k))
                                have HTK := Lib.hid (take_next ms k hlt)
                                generalize ms[k] = mk at *
                                obtain ⟨mth, mop, marg, mdata⟩ := mk
                                simp only at m0 m1 m2 m3
                                obtain ⟨_, _, _, _, _, _, _, _, k8, kl⟩ := boxT hI.out.blk
                                have q8 := fun q : LaterF (fun _ => False) wr => q.cell k8 kl (fun x => x)
                                have n0 := fun q : LaterF (fun _ => False) wr => q.cell m0 hbr (fun x => x)
                                have n1 := fun q : LaterF (fun _ => False) wr => q.cell m1 hbr (fun x => x)
                                have n2 := fun q : LaterF (fun _ => False) wr => q.cell m2 hbr (fun x => x)
                                have n3 := fun q : LaterF (fun _ => False) wr => q.cell m3 hbr (fun x => x)
                                have HMVE := Lib.hid (fun w1 (h1 : Only (fun _ => False) wr w1) => lw_move (hI.out.only h1) HG.out ⟨mth, mop, marg, mdata⟩)
                                clear k8 m0 m1 m2 m3 hI hw HM
                                go_wp2
                                refine wp_region_plan (fun wz => ∃ q : LaterF (fun _ => False) wr, wz = q.W) [8] [0, 1, 2, 3, 4, 5, 6, 7] (.tail 8) oper0 (by kernel_rfl) (by kernel_rfl) (laterF_in (Only.refl _ _).drew) ?_
                                simp only [wpPlan, List.map_cons, List.map_nil, List.getD_cons_zero, List.getD_cons_succ, List.drop_succ_cons, List.drop_zero]
                                repeat (first | go_big_quiet_skip | (go_big_quiet_want; go_big_quiet_op; go_big_quiet_on))
                                refine wpQuiet_nil ?_
                                go_wp2_with (go_at_call 21; refine (HMVE.out _ (Only.refl _ wr).drew).mono ?_; rintro e w2 ⟨rfl, hmo⟩; have HNX := Lib.hid hmo; clear hmo)
                                go_roundg (ms.length - (k + 1))
                                case measure => omega
                                case rel => exact ⟨k + 1, by omega, by omega, by go_num, by rw [HTK.out, PM.goes_snoc]; exact HNX⟩
                              · obtain rfl : k = ms.length := by omega
                                have HPA := Lib.hid (arP_ahN (ab := ab) (u := 0) HOK.out (by have := (ok_bounds HOK.out).2.2.2.2.2.1; omega) (ms.take ms.length)).pa
                                obtain ⟨p, hp⟩ : ∃ p, p = (arP ab a0 a1 a2 a3 a4 a5 a6 0).goes (ms.take ms.length) := ⟨_, rfl⟩
                                rw [← hp] at hI HPA
                                have HI := Lib.hid hI.out
                                clear hp hI hk1 hk2 hlt HM
                                go_wp2
                                go_loopg [19] T (fun gh s19 wr => ∃ t : Nat, t ≤ T ∧ T ≤ t + gh ∧ s19 = .int .i64 (t : Int) ∧ Hid (LwI WC a0 a1 a2 a3 a4 a5 a6 tb ab xb kit w0 p wr))
                                case atStart => exact ⟨0, by omega, by omega, by go_num, HI⟩
                                case round =>
                                  clear HI
                                  obtain ⟨t, ht1, ht2, rfl, hI⟩ := hrel
                                  obtain ⟨VR, hVR⟩ : ∃ V, V = wr := ⟨_, rfl⟩
                                  subst hVR
                                  obtain ⟨k0, k1, k2, k3, k4, k5, k6, kl⟩ := boxC (hI.out.on.blockF HCG.out (fun x => x))
                                  rw [HTT.out] at k0
                                  by_cases hlt : t < T
                                  · have HCD := Lib.hid (fun w1 (h1 : Only (fun _ => False) VR w1) => lw_cached (hI.out.only h1) HPA.out (t : Int))
                                    have hcl := cache_small HPA.out (t : Int)
                                    generalize p.s.cache (t : Int) = c at *
                                    obtain ⟨_, _, _, _, _, _, _, t7, _, tl⟩ := boxT hI.out.blk
                                    have HTB := Lib.hid hI.out.blk
                                    have HLI := Lib.hid hI.out
                                    clear k1 k2 k3 k4 k5 k6 hI
                                    go_upto_region 43 with (go_at_call 23; refine (HCD.out _ (Only.refl _ _)).mono ?_; rintro e w5 ⟨o1, c1, rfl, y1, y2, y3, y4⟩; have HR5 := Lib.hid y3; have HO5 := Lib.hid y4; obtain ⟨_, _, _, _, _, _, _, t7', _, tl'⟩ := boxT (y4.blockF HTB.out (fun x => x)); clear y3 y4)
                                    clear t7 tl k0 kl
                                    go_upto_region 44 with (go_at_call 23; refine (HCD.out _ HO5.out).mono ?_; rintro e w6 ⟨o2, c2, rfl, u1, u2, u3, u4⟩; have HR6 := Lib.hid u3; have HO6 := Lib.hid u4; clear u3 u4)
                                    clear t7' tl'
                                    have ha6 := HR5.out.of_block (fun k hk => HO6.out.block k (HR5.out.lt k hk).2 (fun x => x))
                                    have HSI := Lib.hid (sameInts4_yes ha6.src HR6.out.src (by omega))
                                    have HA6 := Lib.hid ha6
                                    clear ha6
                                    go_upto_region 46 with (go_at_call 24; refine HSI.out.mono ?_; rintro e w1 ⟨rfl, hb1⟩; obtain ⟨os, d, rfl⟩ := hb1.more; clear hb1)
                                    refine gen_world ?_
                                    intro W7 hW7
                                    have o7 : Only (fun _ => False) w6 W7 := by rw [hW7]; exact (Only.refl _ _).more _ _
                                    have HA7 := Lib.hid (HA6.out.of_block (fun k hk => o7.block k (HA6.out.lt k hk).2 (fun x => x)))
                                    have HB7 := Lib.hid (HR6.out.of_block (fun k hk => o7.block k (HR6.out.lt k hk).2 (fun x => x)))
                                    have HAL := Lib.hid (fun k hk => (HR5.out.lt k hk).2)
                                    have HAW := Lib.hid (fun k hk => (HR5.out.lt k hk).1)
                                    have HO57 := Lib.hid ((HO5.out.trans HO6.out (fun _ x => x.elim)).trans o7 (fun _ x => x.elim))
                                    have HJ0 : Hid ((∃ xs, W7.RowV VR.heap.size 3 1 (.slice o1 c.length c1) c.length xs) ∧ Only (fun k => (Value.slice o1 c.length c1).rowBlock = some k) W7 W7) := Lib.hid ⟨⟨_, HA7.out⟩, Only.refl _ _⟩
                                    clear hW7 o7 HA6 HR5 HR6 HO5 HO6 HSI HA7
                                    go_wp2
                                    go_loopg [22] c.length (fun gh s22 wx => ∃ i : Nat, i ≤ c.length ∧ c.length ≤ i + gh ∧ s22 = .int .i64 (i : Int) ∧ Hid ((∃ xs, wx.RowV VR.heap.size 3 1 (.slice o1 c.length c1) c.length xs) ∧ Only (fun k => (Value.slice o1 c.length c1).rowBlock = some k) W7 wx))
                                    case atStart => exact ⟨0, by omega, by omega, by go_num, HJ0⟩
                                    case round =>
                                      clear HJ0
                                      obtain ⟨i, hi1, hi2, rfl, hJ⟩ := hrel
                                      by_cases hil : i < c.length
                                      · obtain ⟨xs, hx⟩ := hJ.out.1
                                        obtain ⟨rg, cap, e, h1, h2, h3, h4, h5, h6⟩ := hx.some_form (by omega)
                                        have HN := Lib.hid (show (∃ xs, (wr.setCell ⟨rg, i, none⟩ (.int .i64 (-1))).RowV VR.heap.size 3 1 (.slice o1 c.length c1) c.length xs) ∧ Only (fun k => (Value.slice o1 c.length c1).rowBlock = some k) W7 (wr.setCell ⟨rg, i, none⟩ (.int .i64 (-1))) from ⟨⟨_, hx.put h4 i (by omega) (.int .i64 (-1))⟩, hJ.out.2.set (.inl h4) _⟩)
                                        cases e
                                        obtain ⟨u0, hu0⟩ := show ∃ u, wr.cell? ⟨rg, i, none⟩ = some u from ⟨_, h6 i _ (List.getElem?_eq_getElem (by rw [hx.1]; omega))⟩
                                        have hz := h5
                                        clear h6 hx hJ h4 h2
                                        go_wp2
                                        go_roundg (c.length - (i + 1))
                                        case measure => omega
                                        case rel => exact ⟨i + 1, by omega, by omega, by go_num, HN⟩
                                      · obtain rfl : i = c.length := by omega
                                        have HOx := Lib.hid (HO57.out.trans hJ.out.2 (fun k hk => .inr (HAW.out k hk)))
                                        have hbx := HB7.out.of_block (fun k hk => hJ.out.2.block k (HB7.out.lt k hk).2 (fun e => by have := (HB7.out.lt k hk).1; have := HAL.out k e; omega))
                                        have HBX := Lib.hid hbx
                                        obtain ⟨_, _, _, _, _, _, _, t7, _, tl⟩ := boxT (HOx.out.blockF HTB.out (fun x => x))
                                        clear hbx hJ
                                        go_wp2_with (first
                                          | (go_at_call 23; refine (HCD.out _ HOx.out).mono ?_; rintro e w8 ⟨o3, c3, rfl, u1, u2, u3, u4⟩; have HSI8 := Lib.hid (sameInts4_yes u3.src (HBX.out.of_block (fun k hk => u4.block k (HBX.out.lt k hk).2 (fun x => x))).src (by omega)); have HO8 := Lib.hid (HOx.out.trans u4 (fun _ x => x.elim)); clear u3 u4)
                                          | (go_at_call 24; refine HSI8.out.mono ?_; rintro e w9 ⟨rfl, hb9⟩; have HL9 := Lib.hid (HLI.out.only (HO8.out.trans (Below.only0 hb9) (fun _ x => x.elim))); clear hb9))
                                        go_roundg (T - (t + 1))
                                        case measure => omega
                                        case rel => exact ⟨t + 1, by omega, by omega, by go_num, HL9⟩
                                  · obtain rfl : t = T := by omega
                                    go_wp2
                                    go_ret
                                    exact ⟨rfl, (HOC.out.trans hI.out.on (fun _ x => x.elim)).belowF⟩
theorem fresh_walk (a0 a1 a2 a3 a4 a5 a6 : Int) {w : World} {ms : List Mv} {om : Option Addr} {cm : Nat} (hm : MvsIn w (.slice om ms.length cm) ms) (hcm : ms.length ≤ cm ∧ cm ≤ maxLen ∧ (om = none → cm = 0)) :
    Calls Try.prog 7 #[.agg #[.int .i64 a0, .int .i64 a1, .int .i64 a2, .int .i64 a3, .int .i64 a4, .int .i64 a5, .int .i64 a6], .slice om ms.length cm] w fun e w' => e = .returned (.bool true) ∧ Below w.heap.size w w' := by
  cases hok : okCfg a0 a1 a2 a3 a4 a5 a6 with
  | false => exact fresh_out _ _ _ _ _ _ _ (.inl hok)
  | true =>
    by_cases hl : 65536 < ms.length
    · exact fresh_out _ _ _ _ _ _ _ (.inr ⟨hok, hl⟩)
    · exact fresh_in _ _ _ _ _ _ _ hok (by omega) hm hcm.2.2
end Go.Proofs.Ytjcggokhminmoaa
