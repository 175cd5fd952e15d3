/-
MachineJoins returns true.
-/
import Derived.Test.YtbhbpfpggfcpgaaQMoP
import Derived.Test.YtbhbpfpggfcpgaaQAwk
import Derived.Test.YtbhbpfpggfcpgaaQHis
namespace Go
open Go.RowKit
open Go.Proofs.Ytbhbpfpggfcpgaa
/-- the script's box, the three machines and the document's two -/
def jL (base : Nat) (o : Obj) (len sm : Int) (xa xb xc ja jb jc m1 m2 : Nat) (pa : PM (ownK len)) (pb : PM (ownK sm)) (pc : PM noneK) (o1 o2 : OS) : List (Thing base) :=
  [Thing.box base base o, Thing.pm2 (ownK_ok _) xa (.map (some ja)) pa, Thing.pm2 (ownK_ok _) xb (.map (some jb)) pb, Thing.pm2 noneK_ok xc (.map (some jc)) pc, Thing.rm2 base m1 o1 m2 o2]
def jS (n : Nat) (ox : Option Addr) (ll cx : Nat) (om : Option Addr) (ml cm : Nat) : Obj := .cells #[.int .i64 (n : Int), .slice ox ll cx, .slice om ml cm] 45 (0, 0)
end Go
namespace Go.Proofs.Ytbhbpfpggfcpgaa
open Go.ChangeShapes Go.WideShapes Go.ChangeAt Go.RowKit Go.Shelf

theorem CW.script {wa W : World} {ts : List (Thing wa.heap.size)} {n : Nat} {ox om : Option Addr} {ll cx ml cm : Nat} (h : CW wa ts W) (hi : ts[0]? = some (Thing.box wa.heap.size wa.heap.size (jS n ox ll cx om ml cm))) :
    W.cell? ⟨wa.heap.size, 0, none⟩ = some (.int .i64 (n : Int)) ∧ W.cell? ⟨wa.heap.size, 1, none⟩ = some (.slice ox ll cx) ∧ W.cell? ⟨wa.heap.size, 2, none⟩ = some (.slice om ml cm) ∧ wa.heap.size < W.heap.size := by
  have sb := h.box hi
  unfold jS at sb
  exact ⟨by simp [World.cell?, sb], by simp [World.cell?, sb], by simp [World.cell?, sb], (Array.getElem?_eq_some_iff.1 sb).1⟩

set_option maxRecDepth 100000 in
set_option maxHeartbeats 8000000 in
theorem joins_walk {w : World} {v : Value} {th : Int} {l : List Int} {ms : List Mv} {ox : Option Addr} {cx : Nat} {om : Option Addr} {cm : Nat} (h : ScrIn w v th l ms ox cx om cm) (sm0 : Int) : Calls Try.prog 12 #[v, .int .i64 sm0] w fun e w' => e = .returned (.bool true) ∧ Below w.heap.size w w' := by
  obtain ⟨rfl, hs0, hm0, hx0, hy0⟩ := h
  obtain ⟨l1, hl1⟩ : ∃ l1, l1 = l.take 8192 := ⟨_, rfl⟩
  obtain ⟨ms1, hms1⟩ : ∃ ms1, ms1 = ms.take 65536 := ⟨_, rfl⟩
  have hs1 : w.Src 1 (.slice ox l1.length cx) l1.length (u64s l1) := by
    have := hs0.take hx0.2.2 8192
    rw [show min l.length 8192 = (l.take 8192).length by simp; omega, ← hl1] at this
    exact this
  have hm1 : MvsIn w (.slice om ms1.length cm) ms1 := by
    have := hm0.take 65536
    rw [show min ms.length 65536 = (ms.take 65536).length by simp; omega, ← hms1] at this
    exact this
  have hll : l1.length ≤ 8192 := by rw [hl1]; simp; omega
  have hml : ms1.length ≤ 65536 := by rw [hms1]; simp; omega
  have hff : ∀ W, Calls Try.prog 29 #[.agg #[.int .i64 th, .slice ox l.length cx, .slice om ms.length cm]] W fun e w' => e = .returned (.agg #[.int .i64 (fitN th : Int), .slice ox l1.length cx, .slice om ms1.length cm]) ∧ Only (fun _ => False) W w' := fun W => by
    have := fit_ok (w := W) th ox l.length cx om ms.length cm hx0.1 hy0.1 hx0.2.1 hy0.2.1 hx0.2.2 hy0.2.2
    unfold FitRes at this
    rw [show min l.length 8192 = l1.length by rw [hl1]; simp; omega, show min ms.length 65536 = ms1.length by rw [hms1]; simp; omega] at this
    exact this
  obtain ⟨h1, h16⟩ := fitN_ok th
  obtain ⟨n, hn⟩ : ∃ n, n = fitN th := ⟨_, rfl⟩
  rw [← hn] at hff h1 h16
  have HS := Lib.hid hs1
  have HM := Lib.hid hm1
  have HF := Lib.hid hff
  clear hs0 hm0 hx0 hy0 hs1 hm1 hff hl1 hms1 hn
  go_enter Try.func12, Try.ntmps12
  go_upto_region 2 with (go_at_call 29; refine (HF.out _).mono ?_; rintro e w1 ⟨rfl, ho1⟩; obtain ⟨osA, dA, rfl⟩ := (Only.below ho1 (fun _ h => h.elim) (Nat.le_refl _)).more; clear ho1)
  refine gen_world ?_
  intro W1 hW1
  have HC1 : Hid (CW w [Thing.box w.heap.size w.heap.size (jS n ox l1.length cx om ms1.length cm)] W1) := Lib.hid ((CW.mk (Crew.none w) (Only.refl _ w)).addBox (by rw [hW1]; exact ((Only.refl _ w).alloc _).more _ _) (by rw [hW1, World.heap_more _ _ _ _ (by simp)]; exact heap_alloc_new w _) (Nat.le_refl _))
  clear hW1 HF
  obtain ⟨s0, s1, s2, sl⟩ := CW.script HC1.out rfl
  have d9 : ((l1.length : Nat) : Int) = (l1.length : Int) := rfl
  clear d9
  go_cut [28] from 20 to 28 (fun s28 wx => s28 = .bool (decide (sm0 < 0) || decide ((l1.length : Int) < sm0)) ∧ W1 = wx)
  case first =>
    have hcase : decide (sm0 < 0) = true ∨ (decide (sm0 < 0) = false ∧ decide ((l1.length : Int) < sm0) = true) ∨ (decide (sm0 < 0) = false ∧ decide ((l1.length : Int) < sm0) = false) := by
      by_cases h1 : sm0 < 0
      · exact .inl (by simpa using h1)
      · by_cases h2 : (l1.length : Int) < sm0
        · exact .inr (.inl ⟨by simpa using h1, by simpa using h2⟩)
        · exact .inr (.inr ⟨by simpa using h1, by simpa using h2⟩)
    rcases hcase with q1 | ⟨q1, q2⟩ | ⟨q1, q2⟩
    · go_wp2
      go_meet
      exact ⟨by rw [q1]; rfl, rfl⟩
    · go_wp2
      go_meet
      exact ⟨by rw [q1, q2]; rfl, rfl⟩
    · go_wp2
      go_meet
      exact ⟨by rw [q1, q2]; rfl, rfl⟩
  case rest =>
  obtain ⟨rfl, rfl⟩ := hcut
  obtain ⟨bb, hbb⟩ : ∃ bb, (decide (sm0 < 0) || decide ((l1.length : Int) < sm0)) = bb := ⟨_, rfl⟩
  rw [hbb]
  go_upto_if 28 with (fail)
  go_cut [1] (fun t1 wx => ∃ sm : Int, t1 = .int .i64 sm ∧ sm ≤ (l1.length : Int) ∧ W1 = wx)
  case first =>
    cases bb
    · go_wp2
      go_meet
      simp only [Bool.or_eq_false_iff, decide_eq_false_iff_not] at hbb
      exact ⟨sm0, rfl, by omega, rfl⟩
    · go_wp2
      go_meet
      exact ⟨0, rfl, by omega, rfl⟩
  case rest =>
  obtain ⟨sm, rfl, hsm, rfl⟩ := hcut
  clear hbb
  have HSM := Lib.hid hsm
  clear hsm
  go_wp2
  have q0 := fun q : LaterF (fun _ => False) W1 => q.cell s0 sl (fun x => x)
  have q1 := fun q : LaterF (fun _ => False) W1 => q.cell s1 sl (fun x => x)
  refine wp_region_plan (fun wz => ∃ q : LaterF (fun _ => False) W1, wz = q.W) [5, 9, 10, 11, 12] [0, 1, 2, 3, 4, 6, 7, 8] (.fork 5 [] (.fork 9 [] (.fork 10 [] (.fork 11 [] (.fork 12 [13, 14, 15, 16] (.tail 17) .none) .none) .none) .none) .none) oper0 (by kernel_rfl) (by kernel_rfl) (laterF_in (Only.refl _ _).drew) ?_
  simp only [wpPlan, List.map_cons, List.map_nil, List.getD_cons_zero, List.getD_cons_succ, List.drop_succ_cons, List.drop_zero]
  repeat (first | go_big_quiet_skip | (go_big_quiet_want; go_big_quiet_op; go_big_quiet_on))
  refine wpQuiet_nil ?_
  refine ⟨?_, trivial⟩
  go_wp2_with (go_at_call 16; refine (own_exact _).mono ?_; rintro e w5 ⟨ka, sa, ta, rfl, hk, hm, ho⟩; have HMA := Lib.hid hm; have HOA := Lib.hid ho; clear hk hm ho)
  refine strict_on ?_
  refine ⟨?_, ?_⟩
  · exact laterF_in ((Only.refl _ _).drew.trans HOA.out (fun _ x => x.elim))
  repeat (first | go_big_quiet_skip | (go_big_quiet_want; go_big_quiet_op; go_big_quiet_on))
  refine wpQuiet_nil ?_
  try with_reducible refine ⟨?_, trivial⟩
  go_wp2_with (go_at_call 16; refine (own_exact _).mono ?_; rintro e w9 ⟨kb, sa2, tb, rfl, hk, hm, ho⟩; have HKB := Lib.hid hk; have HMB := Lib.hid hm; have HOB := Lib.hid ho; have HO9 := Lib.hid (((Only.refl (fun _ => False) W1).drew.trans HOA.out (fun _ x => x.elim)).trans ho (fun _ x => x.elim)); clear hk hm ho)
  refine strict_on ?_
  refine ⟨?_, ?_⟩
  · exact laterF_in HO9.out
  repeat (first | go_big_quiet_skip | (go_big_quiet_want; go_big_quiet_op; go_big_quiet_on))
  refine wpQuiet_nil ?_
  try with_reducible refine ⟨?_, trivial⟩
  go_wp2_with fail
  refine strict_on ?_
  refine ⟨?_, ?_⟩
  · exact laterF_in (HO9.out.alloc _)
  repeat (first | go_big_quiet_skip | (go_big_quiet_want; go_big_quiet_op; go_big_quiet_on))
  refine wpQuiet_nil ?_
  try with_reducible refine ⟨?_, trivial⟩
  go_wp2_with (go_at_call 32; refine (join_pair (heap_alloc_new w9 _) ((((HOB.out.alloc _).block ka (Array.getElem?_eq_some_iff.1 HMA.out).1 (fun x => x))).trans HMA.out) (by rw [Below.heap_alloc _ _ _ (Array.getElem?_eq_some_iff.1 HMB.out).1]; exact HMB.out)).mono ?_; rintro e w11 ⟨ja, rfl, hj, ho, es, clk, hm, hr⟩; have HJ := Lib.hid (show W1.heap.size ≤ ja from Nat.le_trans (HO9.out.alloc _).size hj); have HJO := Lib.hid (((Only.refl (fun _ => False) w9).alloc _).trans ho (fun _ x => x.elim)); have HJM := Lib.hid (And.intro hm hr); clear hj ho hm hr)
  refine strict_on ?_
  refine ⟨?_, ?_⟩
  · exact laterF_in (HO9.out.trans HJO.out (fun _ x => x.elim))
  repeat (first | go_big_quiet_skip | (go_big_quiet_want; go_big_quiet_op; go_big_quiet_on))
  refine wpQuiet_nil ?_
  try with_reducible refine ⟨?_, trivial⟩
  go_wp2_with (go_at_call 15; refine (newm_ok (w := w11) (km := some ja) n (HS.out.only ((HC1.out.on.trans HO9.out (fun _ x => x.elim)).trans HJO.out (fun _ x => x.elim))) hll h1 h16).mono ?_; rintro e w12 ⟨xa, rfl, hna⟩; obtain ⟨Fn, hpm, hon⟩ := joined_pm (W := W1) HKB.out HOA.out.size HO9.out HJO.out HJ.out HJM.out.1 HJM.out.2 hna; have HO12 := Lib.hid hon; have HCa : Hid (CW w [Thing.box w.heap.size w.heap.size (jS n ox l1.length cx om ms1.length cm), Thing.pm2 (base := w.heap.size) (ownK_ok _) xa (.map (some ja)) ((PM.init (ownK l1.length) l1 n ()).goes [])] w12) := Lib.hid (HC1.out.addPm (ownK_ok _) hon (Nat.le_refl _) hpm); clear hna hpm hon)
  refine strict_on ?_
  refine ⟨?_, ?_⟩
  · exact laterF_in HO12.out
  repeat (first | go_big_quiet_skip | (go_big_quiet_want; go_big_quiet_op; go_big_quiet_on))
  refine wpQuiet_nil ?_
  clear q0 q1 s0 s1 s2 sl
  go_upto_region 5 with (fail)
  refine gen_world ?_
  intro W5 hW
  have HC5 : Hid (CW w [Thing.box w.heap.size w.heap.size (jS n ox l1.length cx om ms1.length cm), Thing.pm2 (base := w.heap.size) (ownK_ok _) xa (.map (some ja)) ((PM.init (ownK l1.length) l1 n ()).goes [])] W5) := Lib.hid (HCa.out.keep (by rw [hW]; repeat (first | exact Only.refl _ _ | apply Only.alloc | apply Only.drew | apply Only.more)))
  clear hW HCa HMA HOA HKB HMB HOB HO9 HJ HJO HJM HO12 HC1
  generalize w9.heap.size = bz5
  clear w12 w11 w9 w5
  obtain ⟨s0, s1, s2, sl⟩ := CW.script HC5.out rfl
  go_wp2
  have q0 := fun q : LaterF (fun _ => False) W5 => q.cell s0 sl (fun x => x)
  have q1 := fun q : LaterF (fun _ => False) W5 => q.cell s1 sl (fun x => x)
  refine wp_region_plan (fun wz => ∃ q : LaterF (fun _ => False) W5, wz = q.W) [7, 9, 10, 11, 12] [0, 1, 2, 3, 4, 5, 6, 8] (.fork 7 [] (.fork 9 [] (.fork 10 [] (.fork 11 [] (.fork 12 [13, 14, 15, 16] (.tail 17) .none) .none) .none) .none) .none) oper0 (by kernel_rfl) (by kernel_rfl) (laterF_in (Only.refl _ _).drew) ?_
  simp only [wpPlan, List.map_cons, List.map_nil, List.getD_cons_zero, List.getD_cons_succ, List.drop_succ_cons, List.drop_zero]
  repeat (first | go_big_quiet_skip | (go_big_quiet_want; go_big_quiet_op; go_big_quiet_on))
  refine wpQuiet_nil ?_
  refine ⟨?_, trivial⟩
  go_wp2_with (go_at_call 16; refine (own_exact _).mono ?_; rintro e w5 ⟨ka, sa, ta, rfl, hk, hm, ho⟩; have HMA := Lib.hid hm; have HOA := Lib.hid ho; clear hk hm ho)
  refine strict_on ?_
  refine ⟨?_, ?_⟩
  · exact laterF_in ((Only.refl _ _).drew.trans HOA.out (fun _ x => x.elim))
  repeat (first | go_big_quiet_skip | (go_big_quiet_want; go_big_quiet_op; go_big_quiet_on))
  refine wpQuiet_nil ?_
  try with_reducible refine ⟨?_, trivial⟩
  go_wp2_with (go_at_call 16; refine (own_exact _).mono ?_; rintro e w9 ⟨kb, sa2, tb, rfl, hk, hm, ho⟩; have HKB := Lib.hid hk; have HMB := Lib.hid hm; have HOB := Lib.hid ho; have HO9 := Lib.hid (((Only.refl (fun _ => False) W5).drew.trans HOA.out (fun _ x => x.elim)).trans ho (fun _ x => x.elim)); clear hk hm ho)
  refine strict_on ?_
  refine ⟨?_, ?_⟩
  · exact laterF_in HO9.out
  repeat (first | go_big_quiet_skip | (go_big_quiet_want; go_big_quiet_op; go_big_quiet_on))
  refine wpQuiet_nil ?_
  try with_reducible refine ⟨?_, trivial⟩
  go_wp2_with fail
  refine strict_on ?_
  refine ⟨?_, ?_⟩
  · exact laterF_in (HO9.out.alloc _)
  repeat (first | go_big_quiet_skip | (go_big_quiet_want; go_big_quiet_op; go_big_quiet_on))
  refine wpQuiet_nil ?_
  try with_reducible refine ⟨?_, trivial⟩
  go_wp2_with (go_at_call 32; refine (join_pair (heap_alloc_new w9 _) ((((HOB.out.alloc _).block ka (Array.getElem?_eq_some_iff.1 HMA.out).1 (fun x => x))).trans HMA.out) (by rw [Below.heap_alloc _ _ _ (Array.getElem?_eq_some_iff.1 HMB.out).1]; exact HMB.out)).mono ?_; rintro e w11 ⟨jb, rfl, hj, ho, es, clk, hm, hr⟩; have HJ := Lib.hid (show W5.heap.size ≤ jb from Nat.le_trans (HO9.out.alloc _).size hj); have HJO := Lib.hid (((Only.refl (fun _ => False) w9).alloc _).trans ho (fun _ x => x.elim)); have HJM := Lib.hid (And.intro hm hr); clear hj ho hm hr)
  refine strict_on ?_
  refine ⟨?_, ?_⟩
  · exact laterF_in (HO9.out.trans HJO.out (fun _ x => x.elim))
  repeat (first | go_big_quiet_skip | (go_big_quiet_want; go_big_quiet_op; go_big_quiet_on))
  refine wpQuiet_nil ?_
  try with_reducible refine ⟨?_, trivial⟩
  go_wp2_with (go_at_call 15; refine (newm_ok (w := w11) (km := some jb) n (HS.out.only ((HC5.out.on.trans HO9.out (fun _ x => x.elim)).trans HJO.out (fun _ x => x.elim))) hll h1 h16).mono ?_; rintro e w12 ⟨xb, rfl, hna⟩; obtain ⟨Fn, hpm, hon⟩ := joined_pm (W := W5) HKB.out HOA.out.size HO9.out HJO.out HJ.out HJM.out.1 HJM.out.2 hna; have HO12 := Lib.hid hon; have HCb : Hid (CW w [Thing.box w.heap.size w.heap.size (jS n ox l1.length cx om ms1.length cm), Thing.pm2 (base := w.heap.size) (ownK_ok _) xa (.map (some ja)) ((PM.init (ownK l1.length) l1 n ()).goes []), Thing.pm2 (base := w.heap.size) (ownK_ok _) xb (.map (some jb)) ((PM.init (ownK sm) l1 n ()).goes [])] w12) := Lib.hid (HC5.out.addPm (ownK_ok _) hon (Nat.le_refl _) hpm); clear hna hpm hon)
  refine strict_on ?_
  refine ⟨?_, ?_⟩
  · exact laterF_in HO12.out
  repeat (first | go_big_quiet_skip | (go_big_quiet_want; go_big_quiet_op; go_big_quiet_on))
  refine wpQuiet_nil ?_
  clear q0 q1 s0 s1 s2 sl
  go_upto_region 6 with (fail)
  refine gen_world ?_
  intro W6 hW
  have HC6 : Hid (CW w [Thing.box w.heap.size w.heap.size (jS n ox l1.length cx om ms1.length cm), Thing.pm2 (base := w.heap.size) (ownK_ok _) xa (.map (some ja)) ((PM.init (ownK l1.length) l1 n ()).goes []), Thing.pm2 (base := w.heap.size) (ownK_ok _) xb (.map (some jb)) ((PM.init (ownK sm) l1 n ()).goes [])] W6) := Lib.hid (HCb.out.keep (by rw [hW]; repeat (first | exact Only.refl _ _ | apply Only.alloc | apply Only.drew | apply Only.more)))
  clear hW HCb HMA HOA HKB HMB HOB HO9 HJ HJO HJM HO12 HC5
  generalize w9.heap.size = bz6
  clear w12 w11 w9 w5
  obtain ⟨s0, s1, s2, sl⟩ := CW.script HC6.out rfl
  go_wp2
  have q0 := fun q : LaterF (fun _ => False) W6 => q.cell s0 sl (fun x => x)
  have q1 := fun q : LaterF (fun _ => False) W6 => q.cell s1 sl (fun x => x)
  refine wp_region_plan (fun wz => ∃ q : LaterF (fun _ => False) W6, wz = q.W) [4, 5] [0, 1, 2, 3] (.fork 4 [] (.fork 5 [6, 7, 8, 9] (.tail 10) .none) .none) oper0 (by kernel_rfl) (by kernel_rfl) (laterF_in (Only.refl _ _).drew) ?_
  simp only [wpPlan, List.map_cons, List.map_nil, List.getD_cons_zero, List.getD_cons_succ, List.drop_succ_cons, List.drop_zero]
  repeat (first | go_big_quiet_skip | (go_big_quiet_want; go_big_quiet_op; go_big_quiet_on))
  refine wpQuiet_nil ?_
  refine ⟨?_, trivial⟩
  go_wp2_with (go_at_call 32; refine (join_nil _).mono ?_; rintro e w11 ⟨jc, rfl, hj, ho, es, clk, hm, hr⟩; have HJ := Lib.hid (show W6.heap.size ≤ jc from hj); have HJO := Lib.hid ((Only.refl (fun _ => False) W6).drew.trans ho (fun _ x => x.elim)); have HJM := Lib.hid (And.intro hm hr); clear hj ho hm hr)
  refine strict_on ?_
  refine ⟨?_, ?_⟩
  · exact laterF_in HJO.out
  repeat (first | go_big_quiet_skip | (go_big_quiet_want; go_big_quiet_op; go_big_quiet_on))
  refine wpQuiet_nil ?_
  try with_reducible refine ⟨?_, trivial⟩
  go_wp2_with (go_at_call 15; refine (newm_ok (w := w11) (km := some jc) n (HS.out.only (HC6.out.on.trans HJO.out (fun _ x => x.elim))) hll h1 h16).mono ?_; rintro e w12 ⟨xc, rfl, hna⟩; obtain ⟨Fn, hpm, hon⟩ := newAt_none (w := W6) HJM.out.1 HJM.out.2 HJ.out HJO.out hna; have HO12 := Lib.hid hon; have HCc : Hid (CW w [Thing.box w.heap.size w.heap.size (jS n ox l1.length cx om ms1.length cm), Thing.pm2 (base := w.heap.size) (ownK_ok _) xa (.map (some ja)) ((PM.init (ownK l1.length) l1 n ()).goes []), Thing.pm2 (base := w.heap.size) (ownK_ok _) xb (.map (some jb)) ((PM.init (ownK sm) l1 n ()).goes []), Thing.pm2 (base := w.heap.size) noneK_ok xc (.map (some jc)) ((PM.init noneK l1 n ()).goes [])] w12) := Lib.hid (HC6.out.addPm noneK_ok hon (Nat.le_refl _) hpm); clear hna hpm hon)
  refine strict_on ?_
  refine ⟨?_, ?_⟩
  · exact laterF_in HO12.out
  repeat (first | go_big_quiet_skip | (go_big_quiet_want; go_big_quiet_op; go_big_quiet_on))
  refine wpQuiet_nil ?_
  clear q0 q1 s0 s1 s2 sl
  go_upto_region 7 with (fail)
  refine gen_world ?_
  intro W7 hW
  have HC7 : Hid (CW w [Thing.box w.heap.size w.heap.size (jS n ox l1.length cx om ms1.length cm), Thing.pm2 (base := w.heap.size) (ownK_ok _) xa (.map (some ja)) ((PM.init (ownK l1.length) l1 n ()).goes []), Thing.pm2 (base := w.heap.size) (ownK_ok _) xb (.map (some jb)) ((PM.init (ownK sm) l1 n ()).goes []), Thing.pm2 (base := w.heap.size) noneK_ok xc (.map (some jc)) ((PM.init noneK l1 n ()).goes [])] W7) := Lib.hid (HCc.out.keep (by rw [hW]; repeat (first | exact Only.refl _ _ | apply Only.alloc | apply Only.drew | apply Only.more)))
  clear hW HCc HJ HJO HJM HO12 HC6
  clear w12 w11
  go_upto_region 9 with (go_at_call 26; refine awake_ok.mono ?_; rintro e w8 ⟨rfl, ho8⟩; have HC8 := Lib.hid (HC7.out.keep ho8); clear ho8)
  clear HC7
  go_upto_region 10 with (go_at_call 33; refine (rOwn_left _).mono ?_; rintro e w10 ⟨rfl, hO⟩; have HOL := Lib.hid hO; clear hO)
  obtain ⟨s0, s1, s2, sl⟩ := CW.script (HC8.out.keep HOL.out.on) rfl
  go_upto_region 11 with (go_at_call 34; refine (rNew_any (w0 := w8) (w := w10) n (HS.out.only (HC8.out.on.trans HOL.out.on (fun _ x => x.elim))) hll HOL.out.hc HOL.out.he HOL.out.ne h1 h16 HOL.out.on.size).mono ?_; rintro e w11 ⟨mb1, rfl, v6, hV⟩; have HV1 := Lib.hid (show NewI _ _ _ _ _ _ _ _ _ _ from ⟨v6, hV⟩); have HO11 := Lib.hid (HOL.out.on.trans hV.only (fun _ x => x.elim)); have HO10 := Lib.hid hV.only; clear hV)
  clear s0 s1 s2 sl
  obtain ⟨s0, s1, s2, sl⟩ := CW.script (HC8.out.keep HO11.out) rfl
  go_upto_region 12 with (go_at_call 34; refine (rNew_any (w0 := w8) (w := w11) n (HS.out.only (HC8.out.on.trans HO11.out (fun _ x => x.elim))) hll (HOL.out.hc.of_block fun k hk => HO10.out.block k (HOL.out.hc.lt k hk).2 (fun x => x)) (HOL.out.he.of_block fun k hk => HO10.out.block k (HOL.out.he.lt k hk).2 (fun x => x)) HOL.out.ne h1 h16 HO11.out.size).mono ?_; rintro e w12 ⟨mb2, rfl, v7, hV⟩; have HC9 := Lib.hid (HC8.out.addRm2 HOL.out.on HV1.out ⟨v7, hV⟩); clear hV)
  clear s0 s1 s2 sl
  obtain ⟨s0, s1, s2, sl⟩ := CW.script HC9.out rfl
  have HCL : Hid (CW w (jL w.heap.size (jS n ox l1.length cx om ms1.length cm) l1.length sm xa xb xc ja jb jc mb1 mb2 ((PM.init (ownK l1.length) l1 n ()).goes []) ((PM.init (ownK sm) l1 n ()).goes []) ((PM.init noneK l1 n ()).goes []) (osOf l1 n []) (osOf l1 n (([] : List Mv).map (partMv sm)))) w12) := Lib.hid HC9.out
  clear HC8 HOL HV1 HO11 HO10 HC9
  obtain ⟨_, _, em, hm1, hm2, hm3⟩ := HM.out
  cases em
  have HM3 := Lib.hid hm3
  unfold maxLen at hm2
  clear hm3 HM
  go_wp2
  clear s0 s1 s2 sl
  go_loopg [119] ms1.length (fun g sl wr => ∃ k : Nat, k ≤ ms1.length ∧ ms1.length ≤ k + g ∧ sl = .int .i64 (k : Int) ∧ Hid (CW w (jL w.heap.size (jS n ox l1.length cx om ms1.length cm) l1.length sm xa xb xc ja jb jc mb1 mb2 ((PM.init (ownK l1.length) l1 n ()).goes (ms1.take k)) ((PM.init (ownK sm) l1 n ()).goes (ms1.take k)) ((PM.init noneK l1 n ()).goes (ms1.take k)) (osOf l1 n (ms1.take k)) (osOf l1 n ((ms1.take k).map (partMv sm)))) wr))
  case atStart => exact ⟨0, by omega, by omega, by go_num, HCL⟩
  case round =>
    obtain ⟨k, hk1, hk2, rfl, hI⟩ := hrel
    by_cases hlt : k < ms1.length
    · have hw := hI.out.on
      obtain ⟨b, off, rfl, hb, m0, m1, m2, m3⟩ := HM3.out k hlt
      replace m0 := (hw.cellAt (p := ⟨b, off + k * 4 + 0, none⟩) hb (fun x => x)).trans m0
      replace m1 := (hw.cellAt (p := ⟨b, off + k * 4 + 1, none⟩) hb (fun x => x)).trans m1
      replace m2 := (hw.cellAt (p := ⟨b, off + k * 4 + 2, none⟩) hb (fun x => x)).trans m2
      replace m3 := (hw.cellAt (p := ⟨b, off + k * 4 + 3, none⟩) hb (fun x => x)).trans m3
      simp only [Nat.add_zero] at m0
      have hbr : b < wr.heap.size := Nat.lt_of_lt_of_le hb hw.size
      have HT := Lib.hid (take_next ms1 k hlt)
      have hdk : decide ((k : Int) < (ms1.length : Int)) = true := by simp; omega
      generalize ms1[k] = mv at m0 m1 m2 m3 HT
      obtain ⟨mth, mop, marg, mdata⟩ := mv
      simp only at m0 m1 m2 m3
      clear hw HCL
      go_upto_region 15 with (fail)
      refine gen_world ?_
      intro W7 hW7
      obtain ⟨bi, hbe⟩ : ∃ bi, wr.heap.size = bi := ⟨_, rfl⟩
      have HC7 : Hid (CW w (jL w.heap.size (jS n ox l1.length cx (some ⟨b, off, none⟩) ms1.length cm) l1.length sm xa xb xc ja jb jc mb1 mb2 ((PM.init (ownK l1.length) l1 n ()).goes (ms1.take k)) ((PM.init (ownK sm) l1 n ()).goes (ms1.take k)) ((PM.init noneK l1 n ()).goes (ms1.take k)) (osOf l1 n (ms1.take k)) (osOf l1 n ((ms1.take k).map (partMv sm))) ++ [Thing.box w.heap.size bi (.cells #[.int .i64 mth, .int .i64 mop, .int .i64 marg, .int .i64 mdata] 34 (0, 0))]) W7) := Lib.hid (by rw [← hbe, hW7]; exact hI.out.addBox ((Only.refl _ wr).alloc _) (heap_alloc_new wr _) (Nat.le_refl _))
      clear hW7 m0 m1 m2 m3 hI hbr
      rw [hbe]
      clear hbe
      clear wr
      have hbi := HC7.out.box (i := 5) rfl
      have n0 : W7.cell? ⟨bi, 0, none⟩ = some (.int .i64 mth) := by simp [World.cell?, hbi]
      have n1 : W7.cell? ⟨bi, 1, none⟩ = some (.int .i64 mop) := by simp [World.cell?, hbi]
      have n2 : W7.cell? ⟨bi, 2, none⟩ = some (.int .i64 marg) := by simp [World.cell?, hbi]
      have n3 : W7.cell? ⟨bi, 3, none⟩ = some (.int .i64 mdata) := by simp [World.cell?, hbi]
      have lbi := (Array.getElem?_eq_some_iff.1 hbi).1
      clear hbi
      obtain ⟨R, hR⟩ : ∃ R, refused sm ⟨mth, mop, marg, mdata⟩ = R := ⟨_, rfl⟩
      go_cut [17] from 123 to 136 (fun s17 wx => s17 = .bool R ∧ W7 = wx)
      case first =>
        have hfacts : ((mop == 1) = decide (mop = 1)) ∧ ((mop == 2) = decide (mop = 2)) := ⟨rfl, rfl⟩
        clear hfacts
        unfold refused at hR
        simp only at hR
        have hcase : (decide (mop = 1) = true ∧ decide (sm ≤ marg) = R) ∨ (decide (mop = 1) = false ∧ decide (mop = 2) = true ∧ decide (sm ≤ marg) = R) ∨ (decide (mop = 1) = false ∧ decide (mop = 2) = false ∧ R = false) := by
          cases h1 : decide (mop = 1) with
          | true => rw [h1] at hR; exact .inl ⟨rfl, by simpa using hR⟩
          | false =>
            cases h2 : decide (mop = 2) with
            | true => rw [h1, h2] at hR; exact .inr (.inl ⟨rfl, rfl, by simpa using hR⟩)
            | false => rw [h1, h2] at hR; exact .inr (.inr ⟨rfl, rfl, hR.symm⟩)
        clear hR
        rcases hcase with ⟨f1, f3⟩ | ⟨f1, f2, f3⟩ | ⟨f1, f2, rfl⟩
        · have g1 : (mop == 1) = true := by simpa using f1
          go_wp2
          go_meet
          exact ⟨rfl, rfl⟩
        · have g1 : (mop == 1) = false := by simpa using f1
          have g2 : (mop == 2) = true := by simpa using f2
          go_wp2
          go_meet
          exact ⟨rfl, rfl⟩
        · have g1 : (mop == 1) = false := by simpa using f1
          have g2 : (mop == 2) = false := by simpa using f2
          go_wp2
          go_meet
          exact ⟨rfl, rfl⟩
      case rest =>
      obtain ⟨rfl, rfl⟩ := hcut
      have r0 := fun q : LaterF (fun k => w.heap.size ≤ k ∧ k ≠ bi) W7 => q.cell n0 lbi (fun h => h.2 rfl)
      have r1 := fun q : LaterF (fun k => w.heap.size ≤ k ∧ k ≠ bi) W7 => q.cell n1 lbi (fun h => h.2 rfl)
      have r2 := fun q : LaterF (fun k => w.heap.size ≤ k ∧ k ≠ bi) W7 => q.cell n2 lbi (fun h => h.2 rfl)
      have r3 := fun q : LaterF (fun k => w.heap.size ≤ k ∧ k ≠ bi) W7 => q.cell n3 lbi (fun h => h.2 rfl)
      obtain ⟨D, hD⟩ : ∃ D, D = ((osOf l1 n (ms1.take k)).move l1.length ⟨mth, mop, marg, mdata⟩).2 := ⟨_, rfl⟩
      have HD1 := Lib.hid ((own_did l1 n (ms1.take k) ⟨mth, mop, marg, mdata⟩).trans hD.symm)
      have HD2 := Lib.hid hD.symm
      have hdd : (D != D) = false := by simp
      have HR := Lib.hid hR
      clear hD hR
      go_wp2
      refine wp_region_plan (fun wz => ∃ q : LaterF (fun k => w.heap.size ≤ k ∧ k ≠ bi) W7, wz = q.W) [2, 5, 10] [0, 1, 3, 4] (.fork 2 [] (.fork 5 [6, 7, 8, 9] (.tail 10) .none) .none) oper0 (by kernel_rfl) (by kernel_rfl) (laterF_in (Only.refl _ _).drew) ?_
      simp only [wpPlan, List.map_cons, List.map_nil, List.getD_cons_zero, List.getD_cons_succ, List.drop_succ_cons, List.drop_zero]
      repeat (first | go_big_quiet_skip | (go_big_quiet_want; go_big_quiet_op; go_big_quiet_on))
      refine wpQuiet_nil ?_
      refine ⟨?_, trivial⟩
      go_wp2_with (go_at_call 17; refine ((HC7.out.keep (Only.refl _ _).drew).moveO (ownK_ok _) (i := 1) rfl (own_good l1 n _ h1 h16) ⟨mth, mop, marg, mdata⟩).mono ?_; rintro e w8 ⟨rfl, hc8, o8⟩; rw [HD1.out]; have HC8 : Hid (CW w (jL w.heap.size (jS n ox l1.length cx (some ⟨b, off, none⟩) ms1.length cm) l1.length sm xa xb xc ja jb jc mb1 mb2 ((((PM.init (ownK l1.length) l1 n ()).goes (ms1.take k)).move ⟨mth, mop, marg, mdata⟩).1) ((PM.init (ownK sm) l1 n ()).goes (ms1.take k)) ((PM.init noneK l1 n ()).goes (ms1.take k)) (osOf l1 n (ms1.take k)) (osOf l1 n ((ms1.take k).map (partMv sm))) ++ [Thing.box w.heap.size bi (.cells #[.int .i64 mth, .int .i64 mop, .int .i64 marg, .int .i64 mdata] 34 (0, 0))]) w8) := Lib.hid hc8; have HO8 := Lib.hid ((Only.refl _ W7).drew.trans (o8 5 bi _ (by decide) rfl) (fun k hk => .inl hk)); clear hc8 o8)
      refine strict_on ?_
      refine ⟨?_, ?_⟩
      · exact laterF_in HO8.out
      repeat (first | go_big_quiet_skip | (go_big_quiet_want; go_big_quiet_op; go_big_quiet_on))
      refine wpQuiet_nil ?_
      try with_reducible refine ⟨?_, trivial⟩
      go_wp2_with (go_at_call 35; refine (HC8.out.rmove1 (i := 4) rfl hll ⟨mth, mop, marg, mdata⟩).mono ?_; rintro e w9 ⟨rfl, hc9, o9⟩; rw [HD2.out]; have HC9 : Hid (CW w (jL w.heap.size (jS n ox l1.length cx (some ⟨b, off, none⟩) ms1.length cm) l1.length sm xa xb xc ja jb jc mb1 mb2 ((((PM.init (ownK l1.length) l1 n ()).goes (ms1.take k)).move ⟨mth, mop, marg, mdata⟩).1) ((PM.init (ownK sm) l1 n ()).goes (ms1.take k)) ((PM.init noneK l1 n ()).goes (ms1.take k)) (osOf l1 n ((ms1.take k) ++ [⟨mth, mop, marg, mdata⟩])) (osOf l1 n ((ms1.take k).map (partMv sm))) ++ [Thing.box w.heap.size bi (.cells #[.int .i64 mth, .int .i64 mop, .int .i64 marg, .int .i64 mdata] 34 (0, 0))]) w9) := Lib.hid hc9; have HO9 := Lib.hid (HO8.out.trans (o9 5 bi _ (by decide) rfl) (fun k hk => .inl hk)); clear hc9 o9)
      refine strict_on ?_
      refine ⟨?_, ?_⟩
      · exact laterF_in HO9.out
      repeat (first | go_big_quiet_skip | (go_big_quiet_want; go_big_quiet_op; go_big_quiet_on))
      refine wpQuiet_nil ?_
      go_upto_region 18 with (go_at_call 17; refine (HC9.out.moveO noneK_ok (i := 3) rfl (none_good l1 n _ h1 h16) ⟨mth, mop, marg, mdata⟩).mono ?_; rintro e w10 ⟨rfl, hc10, o10⟩; rw [(none_move _ _).1]; have HC10 : Hid (CW w (jL w.heap.size (jS n ox l1.length cx (some ⟨b, off, none⟩) ms1.length cm) l1.length sm xa xb xc ja jb jc mb1 mb2 ((((PM.init (ownK l1.length) l1 n ()).goes (ms1.take k)).move ⟨mth, mop, marg, mdata⟩).1) ((PM.init (ownK sm) l1 n ()).goes (ms1.take k)) ((((PM.init noneK l1 n ()).goes (ms1.take k)).move ⟨mth, mop, marg, mdata⟩).1) (osOf l1 n ((ms1.take k) ++ [⟨mth, mop, marg, mdata⟩])) (osOf l1 n ((ms1.take k).map (partMv sm))) ++ [Thing.box w.heap.size bi (.cells #[.int .i64 mth, .int .i64 mop, .int .i64 marg, .int .i64 mdata] 34 (0, 0))]) w10) := Lib.hid hc10; clear hc10 o10)
      clear r0 r1 r2 r3 n0 n1 n2 n3 lbi HC7 HC8 HC9 HO8 HO9 HD1 HD2 hdd
      have hbi := HC10.out.box (i := 5) rfl
      have n0 : w10.cell? ⟨bi, 0, none⟩ = some (.int .i64 mth) := by simp [World.cell?, hbi]
      have n1 : w10.cell? ⟨bi, 1, none⟩ = some (.int .i64 mop) := by simp [World.cell?, hbi]
      have n2 : w10.cell? ⟨bi, 2, none⟩ = some (.int .i64 marg) := by simp [World.cell?, hbi]
      have n3 : w10.cell? ⟨bi, 3, none⟩ = some (.int .i64 mdata) := by simp [World.cell?, hbi]
      have lbi := (Array.getElem?_eq_some_iff.1 hbi).1
      clear hbi
      clear w9 w8
      cases R with
      | true =>
        go_wp2_with (first
          | (go_at_call 17; refine (HC10.out.moveO (ownK_ok _) (i := 2) rfl (part_good sm l1 n _ h1 h16) ⟨mth, mop, marg, mdata⟩).mono ?_; rintro e w11 ⟨rfl, hc, hq⟩; rw [part_no l1 n HSM.out _ _ HR.out]; have HC11 : Hid (CW w (jL w.heap.size (jS n ox l1.length cx (some ⟨b, off, none⟩) ms1.length cm) l1.length sm xa xb xc ja jb jc mb1 mb2 ((((PM.init (ownK l1.length) l1 n ()).goes (ms1.take k)).move ⟨mth, mop, marg, mdata⟩).1) ((((PM.init (ownK sm) l1 n ()).goes (ms1.take k)).move ⟨mth, mop, marg, mdata⟩).1) ((((PM.init noneK l1 n ()).goes (ms1.take k)).move ⟨mth, mop, marg, mdata⟩).1) (osOf l1 n ((ms1.take k) ++ [⟨mth, mop, marg, mdata⟩])) (osOf l1 n ((ms1.take k).map (partMv sm))) ++ [Thing.box w.heap.size bi (.cells #[.int .i64 mth, .int .i64 mop, .int .i64 marg, .int .i64 mdata] 34 (0, 0))]) w11) := Lib.hid hc; clear hc hq)
          | (go_at_call 35; refine (HC11.out.rmove2 (i := 4) rfl hll ⟨-1, 0, 0, 0⟩).mono ?_; rintro e w12 ⟨rfl, hc, hq⟩; have HC12 : Hid (CW w (jL w.heap.size (jS n ox l1.length cx (some ⟨b, off, none⟩) ms1.length cm) l1.length sm xa xb xc ja jb jc mb1 mb2 ((((PM.init (ownK l1.length) l1 n ()).goes (ms1.take k)).move ⟨mth, mop, marg, mdata⟩).1) ((((PM.init (ownK sm) l1 n ()).goes (ms1.take k)).move ⟨mth, mop, marg, mdata⟩).1) ((((PM.init noneK l1 n ()).goes (ms1.take k)).move ⟨mth, mop, marg, mdata⟩).1) (osOf l1 n ((ms1.take k) ++ [⟨mth, mop, marg, mdata⟩])) (osOf l1 n ((ms1.take k).map (partMv sm) ++ [⟨-1, 0, 0, 0⟩])) ++ [Thing.box w.heap.size bi (.cells #[.int .i64 mth, .int .i64 mop, .int .i64 marg, .int .i64 mdata] 34 (0, 0))]) w12) := Lib.hid hc; clear hc hq))
        have HI1 : Hid (CW w (jL w.heap.size (jS n ox l1.length cx (some ⟨b, off, none⟩) ms1.length cm) l1.length sm xa xb xc ja jb jc mb1 mb2 ((PM.init (ownK l1.length) l1 n ()).goes (ms1.take (k + 1))) ((PM.init (ownK sm) l1 n ()).goes (ms1.take (k + 1))) ((PM.init noneK l1 n ()).goes (ms1.take (k + 1))) (osOf l1 n (ms1.take (k + 1))) (osOf l1 n ((ms1.take (k + 1)).map (partMv sm)))) w12) := Lib.hid (by
          have hc := HC12.out
          rw [HT.out, PM.goes_snoc, PM.goes_snoc, PM.goes_snoc, List.map_append, show [(⟨mth, mop, marg, mdata⟩ : Mv)].map (partMv sm) = [⟨-1, 0, 0, 0⟩] by simp [partMv, HR.out]]
          exact ⟨Crew.init (us := [_]) hc.crew, hc.on⟩)
        go_roundg (ms1.length - (k + 1))
        case measure => omega
        case rel => exact ⟨k + 1, by omega, by omega, by go_num, HI1⟩
      | false =>
        obtain ⟨E, hE⟩ : ∃ E, E = ((osOf l1 n ((ms1.take k).map (partMv sm))).move l1.length ⟨mth, mop, marg, mdata⟩).2 := ⟨_, rfl⟩
        have HE1 : Hid ((((PM.init (ownK sm) l1 n ()).goes (ms1.take k)).move ⟨mth, mop, marg, mdata⟩).2 = E) := Lib.hid (by
          rw [part_did l1 n HSM.out, hE]
          simp [partMv, HR.out])
        have HE2 := Lib.hid hE.symm
        have hee : (E != E) = false := by simp
        clear hE
        have r0 := fun q : LaterF (fun k => w.heap.size ≤ k ∧ k ≠ bi) w10 => q.cell n0 lbi (fun h => h.2 rfl)
        have r1 := fun q : LaterF (fun k => w.heap.size ≤ k ∧ k ≠ bi) w10 => q.cell n1 lbi (fun h => h.2 rfl)
        have r2 := fun q : LaterF (fun k => w.heap.size ≤ k ∧ k ≠ bi) w10 => q.cell n2 lbi (fun h => h.2 rfl)
        have r3 := fun q : LaterF (fun k => w.heap.size ≤ k ∧ k ≠ bi) w10 => q.cell n3 lbi (fun h => h.2 rfl)
        go_wp2
        refine wp_region_plan (fun wz => ∃ q : LaterF (fun k => w.heap.size ≤ k ∧ k ≠ bi) w10, wz = q.W) [2, 5] [0, 1, 3, 4] (.fork 2 [] (.tail 5) .none) oper0 (by kernel_rfl) (by kernel_rfl) (laterF_in (Only.refl _ _).drew) ?_
        simp only [wpPlan, List.map_cons, List.map_nil, List.getD_cons_zero, List.getD_cons_succ, List.drop_succ_cons, List.drop_zero]
        repeat (first | go_big_quiet_skip | (go_big_quiet_want; go_big_quiet_op; go_big_quiet_on))
        refine wpQuiet_nil ?_
        refine ⟨?_, trivial⟩
        go_wp2_with (go_at_call 17; refine ((HC10.out.keep (Only.refl _ _).drew).moveO (ownK_ok _) (i := 2) rfl (part_good sm l1 n _ h1 h16) ⟨mth, mop, marg, mdata⟩).mono ?_; rintro e w11 ⟨rfl, hc, o11⟩; rw [HE1.out]; have HC11 : Hid (CW w (jL w.heap.size (jS n ox l1.length cx (some ⟨b, off, none⟩) ms1.length cm) l1.length sm xa xb xc ja jb jc mb1 mb2 ((((PM.init (ownK l1.length) l1 n ()).goes (ms1.take k)).move ⟨mth, mop, marg, mdata⟩).1) ((((PM.init (ownK sm) l1 n ()).goes (ms1.take k)).move ⟨mth, mop, marg, mdata⟩).1) ((((PM.init noneK l1 n ()).goes (ms1.take k)).move ⟨mth, mop, marg, mdata⟩).1) (osOf l1 n ((ms1.take k) ++ [⟨mth, mop, marg, mdata⟩])) (osOf l1 n ((ms1.take k).map (partMv sm))) ++ [Thing.box w.heap.size bi (.cells #[.int .i64 mth, .int .i64 mop, .int .i64 marg, .int .i64 mdata] 34 (0, 0))]) w11) := Lib.hid hc; have HO11 := Lib.hid ((Only.refl _ w10).drew.trans (o11 5 bi _ (by decide) rfl) (fun k hk => .inl hk)); clear hc o11)
        refine strict_on ?_
        refine ⟨?_, ?_⟩
        · exact laterF_in HO11.out
        repeat (first | go_big_quiet_skip | (go_big_quiet_want; go_big_quiet_op; go_big_quiet_on))
        refine wpQuiet_nil ?_
        go_upto_region 24 with (go_at_call 35; refine (HC11.out.rmove2 (i := 4) rfl hll ⟨mth, mop, marg, mdata⟩).mono ?_; rintro e w12 ⟨rfl, hc, hq⟩; rw [HE2.out]; have HC12 : Hid (CW w (jL w.heap.size (jS n ox l1.length cx (some ⟨b, off, none⟩) ms1.length cm) l1.length sm xa xb xc ja jb jc mb1 mb2 ((((PM.init (ownK l1.length) l1 n ()).goes (ms1.take k)).move ⟨mth, mop, marg, mdata⟩).1) ((((PM.init (ownK sm) l1 n ()).goes (ms1.take k)).move ⟨mth, mop, marg, mdata⟩).1) ((((PM.init noneK l1 n ()).goes (ms1.take k)).move ⟨mth, mop, marg, mdata⟩).1) (osOf l1 n ((ms1.take k) ++ [⟨mth, mop, marg, mdata⟩])) (osOf l1 n ((ms1.take k).map (partMv sm) ++ [⟨mth, mop, marg, mdata⟩])) ++ [Thing.box w.heap.size bi (.cells #[.int .i64 mth, .int .i64 mop, .int .i64 marg, .int .i64 mdata] 34 (0, 0))]) w12) := Lib.hid hc; clear hc hq)
        have HI1 : Hid (CW w (jL w.heap.size (jS n ox l1.length cx (some ⟨b, off, none⟩) ms1.length cm) l1.length sm xa xb xc ja jb jc mb1 mb2 ((PM.init (ownK l1.length) l1 n ()).goes (ms1.take (k + 1))) ((PM.init (ownK sm) l1 n ()).goes (ms1.take (k + 1))) ((PM.init noneK l1 n ()).goes (ms1.take (k + 1))) (osOf l1 n (ms1.take (k + 1))) (osOf l1 n ((ms1.take (k + 1)).map (partMv sm)))) w12) := Lib.hid (by
          have hc := HC12.out
          rw [HT.out, PM.goes_snoc, PM.goes_snoc, PM.goes_snoc, List.map_append, show [(⟨mth, mop, marg, mdata⟩ : Mv)].map (partMv sm) = [⟨mth, mop, marg, mdata⟩] by simp [partMv, HR.out]]
          exact ⟨Crew.init (us := [_]) hc.crew, hc.on⟩)
        clear r0 r1 r2 r3 n0 n1 n2 n3 lbi
        go_wp2
        go_roundg (ms1.length - (k + 1))
        case measure => omega
        case rel => exact ⟨k + 1, by omega, by omega, by go_num, HI1⟩
    · obtain rfl : k = ms1.length := by omega
      rw [List.take_length] at hI
      have hdk : decide ((ms1.length : Int) < (ms1.length : Int)) = false := by simp
      obtain ⟨s0, s1, s2, sl⟩ := CW.script hI.out rfl
      have q0 := fun q : LaterF (fun _ => False) wr => q.cell s0 sl (fun x => x)
      have q1 := fun q : LaterF (fun _ => False) wr => q.cell s1 sl (fun x => x)
      have HR1 := Lib.hid (osRun_small l1 n ms1 hll)
      have HR2 := Lib.hid (osRun_small l1 n (ms1.map (partMv sm)) hll)
      have HA : Hid (((PM.init (ownK l1.length) l1 n ()).goes ms1).run = osRun (osOf l1 n ms1)) := Lib.hid (own_os l1 n ms1)
      have HB : Hid (((PM.init (ownK sm) l1 n ()).goes ms1).run = osRun (osOf l1 n (ms1.map (partMv sm)))) := Lib.hid (part_run l1 n HSM.out ms1)
      have HLA := Lib.hid (show ((PM.init (ownK l1.length) l1 n ()).goes ms1).words.length ≤ 1000000 by rw [own_len]; omega)
      have HLB := Lib.hid (show ((PM.init (ownK sm) l1 n ()).goes ms1).words.length ≤ 1000000 by rw [part_len]; omega)
      have HNG := Lib.hid (none_goes (PM.init noneK l1 n ()) ms1)
      have HLC := Lib.hid (show ((PM.init noneK l1 n ()).goes ms1).words.length ≤ 1000000 by rw [HNG.out.1]; show l1.length ≤ _; omega)
      have HRC : Hid (((PM.init noneK l1 n ()).goes ms1).run.calls = [] ∧ ((PM.init noneK l1 n ()).goes ms1).run.words = l1) := Lib.hid ⟨HNG.out.2, HNG.out.1⟩
      have HCR : Hid (∀ W, Only (fun _ => False) wr W → Calls Try.prog 19 #[.pointer (some ⟨xc, 0, none⟩)] W fun e w' => ∃ (oa : Option Addr) (ca : Nat) (ot : Option Addr) (nt ct : Nat) (ob : Option Addr) (nb cb : Nat) (oc : Option Addr) (cc : Nat), e = .returned (.agg #[.slice oa 0 ca, .slice ot nt ct, .slice ob nb cb, .slice oc l1.length cc]) ∧ w'.Src 1 (.slice oc l1.length cc) l1.length (u64s l1) ∧ Only (fun _ => False) W w') := Lib.hid (fun W ho => by
        refine ((hI.out.keep ho).mrun noneK_ok (i := 3) rfl (none_good l1 n _ h1 h16) HLC.out).mono ?_
        rintro e w' ⟨x, rfl, hx, ho2⟩
        obtain ⟨oa, ca, ot, ct, ob, cb, oc, cc, rfl⟩ := hx.src.forms
        have hw := hx.src.wc
        rw [HRC.out.2] at hw
        unfold RunVs.v
        rw [HRC.out.1, HRC.out.2]
        exact ⟨oa, ca, ot, _, ct, ob, _, cb, oc, cc, rfl, hw, ho2⟩)
      clear HLC HNG HRC
      have hfd : ∀ (o1 o2 o3 o4 : Option Addr) (n1 n2 n3 n4 c1 c2 c3 c4 : Nat) (w : World), (Instr.field 41 (.agg #[.slice o1 n1 c1, .slice o2 n2 c2, .slice o3 n3 c3, .slice o4 n4 c4]) 0).run Try.prog w = .ok (.slice o1 n1 c1) w := fun _ _ _ _ _ _ _ _ _ _ _ _ _ => by kernel_rfl
      have hfe : ∀ (o1 o2 o3 o4 : Option Addr) (n1 n2 n3 n4 c1 c2 c3 c4 : Nat) (w : World), (Instr.field 41 (.agg #[.slice o1 n1 c1, .slice o2 n2 c2, .slice o3 n3 c3, .slice o4 n4 c4]) 3).run Try.prog w = .ok (.slice o4 n4 c4) w := fun _ _ _ _ _ _ _ _ _ _ _ _ _ => by kernel_rfl
      go_wp2
      refine wp_region_steps_q (fun wz => ∃ g : LaterF (fun _ => False) wr, wz = g.W) [1, 1, 0, 2, 1, 0, 3, 6, 3] (by kernel_rfl) (by kernel_rfl) (laterF_in ((Only.refl _ _).drew)) ?_
      simp only [cutSteps, List.take_succ_cons, List.take_zero, List.drop_succ_cons, List.drop_zero, wpSteps]
      repeat (first | go_big_quiet_skip | (go_big_quiet_want; go_big_quiet_op; go_big_quiet_on))
      refine wpQuiet_nil ?_
      go_wp2_with (go_at_call 19; refine ((hI.out.keep (Only.refl _ _).drew).mrun (ownK_ok _) (i := 1) rfl (own_good l1 n _ h1 h16) HLA.out).mono ?_; rw [HA.out]; rintro e wa ⟨xr1, rfl, hx, ho⟩; have HX1 := Lib.hid hx.src; have HO1 := Lib.hid (((Only.refl (fun _ => False) wr).drew).trans ho (fun _ x => x.elim)); have HO01 := Lib.hid ho; clear hx ho)
      try unfold Strict
      refine ⟨?_, ?_⟩
      · exact laterF_in HO1.out
      repeat (first | go_big_quiet_skip | (go_big_quiet_want; go_big_quiet_op; go_big_quiet_on))
      refine wpQuiet_nil ?_
      go_wp2_with (go_at_call 36; refine ((hI.out.keep HO1.out).told1 (i := 4) rfl hll).mono ?_; rintro e wb ⟨xr2, rfl, hx, ho⟩; have HX2 := Lib.hid hx.src; have HO2 := Lib.hid ((HO1.out).trans ho (fun _ x => x.elim)); have HO12 := Lib.hid ho; clear hx ho; have HX1 := Lib.hid (HX1.out.only HO12.out))
      try unfold Strict
      refine ⟨?_, ?_⟩
      · exact laterF_in HO2.out
      repeat (first | go_big_quiet_skip | (go_big_quiet_want; go_big_quiet_op; go_big_quiet_on))
      refine wpQuiet_nil ?_
      go_wp2_with (go_at_call 23; refine (sameRun_yes HX1.out HX2.out HR1.out.1 HR1.out.2.1 HR1.out.2.2.1 HR1.out.2.2.2).mono ?_; rintro e wc ⟨rfl, hb⟩; have HO3 := Lib.hid (HO2.out.trans (Only.of_below (F := fun _ => False) hb) (fun _ x => x.elim)); clear hb)
      try unfold Strict
      refine ⟨?_, ?_⟩
      · exact laterF_in HO3.out
      repeat (first | go_big_quiet_skip | (go_big_quiet_want; go_big_quiet_op; go_big_quiet_on))
      refine wpQuiet_nil ?_
      go_wp2_with (go_at_call 19; refine ((hI.out.keep HO3.out).mrun (ownK_ok _) (i := 2) rfl (part_good sm l1 n _ h1 h16) HLB.out).mono ?_; rw [HB.out]; rintro e wd ⟨xr3, rfl, hx, ho⟩; have HX3 := Lib.hid hx.src; have HO4 := Lib.hid ((HO3.out).trans ho (fun _ x => x.elim)); have HO34 := Lib.hid ho; clear hx ho)
      try unfold Strict
      refine ⟨?_, ?_⟩
      · exact laterF_in HO4.out
      repeat (first | go_big_quiet_skip | (go_big_quiet_want; go_big_quiet_op; go_big_quiet_on))
      refine wpQuiet_nil ?_
      go_wp2_with (go_at_call 36; refine ((hI.out.keep HO4.out).told2 (i := 4) rfl hll).mono ?_; rintro e we ⟨xr4, rfl, hx, ho⟩; have HX4 := Lib.hid hx.src; have HO5 := Lib.hid ((HO4.out).trans ho (fun _ x => x.elim)); have HO45 := Lib.hid ho; clear hx ho; have HX3 := Lib.hid (HX3.out.only HO45.out))
      try unfold Strict
      refine ⟨?_, ?_⟩
      · exact laterF_in HO5.out
      repeat (first | go_big_quiet_skip | (go_big_quiet_want; go_big_quiet_op; go_big_quiet_on))
      refine wpQuiet_nil ?_
      go_wp2_with (go_at_call 23; refine (sameRun_yes HX3.out HX4.out HR2.out.1 HR2.out.2.1 HR2.out.2.2.1 HR2.out.2.2.2).mono ?_; rintro e wf ⟨rfl, hb⟩; have HO6 := Lib.hid (HO5.out.trans (Only.of_below (F := fun _ => False) hb) (fun _ x => x.elim)); clear hb)
      try unfold Strict
      refine ⟨?_, ?_⟩
      · exact laterF_in HO6.out
      repeat (first | go_big_quiet_skip | (go_big_quiet_want; go_big_quiet_op; go_big_quiet_on))
      refine wpQuiet_nil ?_
      go_wp2_with (go_at_call 19; refine (HCR.out _ HO6.out).mono ?_; rintro e wg ⟨oa1, ca1, ot1, nt1, ct1, ob1, nb1, cb1, oc1, cc1, rfl, hy, ho⟩; have HO7 := Lib.hid (HO6.out.trans ho (fun _ x => x.elim)); clear hy ho)
      try unfold Strict
      refine ⟨?_, ?_⟩
      · exact laterF_in HO7.out
      repeat (first | go_big_quiet_skip | (go_big_quiet_want; go_big_quiet_op; go_big_quiet_on))
      refine wpQuiet_nil ?_
      go_wp2_with (go_at_call 19; refine (HCR.out _ HO7.out).mono ?_; rintro e wh ⟨oa2, ca2, ot2, nt2, ct2, ob2, nb2, cb2, oc2, cc2, rfl, hy, ho⟩; have HY := Lib.hid hy; have HO8 := Lib.hid (HO7.out.trans ho (fun _ x => x.elim)); clear hy ho)
      try unfold Strict
      refine ⟨?_, ?_⟩
      · exact laterF_in HO8.out
      repeat (first | go_big_quiet_skip | (go_big_quiet_want; go_big_quiet_op; go_big_quiet_on))
      refine wpQuiet_nil ?_
      go_wp2_with (go_at_call 25; refine (sameWords3_yes HY.out (HS.out.only (hI.out.on.trans HO8.out (fun _ x => x.elim))) (by omega)).mono ?_; rintro e wi ⟨rfl, hb⟩; have HO9 := Lib.hid (HO8.out.trans (Only.of_below (F := fun _ => False) hb) (fun _ x => x.elim)); clear hb)
      try unfold Strict
      refine ⟨?_, ?_⟩
      · exact laterF_in HO9.out
      repeat (first | go_big_quiet_skip | (go_big_quiet_want; go_big_quiet_op; go_big_quiet_on))
      refine wpQuiet_nil ?_
      go_wp2
      go_ret
      exact ⟨rfl, Only.below (hI.out.on.trans HO9.out (fun _ x => x.elim)) (fun _ h => h.elim) (Nat.le_refl _)⟩
end Go.Proofs.Ytbhbpfpggfcpgaa
