/-
WordPlan returns true.
-/
import Derived.Test.YtaokjiajceefaaaRAt
import Derived.Test.YtaokjiajceefaaaCfg
namespace Go.Proofs.Ytaokjiajceefaaa
open Go.ChangeShapes Go.WideShapes Go.ChangeAt Go.RowKit

def AtIs (a0 a1 a2 a3 a4 a5 a6 x p0 p1 p2 : Int) : Prop :=
  (∀ w, Calls Try.prog 33 #[.agg #[.int .i64 a0, .int .i64 a1, .int .i64 a2, .int .i64 a3, .int .i64 a4, .int .i64 a5, .int .i64 a6], .int .i64 x] w fun e w' => e = .returned (.tuple #[.agg #[.int .i64 p0, .int .i64 p1, .int .i64 p2], .int .i64 0]) ∧ Below w.heap.size w w') ∧
  (∀ w, Calls Try.prog 36 #[.agg #[.int .i64 a0, .int .i64 a1, .int .i64 a2, .int .i64 a3, .int .i64 a4, .int .i64 a5, .int .i64 a6], .int .i64 x] w fun e w' => e = .returned (.agg #[.int .i64 p0, .int .i64 p1, .int .i64 p2]) ∧ Below w.heap.size w w')

theorem at_any (a0 a1 a2 a3 a4 a5 a6 x : Int) (h : okCfg a0 a1 a2 a3 a4 a5 a6 = true) (h0 : 0 ≤ x) (h1 : x < baseF a1 a2 a5 a6 13) : ∃ p0 p1 p2, AtIs a0 a1 a2 a3 a4 a5 a6 x p0 p1 p2 := by
  obtain ⟨n, hn, hr⟩ := inReg_some h0 13 h1
  by_cases h8 : n = 8
  · subst h8
    exact ⟨_, _, _, fun w => at_nine a0 a1 a2 a3 a4 a5 a6 x h hr w, fun w => rat_nine a0 a1 a2 a3 a4 a5 a6 x h hr w⟩
  · exact ⟨_, _, _, fun w => at_one a0 a1 a2 a3 a4 a5 a6 x n h hn h8 hr w, fun w => rat_one a0 a1 a2 a3 a4 a5 a6 x n h hn h8 hr w⟩

theorem addrAt_bd {a0 a1 a2 a3 a4 a5 a6 r i k : Int} (h : okCfg a0 a1 a2 a3 a4 a5 a6 = true) (ho : addrOk a1 a2 a5 a6 r i k = true) : 0 ≤ addrAt a1 a2 a5 a6 r i k := by
  obtain ⟨b0, b1, b2, b3, b4, b5, b6, bm⟩ := ok_bounds h
  have hb := baseF_bd b1 b5 b6 bm (r - 1).toNat
  have hi : 0 ≤ i ∧ 0 ≤ k := by
    unfold addrOk at ho
    simp only [Bool.and_eq_true, decide_eq_true_eq] at ho
    exact ⟨ho.1.1.2, ho.1.2⟩
  have hm : 0 ≤ i * a2 := Int.mul_nonneg hi.1 (by omega)
  unfold addrAt
  split <;> omega

set_option maxHeartbeats 1000000 in
theorem plan_cfg (a0 a1 a2 a3 a4 a5 a6 r i k x : Int) (hok : okCfg a0 a1 a2 a3 a4 a5 a6 = false) (w : World) : Calls Try.prog 8 #[.agg #[.int .i64 a0, .int .i64 a1, .int .i64 a2, .int .i64 a3, .int .i64 a4, .int .i64 a5, .int .i64 a6], .agg #[.int .i64 r, .int .i64 i, .int .i64 k], .int .i64 x] w fun e w' => e = .returned (.bool true) ∧ Below w.heap.size w w' := by
  have hs : ∀ w, Calls Try.prog 31 #[.agg #[.int .i64 2, .int .i64 2, .int .i64 3, .int .i64 1, .int .i64 0, .int .i64 4, .int .i64 2]] w fun e w' => e = .returned (.tuple #[.int .i64 32, .int .i64 0]) ∧ Below w.heap.size w w' := fun w => size_ok 2 2 3 1 0 4 2 (by decide) w
  have HS := Lib.hid hs; clear hs
  go_enter Try.func8, Try.ntmps8
  go_wp2_with fail
  refine (small_any _).mono ?_; rintro e w1 ⟨rfl, hb1⟩; obtain ⟨os, d, rfl⟩ := hb1.more; clear hb1
  go_wp2_with fail
  refine (HS.out _).mono ?_; rintro e w1 ⟨rfl, hb1⟩; obtain ⟨os, d, rfl⟩ := hb1.more; clear hb1
  go_wp2_with fail
  refine (size_no _ _ _ _ _ _ _ hok _).mono ?_; rintro e w1 ⟨rfl, hb1⟩; obtain ⟨os, d, rfl⟩ := hb1.more; clear hb1
  go_wp2_with (first
    | (go_at_call 32; refine (addr_cfg _ _ _ _ _ _ _ _ _ _ hok _).mono ?_; rintro e w1 ⟨rfl, hb1⟩; obtain ⟨os, d, rfl⟩ := hb1.more; clear hb1)
    | (go_at_call 33; refine (at_cfg _ _ _ _ _ _ _ _ hok _).mono ?_; rintro e w1 ⟨rfl, hb1⟩; obtain ⟨os, d, rfl⟩ := hb1.more; clear hb1)
    | (go_at_call 18; refine (config_any _ _ _ _ _ _ _ _).mono ?_; rintro e w1 ⟨rfl, hb1⟩; obtain ⟨os, d, rfl⟩ := hb1.more; clear hb1))
  all_goals
    go_ret
    exact ⟨rfl, (by repeat (first | exact Below.refl _ _ | apply Below.drew | apply Below.more1 | apply Below.alloc1))⟩

set_option maxHeartbeats 1000000 in
theorem plan_ok_lo (a0 a1 a2 a3 a4 a5 a6 r i k x : Int) (hok : okCfg a0 a1 a2 a3 a4 a5 a6 = true) (ho : addrOk a1 a2 a5 a6 r i k = true) (hx : x < 0) (w : World) : Calls Try.prog 8 #[.agg #[.int .i64 a0, .int .i64 a1, .int .i64 a2, .int .i64 a3, .int .i64 a4, .int .i64 a5, .int .i64 a6], .agg #[.int .i64 r, .int .i64 i, .int .i64 k], .int .i64 x] w fun e w' => e = .returned (.bool true) ∧ Below w.heap.size w w' := by
  have hb := addrAt_bd hok ho
  have hs : ∀ w, Calls Try.prog 31 #[.agg #[.int .i64 2, .int .i64 2, .int .i64 3, .int .i64 1, .int .i64 0, .int .i64 4, .int .i64 2]] w fun e w' => e = .returned (.tuple #[.int .i64 32, .int .i64 0]) ∧ Below w.heap.size w w' := fun w => size_ok 2 2 3 1 0 4 2 (by decide) w
  have HS := Lib.hid hs; clear hs
  go_enter Try.func8, Try.ntmps8
  go_wp2_with fail
  refine (small_any _).mono ?_; rintro e w1 ⟨rfl, hb1⟩; obtain ⟨os, d, rfl⟩ := hb1.more; clear hb1
  go_wp2_with fail
  refine (HS.out _).mono ?_; rintro e w1 ⟨rfl, hb1⟩; obtain ⟨os, d, rfl⟩ := hb1.more; clear hb1
  go_wp2_with fail
  refine (size_ok _ _ _ _ _ _ _ hok _).mono ?_; rintro e w1 ⟨rfl, hb1⟩; obtain ⟨os, d, rfl⟩ := hb1.more; clear hb1
  go_wp2_with (first
    | (go_at_call 32; refine (addr_ok _ _ _ _ _ _ _ _ _ _ hok ho _).mono ?_; rintro e w1 ⟨rfl, hb1⟩; obtain ⟨os, d, rfl⟩ := hb1.more; clear hb1)
    | (go_at_call 33; refine (at_bad _ _ _ _ _ _ _ _ hok (by omega) _).mono ?_; rintro e w1 ⟨rfl, hb1⟩; obtain ⟨os, d, rfl⟩ := hb1.more; clear hb1)
    | (go_at_call 18; refine (config_any _ _ _ _ _ _ _ _).mono ?_; rintro e w1 ⟨rfl, hb1⟩; obtain ⟨os, d, rfl⟩ := hb1.more; clear hb1)
    | (go_at_call 34; refine (rsize_any _ _ _ _ _ _ _ hok _).mono ?_; rintro e w1 ⟨rfl, hb1⟩; obtain ⟨os, d, rfl⟩ := hb1.more; clear hb1)
    | (go_at_call 35; refine (raddr_ok _ _ _ _ _ _ _ _ _ _ hok ho _).mono ?_; rintro e w1 ⟨rfl, hb1⟩; obtain ⟨os, d, rfl⟩ := hb1.more; clear hb1))
  all_goals
    go_ret
    exact ⟨rfl, (by repeat (first | exact Below.refl _ _ | apply Below.drew | apply Below.more1 | apply Below.alloc1))⟩

set_option maxHeartbeats 1000000 in
theorem plan_ok_hi (a0 a1 a2 a3 a4 a5 a6 r i k x : Int) (hok : okCfg a0 a1 a2 a3 a4 a5 a6 = true) (ho : addrOk a1 a2 a5 a6 r i k = true) (hx0 : 0 ≤ x) (hx : baseF a1 a2 a5 a6 13 ≤ x) (w : World) : Calls Try.prog 8 #[.agg #[.int .i64 a0, .int .i64 a1, .int .i64 a2, .int .i64 a3, .int .i64 a4, .int .i64 a5, .int .i64 a6], .agg #[.int .i64 r, .int .i64 i, .int .i64 k], .int .i64 x] w fun e w' => e = .returned (.bool true) ∧ Below w.heap.size w w' := by
  have hb := addrAt_bd hok ho
  have hs : ∀ w, Calls Try.prog 31 #[.agg #[.int .i64 2, .int .i64 2, .int .i64 3, .int .i64 1, .int .i64 0, .int .i64 4, .int .i64 2]] w fun e w' => e = .returned (.tuple #[.int .i64 32, .int .i64 0]) ∧ Below w.heap.size w w' := fun w => size_ok 2 2 3 1 0 4 2 (by decide) w
  have HS := Lib.hid hs; clear hs
  go_enter Try.func8, Try.ntmps8
  go_wp2_with fail
  refine (small_any _).mono ?_; rintro e w1 ⟨rfl, hb1⟩; obtain ⟨os, d, rfl⟩ := hb1.more; clear hb1
  go_wp2_with fail
  refine (HS.out _).mono ?_; rintro e w1 ⟨rfl, hb1⟩; obtain ⟨os, d, rfl⟩ := hb1.more; clear hb1
  go_wp2_with fail
  refine (size_ok _ _ _ _ _ _ _ hok _).mono ?_; rintro e w1 ⟨rfl, hb1⟩; obtain ⟨os, d, rfl⟩ := hb1.more; clear hb1
  go_wp2_with (first
    | (go_at_call 32; refine (addr_ok _ _ _ _ _ _ _ _ _ _ hok ho _).mono ?_; rintro e w1 ⟨rfl, hb1⟩; obtain ⟨os, d, rfl⟩ := hb1.more; clear hb1)
    | (go_at_call 33; refine (at_bad _ _ _ _ _ _ _ _ hok (by omega) _).mono ?_; rintro e w1 ⟨rfl, hb1⟩; obtain ⟨os, d, rfl⟩ := hb1.more; clear hb1)
    | (go_at_call 18; refine (config_any _ _ _ _ _ _ _ _).mono ?_; rintro e w1 ⟨rfl, hb1⟩; obtain ⟨os, d, rfl⟩ := hb1.more; clear hb1)
    | (go_at_call 34; refine (rsize_any _ _ _ _ _ _ _ hok _).mono ?_; rintro e w1 ⟨rfl, hb1⟩; obtain ⟨os, d, rfl⟩ := hb1.more; clear hb1)
    | (go_at_call 35; refine (raddr_ok _ _ _ _ _ _ _ _ _ _ hok ho _).mono ?_; rintro e w1 ⟨rfl, hb1⟩; obtain ⟨os, d, rfl⟩ := hb1.more; clear hb1))
  all_goals
    go_ret
    exact ⟨rfl, (by repeat (first | exact Below.refl _ _ | apply Below.drew | apply Below.more1 | apply Below.alloc1))⟩

set_option maxHeartbeats 1000000 in
theorem plan_ok_in (a0 a1 a2 a3 a4 a5 a6 r i k x : Int) (hok : okCfg a0 a1 a2 a3 a4 a5 a6 = true) (ho : addrOk a1 a2 a5 a6 r i k = true) (hx0 : 0 ≤ x) (hx : x < baseF a1 a2 a5 a6 13) (w : World) : Calls Try.prog 8 #[.agg #[.int .i64 a0, .int .i64 a1, .int .i64 a2, .int .i64 a3, .int .i64 a4, .int .i64 a5, .int .i64 a6], .agg #[.int .i64 r, .int .i64 i, .int .i64 k], .int .i64 x] w fun e w' => e = .returned (.bool true) ∧ Below w.heap.size w w' := by
  have hb := addrAt_bd hok ho
  obtain ⟨p0, p1, p2, ha⟩ := at_any a0 a1 a2 a3 a4 a5 a6 x hok hx0 hx
  have HA := Lib.hid ha; clear ha
  have hs : ∀ w, Calls Try.prog 31 #[.agg #[.int .i64 2, .int .i64 2, .int .i64 3, .int .i64 1, .int .i64 0, .int .i64 4, .int .i64 2]] w fun e w' => e = .returned (.tuple #[.int .i64 32, .int .i64 0]) ∧ Below w.heap.size w w' := fun w => size_ok 2 2 3 1 0 4 2 (by decide) w
  have HS := Lib.hid hs; clear hs
  go_enter Try.func8, Try.ntmps8
  go_wp2_with fail
  refine (small_any _).mono ?_; rintro e w1 ⟨rfl, hb1⟩; obtain ⟨os, d, rfl⟩ := hb1.more; clear hb1
  go_wp2_with fail
  refine (HS.out _).mono ?_; rintro e w1 ⟨rfl, hb1⟩; obtain ⟨os, d, rfl⟩ := hb1.more; clear hb1
  go_wp2_with fail
  refine (size_ok _ _ _ _ _ _ _ hok _).mono ?_; rintro e w1 ⟨rfl, hb1⟩; obtain ⟨os, d, rfl⟩ := hb1.more; clear hb1
  go_wp2_with (first
    | (go_at_call 32; refine (addr_ok _ _ _ _ _ _ _ _ _ _ hok ho _).mono ?_; rintro e w1 ⟨rfl, hb1⟩; obtain ⟨os, d, rfl⟩ := hb1.more; clear hb1)
    | (go_at_call 33; refine (HA.out.1 _).mono ?_; rintro e w1 ⟨rfl, hb1⟩; obtain ⟨os, d, rfl⟩ := hb1.more; clear hb1)
    | (go_at_call 18; refine (config_any _ _ _ _ _ _ _ _).mono ?_; rintro e w1 ⟨rfl, hb1⟩; obtain ⟨os, d, rfl⟩ := hb1.more; clear hb1)
    | (go_at_call 34; refine (rsize_any _ _ _ _ _ _ _ hok _).mono ?_; rintro e w1 ⟨rfl, hb1⟩; obtain ⟨os, d, rfl⟩ := hb1.more; clear hb1)
    | (go_at_call 35; refine (raddr_ok _ _ _ _ _ _ _ _ _ _ hok ho _).mono ?_; rintro e w1 ⟨rfl, hb1⟩; obtain ⟨os, d, rfl⟩ := hb1.more; clear hb1))
  go_wp2
  refine wp_region_more_lit (by kernel_rfl) (by kernel_rfl) ?_
  repeat (first | go_big_quiet_skip | (go_big_quiet_want; go_big_quiet_op; first | go_big_quiet_on | (apply Exists.intro; refine ⟨fun _ => ?_, ?_⟩; (focus (go_at_call 36; exact Calls.more_of (HA.out.2 _))); go_big_quiet_on)))
  refine wpQuiet_nil ?_
  intro osq dq
  go_wp2
  all_goals
    go_ret
    exact ⟨rfl, (by repeat (first | exact Below.refl _ _ | apply Below.drew | apply Below.more1 | apply Below.alloc1))⟩

set_option maxHeartbeats 1000000 in
theorem plan_no_lo (a0 a1 a2 a3 a4 a5 a6 r i k x : Int) (hok : okCfg a0 a1 a2 a3 a4 a5 a6 = true) (ho : addrOk a1 a2 a5 a6 r i k = false) (hx : x < 0) (w : World) : Calls Try.prog 8 #[.agg #[.int .i64 a0, .int .i64 a1, .int .i64 a2, .int .i64 a3, .int .i64 a4, .int .i64 a5, .int .i64 a6], .agg #[.int .i64 r, .int .i64 i, .int .i64 k], .int .i64 x] w fun e w' => e = .returned (.bool true) ∧ Below w.heap.size w w' := by
  have hs : ∀ w, Calls Try.prog 31 #[.agg #[.int .i64 2, .int .i64 2, .int .i64 3, .int .i64 1, .int .i64 0, .int .i64 4, .int .i64 2]] w fun e w' => e = .returned (.tuple #[.int .i64 32, .int .i64 0]) ∧ Below w.heap.size w w' := fun w => size_ok 2 2 3 1 0 4 2 (by decide) w
  have HS := Lib.hid hs; clear hs
  go_enter Try.func8, Try.ntmps8
  go_wp2_with fail
  refine (small_any _).mono ?_; rintro e w1 ⟨rfl, hb1⟩; obtain ⟨os, d, rfl⟩ := hb1.more; clear hb1
  go_wp2_with fail
  refine (HS.out _).mono ?_; rintro e w1 ⟨rfl, hb1⟩; obtain ⟨os, d, rfl⟩ := hb1.more; clear hb1
  go_wp2_with fail
  refine (size_ok _ _ _ _ _ _ _ hok _).mono ?_; rintro e w1 ⟨rfl, hb1⟩; obtain ⟨os, d, rfl⟩ := hb1.more; clear hb1
  go_wp2_with (first
    | (go_at_call 32; refine (addr_bad _ _ _ _ _ _ _ _ _ _ hok ho _).mono ?_; rintro e w1 ⟨rfl, hb1⟩; obtain ⟨os, d, rfl⟩ := hb1.more; clear hb1)
    | (go_at_call 33; refine (at_bad _ _ _ _ _ _ _ _ hok (by omega) _).mono ?_; rintro e w1 ⟨rfl, hb1⟩; obtain ⟨os, d, rfl⟩ := hb1.more; clear hb1)
    | (go_at_call 18; refine (config_any _ _ _ _ _ _ _ _).mono ?_; rintro e w1 ⟨rfl, hb1⟩; obtain ⟨os, d, rfl⟩ := hb1.more; clear hb1)
    | (go_at_call 34; refine (rsize_any _ _ _ _ _ _ _ hok _).mono ?_; rintro e w1 ⟨rfl, hb1⟩; obtain ⟨os, d, rfl⟩ := hb1.more; clear hb1)
    | (go_at_call 35; refine (raddr_bad _ _ _ _ _ _ _ _ _ _ hok ho _).mono ?_; rintro e w1 ⟨rfl, hb1⟩; obtain ⟨os, d, rfl⟩ := hb1.more; clear hb1))
  all_goals
    go_ret
    exact ⟨rfl, (by repeat (first | exact Below.refl _ _ | apply Below.drew | apply Below.more1 | apply Below.alloc1))⟩

set_option maxHeartbeats 1000000 in
theorem plan_no_hi (a0 a1 a2 a3 a4 a5 a6 r i k x : Int) (hok : okCfg a0 a1 a2 a3 a4 a5 a6 = true) (ho : addrOk a1 a2 a5 a6 r i k = false) (hx0 : 0 ≤ x) (hx : baseF a1 a2 a5 a6 13 ≤ x) (w : World) : Calls Try.prog 8 #[.agg #[.int .i64 a0, .int .i64 a1, .int .i64 a2, .int .i64 a3, .int .i64 a4, .int .i64 a5, .int .i64 a6], .agg #[.int .i64 r, .int .i64 i, .int .i64 k], .int .i64 x] w fun e w' => e = .returned (.bool true) ∧ Below w.heap.size w w' := by
  have hs : ∀ w, Calls Try.prog 31 #[.agg #[.int .i64 2, .int .i64 2, .int .i64 3, .int .i64 1, .int .i64 0, .int .i64 4, .int .i64 2]] w fun e w' => e = .returned (.tuple #[.int .i64 32, .int .i64 0]) ∧ Below w.heap.size w w' := fun w => size_ok 2 2 3 1 0 4 2 (by decide) w
  have HS := Lib.hid hs; clear hs
  go_enter Try.func8, Try.ntmps8
  go_wp2_with fail
  refine (small_any _).mono ?_; rintro e w1 ⟨rfl, hb1⟩; obtain ⟨os, d, rfl⟩ := hb1.more; clear hb1
  go_wp2_with fail
  refine (HS.out _).mono ?_; rintro e w1 ⟨rfl, hb1⟩; obtain ⟨os, d, rfl⟩ := hb1.more; clear hb1
  go_wp2_with fail
  refine (size_ok _ _ _ _ _ _ _ hok _).mono ?_; rintro e w1 ⟨rfl, hb1⟩; obtain ⟨os, d, rfl⟩ := hb1.more; clear hb1
  go_wp2_with (first
    | (go_at_call 32; refine (addr_bad _ _ _ _ _ _ _ _ _ _ hok ho _).mono ?_; rintro e w1 ⟨rfl, hb1⟩; obtain ⟨os, d, rfl⟩ := hb1.more; clear hb1)
    | (go_at_call 33; refine (at_bad _ _ _ _ _ _ _ _ hok (by omega) _).mono ?_; rintro e w1 ⟨rfl, hb1⟩; obtain ⟨os, d, rfl⟩ := hb1.more; clear hb1)
    | (go_at_call 18; refine (config_any _ _ _ _ _ _ _ _).mono ?_; rintro e w1 ⟨rfl, hb1⟩; obtain ⟨os, d, rfl⟩ := hb1.more; clear hb1)
    | (go_at_call 34; refine (rsize_any _ _ _ _ _ _ _ hok _).mono ?_; rintro e w1 ⟨rfl, hb1⟩; obtain ⟨os, d, rfl⟩ := hb1.more; clear hb1)
    | (go_at_call 35; refine (raddr_bad _ _ _ _ _ _ _ _ _ _ hok ho _).mono ?_; rintro e w1 ⟨rfl, hb1⟩; obtain ⟨os, d, rfl⟩ := hb1.more; clear hb1))
  all_goals
    go_ret
    exact ⟨rfl, (by repeat (first | exact Below.refl _ _ | apply Below.drew | apply Below.more1 | apply Below.alloc1))⟩

set_option maxHeartbeats 1000000 in
theorem plan_no_in (a0 a1 a2 a3 a4 a5 a6 r i k x : Int) (hok : okCfg a0 a1 a2 a3 a4 a5 a6 = true) (ho : addrOk a1 a2 a5 a6 r i k = false) (hx0 : 0 ≤ x) (hx : x < baseF a1 a2 a5 a6 13) (w : World) : Calls Try.prog 8 #[.agg #[.int .i64 a0, .int .i64 a1, .int .i64 a2, .int .i64 a3, .int .i64 a4, .int .i64 a5, .int .i64 a6], .agg #[.int .i64 r, .int .i64 i, .int .i64 k], .int .i64 x] w fun e w' => e = .returned (.bool true) ∧ Below w.heap.size w w' := by
  obtain ⟨p0, p1, p2, ha⟩ := at_any a0 a1 a2 a3 a4 a5 a6 x hok hx0 hx
  have HA := Lib.hid ha; clear ha
  have hs : ∀ w, Calls Try.prog 31 #[.agg #[.int .i64 2, .int .i64 2, .int .i64 3, .int .i64 1, .int .i64 0, .int .i64 4, .int .i64 2]] w fun e w' => e = .returned (.tuple #[.int .i64 32, .int .i64 0]) ∧ Below w.heap.size w w' := fun w => size_ok 2 2 3 1 0 4 2 (by decide) w
  have HS := Lib.hid hs; clear hs
  go_enter Try.func8, Try.ntmps8
  go_wp2_with fail
  refine (small_any _).mono ?_; rintro e w1 ⟨rfl, hb1⟩; obtain ⟨os, d, rfl⟩ := hb1.more; clear hb1
  go_wp2_with fail
  refine (HS.out _).mono ?_; rintro e w1 ⟨rfl, hb1⟩; obtain ⟨os, d, rfl⟩ := hb1.more; clear hb1
  go_wp2_with fail
  refine (size_ok _ _ _ _ _ _ _ hok _).mono ?_; rintro e w1 ⟨rfl, hb1⟩; obtain ⟨os, d, rfl⟩ := hb1.more; clear hb1
  go_wp2_with (first
    | (go_at_call 32; refine (addr_bad _ _ _ _ _ _ _ _ _ _ hok ho _).mono ?_; rintro e w1 ⟨rfl, hb1⟩; obtain ⟨os, d, rfl⟩ := hb1.more; clear hb1)
    | (go_at_call 33; refine (HA.out.1 _).mono ?_; rintro e w1 ⟨rfl, hb1⟩; obtain ⟨os, d, rfl⟩ := hb1.more; clear hb1)
    | (go_at_call 18; refine (config_any _ _ _ _ _ _ _ _).mono ?_; rintro e w1 ⟨rfl, hb1⟩; obtain ⟨os, d, rfl⟩ := hb1.more; clear hb1)
    | (go_at_call 34; refine (rsize_any _ _ _ _ _ _ _ hok _).mono ?_; rintro e w1 ⟨rfl, hb1⟩; obtain ⟨os, d, rfl⟩ := hb1.more; clear hb1)
    | (go_at_call 35; refine (raddr_bad _ _ _ _ _ _ _ _ _ _ hok ho _).mono ?_; rintro e w1 ⟨rfl, hb1⟩; obtain ⟨os, d, rfl⟩ := hb1.more; clear hb1))
  go_wp2
  refine wp_region_more_lit (by kernel_rfl) (by kernel_rfl) ?_
  repeat (first | go_big_quiet_skip | (go_big_quiet_want; go_big_quiet_op; first | go_big_quiet_on | (apply Exists.intro; refine ⟨fun _ => ?_, ?_⟩; (focus (go_at_call 36; exact Calls.more_of (HA.out.2 _))); go_big_quiet_on)))
  refine wpQuiet_nil ?_
  intro osq dq
  go_wp2
  all_goals
    go_ret
    exact ⟨rfl, (by repeat (first | exact Below.refl _ _ | apply Below.drew | apply Below.more1 | apply Below.alloc1))⟩

theorem wordPlan_walk (a0 a1 a2 a3 a4 a5 a6 r i k x : Int) (w : World) : Calls Try.prog 8 #[.agg #[.int .i64 a0, .int .i64 a1, .int .i64 a2, .int .i64 a3, .int .i64 a4, .int .i64 a5, .int .i64 a6], .agg #[.int .i64 r, .int .i64 i, .int .i64 k], .int .i64 x] w fun e w' => e = .returned (.bool true) ∧ Below w.heap.size w w' := by
  cases h : okCfg a0 a1 a2 a3 a4 a5 a6
  · exact plan_cfg a0 a1 a2 a3 a4 a5 a6 r i k x h w
  cases ho : addrOk a1 a2 a5 a6 r i k
  · by_cases hx0 : x < 0
    · exact plan_no_lo a0 a1 a2 a3 a4 a5 a6 r i k x h ho hx0 w
    by_cases hx : x < baseF a1 a2 a5 a6 13
    · exact plan_no_in a0 a1 a2 a3 a4 a5 a6 r i k x h ho (by omega) hx w
    · exact plan_no_hi a0 a1 a2 a3 a4 a5 a6 r i k x h ho (by omega) (by omega) w
  · by_cases hx0 : x < 0
    · exact plan_ok_lo a0 a1 a2 a3 a4 a5 a6 r i k x h ho hx0 w
    by_cases hx : x < baseF a1 a2 a5 a6 13
    · exact plan_ok_in a0 a1 a2 a3 a4 a5 a6 r i k x h ho (by omega) hx w
    · exact plan_ok_hi a0 a1 a2 a3 a4 a5 a6 r i k x h ho (by omega) (by omega) w
end Go.Proofs.Ytaokjiajceefaaa
