/-
word.Size, reclaimref01.Base and Size.
-/
import Derived.Test.YtaokjiajceefaaaMany
import Derived.Deep.RegionWith
namespace Go.Proofs.Ytaokjiajceefaaa
open Go.ChangeShapes Go.WideShapes Go.ChangeAt Go.RowKit

theorem size_no (a0 a1 a2 a3 a4 a5 a6 : Int) (h : okCfg a0 a1 a2 a3 a4 a5 a6 = false) (w : World) : Calls Try.prog 31 #[.agg #[.int .i64 a0, .int .i64 a1, .int .i64 a2, .int .i64 a3, .int .i64 a4, .int .i64 a5, .int .i64 a6]] w fun e w' =>
    e = .returned (.tuple #[.int .i64 0, .int .i64 1]) ∧ Below w.heap.size w w' := by
  have e2 : cfgErr a0 a1 a2 a3 a4 a5 a6 = 1 := by unfold cfgErr; rw [h]; rfl
  go_enter Try.func31, Try.ntmps31
  go_wp2_with (go_at_call 16; refine (check_any _ _ _ _ _ _ _ _).mono ?_; rintro e w1 ⟨rfl, hb1⟩; obtain ⟨os, d, rfl⟩ := hb1.more; clear hb1)
  go_ret2
  exact ⟨rfl, by repeat (first | exact Below.refl _ _ | apply Below.more1 | apply Below.alloc1)⟩

theorem size_ok (a0 a1 a2 a3 a4 a5 a6 : Int) (h : okCfg a0 a1 a2 a3 a4 a5 a6 = true) (w : World) : Calls Try.prog 31 #[.agg #[.int .i64 a0, .int .i64 a1, .int .i64 a2, .int .i64 a3, .int .i64 a4, .int .i64 a5, .int .i64 a6]] w fun e w' =>
    e = .returned (.tuple #[.int .i64 (baseF a1 a2 a5 a6 13), .int .i64 0]) ∧ Below w.heap.size w w' := by
  have e2 : cfgErr a0 a1 a2 a3 a4 a5 a6 = 0 := by unfold cfgErr; rw [h]; rfl
  obtain ⟨b0, b1, b2, b3, b4, b5, b6, bm⟩ := ok_bounds h
  go_enter Try.func31, Try.ntmps31
  go_wp2_with (go_at_call 16; refine (check_any _ _ _ _ _ _ _ _).mono ?_; rintro e w1 ⟨rfl, hb1⟩; obtain ⟨os, d, rfl⟩ := hb1.more; clear hb1)
  go_loopw [5, 6] (fun n r wr => ∃ k : Nat, k ≤ 13 ∧ n = .int .i64 (baseF a1 a2 a5 a6 k) ∧ r = .int .i64 ((k : Int) + 1) ∧ ∃ os d, wr = (w.alloc (.cells #[.int .i64 a0, .int .i64 a1, .int .i64 a2, .int .i64 a3, .int .i64 a4, .int .i64 a5, .int .i64 a6] 28)).more os d) (fun _ r _ => 14 - (intOf r).toNat)
  case atStart => exact ⟨0, by omega, rfl, rfl, os, d, rfl⟩
  case round =>
    obtain ⟨k, hk, rfl, rfl, os1, d1, rfl⟩ := hrel
    have hb := baseF_bd b1 b5 b6 bm k
    have hb' := manyI_bd b1 b5 b6 bm ((k : Int) + 1)
    by_cases hlt : k < 13
    · go_wp2_with (go_at_call 39; refine (many_any _ _ _ _ _ _ _ _ bm _).mono ?_; rintro e w1 ⟨rfl, hb1⟩; obtain ⟨os, d, rfl⟩ := hb1.more; clear hb1)
      go_roundw
      case rel => exact ⟨k + 1, by omega, by rw [baseF], by go_num, RowKit.Below.more (by repeat (first | exact Below.refl _ _ | apply Below.more1 | apply Below.alloc1))⟩
      case measure => simp [intOf]; omega
    · obtain rfl : k = 13 := by omega
      go_wp2
      go_ret2
      exact ⟨rfl, by repeat (first | exact Below.refl _ _ | apply Below.more1 | apply Below.alloc1)⟩

theorem base_nat (a0 a1 a2 a3 a4 a5 a6 : Int) (h : okCfg a0 a1 a2 a3 a4 a5 a6 = true) (n : Nat) (hn : n ≤ 13) (w : World) : Calls Try.prog 41 #[.agg #[.int .i64 a0, .int .i64 a1, .int .i64 a2, .int .i64 a3, .int .i64 a4, .int .i64 a5, .int .i64 a6], .int .i64 ((n : Int) + 1)] w fun e w' =>
    e = .returned (.int .i64 (baseF a1 a2 a5 a6 n)) ∧ Below w.heap.size w w' := by
  obtain ⟨b0, b1, b2, b3, b4, b5, b6, bm⟩ := ok_bounds h
  go_enter Try.func41, Try.ntmps41
  go_wp2
  go_loopw [5, 6] (fun s r wr => ∃ k : Nat, k ≤ n ∧ s = .int .i64 (baseF a1 a2 a5 a6 k) ∧ r = .int .i64 ((k : Int) + 1) ∧ ∃ os d, wr = (w.alloc (.cells #[.int .i64 a0, .int .i64 a1, .int .i64 a2, .int .i64 a3, .int .i64 a4, .int .i64 a5, .int .i64 a6] 28)).more os d) (fun _ r _ => 14 - (intOf r).toNat)
  case atStart => exact ⟨0, by omega, rfl, rfl, RowKit.Below.more (Below.refl _ _)⟩
  case round =>
    obtain ⟨k, hk, rfl, rfl, os1, d1, rfl⟩ := hrel
    have hb := baseF_bd b1 b5 b6 bm k
    have hb' := manyI_bd b1 b5 b6 bm ((k : Int) + 1)
    by_cases hlt : k < n
    · go_wp2_with (go_at_call 42; refine (rmany_any _ _ _ _ _ _ _ _ bm _).mono ?_; rintro e w1 ⟨rfl, hb1⟩; obtain ⟨os, d, rfl⟩ := hb1.more; clear hb1)
      go_roundw
      case rel => exact ⟨k + 1, by omega, by rw [baseF], by go_num, RowKit.Below.more (by repeat (first | exact Below.refl _ _ | apply Below.more1 | apply Below.alloc1))⟩
      case measure => simp [intOf]; omega
    · obtain rfl : k = n := by omega
      go_wp2
      go_ret
      exact ⟨rfl, by repeat (first | exact Below.refl _ _ | apply Below.more1 | apply Below.alloc1)⟩

theorem base_any (a0 a1 a2 a3 a4 a5 a6 : Int) (h : okCfg a0 a1 a2 a3 a4 a5 a6 = true) (r : Int) (h1 : 1 ≤ r) (h2 : r ≤ 14) (w : World) : Calls Try.prog 41 #[.agg #[.int .i64 a0, .int .i64 a1, .int .i64 a2, .int .i64 a3, .int .i64 a4, .int .i64 a5, .int .i64 a6], .int .i64 r] w fun e w' =>
    e = .returned (.int .i64 (baseF a1 a2 a5 a6 (r - 1).toNat)) ∧ Below w.heap.size w w' := by
  obtain ⟨n, rfl⟩ : ∃ n : Nat, r = (n : Int) + 1 := ⟨(r - 1).toNat, by omega⟩
  rw [show ((n : Int) + 1 - 1).toNat = n by omega]
  exact base_nat a0 a1 a2 a3 a4 a5 a6 h n (by omega) w

theorem base_13 (a0 a1 a2 a3 a4 a5 a6 : Int) (h : okCfg a0 a1 a2 a3 a4 a5 a6 = true) (w : World) : Calls Try.prog 41 #[.agg #[.int .i64 a0, .int .i64 a1, .int .i64 a2, .int .i64 a3, .int .i64 a4, .int .i64 a5, .int .i64 a6], .int .i64 13] w fun e w' =>
    e = .returned (.int .i64 (baseF a1 a2 a5 a6 12)) ∧ Below w.heap.size w w' := base_any a0 a1 a2 a3 a4 a5 a6 h 13 (by omega) (by omega) w

theorem rsize_any (a0 a1 a2 a3 a4 a5 a6 : Int) (h : okCfg a0 a1 a2 a3 a4 a5 a6 = true) (w : World) : Calls Try.prog 34 #[.agg #[.int .i64 a0, .int .i64 a1, .int .i64 a2, .int .i64 a3, .int .i64 a4, .int .i64 a5, .int .i64 a6]] w fun e w' =>
    e = .returned (.int .i64 (baseF a1 a2 a5 a6 13)) ∧ Below w.heap.size w w' := by
  obtain ⟨b0, b1, b2, b3, b4, b5, b6, bm⟩ := ok_bounds h
  have hb := baseF_bd b1 b5 b6 bm 12
  have e13 : IntKind.i64.wrap (baseF a1 a2 a5 a6 12 + a5) = baseF a1 a2 a5 a6 13 := by
    rw [IntWalk.i64_in _ (by omega)]
    simp [baseF, manyI]
  have E := Lib.hid e13; clear e13
  go_enter Try.func34, Try.ntmps34
  go_wp2
  go_region_with (go_at_call 41; refine (base_13 _ _ _ _ _ _ _ h _).mono ?_; rintro e w1 ⟨rfl, hb1⟩; obtain ⟨os, d, rfl⟩ := hb1.more; clear hb1)
  all_goals
    go_wp2
    go_ret
    exact ⟨ret_int E.out, by repeat (first | exact Below.refl _ _ | apply Below.drew | apply Below.more1 | apply Below.alloc1)⟩

end Go.Proofs.Ytaokjiajceefaaa
