/-
word.Addr: a place's address.
-/
import Derived.Test.YtjcggokhminmoaaQAddrA
namespace Go.Proofs.Ytjcggokhminmoaa
open Go.ChangeShapes Go.WideShapes Go.ChangeAt Go.RowKit

set_option maxHeartbeats 1000000 in
theorem addr_nine (a0 a1 a2 a3 a4 a5 a6 i k : Int) (h : okCfg a0 a1 a2 a3 a4 a5 a6 = true) (hi : 0 ≤ i) (hi2 : i < a1) (hk : 0 ≤ k) (hk2 : k < a2) (w : World) : Calls Try.prog 59 #[.agg #[.int .i64 a0, .int .i64 a1, .int .i64 a2, .int .i64 a3, .int .i64 a4, .int .i64 a5, .int .i64 a6], .agg #[.int .i64 9, .int .i64 i, .int .i64 k]] w fun e w' =>
    e = .returned (.tuple #[.int .i64 (i * a2 + k + baseF a1 a2 a5 a6 8), .int .i64 0]) ∧ Below w.heap.size w w' := by
  have e2 : cfgErr a0 a1 a2 a3 a4 a5 a6 = 0 := by unfold cfgErr; rw [h]; rfl
  obtain ⟨b0, b1, b2, b3, b4, b5, b6, bm⟩ := ok_bounds h
  have m1 : 0 ≤ i * a2 := Int.mul_nonneg hi (by omega)
  have m2 : (i + 1) * a2 ≤ a1 * a2 := Int.mul_le_mul_of_nonneg_right (by omega) (by omega)
  have m3 : (i + 1) * a2 = i * a2 + a2 := by rw [Int.add_mul, Int.one_mul]
  have m4 : i * a2 + k < a1 * a2 := by omega
  clear m2 m3
  have hk3 : decide (a2 ≤ k) = false := decide_eq_false (by omega)
  have hi3 : decide (a1 ≤ i) = false := decide_eq_false (by omega)
  have hia : i ≤ i * a2 := by
    have := Int.mul_le_mul_of_nonneg_left (show (1 : Int) ≤ a2 by omega) hi
    omega
  have hq : decide (manyI a1 a2 a5 a6 9 ≤ i) = false := decide_eq_false (by show ¬ a1 * a2 ≤ i; omega)
  go_enter Try.func59, Try.ntmps59
  go_wp2_with (first
    | (go_at_call 31; refine (check_any _ _ _ _ _ _ _ _).mono ?_; rintro e w1 ⟨rfl, hb1⟩; obtain ⟨os, d, rfl⟩ := hb1.more; clear hb1)
    | (go_at_call 74; refine (look_9 _).mono ?_; rintro e w1 ⟨rfl, hb1⟩; obtain ⟨os, d, rfl⟩ := hb1.more; clear hb1))
  go_wp2
  refine wp_region_more_lit (by kernel_rfl) (by kernel_rfl) ?_
  repeat (first | go_big_quiet_skip | (go_big_quiet_want; go_big_quiet_op; first | go_big_quiet_on | (apply Exists.intro; refine ⟨fun _ => ?_, ?_⟩; (focus (go_at_call 73; exact Calls.more_of (many_any _ _ _ _ _ _ _ _ bm _))); go_big_quiet_on)))
  refine wpQuiet_nil ?_
  intro osq dq
  go_wp2
  go_loopw [9, 10] (fun s q wr => ∃ n : Nat, (n : Int) + 1 ≤ 9 ∧ s = .int .i64 (i * a2 + k + baseF a1 a2 a5 a6 n) ∧ q = .int .i64 ((n : Int) + 1) ∧ ∃ os d, wr = ((w.alloc (.cells #[.int .i64 a0, .int .i64 a1, .int .i64 a2, .int .i64 a3, .int .i64 a4, .int .i64 a5, .int .i64 a6] 23)).alloc (.cells #[.int .i64 9, .int .i64 i, .int .i64 k] 151)).more os d) (fun _ q _ => 14 - (intOf q).toNat)
  case atStart => exact ⟨0, by omega, by simp [baseF], rfl, RowKit.Below.more (by repeat (first | exact Below.refl _ _ | apply Below.drew | apply Below.more1 | apply Below.alloc1))⟩
  case round =>
    obtain ⟨n, hn, rfl, rfl, os1, d1, rfl⟩ := hrel
    have hb := baseF_bd b1 b5 b6 bm n
    have hb' := manyI_bd b1 b5 b6 bm ((n : Int) + 1)
    by_cases hlt : (n : Int) + 1 < 9
    · go_wp2_with (go_at_call 73; refine (many_any _ _ _ _ _ _ _ _ bm _).mono ?_; rintro e w1 ⟨rfl, hb1⟩; obtain ⟨os, d, rfl⟩ := hb1.more; clear hb1)
      go_roundw
      case rel => exact ⟨n + 1, by omega, by rw [baseF, Int.add_assoc], by go_num, RowKit.Below.more (by repeat (first | exact Below.refl _ _ | apply Below.drew | apply Below.more1 | apply Below.alloc1))⟩
      case measure => simp [intOf]; omega
    · go_wp2
      go_ret2
      obtain rfl : n = 8 := by omega
      exact ⟨rfl, (by repeat (first | exact Below.refl _ _ | apply Below.drew | apply Below.more1 | apply Below.alloc1))⟩

end Go.Proofs.Ytjcggokhminmoaa
