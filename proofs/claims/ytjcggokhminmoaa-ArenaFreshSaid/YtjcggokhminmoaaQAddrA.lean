/-
word.Addr: a place's address.
-/
import Derived.Test.YtjcggokhminmoaaQLook
namespace Go.Proofs.Ytjcggokhminmoaa
open Go.ChangeShapes Go.WideShapes Go.ChangeAt Go.RowKit

theorem regOrder_nine : regOrder (9 : Int).toNat = 2 := rfl
theorem regOrder_ne {r : Int} (h0 : 1 ≤ r) (h1 : r ≤ 13) (h : r ≠ 9) : regOrder r.toNat = 0 ∨ regOrder r.toNat = 1 := by
  rcases (by omega : r = 1 ∨ r = 2 ∨ r = 3 ∨ r = 4 ∨ r = 5 ∨ r = 6 ∨ r = 7 ∨ r = 8 ∨ r = 9 ∨ r = 10 ∨ r = 11 ∨ r = 12 ∨ r = 13) with rfl | rfl | rfl | rfl | rfl | rfl | rfl | rfl | rfl | rfl | rfl | rfl | rfl <;> simp_all [regOrder]

def addrAt (a1 a2 a5 a6 r i k : Int) : Int := (if r = 9 then i * a2 + k else i) + baseF a1 a2 a5 a6 (r - 1).toNat
theorem look_9 (w : World) : Calls Try.prog 74 #[.int .i64 9] w fun e w' =>
    e = .returned (.tuple #[.agg #[.string (regName 9), .int .i64 2, .int .i64 2], .bool true]) ∧ Below w.heap.size w w' := look_ok 9 (by omega) (by omega) w
def addrOk (a1 a2 a5 a6 r i k : Int) : Bool :=
  decide (1 ≤ r) && decide (r ≤ 13) && decide (0 ≤ i) && decide (0 ≤ k) && if r = 9 then decide (i < a1) && decide (k < a2) else decide (k = 0) && decide (i < manyI a1 a2 a5 a6 r)

theorem addr_cfg (a0 a1 a2 a3 a4 a5 a6 r i k : Int) (h : okCfg a0 a1 a2 a3 a4 a5 a6 = false) (w : World) : Calls Try.prog 59 #[.agg #[.int .i64 a0, .int .i64 a1, .int .i64 a2, .int .i64 a3, .int .i64 a4, .int .i64 a5, .int .i64 a6], .agg #[.int .i64 r, .int .i64 i, .int .i64 k]] w fun e w' =>
    e = .returned (.tuple #[.int .i64 0, .int .i64 1]) ∧ Below w.heap.size w w' := by
  have e2 : cfgErr a0 a1 a2 a3 a4 a5 a6 = 1 := by unfold cfgErr; rw [h]; rfl
  go_enter Try.func59, Try.ntmps59
  go_wp2_with (go_at_call 31; refine (check_any _ _ _ _ _ _ _ _).mono ?_; rintro e w1 ⟨rfl, hb1⟩; obtain ⟨os, d, rfl⟩ := hb1.more; clear hb1)
  go_ret2
  exact ⟨rfl, (by repeat (first | exact Below.refl _ _ | apply Below.drew | apply Below.more1 | apply Below.alloc1))⟩

theorem addr_noreg (a0 a1 a2 a3 a4 a5 a6 r i k : Int) (h : okCfg a0 a1 a2 a3 a4 a5 a6 = true) (hr : r < 1 ∨ 13 < r) (w : World) : Calls Try.prog 59 #[.agg #[.int .i64 a0, .int .i64 a1, .int .i64 a2, .int .i64 a3, .int .i64 a4, .int .i64 a5, .int .i64 a6], .agg #[.int .i64 r, .int .i64 i, .int .i64 k]] w fun e w' =>
    e = .returned (.tuple #[.int .i64 0, .int .i64 2]) ∧ Below w.heap.size w w' := by
  have e2 : cfgErr a0 a1 a2 a3 a4 a5 a6 = 0 := by unfold cfgErr; rw [h]; rfl
  go_enter Try.func59, Try.ntmps59
  go_wp2_with (first
    | (go_at_call 31; refine (check_any _ _ _ _ _ _ _ _).mono ?_; rintro e w1 ⟨rfl, hb1⟩; obtain ⟨os, d, rfl⟩ := hb1.more; clear hb1)
    | (go_at_call 74; refine (look_no _ hr _).mono ?_; rintro e w1 ⟨rfl, hb1⟩; obtain ⟨os, d, rfl⟩ := hb1.more; clear hb1))
  go_ret2
  exact ⟨rfl, (by repeat (first | exact Below.refl _ _ | apply Below.drew | apply Below.more1 | apply Below.alloc1))⟩

theorem addr_neg (a0 a1 a2 a3 a4 a5 a6 r i k : Int) (h : okCfg a0 a1 a2 a3 a4 a5 a6 = true) (h0 : 1 ≤ r) (h1 : r ≤ 13) (hi : i < 0) (w : World) : Calls Try.prog 59 #[.agg #[.int .i64 a0, .int .i64 a1, .int .i64 a2, .int .i64 a3, .int .i64 a4, .int .i64 a5, .int .i64 a6], .agg #[.int .i64 r, .int .i64 i, .int .i64 k]] w fun e w' =>
    e = .returned (.tuple #[.int .i64 0, .int .i64 2]) ∧ Below w.heap.size w w' := by
  have e2 : cfgErr a0 a1 a2 a3 a4 a5 a6 = 0 := by unfold cfgErr; rw [h]; rfl
  go_enter Try.func59, Try.ntmps59
  go_wp2_with (first
    | (go_at_call 31; refine (check_any _ _ _ _ _ _ _ _).mono ?_; rintro e w1 ⟨rfl, hb1⟩; obtain ⟨os, d, rfl⟩ := hb1.more; clear hb1)
    | (go_at_call 74; refine (look_ok _ h0 h1 _).mono ?_; rintro e w1 ⟨rfl, hb1⟩; obtain ⟨os, d, rfl⟩ := hb1.more; clear hb1))
  go_ret2
  exact ⟨rfl, (by repeat (first | exact Below.refl _ _ | apply Below.drew | apply Below.more1 | apply Below.alloc1))⟩

theorem addr_neg2 (a0 a1 a2 a3 a4 a5 a6 r i k : Int) (h : okCfg a0 a1 a2 a3 a4 a5 a6 = true) (h0 : 1 ≤ r) (h1 : r ≤ 13) (hi : 0 ≤ i) (hk : k < 0) (w : World) : Calls Try.prog 59 #[.agg #[.int .i64 a0, .int .i64 a1, .int .i64 a2, .int .i64 a3, .int .i64 a4, .int .i64 a5, .int .i64 a6], .agg #[.int .i64 r, .int .i64 i, .int .i64 k]] w fun e w' =>
    e = .returned (.tuple #[.int .i64 0, .int .i64 2]) ∧ Below w.heap.size w w' := by
  have e2 : cfgErr a0 a1 a2 a3 a4 a5 a6 = 0 := by unfold cfgErr; rw [h]; rfl
  go_enter Try.func59, Try.ntmps59
  go_wp2_with (first
    | (go_at_call 31; refine (check_any _ _ _ _ _ _ _ _).mono ?_; rintro e w1 ⟨rfl, hb1⟩; obtain ⟨os, d, rfl⟩ := hb1.more; clear hb1)
    | (go_at_call 74; refine (look_ok _ h0 h1 _).mono ?_; rintro e w1 ⟨rfl, hb1⟩; obtain ⟨os, d, rfl⟩ := hb1.more; clear hb1))
  go_ret2
  exact ⟨rfl, (by repeat (first | exact Below.refl _ _ | apply Below.drew | apply Below.more1 | apply Below.alloc1))⟩

/-- a region with a plain number: the second number is not 0 -/
theorem addr_k (a0 a1 a2 a3 a4 a5 a6 r i k : Int) (h : okCfg a0 a1 a2 a3 a4 a5 a6 = true) (h0 : 1 ≤ r) (h1 : r ≤ 13) (h9 : r ≠ 9) (hi : 0 ≤ i) (hk : 0 < k) (w : World) : Calls Try.prog 59 #[.agg #[.int .i64 a0, .int .i64 a1, .int .i64 a2, .int .i64 a3, .int .i64 a4, .int .i64 a5, .int .i64 a6], .agg #[.int .i64 r, .int .i64 i, .int .i64 k]] w fun e w' =>
    e = .returned (.tuple #[.int .i64 0, .int .i64 2]) ∧ Below w.heap.size w w' := by
  have e2 : cfgErr a0 a1 a2 a3 a4 a5 a6 = 0 := by unfold cfgErr; rw [h]; rfl
  have ho := regOrder_ne h0 h1 h9
  have ho1 : (regOrder r.toNat != 2) = true := by rw [bne_iff_ne]; omega
  have hz : (k != 0) = true := by rw [bne_iff_ne]; omega
  clear ho h9
  go_enter Try.func59, Try.ntmps59
  go_wp2_with (first
    | (go_at_call 31; refine (check_any _ _ _ _ _ _ _ _).mono ?_; rintro e w1 ⟨rfl, hb1⟩; obtain ⟨os, d, rfl⟩ := hb1.more; clear hb1)
    | (go_at_call 74; refine (look_ok _ h0 h1 _).mono ?_; rintro e w1 ⟨rfl, hb1⟩; obtain ⟨os, d, rfl⟩ := hb1.more; clear hb1))
  go_wp2
  refine wp_region_more_lit (by kernel_rfl) (by kernel_rfl) ?_
  repeat (first | go_big_quiet_skip | (go_big_quiet_want; go_big_quiet_op; first | go_big_quiet_on | (apply Exists.intro; refine ⟨fun _ => ?_, ?_⟩; (focus (fail)); go_big_quiet_on)))
  refine wpQuiet_nil ?_
  intro osq dq
  go_wp2
  go_ret2
  exact ⟨rfl, (by repeat (first | exact Below.refl _ _ | apply Below.drew | apply Below.more1 | apply Below.alloc1))⟩

theorem addr_far (a0 a1 a2 a3 a4 a5 a6 r i : Int) (h : okCfg a0 a1 a2 a3 a4 a5 a6 = true) (h0 : 1 ≤ r) (h1 : r ≤ 13) (h9 : r ≠ 9) (hi : 0 ≤ i) (hm : manyI a1 a2 a5 a6 r ≤ i) (w : World) : Calls Try.prog 59 #[.agg #[.int .i64 a0, .int .i64 a1, .int .i64 a2, .int .i64 a3, .int .i64 a4, .int .i64 a5, .int .i64 a6], .agg #[.int .i64 r, .int .i64 i, .int .i64 0]] w fun e w' =>
    e = .returned (.tuple #[.int .i64 0, .int .i64 2]) ∧ Below w.heap.size w w' := by
  have e2 : cfgErr a0 a1 a2 a3 a4 a5 a6 = 0 := by unfold cfgErr; rw [h]; rfl
  obtain ⟨b0, b1, b2, b3, b4, b5, b6, bm⟩ := ok_bounds h
  have ho := regOrder_ne h0 h1 h9
  have ho1 : (regOrder r.toNat != 2) = true := by rw [bne_iff_ne]; omega
  have ho2 : (regOrder r.toNat == 2) = false := by rw [beq_eq_false_iff_ne]; omega
  have hz : ((0 : Int) != 0) = false := rfl
  have hq : decide (manyI a1 a2 a5 a6 r ≤ i) = true := decide_eq_true hm
  clear ho h9
  go_enter Try.func59, Try.ntmps59
  go_wp2_with (first
    | (go_at_call 31; refine (check_any _ _ _ _ _ _ _ _).mono ?_; rintro e w1 ⟨rfl, hb1⟩; obtain ⟨os, d, rfl⟩ := hb1.more; clear hb1)
    | (go_at_call 74; refine (look_ok _ h0 h1 _).mono ?_; rintro e w1 ⟨rfl, hb1⟩; obtain ⟨os, d, rfl⟩ := hb1.more; clear hb1))
  go_wp2
  refine wp_region_more_lit (by kernel_rfl) (by kernel_rfl) ?_
  repeat (first | go_big_quiet_skip | (go_big_quiet_want; go_big_quiet_op; first | go_big_quiet_on | (apply Exists.intro; refine ⟨fun _ => ?_, ?_⟩; (focus (go_at_call 73; exact Calls.more_of (many_any _ _ _ _ _ _ _ _ bm _))); go_big_quiet_on)))
  refine wpQuiet_nil ?_
  intro osq dq
  go_wp2
  go_ret2
  exact ⟨rfl, (by repeat (first | exact Below.refl _ _ | apply Below.drew | apply Below.more1 | apply Below.alloc1))⟩

set_option maxHeartbeats 1000000 in
theorem addr_one (a0 a1 a2 a3 a4 a5 a6 r i : Int) (m : Nat) (hr : Hid (r = (m : Int) + 1)) (h : okCfg a0 a1 a2 a3 a4 a5 a6 = true) (h0 : 1 ≤ r) (h1 : r ≤ 13) (h9 : r ≠ 9) (hi : 0 ≤ i) (hm : i < manyI a1 a2 a5 a6 r) (w : World) : Calls Try.prog 59 #[.agg #[.int .i64 a0, .int .i64 a1, .int .i64 a2, .int .i64 a3, .int .i64 a4, .int .i64 a5, .int .i64 a6], .agg #[.int .i64 r, .int .i64 i, .int .i64 0]] w fun e w' =>
    e = .returned (.tuple #[.int .i64 (i + baseF a1 a2 a5 a6 m), .int .i64 0]) ∧ Below w.heap.size w w' := by
  have e2 : cfgErr a0 a1 a2 a3 a4 a5 a6 = 0 := by unfold cfgErr; rw [h]; rfl
  obtain ⟨b0, b1, b2, b3, b4, b5, b6, bm⟩ := ok_bounds h
  have ho := regOrder_ne h0 h1 h9
  have ho1 : (regOrder r.toNat != 2) = true := by rw [bne_iff_ne]; omega
  have ho2 : (regOrder r.toNat == 2) = false := by rw [beq_eq_false_iff_ne]; omega
  have hz : ((0 : Int) != 0) = false := rfl
  have hq : decide (manyI a1 a2 a5 a6 r ≤ i) = false := decide_eq_false (by omega)
  have hbd := manyI_bd b1 b5 b6 bm r
  clear ho h9
  go_enter Try.func59, Try.ntmps59
  go_wp2_with (first
    | (go_at_call 31; refine (check_any _ _ _ _ _ _ _ _).mono ?_; rintro e w1 ⟨rfl, hb1⟩; obtain ⟨os, d, rfl⟩ := hb1.more; clear hb1)
    | (go_at_call 74; refine (look_ok _ h0 h1 _).mono ?_; rintro e w1 ⟨rfl, hb1⟩; obtain ⟨os, d, rfl⟩ := hb1.more; clear hb1))
  go_wp2
  refine wp_region_more_lit (by kernel_rfl) (by kernel_rfl) ?_
  repeat (first | go_big_quiet_skip | (go_big_quiet_want; go_big_quiet_op; first | go_big_quiet_on | (apply Exists.intro; refine ⟨fun _ => ?_, ?_⟩; (focus (go_at_call 73; exact Calls.more_of (many_any _ _ _ _ _ _ _ _ bm _))); go_big_quiet_on)))
  refine wpQuiet_nil ?_
  intro osq dq
  go_wp2
  go_loopw [9, 10] (fun s q wr => ∃ n : Nat, (n : Int) + 1 ≤ r ∧ s = .int .i64 (i + baseF a1 a2 a5 a6 n) ∧ q = .int .i64 ((n : Int) + 1) ∧ ∃ os d, wr = ((w.alloc (.cells #[.int .i64 a0, .int .i64 a1, .int .i64 a2, .int .i64 a3, .int .i64 a4, .int .i64 a5, .int .i64 a6] 23)).alloc (.cells #[.int .i64 r, .int .i64 i, .int .i64 0] 151)).more os d) (fun _ q _ => 14 - (intOf q).toNat)
  case atStart => exact ⟨0, by omega, by simp [baseF], rfl, RowKit.Below.more (by repeat (first | exact Below.refl _ _ | apply Below.drew | apply Below.more1 | apply Below.alloc1))⟩
  case round =>
    obtain ⟨n, hn, rfl, rfl, os1, d1, rfl⟩ := hrel
    have hb := baseF_bd b1 b5 b6 bm n
    have hb' := manyI_bd b1 b5 b6 bm ((n : Int) + 1)
    by_cases hlt : (n : Int) + 1 < r
    · go_wp2_with (go_at_call 73; refine (many_any _ _ _ _ _ _ _ _ bm _).mono ?_; rintro e w1 ⟨rfl, hb1⟩; obtain ⟨os, d, rfl⟩ := hb1.more; clear hb1)
      go_roundw
      case rel => exact ⟨n + 1, by omega, by rw [baseF, Int.add_assoc], by go_num, RowKit.Below.more (by repeat (first | exact Below.refl _ _ | apply Below.drew | apply Below.more1 | apply Below.alloc1))⟩
      case measure => simp [intOf]; omega
    · go_wp2
      go_ret2
      obtain rfl : n = m := by have := hr.out; omega
      exact ⟨rfl, (by repeat (first | exact Below.refl _ _ | apply Below.drew | apply Below.more1 | apply Below.alloc1))⟩

theorem addr_9k (a0 a1 a2 a3 a4 a5 a6 i k : Int) (h : okCfg a0 a1 a2 a3 a4 a5 a6 = true) (hi : 0 ≤ i) (hk : 0 ≤ k) (hf : a2 ≤ k) (w : World) : Calls Try.prog 59 #[.agg #[.int .i64 a0, .int .i64 a1, .int .i64 a2, .int .i64 a3, .int .i64 a4, .int .i64 a5, .int .i64 a6], .agg #[.int .i64 9, .int .i64 i, .int .i64 k]] w fun e w' =>
    e = .returned (.tuple #[.int .i64 0, .int .i64 2]) ∧ Below w.heap.size w w' := by
  have e2 : cfgErr a0 a1 a2 a3 a4 a5 a6 = 0 := by unfold cfgErr; rw [h]; rfl
  have hk3 : decide (a2 ≤ k) = true := decide_eq_true hf
  go_enter Try.func59, Try.ntmps59
  go_wp2_with (first
    | (go_at_call 31; refine (check_any _ _ _ _ _ _ _ _).mono ?_; rintro e w1 ⟨rfl, hb1⟩; obtain ⟨os, d, rfl⟩ := hb1.more; clear hb1)
    | (go_at_call 74; refine (look_9 _).mono ?_; rintro e w1 ⟨rfl, hb1⟩; obtain ⟨os, d, rfl⟩ := hb1.more; clear hb1))
  go_wp2
  refine wp_region_more_lit (by kernel_rfl) (by kernel_rfl) ?_
  repeat (first | go_big_quiet_skip | (go_big_quiet_want; go_big_quiet_op; first | go_big_quiet_on | (apply Exists.intro; refine ⟨fun _ => ?_, ?_⟩; (focus (fail)); go_big_quiet_on)))
  refine wpQuiet_nil ?_
  intro osq dq
  go_wp2
  go_ret2
  exact ⟨rfl, (by repeat (first | exact Below.refl _ _ | apply Below.drew | apply Below.more1 | apply Below.alloc1))⟩

theorem addr_9i (a0 a1 a2 a3 a4 a5 a6 i k : Int) (h : okCfg a0 a1 a2 a3 a4 a5 a6 = true) (hi : 0 ≤ i) (hk : 0 ≤ k) (hf : k < a2) (hg : a1 ≤ i) (w : World) : Calls Try.prog 59 #[.agg #[.int .i64 a0, .int .i64 a1, .int .i64 a2, .int .i64 a3, .int .i64 a4, .int .i64 a5, .int .i64 a6], .agg #[.int .i64 9, .int .i64 i, .int .i64 k]] w fun e w' =>
    e = .returned (.tuple #[.int .i64 0, .int .i64 2]) ∧ Below w.heap.size w w' := by
  have e2 : cfgErr a0 a1 a2 a3 a4 a5 a6 = 0 := by unfold cfgErr; rw [h]; rfl
  have hk3 : decide (a2 ≤ k) = false := decide_eq_false (by omega)
  have hi3 : decide (a1 ≤ i) = true := decide_eq_true hg
  go_enter Try.func59, Try.ntmps59
  go_wp2_with (first
    | (go_at_call 31; refine (check_any _ _ _ _ _ _ _ _).mono ?_; rintro e w1 ⟨rfl, hb1⟩; obtain ⟨os, d, rfl⟩ := hb1.more; clear hb1)
    | (go_at_call 74; refine (look_9 _).mono ?_; rintro e w1 ⟨rfl, hb1⟩; obtain ⟨os, d, rfl⟩ := hb1.more; clear hb1))
  go_wp2
  refine wp_region_more_lit (by kernel_rfl) (by kernel_rfl) ?_
  repeat (first | go_big_quiet_skip | (go_big_quiet_want; go_big_quiet_op; first | go_big_quiet_on | (apply Exists.intro; refine ⟨fun _ => ?_, ?_⟩; (focus (fail)); go_big_quiet_on)))
  refine wpQuiet_nil ?_
  intro osq dq
  go_wp2
  go_ret2
  exact ⟨rfl, (by repeat (first | exact Below.refl _ _ | apply Below.drew | apply Below.more1 | apply Below.alloc1))⟩

end Go.Proofs.Ytjcggokhminmoaa
