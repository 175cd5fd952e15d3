/-
reclaimref01.Addr: the reference's address of a place.
-/
import Derived.Test.YtaokjiajceefaaaAtB
namespace Go.Proofs.Ytaokjiajceefaaa
open Go.ChangeShapes Go.WideShapes Go.ChangeAt Go.RowKit

theorem raddr_lo (a0 a1 a2 a3 a4 a5 a6 r i k : Int) (h : r < 1) (w : World) : Calls Try.prog 35 #[.agg #[.int .i64 a0, .int .i64 a1, .int .i64 a2, .int .i64 a3, .int .i64 a4, .int .i64 a5, .int .i64 a6], .agg #[.int .i64 r, .int .i64 i, .int .i64 k]] w fun e w' =>
    e = .returned (.int .i64 (-1)) ∧ Below w.heap.size w w' := by
  go_enter Try.func35, Try.ntmps35
  go_wp2
  go_ret
  exact ⟨rfl, (by repeat (first | exact Below.refl _ _ | apply Below.drew | apply Below.more1 | apply Below.alloc1))⟩

theorem raddr_hi (a0 a1 a2 a3 a4 a5 a6 r i k : Int) (h : 13 < r) (w : World) : Calls Try.prog 35 #[.agg #[.int .i64 a0, .int .i64 a1, .int .i64 a2, .int .i64 a3, .int .i64 a4, .int .i64 a5, .int .i64 a6], .agg #[.int .i64 r, .int .i64 i, .int .i64 k]] w fun e w' =>
    e = .returned (.int .i64 (-1)) ∧ Below w.heap.size w w' := by
  have h1 : 1 ≤ r := by omega
  go_enter Try.func35, Try.ntmps35
  go_wp2
  go_ret
  exact ⟨rfl, (by repeat (first | exact Below.refl _ _ | apply Below.drew | apply Below.more1 | apply Below.alloc1))⟩

theorem raddr_9a (a0 a1 a2 a3 a4 a5 a6 i k : Int) (h : i < 0) (w : World) : Calls Try.prog 35 #[.agg #[.int .i64 a0, .int .i64 a1, .int .i64 a2, .int .i64 a3, .int .i64 a4, .int .i64 a5, .int .i64 a6], .agg #[.int .i64 9, .int .i64 i, .int .i64 k]] w fun e w' =>
    e = .returned (.int .i64 (-1)) ∧ Below w.heap.size w w' := by
  go_enter Try.func35, Try.ntmps35
  go_wp2
  go_ret
  exact ⟨rfl, (by repeat (first | exact Below.refl _ _ | apply Below.drew | apply Below.more1 | apply Below.alloc1))⟩

theorem raddr_9b (a0 a1 a2 a3 a4 a5 a6 i k : Int) (h0 : 0 ≤ i) (h : a1 ≤ i) (w : World) : Calls Try.prog 35 #[.agg #[.int .i64 a0, .int .i64 a1, .int .i64 a2, .int .i64 a3, .int .i64 a4, .int .i64 a5, .int .i64 a6], .agg #[.int .i64 9, .int .i64 i, .int .i64 k]] w fun e w' =>
    e = .returned (.int .i64 (-1)) ∧ Below w.heap.size w w' := by
  go_enter Try.func35, Try.ntmps35
  go_wp2
  go_ret
  exact ⟨rfl, (by repeat (first | exact Below.refl _ _ | apply Below.drew | apply Below.more1 | apply Below.alloc1))⟩

theorem raddr_9c (a0 a1 a2 a3 a4 a5 a6 i k : Int) (h0 : 0 ≤ i) (h1 : i < a1) (h : k < 0) (w : World) : Calls Try.prog 35 #[.agg #[.int .i64 a0, .int .i64 a1, .int .i64 a2, .int .i64 a3, .int .i64 a4, .int .i64 a5, .int .i64 a6], .agg #[.int .i64 9, .int .i64 i, .int .i64 k]] w fun e w' =>
    e = .returned (.int .i64 (-1)) ∧ Below w.heap.size w w' := by
  go_enter Try.func35, Try.ntmps35
  go_wp2
  go_ret
  exact ⟨rfl, (by repeat (first | exact Below.refl _ _ | apply Below.drew | apply Below.more1 | apply Below.alloc1))⟩

theorem raddr_9d (a0 a1 a2 a3 a4 a5 a6 i k : Int) (h0 : 0 ≤ i) (h1 : i < a1) (h2 : 0 ≤ k) (h : a2 ≤ k) (w : World) : Calls Try.prog 35 #[.agg #[.int .i64 a0, .int .i64 a1, .int .i64 a2, .int .i64 a3, .int .i64 a4, .int .i64 a5, .int .i64 a6], .agg #[.int .i64 9, .int .i64 i, .int .i64 k]] w fun e w' =>
    e = .returned (.int .i64 (-1)) ∧ Below w.heap.size w w' := by
  go_enter Try.func35, Try.ntmps35
  go_wp2
  go_ret
  exact ⟨rfl, (by repeat (first | exact Below.refl _ _ | apply Below.drew | apply Below.more1 | apply Below.alloc1))⟩

theorem raddr_k (a0 a1 a2 a3 a4 a5 a6 r i k : Int) (h0 : 1 ≤ r) (h1 : r ≤ 13) (h9 : r < 9 ∨ 9 < r) (hk : k < 0 ∨ 0 < k) (w : World) : Calls Try.prog 35 #[.agg #[.int .i64 a0, .int .i64 a1, .int .i64 a2, .int .i64 a3, .int .i64 a4, .int .i64 a5, .int .i64 a6], .agg #[.int .i64 r, .int .i64 i, .int .i64 k]] w fun e w' =>
    e = .returned (.int .i64 (-1)) ∧ Below w.heap.size w w' := by
  have hz : (k != 0) = true := by rw [bne_iff_ne]; omega
  go_enter Try.func35, Try.ntmps35
  go_wp2
  go_wp2
  refine wp_region_more_lit (by kernel_rfl) (by kernel_rfl) ?_
  repeat (first | go_big_quiet_skip | (go_big_quiet_want; go_big_quiet_op; first | go_big_quiet_on | (apply Exists.intro; refine ⟨fun _ => ?_, ?_⟩; (focus (fail)); go_big_quiet_on)))
  refine wpQuiet_nil ?_
  intro osq dq
  go_wp2
  go_ret
  exact ⟨rfl, (by repeat (first | exact Below.refl _ _ | apply Below.drew | apply Below.more1 | apply Below.alloc1))⟩

theorem raddr_i (a0 a1 a2 a3 a4 a5 a6 r i : Int) (h0 : 1 ≤ r) (h1 : r ≤ 13) (h9 : r < 9 ∨ 9 < r) (hi : i < 0) (w : World) : Calls Try.prog 35 #[.agg #[.int .i64 a0, .int .i64 a1, .int .i64 a2, .int .i64 a3, .int .i64 a4, .int .i64 a5, .int .i64 a6], .agg #[.int .i64 r, .int .i64 i, .int .i64 0]] w fun e w' =>
    e = .returned (.int .i64 (-1)) ∧ Below w.heap.size w w' := by
  have hz : decide (i < 0) = true := decide_eq_true hi
  have hy : ((0 : Int) != 0) = false := rfl
  go_enter Try.func35, Try.ntmps35
  go_wp2
  go_wp2
  refine wp_region_more_lit (by kernel_rfl) (by kernel_rfl) ?_
  repeat (first | go_big_quiet_skip | (go_big_quiet_want; go_big_quiet_op; first | go_big_quiet_on | (apply Exists.intro; refine ⟨fun _ => ?_, ?_⟩; (focus (fail)); go_big_quiet_on)))
  refine wpQuiet_nil ?_
  intro osq dq
  go_wp2
  go_ret
  exact ⟨rfl, (by repeat (first | exact Below.refl _ _ | apply Below.drew | apply Below.more1 | apply Below.alloc1))⟩

theorem raddr_m (a0 a1 a2 a3 a4 a5 a6 r i : Int) (h : okCfg a0 a1 a2 a3 a4 a5 a6 = true) (h0 : 1 ≤ r) (h1 : r ≤ 13) (h9 : r < 9 ∨ 9 < r) (hi : 0 ≤ i) (hm : manyI a1 a2 a5 a6 r ≤ i) (w : World) : Calls Try.prog 35 #[.agg #[.int .i64 a0, .int .i64 a1, .int .i64 a2, .int .i64 a3, .int .i64 a4, .int .i64 a5, .int .i64 a6], .agg #[.int .i64 r, .int .i64 i, .int .i64 0]] w fun e w' =>
    e = .returned (.int .i64 (-1)) ∧ Below w.heap.size w w' := by
  obtain ⟨b0, b1, b2, b3, b4, b5, b6, bm⟩ := ok_bounds h
  have hz : decide (i < 0) = false := decide_eq_false (by omega)
  have hy : ((0 : Int) != 0) = false := rfl
  have hq : decide (manyI a1 a2 a5 a6 r ≤ i) = true := decide_eq_true hm
  go_enter Try.func35, Try.ntmps35
  go_wp2
  go_wp2
  refine wp_region_more_lit (by kernel_rfl) (by kernel_rfl) ?_
  repeat (first | go_big_quiet_skip | (go_big_quiet_want; go_big_quiet_op; first | go_big_quiet_on | (apply Exists.intro; refine ⟨fun _ => ?_, ?_⟩; (focus (go_at_call 42; exact Calls.more_of (rmany_any _ _ _ _ _ _ _ _ bm _))); go_big_quiet_on)))
  refine wpQuiet_nil ?_
  intro osq dq
  go_wp2
  go_ret
  exact ⟨rfl, (by repeat (first | exact Below.refl _ _ | apply Below.drew | apply Below.more1 | apply Below.alloc1))⟩

theorem raddr_one (a0 a1 a2 a3 a4 a5 a6 r i : Int) (m : Nat) (hr : Hid (r = (m : Int) + 1)) (h : okCfg a0 a1 a2 a3 a4 a5 a6 = true) (h0 : 1 ≤ r) (h1 : r ≤ 13) (h9 : r < 9 ∨ 9 < r) (hi : 0 ≤ i) (hm : i < manyI a1 a2 a5 a6 r) (w : World) : Calls Try.prog 35 #[.agg #[.int .i64 a0, .int .i64 a1, .int .i64 a2, .int .i64 a3, .int .i64 a4, .int .i64 a5, .int .i64 a6], .agg #[.int .i64 r, .int .i64 i, .int .i64 0]] w fun e w' =>
    e = .returned (.int .i64 (baseF a1 a2 a5 a6 m + i)) ∧ Below w.heap.size w w' := by
  obtain ⟨b0, b1, b2, b3, b4, b5, b6, bm⟩ := ok_bounds h
  have hz : decide (i < 0) = false := decide_eq_false (by omega)
  have hy : ((0 : Int) != 0) = false := rfl
  have hq : decide (manyI a1 a2 a5 a6 r ≤ i) = false := decide_eq_false (by omega)
  have hbd := manyI_bd b1 b5 b6 bm r
  have hbf := baseF_bd b1 b5 b6 bm m
  have hsum : IntKind.i64.wrap (baseF a1 a2 a5 a6 m + i) = baseF a1 a2 a5 a6 m + i := IntWalk.i64_in _ (by have := hr.out; omega)
  have hbase : ∀ w, Calls Try.prog 41 #[.agg #[.int .i64 a0, .int .i64 a1, .int .i64 a2, .int .i64 a3, .int .i64 a4, .int .i64 a5, .int .i64 a6], .int .i64 r] w fun e w' => e = .returned (.int .i64 (baseF a1 a2 a5 a6 m)) ∧ Below w.heap.size w w' := by
    intro w
    have := hr.out
    have hh := base_nat a0 a1 a2 a3 a4 a5 a6 h m (by omega) w
    rw [← this] at hh
    exact hh
  have HB := Lib.hid hbase; clear hbase hbf
  go_enter Try.func35, Try.ntmps35
  go_wp2
  refine wp_region_more_lit (by kernel_rfl) (by kernel_rfl) ?_
  repeat (first | go_big_quiet_skip | (go_big_quiet_want; go_big_quiet_op; first | go_big_quiet_on | (apply Exists.intro; refine ⟨fun _ => ?_, ?_⟩; (focus (go_at_call 42; exact Calls.more_of (rmany_any _ _ _ _ _ _ _ _ bm _))); go_big_quiet_on)))
  refine wpQuiet_nil ?_
  intro osq dq
  go_wp2
  refine wp_region_more_lit (by kernel_rfl) (by kernel_rfl) ?_
  repeat (first | go_big_quiet_skip | (go_big_quiet_want; go_big_quiet_op; first | go_big_quiet_on | (apply Exists.intro; refine ⟨fun _ => ?_, ?_⟩; (focus (go_at_call 41; exact Calls.more_of (HB.out _))); go_big_quiet_on)))
  refine wpQuiet_nil ?_
  intro osq dq
  go_wp2
  go_ret
  exact ⟨rfl, (by repeat (first | exact Below.refl _ _ | apply Below.drew | apply Below.more1 | apply Below.alloc1))⟩

theorem raddr_nine (a0 a1 a2 a3 a4 a5 a6 i k : Int) (h : okCfg a0 a1 a2 a3 a4 a5 a6 = true) (hi : 0 ≤ i) (hi2 : i < a1) (hk : 0 ≤ k) (hk2 : k < a2) (w : World) : Calls Try.prog 35 #[.agg #[.int .i64 a0, .int .i64 a1, .int .i64 a2, .int .i64 a3, .int .i64 a4, .int .i64 a5, .int .i64 a6], .agg #[.int .i64 9, .int .i64 i, .int .i64 k]] w fun e w' =>
    e = .returned (.int .i64 (baseF a1 a2 a5 a6 8 + i * a2 + k)) ∧ Below w.heap.size w w' := by
  obtain ⟨b0, b1, b2, b3, b4, b5, b6, bm⟩ := ok_bounds h
  have m1 : 0 ≤ i * a2 := Int.mul_nonneg hi (by omega)
  have m2 : (i + 1) * a2 ≤ a1 * a2 := Int.mul_le_mul_of_nonneg_right (by omega) (by omega)
  have m3 : (i + 1) * a2 = i * a2 + a2 := by rw [Int.add_mul, Int.one_mul]
  have m4 : i * a2 + k < a1 * a2 := by omega
  clear m2 m3
  have hbf := baseF_bd b1 b5 b6 bm 8
  have w1 : IntKind.i64.wrap (i * a2) = i * a2 := IntWalk.i64_in _ (by omega)
  have w2 : IntKind.i64.wrap (baseF a1 a2 a5 a6 8 + i * a2) = baseF a1 a2 a5 a6 8 + i * a2 := IntWalk.i64_in _ (by omega)
  have w3 : IntKind.i64.wrap (baseF a1 a2 a5 a6 8 + i * a2 + k) = baseF a1 a2 a5 a6 8 + i * a2 + k := IntWalk.i64_in _ (by omega)
  have hbase : ∀ w, Calls Try.prog 41 #[.agg #[.int .i64 a0, .int .i64 a1, .int .i64 a2, .int .i64 a3, .int .i64 a4, .int .i64 a5, .int .i64 a6], .int .i64 9] w fun e w' => e = .returned (.int .i64 (baseF a1 a2 a5 a6 8)) ∧ Below w.heap.size w w' := fun w => base_nat a0 a1 a2 a3 a4 a5 a6 h 8 (by omega) w
  have HB := Lib.hid hbase; clear hbase hbf
  go_enter Try.func35, Try.ntmps35
  go_wp2
  refine wp_region_more_lit (by kernel_rfl) (by kernel_rfl) ?_
  repeat (first | go_big_quiet_skip | (go_big_quiet_want; go_big_quiet_op; first | go_big_quiet_on | (apply Exists.intro; refine ⟨fun _ => ?_, ?_⟩; (focus (go_at_call 41; exact Calls.more_of (HB.out _))); go_big_quiet_on)))
  refine wpQuiet_nil ?_
  intro osq dq
  go_wp2
  go_ret
  exact ⟨rfl, (by repeat (first | exact Below.refl _ _ | apply Below.drew | apply Below.more1 | apply Below.alloc1))⟩

theorem raddr_ok (a0 a1 a2 a3 a4 a5 a6 r i k : Int) (h : okCfg a0 a1 a2 a3 a4 a5 a6 = true) (ho : addrOk a1 a2 a5 a6 r i k = true) (w : World) : Calls Try.prog 35 #[.agg #[.int .i64 a0, .int .i64 a1, .int .i64 a2, .int .i64 a3, .int .i64 a4, .int .i64 a5, .int .i64 a6], .agg #[.int .i64 r, .int .i64 i, .int .i64 k]] w fun e w' =>
    e = .returned (.int .i64 (addrAt a1 a2 a5 a6 r i k)) ∧ Below w.heap.size w w' := by
  unfold addrAt
  by_cases h9 : r = 9
  · subst h9
    simp [addrOk] at ho
    have := raddr_nine a0 a1 a2 a3 a4 a5 a6 i k h (by omega) (by omega) (by omega) (by omega) w
    rw [if_pos rfl, Int.add_comm, ← Int.add_assoc]
    exact this
  · simp [addrOk, h9] at ho
    obtain ⟨⟨⟨⟨h0, h1⟩, h2⟩, h3⟩, rfl, h4⟩ := ho
    rw [if_neg h9, Int.add_comm]
    exact raddr_one a0 a1 a2 a3 a4 a5 a6 r i (r - 1).toNat (show r = _ by omega) h h0 h1 (by omega) h2 h4 w

theorem raddr_bad (a0 a1 a2 a3 a4 a5 a6 r i k : Int) (h : okCfg a0 a1 a2 a3 a4 a5 a6 = true) (ho : addrOk a1 a2 a5 a6 r i k = false) (w : World) : Calls Try.prog 35 #[.agg #[.int .i64 a0, .int .i64 a1, .int .i64 a2, .int .i64 a3, .int .i64 a4, .int .i64 a5, .int .i64 a6], .agg #[.int .i64 r, .int .i64 i, .int .i64 k]] w fun e w' =>
    e = .returned (.int .i64 (-1)) ∧ Below w.heap.size w w' := by
  by_cases hl : r < 1
  · exact raddr_lo a0 a1 a2 a3 a4 a5 a6 r i k hl w
  by_cases hh : 13 < r
  · exact raddr_hi a0 a1 a2 a3 a4 a5 a6 r i k hh w
  by_cases h9 : r = 9
  · subst h9
    by_cases c1 : i < 0
    · exact raddr_9a a0 a1 a2 a3 a4 a5 a6 i k c1 w
    by_cases c2 : a1 ≤ i
    · exact raddr_9b a0 a1 a2 a3 a4 a5 a6 i k (by omega) c2 w
    by_cases c3 : k < 0
    · exact raddr_9c a0 a1 a2 a3 a4 a5 a6 i k (by omega) (by omega) c3 w
    simp [addrOk] at ho
    exact raddr_9d a0 a1 a2 a3 a4 a5 a6 i k (by omega) (by omega) (by omega) (ho (by omega) (by omega) (by omega)) w
  · by_cases hz : k = 0
    · subst hz
      by_cases c1 : i < 0
      · exact raddr_i a0 a1 a2 a3 a4 a5 a6 r i (by omega) (by omega) (by omega) c1 w
      simp [addrOk, h9] at ho
      exact raddr_m a0 a1 a2 a3 a4 a5 a6 r i h (by omega) (by omega) (by omega) (by omega) (ho (by omega) (by omega) (by omega)) w
    · exact raddr_k a0 a1 a2 a3 a4 a5 a6 r i k (by omega) (by omega) (by omega) (by omega) w

end Go.Proofs.Ytaokjiajceefaaa
