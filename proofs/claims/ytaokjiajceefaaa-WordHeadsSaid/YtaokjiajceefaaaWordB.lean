/-
The walks of WordNumbers, WordLinks and WordHeads: each returns true.
-/
import Derived.Test.YtaokjiajceefaaaWordA
namespace Go.Proofs.Ytaokjiajceefaaa
open Go.ChangeShapes Go.WideShapes Go.ChangeAt Go.RowKit

theorem awake_any (w : World) : Calls Try.prog 19 #[] w fun e w' => e = .returned (.bool true) ∧ w = w' := by
  have h1 : packLink 7 true = 4294967304 := by decide
  have h2 : packHead 3 7 = 12884901896 := by decide
  go_enter Try.func19, Try.ntmps19
  go_wp2_with (first | (go_at_call 20; refine (link_ok _ _ _ (by omega) (by omega)).mono ?_; rintro e w' ⟨rfl, rfl⟩) | (go_at_call 26; refine (head_ok _ _ _ (by omega) (by omega) (by omega) (by omega)).mono ?_; rintro e w' ⟨rfl, rfl⟩))
  go_ret
  exact ⟨rfl, rfl⟩

theorem wordLinks_walk (i : Int) (_hi : -9223372036854775808 ≤ i ∧ i ≤ 9223372036854775807) (m : Bool) (v : Int) (hv : 0 ≤ v ∧ v ≤ 18446744073709551615) (w : World) :
    Calls Try.prog 6 #[.int .i64 i, .bool m, .int .u64 v] w fun e w' => e = .returned (.bool true) ∧ Below w.heap.size w w' := by
  obtain ⟨h0, h1⟩ := hv
  refine Calls.mono (R := fun e w' => e = .returned (.bool true) ∧ w = w') ?_ (fun e w' h => ⟨h.1, h.2 ▸ Below.refl _ _⟩)
  by_cases hi : i < -1 ∨ 2147483646 < i
  · cases hv : isLink v
    · go_enter Try.func6, Try.ntmps6
      go_wp2_with (first
        | (go_at_call 19; refine (awake_any _).mono ?_; rintro e w' ⟨rfl, rfl⟩)
        | (go_at_call 20; refine (link_bad _ _ _ hi).mono ?_; rintro e w' ⟨rfl, rfl⟩)
        | (go_at_call 22; refine (unlink_bad _ _ h0 h1 hv).mono ?_; rintro e w' ⟨rfl, rfl⟩)
        | (go_at_call 23; refine (isLink_any _ _ h0).mono ?_; rintro e w' ⟨rfl, rfl⟩))
      all_goals
        go_ret
        exact ⟨rfl, rfl⟩
    · go_enter Try.func6, Try.ntmps6
      go_wp2_with (first
        | (go_at_call 19; refine (awake_any _).mono ?_; rintro e w' ⟨rfl, rfl⟩)
        | (go_at_call 20; refine (link_bad _ _ _ hi).mono ?_; rintro e w' ⟨rfl, rfl⟩)
        | (go_at_call 22; refine (unlink_ok _ _ h0 h1 hv).mono ?_; rintro e w' ⟨rfl, rfl⟩)
        | (go_at_call 23; refine (isLink_any _ _ h0).mono ?_; rintro e w' ⟨rfl, rfl⟩)
        | (go_at_call 24; refine (linkIndex_any _ _ h0).mono ?_; rintro e w' ⟨rfl, rfl⟩)
        | (go_at_call 25; refine (linkMark_any _ _ h0 h1).mono ?_; rintro e w' ⟨rfl, rfl⟩))
      all_goals
        go_ret
        exact ⟨rfl, rfl⟩
  · have g1 : -1 ≤ i := by omega
    have g2 : i ≤ 2147483646 := by omega
    clear hi
    cases hv : isLink v
    · go_enter Try.func6, Try.ntmps6
      go_wp2_with (first
        | (go_at_call 19; refine (awake_any _).mono ?_; rintro e w' ⟨rfl, rfl⟩)
        | (go_at_call 20; refine (link_ok _ _ _ g1 g2).mono ?_; rintro e w' ⟨rfl, rfl⟩)
        | (go_at_call 21; refine (packLink_any _ _ _ g1 g2).mono ?_; rintro e w' ⟨rfl, rfl⟩)
        | (go_at_call 22; refine (unlink_bad _ _ h0 h1 hv).mono ?_; rintro e w' ⟨rfl, rfl⟩)
        | (go_at_call 23; refine (isLink_any _ _ h0).mono ?_; rintro e w' ⟨rfl, rfl⟩))
      all_goals
        go_ret
        exact ⟨rfl, rfl⟩
    · go_enter Try.func6, Try.ntmps6
      go_wp2_with (first
        | (go_at_call 19; refine (awake_any _).mono ?_; rintro e w' ⟨rfl, rfl⟩)
        | (go_at_call 20; refine (link_ok _ _ _ g1 g2).mono ?_; rintro e w' ⟨rfl, rfl⟩)
        | (go_at_call 21; refine (packLink_any _ _ _ g1 g2).mono ?_; rintro e w' ⟨rfl, rfl⟩)
        | (go_at_call 22; refine (unlink_ok _ _ h0 h1 hv).mono ?_; rintro e w' ⟨rfl, rfl⟩)
        | (go_at_call 23; refine (isLink_any _ _ h0).mono ?_; rintro e w' ⟨rfl, rfl⟩)
        | (go_at_call 24; refine (linkIndex_any _ _ h0).mono ?_; rintro e w' ⟨rfl, rfl⟩)
        | (go_at_call 25; refine (linkMark_any _ _ h0 h1).mono ?_; rintro e w' ⟨rfl, rfl⟩))
      all_goals
        go_ret
        exact ⟨rfl, rfl⟩

theorem wrap_there (v : Int) (h0 : -9223372036854775808 ≤ v) (h1 : v ≤ 9223372036854775807) : wrap64 (IntKind.u64.wrap v) = v := by
  rw [IntKind.wrap_u64]; unfold wrap64; omega

theorem wordNumbers_walk (a : Int) (ha : -9223372036854775808 ≤ a ∧ a ≤ 9223372036854775807) (v : Int) (hv : 0 ≤ v ∧ v ≤ 18446744073709551615) (w : World) :
    Calls Try.prog 4 #[.int .i64 a, .int .u64 v] w fun e w' => e = .returned (.bool true) ∧ Below w.heap.size w w' := by
  obtain ⟨h0, h1⟩ := hv
  have e1 : (IntKind.u64.wrap (-1) != 18446744073709551615) = false := by decide
  have e2 : (wrap64 18446744073709551614 != -2) = false := by unfold wrap64; decide
  have e3 := wrap_there a ha.1 ha.2
  clear ha
  refine Calls.mono (R := fun e w' => e = .returned (.bool true) ∧ w = w') ?_ (fun e w' h => ⟨h.1, h.2 ▸ Below.refl _ _⟩)
  go_enter Try.func4, Try.ntmps4
  go_wp2_with (first
    | (go_at_call 14; refine (number_any _ _).mono ?_; rintro e w' ⟨rfl, rfl⟩)
    | (go_at_call 15; refine (value_any _ _).mono ?_; rintro e w' ⟨rfl, rfl⟩))
  go_ret
  exact ⟨rfl, rfl⟩

theorem wordHeads_walk (t : Int) (ht : 0 ≤ t ∧ t ≤ 4294967295) (i : Int) (_hi : -9223372036854775808 ≤ i ∧ i ≤ 9223372036854775807) (v : Int) (hv : 0 ≤ v ∧ v ≤ 18446744073709551615) (w : World) :
    Calls Try.prog 7 #[.int .u32 t, .int .i64 i, .int .u64 v] w fun e w' => e = .returned (.bool true) ∧ Below w.heap.size w w' := by
  obtain ⟨h0, h1⟩ := hv
  obtain ⟨t0, t1⟩ := ht
  refine Calls.mono (R := fun e w' => e = .returned (.bool true) ∧ w = w') ?_ (fun e w' h => ⟨h.1, h.2 ▸ Below.refl _ _⟩)
  by_cases hi : i < -1 ∨ 2147483646 < i
  · cases hv : isHead v
    · go_enter Try.func7, Try.ntmps7
      go_wp2_with (first
        | (go_at_call 19; refine (awake_any _).mono ?_; rintro e w' ⟨rfl, rfl⟩)
        | (go_at_call 26; refine (head_bad _ _ _ hi).mono ?_; rintro e w' ⟨rfl, rfl⟩)
        | (go_at_call 28; refine (unhead_bad _ _ h0 h1 hv).mono ?_; rintro e w' ⟨rfl, rfl⟩)
        | (go_at_call 29; refine (isHead_any _ _ h0).mono ?_; rintro e w' ⟨rfl, rfl⟩))
      all_goals
        go_ret
        exact ⟨rfl, rfl⟩
    · have hl := linkIndex_low v
      go_enter Try.func7, Try.ntmps7
      go_wp2_with (first
        | (go_at_call 19; refine (awake_any _).mono ?_; rintro e w' ⟨rfl, rfl⟩)
        | (go_at_call 26; refine (head_bad _ _ _ hi).mono ?_; rintro e w' ⟨rfl, rfl⟩)
        | (go_at_call 28; refine (unhead_ok _ _ h0 h1 hv).mono ?_; rintro e w' ⟨rfl, rfl⟩)
        | (go_at_call 29; refine (isHead_any _ _ h0).mono ?_; rintro e w' ⟨rfl, rfl⟩)
        | (go_at_call 24; refine (linkIndex_any _ _ (by omega)).mono ?_; rintro e w' ⟨rfl, rfl⟩)
        | (go_at_call 30; refine (headTag_any _ _ h0 h1).mono ?_; rintro e w' ⟨rfl, rfl⟩))
      all_goals
        go_ret
        exact ⟨rfl, rfl⟩
  · have g1 : -1 ≤ i := by omega
    have g2 : i ≤ 2147483646 := by omega
    clear hi
    cases hv : isHead v
    · go_enter Try.func7, Try.ntmps7
      go_wp2_with (first
        | (go_at_call 19; refine (awake_any _).mono ?_; rintro e w' ⟨rfl, rfl⟩)
        | (go_at_call 26; refine (head_ok _ _ _ g1 g2 t0 t1).mono ?_; rintro e w' ⟨rfl, rfl⟩)
        | (go_at_call 27; refine (packHead_any _ _ _ g1 g2 t0 t1).mono ?_; rintro e w' ⟨rfl, rfl⟩)
        | (go_at_call 28; refine (unhead_bad _ _ h0 h1 hv).mono ?_; rintro e w' ⟨rfl, rfl⟩)
        | (go_at_call 29; refine (isHead_any _ _ h0).mono ?_; rintro e w' ⟨rfl, rfl⟩))
      all_goals
        go_ret
        exact ⟨rfl, rfl⟩
    · have hl := linkIndex_low v
      go_enter Try.func7, Try.ntmps7
      go_wp2_with (first
        | (go_at_call 19; refine (awake_any _).mono ?_; rintro e w' ⟨rfl, rfl⟩)
        | (go_at_call 26; refine (head_ok _ _ _ g1 g2 t0 t1).mono ?_; rintro e w' ⟨rfl, rfl⟩)
        | (go_at_call 27; refine (packHead_any _ _ _ g1 g2 t0 t1).mono ?_; rintro e w' ⟨rfl, rfl⟩)
        | (go_at_call 28; refine (unhead_ok _ _ h0 h1 hv).mono ?_; rintro e w' ⟨rfl, rfl⟩)
        | (go_at_call 29; refine (isHead_any _ _ h0).mono ?_; rintro e w' ⟨rfl, rfl⟩)
        | (go_at_call 24; refine (linkIndex_any _ _ (by omega)).mono ?_; rintro e w' ⟨rfl, rfl⟩)
        | (go_at_call 30; refine (headTag_any _ _ h0 h1).mono ?_; rintro e w' ⟨rfl, rfl⟩))
      all_goals
        go_ret
        exact ⟨rfl, rfl⟩

theorem wordNumbersNamed_walk (w : World) :
    Calls Try.prog 3 #[] w fun e w' => e = .returned (.bool true) ∧ Below w.heap.size w w' := by
  go_enter Try.func3, Try.ntmps3
  go_wp2
  go_ret
  exact ⟨rfl, Below.refl _ _⟩

end Go.Proofs.Ytaokjiajceefaaa
