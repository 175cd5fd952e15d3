/-
WordChecks returns true.
-/
import Derived.Test.YtaokjiajceefaaaCfg
import Derived.Test.YtaokjiajceefaaaMore
namespace Go.Proofs.Ytaokjiajceefaaa
open Go.ChangeShapes Go.WideShapes Go.ChangeAt Go.RowKit

theorem wordChecks_walk (a0 a1 a2 a3 a4 a5 a6 : Int) (w : World) :
    Calls Try.prog 5 #[.agg #[.int .i64 a0, .int .i64 a1, .int .i64 a2, .int .i64 a3, .int .i64 a4, .int .i64 a5, .int .i64 a6]] w fun e w' => e = .returned (.bool true) ∧ Below w.heap.size w w' := by
  have e0 : cfgErr 0 0 0 0 0 0 0 = 1 := by decide
  have e1 : cfgErr 2 2 3 1 0 4 2 = 0 := by decide
  have e2 : cfgErr a0 a1 a2 a3 a4 a5 a6 = if okCfg a0 a1 a2 a3 a4 a5 a6 then 0 else 1 := rfl
  cases hok : okCfg a0 a1 a2 a3 a4 a5 a6
  all_goals
    simp only [hok, Bool.false_eq_true, ↓reduceIte] at e2
    go_enter Try.func5, Try.ntmps5
    go_wp2_with (first
      | (go_at_call 16; refine (check_any _ _ _ _ _ _ _ _).mono ?_; rintro e w1 ⟨rfl, hb1⟩; obtain ⟨os, d, rfl⟩ := hb1.more; clear hb1)
      | (go_at_call 17; refine (small_any _).mono ?_; rintro e w1 ⟨rfl, hb1⟩; obtain ⟨os, d, rfl⟩ := hb1.more; clear hb1)
      | (go_at_call 18; refine (config_any _ _ _ _ _ _ _ _).mono ?_; rintro e w1 ⟨rfl, hb1⟩; obtain ⟨os, d, rfl⟩ := hb1.more; clear hb1))
    go_ret
    exact ⟨rfl, by repeat (first | exact Below.refl _ _ | apply Below.more1 | apply Below.alloc1)⟩
end Go.Proofs.Ytaokjiajceefaaa
