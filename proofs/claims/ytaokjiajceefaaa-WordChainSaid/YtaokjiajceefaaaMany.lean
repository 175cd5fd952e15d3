/-
word.many, word.Size, reclaimref01.Many, Base, Size: how many words a region has, where it begins.
-/
import Derived.Test.YtaokjiajceefaaaCheck
import Derived.Test.YtaokjiajceefaaaMore
namespace Go.Proofs.Ytaokjiajceefaaa
open Go.ChangeShapes Go.WideShapes Go.ChangeAt Go.RowKit

def manyI (a1 a2 a5 a6 : Int) (r : Int) : Int :=
  if r = 7 then a6 else if r = 8 then a1 else if r = 9 then a1 * a2 else if 10 ≤ r ∧ r ≤ 13 then a5 else 1
def baseF (a1 a2 a5 a6 : Int) : Nat → Int
  | 0 => 0
  | n + 1 => baseF a1 a2 a5 a6 n + manyI a1 a2 a5 a6 (n + 1)

theorem ok_bounds {a0 a1 a2 a3 a4 a5 a6 : Int} (h : okCfg a0 a1 a2 a3 a4 a5 a6 = true) :
    (1 ≤ a0 ∧ a0 ≤ 16) ∧ (1 ≤ a1 ∧ a1 ≤ 16) ∧ (3 ≤ a2 ∧ a2 ≤ 8) ∧ (1 ≤ a3 ∧ a3 ≤ 1024) ∧ (0 ≤ a4 ∧ a4 ≤ 64) ∧ (1 ≤ a5 ∧ a5 ≤ 1024) ∧ (1 ≤ a6 ∧ a6 ≤ 64) ∧ (3 ≤ a1 * a2 ∧ a1 * a2 ≤ 128) := by
  simp [okCfg] at h
  have h1 : 1 ≤ a1 := by omega
  have h2 : a1 ≤ 16 := by omega
  have h3 : 3 ≤ a2 := by omega
  have h4 : a2 ≤ 8 := by omega
  have m1 : 1 * 3 ≤ a1 * a2 := Int.mul_le_mul h1 h3 (by omega) (by omega)
  have m2 : a1 * a2 ≤ 16 * 8 := Int.mul_le_mul h2 h4 (by omega) (by omega)
  omega

theorem manyI_bd {a1 a2 a5 a6 : Int} (h1 : 1 ≤ a1 ∧ a1 ≤ 16) (h5 : 1 ≤ a5 ∧ a5 ≤ 1024) (h6 : 1 ≤ a6 ∧ a6 ≤ 64) (hm : 3 ≤ a1 * a2 ∧ a1 * a2 ≤ 128) (r : Int) :
    1 ≤ manyI a1 a2 a5 a6 r ∧ manyI a1 a2 a5 a6 r ≤ 1024 := by
  unfold manyI
  split
  · omega
  · split
    · omega
    · split
      · omega
      · split <;> omega

theorem baseF_bd {a1 a2 a5 a6 : Int} (h1 : 1 ≤ a1 ∧ a1 ≤ 16) (h5 : 1 ≤ a5 ∧ a5 ≤ 1024) (h6 : 1 ≤ a6 ∧ a6 ≤ 64) (hm : 3 ≤ a1 * a2 ∧ a1 * a2 ≤ 128) (n : Nat) :
    (n : Int) ≤ baseF a1 a2 a5 a6 n ∧ baseF a1 a2 a5 a6 n ≤ 1024 * n := by
  induction n with
  | zero => simp [baseF]
  | succ n ih =>
    have := manyI_bd h1 h5 h6 hm (n + 1)
    simp only [baseF]
    omega

theorem many_any (a0 a1 a2 a3 a4 a5 a6 r : Int) (hm : 3 ≤ a1 * a2 ∧ a1 * a2 ≤ 128) (w : World) : Calls Try.prog 39 #[.agg #[.int .i64 a0, .int .i64 a1, .int .i64 a2, .int .i64 a3, .int .i64 a4, .int .i64 a5, .int .i64 a6], .int .i64 r] w fun e w' =>
    e = .returned (.int .i64 (manyI a1 a2 a5 a6 r)) ∧ Below w.heap.size w w' := by
  have hm1 := hm.1
  have hm2 := hm.2
  clear hm
  by_cases h : r = 7 ∨ r = 8 ∨ r = 9 ∨ r = 10 ∨ r = 11 ∨ r = 12 ∨ r = 13
  · rcases h with rfl | rfl | rfl | rfl | rfl | rfl | rfl
    all_goals
      go_enter Try.func39, Try.ntmps39
      go_wp2
      go_ret
      exact ⟨ret_int (by simp [manyI]), by repeat (first | exact Below.refl _ _ | apply Below.more1 | apply Below.alloc1)⟩
  · have hg : r < 7 ∨ 13 < r := by omega
    have hr : manyI a1 a2 a5 a6 r = 1 := by
      unfold manyI
      rw [if_neg (by omega), if_neg (by omega), if_neg (by omega), if_neg (by omega)]
    clear h
    rw [hr]
    clear hr
    rcases hg with h | h
    all_goals
      go_enter Try.func39, Try.ntmps39
      go_wp2
      go_ret
      exact ⟨rfl, by repeat (first | exact Below.refl _ _ | apply Below.more1 | apply Below.alloc1)⟩

theorem rmany_any (a0 a1 a2 a3 a4 a5 a6 r : Int) (hm : 3 ≤ a1 * a2 ∧ a1 * a2 ≤ 128) (w : World) : Calls Try.prog 42 #[.agg #[.int .i64 a0, .int .i64 a1, .int .i64 a2, .int .i64 a3, .int .i64 a4, .int .i64 a5, .int .i64 a6], .int .i64 r] w fun e w' =>
    e = .returned (.int .i64 (manyI a1 a2 a5 a6 r)) ∧ Below w.heap.size w w' := by
  have hm1 := hm.1
  have hm2 := hm.2
  clear hm
  by_cases h : r = 7 ∨ r = 8 ∨ r = 9 ∨ r = 10 ∨ r = 11 ∨ r = 12 ∨ r = 13
  · rcases h with rfl | rfl | rfl | rfl | rfl | rfl | rfl
    all_goals
      go_enter Try.func42, Try.ntmps42
      go_wp2
      go_ret
      exact ⟨ret_int (by simp [manyI]), by repeat (first | exact Below.refl _ _ | apply Below.more1 | apply Below.alloc1)⟩
  · have hg : r < 7 ∨ 13 < r := by omega
    have hr : manyI a1 a2 a5 a6 r = 1 := by
      unfold manyI
      rw [if_neg (by omega), if_neg (by omega), if_neg (by omega), if_neg (by omega)]
    clear h
    rw [hr]
    clear hr
    rcases hg with h | h
    all_goals
      go_enter Try.func42, Try.ntmps42
      go_wp2
      go_ret
      exact ⟨rfl, by repeat (first | exact Below.refl _ _ | apply Below.more1 | apply Below.alloc1)⟩

end Go.Proofs.Ytaokjiajceefaaa
