/-
word.Addr: a place's address.
-/
import Derived.Test.YtaokjiajceefaaaAddrB
namespace Go.Proofs.Ytaokjiajceefaaa
open Go.ChangeShapes Go.WideShapes Go.ChangeAt Go.RowKit

theorem addr_ok (a0 a1 a2 a3 a4 a5 a6 r i k : Int) (h : okCfg a0 a1 a2 a3 a4 a5 a6 = true) (ho : addrOk a1 a2 a5 a6 r i k = true) (w : World) : Calls Try.prog 32 #[.agg #[.int .i64 a0, .int .i64 a1, .int .i64 a2, .int .i64 a3, .int .i64 a4, .int .i64 a5, .int .i64 a6], .agg #[.int .i64 r, .int .i64 i, .int .i64 k]] w fun e w' =>
    e = .returned (.tuple #[.int .i64 (addrAt a1 a2 a5 a6 r i k), .int .i64 0]) ∧ Below w.heap.size w w' := by
  unfold addrAt
  by_cases h9 : r = 9
  · subst h9
    simp [addrOk] at ho
    exact addr_nine a0 a1 a2 a3 a4 a5 a6 i k h (by omega) (by omega) (by omega) (by omega) w
  · simp [addrOk, h9] at ho
    obtain ⟨⟨⟨⟨h0, h1⟩, h2⟩, h3⟩, rfl, h4⟩ := ho
    rw [if_neg h9]
    exact addr_one a0 a1 a2 a3 a4 a5 a6 r i (r - 1).toNat (show r = _ by omega) h h0 h1 h9 h2 h4 w

theorem addr_bad (a0 a1 a2 a3 a4 a5 a6 r i k : Int) (h : okCfg a0 a1 a2 a3 a4 a5 a6 = true) (ho : addrOk a1 a2 a5 a6 r i k = false) (w : World) : Calls Try.prog 32 #[.agg #[.int .i64 a0, .int .i64 a1, .int .i64 a2, .int .i64 a3, .int .i64 a4, .int .i64 a5, .int .i64 a6], .agg #[.int .i64 r, .int .i64 i, .int .i64 k]] w fun e w' =>
    e = .returned (.tuple #[.int .i64 0, .int .i64 2]) ∧ Below w.heap.size w w' := by
  by_cases hr : r < 1 ∨ 13 < r
  · exact addr_noreg a0 a1 a2 a3 a4 a5 a6 r i k h hr w
  by_cases hi : i < 0
  · exact addr_neg a0 a1 a2 a3 a4 a5 a6 r i k h (by omega) (by omega) hi w
  by_cases hk : k < 0
  · exact addr_neg2 a0 a1 a2 a3 a4 a5 a6 r i k h (by omega) (by omega) (by omega) hk w
  by_cases h9 : r = 9
  · subst h9
    simp [addrOk] at ho
    by_cases hf : a2 ≤ k
    · exact addr_9k a0 a1 a2 a3 a4 a5 a6 i k h (by omega) (by omega) hf w
    · exact addr_9i a0 a1 a2 a3 a4 a5 a6 i k h (by omega) (by omega) (by omega) (by
        rcases Int.lt_or_le i a1 with hl | hl
        · exact absurd (ho (by omega) (by omega) hl) (by omega)
        · exact hl) w
  · by_cases hz : k = 0
    · subst hz
      simp [addrOk, h9] at ho
      exact addr_far a0 a1 a2 a3 a4 a5 a6 r i h (by omega) (by omega) h9 (by omega) (ho (by omega) (by omega) (by omega)) w
    · exact addr_k a0 a1 a2 a3 a4 a5 a6 r i k h (by omega) (by omega) h9 (by omega) (by omega) w

end Go.Proofs.Ytaokjiajceefaaa
