/-
reclaimref01.Config: whether a configuration may be.
-/
import Derived.Test.YtjcggokhminmoaaQMchS
namespace Go.Proofs.Ytjcggokhminmoaa
open Go.ChangeShapes Go.WideShapes Go.ChangeAt Go.RowKit

theorem config_no7 (a0 a1 a2 a3 a4 a5 a6 : Int) (w : World) (h0 : 1 ≤ a0) (h1 : a0 ≤ 16) (h2 : 1 ≤ a1) (h3 : a1 ≤ 16) (h4 : 3 ≤ a2) (h5 : a2 ≤ 8) (h6 : 1 ≤ a3) (g : 1024 < a3) : Calls Try.prog 12 #[.agg #[.int .i64 a0, .int .i64 a1, .int .i64 a2, .int .i64 a3, .int .i64 a4, .int .i64 a5, .int .i64 a6]] w fun e w' =>
    e = .returned (.bool false) ∧ Below w.heap.size w w' := by
  go_enter Try.func12, Try.ntmps12
  go_wp2
  go_ret
  exact ⟨rfl, (Below.refl _ _).alloc (Nat.le_refl _) _⟩

theorem config_no8 (a0 a1 a2 a3 a4 a5 a6 : Int) (w : World) (h0 : 1 ≤ a0) (h1 : a0 ≤ 16) (h2 : 1 ≤ a1) (h3 : a1 ≤ 16) (h4 : 3 ≤ a2) (h5 : a2 ≤ 8) (h6 : 1 ≤ a3) (h7 : a3 ≤ 1024) (g : a4 < 0) : Calls Try.prog 12 #[.agg #[.int .i64 a0, .int .i64 a1, .int .i64 a2, .int .i64 a3, .int .i64 a4, .int .i64 a5, .int .i64 a6]] w fun e w' =>
    e = .returned (.bool false) ∧ Below w.heap.size w w' := by
  go_enter Try.func12, Try.ntmps12
  go_wp2
  go_ret
  exact ⟨rfl, (Below.refl _ _).alloc (Nat.le_refl _) _⟩

theorem config_no9 (a0 a1 a2 a3 a4 a5 a6 : Int) (w : World) (h0 : 1 ≤ a0) (h1 : a0 ≤ 16) (h2 : 1 ≤ a1) (h3 : a1 ≤ 16) (h4 : 3 ≤ a2) (h5 : a2 ≤ 8) (h6 : 1 ≤ a3) (h7 : a3 ≤ 1024) (h8 : 0 ≤ a4) (g : 64 < a4) : Calls Try.prog 12 #[.agg #[.int .i64 a0, .int .i64 a1, .int .i64 a2, .int .i64 a3, .int .i64 a4, .int .i64 a5, .int .i64 a6]] w fun e w' =>
    e = .returned (.bool false) ∧ Below w.heap.size w w' := by
  go_enter Try.func12, Try.ntmps12
  go_wp2
  go_ret
  exact ⟨rfl, (Below.refl _ _).alloc (Nat.le_refl _) _⟩

theorem config_no10 (a0 a1 a2 a3 a4 a5 a6 : Int) (w : World) (h0 : 1 ≤ a0) (h1 : a0 ≤ 16) (h2 : 1 ≤ a1) (h3 : a1 ≤ 16) (h4 : 3 ≤ a2) (h5 : a2 ≤ 8) (h6 : 1 ≤ a3) (h7 : a3 ≤ 1024) (h8 : 0 ≤ a4) (h9 : a4 ≤ 64) (g : a5 < 1) : Calls Try.prog 12 #[.agg #[.int .i64 a0, .int .i64 a1, .int .i64 a2, .int .i64 a3, .int .i64 a4, .int .i64 a5, .int .i64 a6]] w fun e w' =>
    e = .returned (.bool false) ∧ Below w.heap.size w w' := by
  go_enter Try.func12, Try.ntmps12
  go_wp2
  go_ret
  exact ⟨rfl, (Below.refl _ _).alloc (Nat.le_refl _) _⟩

theorem config_no11 (a0 a1 a2 a3 a4 a5 a6 : Int) (w : World) (h0 : 1 ≤ a0) (h1 : a0 ≤ 16) (h2 : 1 ≤ a1) (h3 : a1 ≤ 16) (h4 : 3 ≤ a2) (h5 : a2 ≤ 8) (h6 : 1 ≤ a3) (h7 : a3 ≤ 1024) (h8 : 0 ≤ a4) (h9 : a4 ≤ 64) (h10 : 1 ≤ a5) (g : 1024 < a5) : Calls Try.prog 12 #[.agg #[.int .i64 a0, .int .i64 a1, .int .i64 a2, .int .i64 a3, .int .i64 a4, .int .i64 a5, .int .i64 a6]] w fun e w' =>
    e = .returned (.bool false) ∧ Below w.heap.size w w' := by
  go_enter Try.func12, Try.ntmps12
  go_wp2
  go_ret
  exact ⟨rfl, (Below.refl _ _).alloc (Nat.le_refl _) _⟩

theorem config_no12 (a0 a1 a2 a3 a4 a5 a6 : Int) (w : World) (h0 : 1 ≤ a0) (h1 : a0 ≤ 16) (h2 : 1 ≤ a1) (h3 : a1 ≤ 16) (h4 : 3 ≤ a2) (h5 : a2 ≤ 8) (h6 : 1 ≤ a3) (h7 : a3 ≤ 1024) (h8 : 0 ≤ a4) (h9 : a4 ≤ 64) (h10 : 1 ≤ a5) (h11 : a5 ≤ 1024) (g : a6 < 1) : Calls Try.prog 12 #[.agg #[.int .i64 a0, .int .i64 a1, .int .i64 a2, .int .i64 a3, .int .i64 a4, .int .i64 a5, .int .i64 a6]] w fun e w' =>
    e = .returned (.bool false) ∧ Below w.heap.size w w' := by
  go_enter Try.func12, Try.ntmps12
  go_wp2
  go_ret
  exact ⟨rfl, (Below.refl _ _).alloc (Nat.le_refl _) _⟩

end Go.Proofs.Ytjcggokhminmoaa
