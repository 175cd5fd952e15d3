/-
reclaimref01.Config: whether a configuration may be.
-/
import Derived.Test.YtjcggokhminmoaaQMchS
namespace Go.Proofs.Ytjcggokhminmoaa
open Go.ChangeShapes Go.WideShapes Go.ChangeAt Go.RowKit

theorem config_no0 (a0 a1 a2 a3 a4 a5 a6 : Int) (w : World)  (g : a0 < 1) : Calls Try.prog 12 #[.agg #[.int .i64 a0, .int .i64 a1, .int .i64 a2, .int .i64 a3, .int .i64 a4, .int .i64 a5, .int .i64 a6]] w fun e w' =>
    e = .returned (.bool false) ∧ Below w.heap.size w w' := by
  go_enter Try.func12, Try.ntmps12
  go_wp2
  go_ret
  exact ⟨rfl, (Below.refl _ _).alloc (Nat.le_refl _) _⟩

theorem config_no1 (a0 a1 a2 a3 a4 a5 a6 : Int) (w : World) (h0 : 1 ≤ a0) (g : 16 < a0) : Calls Try.prog 12 #[.agg #[.int .i64 a0, .int .i64 a1, .int .i64 a2, .int .i64 a3, .int .i64 a4, .int .i64 a5, .int .i64 a6]] w fun e w' =>
    e = .returned (.bool false) ∧ Below w.heap.size w w' := by
  go_enter Try.func12, Try.ntmps12
  go_wp2
  go_ret
  exact ⟨rfl, (Below.refl _ _).alloc (Nat.le_refl _) _⟩

theorem config_no2 (a0 a1 a2 a3 a4 a5 a6 : Int) (w : World) (h0 : 1 ≤ a0) (h1 : a0 ≤ 16) (g : a1 < 1) : Calls Try.prog 12 #[.agg #[.int .i64 a0, .int .i64 a1, .int .i64 a2, .int .i64 a3, .int .i64 a4, .int .i64 a5, .int .i64 a6]] w fun e w' =>
    e = .returned (.bool false) ∧ Below w.heap.size w w' := by
  go_enter Try.func12, Try.ntmps12
  go_wp2
  go_ret
  exact ⟨rfl, (Below.refl _ _).alloc (Nat.le_refl _) _⟩

theorem config_no3 (a0 a1 a2 a3 a4 a5 a6 : Int) (w : World) (h0 : 1 ≤ a0) (h1 : a0 ≤ 16) (h2 : 1 ≤ a1) (g : 16 < a1) : Calls Try.prog 12 #[.agg #[.int .i64 a0, .int .i64 a1, .int .i64 a2, .int .i64 a3, .int .i64 a4, .int .i64 a5, .int .i64 a6]] w fun e w' =>
    e = .returned (.bool false) ∧ Below w.heap.size w w' := by
  go_enter Try.func12, Try.ntmps12
  go_wp2
  go_ret
  exact ⟨rfl, (Below.refl _ _).alloc (Nat.le_refl _) _⟩

theorem config_no4 (a0 a1 a2 a3 a4 a5 a6 : Int) (w : World) (h0 : 1 ≤ a0) (h1 : a0 ≤ 16) (h2 : 1 ≤ a1) (h3 : a1 ≤ 16) (g : a2 < 3) : Calls Try.prog 12 #[.agg #[.int .i64 a0, .int .i64 a1, .int .i64 a2, .int .i64 a3, .int .i64 a4, .int .i64 a5, .int .i64 a6]] w fun e w' =>
    e = .returned (.bool false) ∧ Below w.heap.size w w' := by
  go_enter Try.func12, Try.ntmps12
  go_wp2
  go_ret
  exact ⟨rfl, (Below.refl _ _).alloc (Nat.le_refl _) _⟩

theorem config_no5 (a0 a1 a2 a3 a4 a5 a6 : Int) (w : World) (h0 : 1 ≤ a0) (h1 : a0 ≤ 16) (h2 : 1 ≤ a1) (h3 : a1 ≤ 16) (h4 : 3 ≤ a2) (g : 8 < a2) : Calls Try.prog 12 #[.agg #[.int .i64 a0, .int .i64 a1, .int .i64 a2, .int .i64 a3, .int .i64 a4, .int .i64 a5, .int .i64 a6]] w fun e w' =>
    e = .returned (.bool false) ∧ Below w.heap.size w w' := by
  go_enter Try.func12, Try.ntmps12
  go_wp2
  go_ret
  exact ⟨rfl, (Below.refl _ _).alloc (Nat.le_refl _) _⟩

theorem config_no6 (a0 a1 a2 a3 a4 a5 a6 : Int) (w : World) (h0 : 1 ≤ a0) (h1 : a0 ≤ 16) (h2 : 1 ≤ a1) (h3 : a1 ≤ 16) (h4 : 3 ≤ a2) (h5 : a2 ≤ 8) (g : a3 < 1) : Calls Try.prog 12 #[.agg #[.int .i64 a0, .int .i64 a1, .int .i64 a2, .int .i64 a3, .int .i64 a4, .int .i64 a5, .int .i64 a6]] w fun e w' =>
    e = .returned (.bool false) ∧ Below w.heap.size w w' := by
  go_enter Try.func12, Try.ntmps12
  go_wp2
  go_ret
  exact ⟨rfl, (Below.refl _ _).alloc (Nat.le_refl _) _⟩

end Go.Proofs.Ytjcggokhminmoaa
