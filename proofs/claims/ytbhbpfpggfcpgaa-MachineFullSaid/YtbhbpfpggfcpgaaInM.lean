/-
Arguments that come in: a list of moves.
-/
import Derived.Test.YtbhbpfpggfcpgaaInS
namespace Go.Proofs.Ytbhbpfpggfcpgaa
open Go.ChangeShapes Go.WideShapes Go.ChangeAt Go.RowKit Go.Deep

section
variable {H : Type} {enc : TypeId × Value → H} {W : World} {base : Nat} {sp : Nat → Bool} {held : Bool}
set_option maxRecDepth 100000 in
theorem in_moves {v : Value} {d : DataW H} {p : List MemPlace} {r : Reach} {b0 : Nat} (hv : Value.okWide Try.prog W r b0 22 v) (h : DataW.Trod enc Try.prog W base sp held 22 v d p) :
    ∃ (ms : List Mv) (om : Option Addr) (cm : Nat), v = .slice om ms.length cm ∧ MvsIn W (.slice om ms.length cm) ms ∧ (ms.length ≤ cm ∧ cm ≤ maxLen ∧ (om = none → cm = 0)) := by
  obtain ⟨a0, len, cap, rfl⟩ := okWide_slice Try.underlying22 hv
  obtain ⟨fuel, hf⟩ := h
  obtain ⟨ms, om, cm, e, h1, h2, h3, h4⟩ := moves_cells hf
  simp [Value.cells] at e
  obtain ⟨rfl, rfl, rfl⟩ := e
  exact ⟨ms, _, _, rfl, h1, h2, h3, h4⟩
end
end Go.Proofs.Ytbhbpfpggfcpgaa
