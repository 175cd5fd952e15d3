/-
Openers: a struct of integer fields, as a value and at its cells. Written by wip/genopen.py. Over any program.
-/
import Derived.WalkKit
import Derived.ProofKit
import Derived.OpenShut
namespace Go.Proofs.Ytbhbpfpggfcpgaa
open Go.ChangeShapes Go.WideShapes Go.ChangeAt Go.RowKit
section
variable {H : Type} {enc : TypeId × Value → H} {P : Program} {w : World} {base : Nat} {spare : Nat → Bool} {held : Bool}

theorem trod_ints3 {t : TypeId} {k0 k1 k2 : IntKind} {f0 f1 f2 : Field} {fuel : Nat} {cs : List Value} {x : DataW H × List MemPlace} (ht : P.underlying t = some (.struct #[f0, f1, f2])) (hC : P.cellsOf t = 3) (h0 : P.underlying f0.type = some (.int k0)) (c0 : P.cellsOf f0.type = 1) (o0 : f0.offset = 0) (h1 : P.underlying f1.type = some (.int k1)) (c1 : P.cellsOf f1.type = 1) (o1 : f1.offset = 1) (h2 : P.underlying f2.type = some (.int k2)) (c2 : P.cellsOf f2.type = 1) (o2 : f2.offset = 2)
    (h : DataW.trod enc P w base spare held fuel t cs = some x) : ∃ a0 a1 a2 : Int, cs = [.int k0 a0, .int k1 a1, .int k2 a2] ∧ (Lit.int k0 a0).wf = true ∧ (Lit.int k1 a1).wf = true ∧ (Lit.int k2 a2).wf = true := by
  obtain ⟨xs, n, _, _, hl, hlen, hf⟩ := DataW.trod_struct ht h
  rw [hC] at hl
  obtain ⟨v0, v1, v2, rfl⟩ : ∃ v0 v1 v2, cs = [v0, v1, v2] := by
    match cs, hl with
    | [v0, v1, v2], _ => exact ⟨v0, v1, v2, rfl⟩
  simp only [List.size_toArray, List.length_cons, List.length_nil] at hlen
  have g0 := hf 0 f0 rfl
  rw [c0, o0, List.getElem?_eq_getElem (by omega)] at g0
  obtain ⟨a0, e0, _, w0⟩ := DataW.trod_int h0 g0
  simp at e0
  subst e0
  have g1 := hf 1 f1 rfl
  rw [c1, o1, List.getElem?_eq_getElem (by omega)] at g1
  obtain ⟨a1, e1, _, w1⟩ := DataW.trod_int h1 g1
  simp at e1
  subst e1
  have g2 := hf 2 f2 rfl
  rw [c2, o2, List.getElem?_eq_getElem (by omega)] at g2
  obtain ⟨a2, e2, _, w2⟩ := DataW.trod_int h2 g2
  simp at e2
  subst e2
  exact ⟨a0, a1, a2, rfl, w0, w1, w2⟩

theorem open_ints3 {r : Reach} {b0 : Nat} {t : TypeId} {k0 k1 k2 : IntKind} {f0 f1 f2 : Field} {v : Value} {d : DataW H} {ps : List MemPlace} (ht : P.underlying t = some (.struct #[f0, f1, f2])) (hC : P.cellsOf t = 3) (h0 : P.underlying f0.type = some (.int k0)) (c0 : P.cellsOf f0.type = 1) (o0 : f0.offset = 0) (h1 : P.underlying f1.type = some (.int k1)) (c1 : P.cellsOf f1.type = 1) (o1 : f1.offset = 1) (h2 : P.underlying f2.type = some (.int k2)) (c2 : P.cellsOf f2.type = 1) (o2 : f2.offset = 2)
    (hval : Value.okWide P w r b0 t v) (hd : DataW.Trod enc P w base spare held t v d ps) : ∃ a0 a1 a2 : Int, v = .agg #[.int k0 a0, .int k1 a1, .int k2 a2] ∧ (Lit.int k0 a0).wf = true ∧ (Lit.int k1 a1).wf = true ∧ (Lit.int k2 a2).wf = true := by
  obtain ⟨cs, rfl, _⟩ := okWide_struct ht hval
  obtain ⟨fuel, hf⟩ := hd
  obtain ⟨a0, a1, a2, e, hw⟩ := trod_ints3 ht hC h0 c0 o0 h1 c1 o1 h2 c2 o2 hf
  refine ⟨a0, a1, a2, ?_, hw⟩
  simp only [Value.cells] at e
  rw [← e]


theorem trod_ints7 {t : TypeId} {k0 k1 k2 k3 k4 k5 k6 : IntKind} {f0 f1 f2 f3 f4 f5 f6 : Field} {fuel : Nat} {cs : List Value} {x : DataW H × List MemPlace} (ht : P.underlying t = some (.struct #[f0, f1, f2, f3, f4, f5, f6])) (hC : P.cellsOf t = 7) (h0 : P.underlying f0.type = some (.int k0)) (c0 : P.cellsOf f0.type = 1) (o0 : f0.offset = 0) (h1 : P.underlying f1.type = some (.int k1)) (c1 : P.cellsOf f1.type = 1) (o1 : f1.offset = 1) (h2 : P.underlying f2.type = some (.int k2)) (c2 : P.cellsOf f2.type = 1) (o2 : f2.offset = 2) (h3 : P.underlying f3.type = some (.int k3)) (c3 : P.cellsOf f3.type = 1) (o3 : f3.offset = 3) (h4 : P.underlying f4.type = some (.int k4)) (c4 : P.cellsOf f4.type = 1) (o4 : f4.offset = 4) (h5 : P.underlying f5.type = some (.int k5)) (c5 : P.cellsOf f5.type = 1) (o5 : f5.offset = 5) (h6 : P.underlying f6.type = some (.int k6)) (c6 : P.cellsOf f6.type = 1) (o6 : f6.offset = 6)
    (h : DataW.trod enc P w base spare held fuel t cs = some x) : ∃ a0 a1 a2 a3 a4 a5 a6 : Int, cs = [.int k0 a0, .int k1 a1, .int k2 a2, .int k3 a3, .int k4 a4, .int k5 a5, .int k6 a6] ∧ (Lit.int k0 a0).wf = true ∧ (Lit.int k1 a1).wf = true ∧ (Lit.int k2 a2).wf = true ∧ (Lit.int k3 a3).wf = true ∧ (Lit.int k4 a4).wf = true ∧ (Lit.int k5 a5).wf = true ∧ (Lit.int k6 a6).wf = true := by
  obtain ⟨xs, n, _, _, hl, hlen, hf⟩ := DataW.trod_struct ht h
  rw [hC] at hl
  obtain ⟨v0, v1, v2, v3, v4, v5, v6, rfl⟩ : ∃ v0 v1 v2 v3 v4 v5 v6, cs = [v0, v1, v2, v3, v4, v5, v6] := by
    match cs, hl with
    | [v0, v1, v2, v3, v4, v5, v6], _ => exact ⟨v0, v1, v2, v3, v4, v5, v6, rfl⟩
  simp only [List.size_toArray, List.length_cons, List.length_nil] at hlen
  have g0 := hf 0 f0 rfl
  rw [c0, o0, List.getElem?_eq_getElem (by omega)] at g0
  obtain ⟨a0, e0, _, w0⟩ := DataW.trod_int h0 g0
  simp at e0
  subst e0
  have g1 := hf 1 f1 rfl
  rw [c1, o1, List.getElem?_eq_getElem (by omega)] at g1
  obtain ⟨a1, e1, _, w1⟩ := DataW.trod_int h1 g1
  simp at e1
  subst e1
  have g2 := hf 2 f2 rfl
  rw [c2, o2, List.getElem?_eq_getElem (by omega)] at g2
  obtain ⟨a2, e2, _, w2⟩ := DataW.trod_int h2 g2
  simp at e2
  subst e2
  have g3 := hf 3 f3 rfl
  rw [c3, o3, List.getElem?_eq_getElem (by omega)] at g3
  obtain ⟨a3, e3, _, w3⟩ := DataW.trod_int h3 g3
  simp at e3
  subst e3
  have g4 := hf 4 f4 rfl
  rw [c4, o4, List.getElem?_eq_getElem (by omega)] at g4
  obtain ⟨a4, e4, _, w4⟩ := DataW.trod_int h4 g4
  simp at e4
  subst e4
  have g5 := hf 5 f5 rfl
  rw [c5, o5, List.getElem?_eq_getElem (by omega)] at g5
  obtain ⟨a5, e5, _, w5⟩ := DataW.trod_int h5 g5
  simp at e5
  subst e5
  have g6 := hf 6 f6 rfl
  rw [c6, o6, List.getElem?_eq_getElem (by omega)] at g6
  obtain ⟨a6, e6, _, w6⟩ := DataW.trod_int h6 g6
  simp at e6
  subst e6
  exact ⟨a0, a1, a2, a3, a4, a5, a6, rfl, w0, w1, w2, w3, w4, w5, w6⟩

theorem open_ints7 {r : Reach} {b0 : Nat} {t : TypeId} {k0 k1 k2 k3 k4 k5 k6 : IntKind} {f0 f1 f2 f3 f4 f5 f6 : Field} {v : Value} {d : DataW H} {ps : List MemPlace} (ht : P.underlying t = some (.struct #[f0, f1, f2, f3, f4, f5, f6])) (hC : P.cellsOf t = 7) (h0 : P.underlying f0.type = some (.int k0)) (c0 : P.cellsOf f0.type = 1) (o0 : f0.offset = 0) (h1 : P.underlying f1.type = some (.int k1)) (c1 : P.cellsOf f1.type = 1) (o1 : f1.offset = 1) (h2 : P.underlying f2.type = some (.int k2)) (c2 : P.cellsOf f2.type = 1) (o2 : f2.offset = 2) (h3 : P.underlying f3.type = some (.int k3)) (c3 : P.cellsOf f3.type = 1) (o3 : f3.offset = 3) (h4 : P.underlying f4.type = some (.int k4)) (c4 : P.cellsOf f4.type = 1) (o4 : f4.offset = 4) (h5 : P.underlying f5.type = some (.int k5)) (c5 : P.cellsOf f5.type = 1) (o5 : f5.offset = 5) (h6 : P.underlying f6.type = some (.int k6)) (c6 : P.cellsOf f6.type = 1) (o6 : f6.offset = 6)
    (hval : Value.okWide P w r b0 t v) (hd : DataW.Trod enc P w base spare held t v d ps) : ∃ a0 a1 a2 a3 a4 a5 a6 : Int, v = .agg #[.int k0 a0, .int k1 a1, .int k2 a2, .int k3 a3, .int k4 a4, .int k5 a5, .int k6 a6] ∧ (Lit.int k0 a0).wf = true ∧ (Lit.int k1 a1).wf = true ∧ (Lit.int k2 a2).wf = true ∧ (Lit.int k3 a3).wf = true ∧ (Lit.int k4 a4).wf = true ∧ (Lit.int k5 a5).wf = true ∧ (Lit.int k6 a6).wf = true := by
  obtain ⟨cs, rfl, _⟩ := okWide_struct ht hval
  obtain ⟨fuel, hf⟩ := hd
  obtain ⟨a0, a1, a2, a3, a4, a5, a6, e, hw⟩ := trod_ints7 ht hC h0 c0 o0 h1 c1 o1 h2 c2 o2 h3 c3 o3 h4 c4 o4 h5 c5 o5 h6 c6 o6 hf
  refine ⟨a0, a1, a2, a3, a4, a5, a6, ?_, hw⟩
  simp only [Value.cells] at e
  rw [← e]


theorem trod_ints4 {t : TypeId} {k0 k1 k2 k3 : IntKind} {f0 f1 f2 f3 : Field} {fuel : Nat} {cs : List Value} {x : DataW H × List MemPlace} (ht : P.underlying t = some (.struct #[f0, f1, f2, f3])) (hC : P.cellsOf t = 4) (h0 : P.underlying f0.type = some (.int k0)) (c0 : P.cellsOf f0.type = 1) (o0 : f0.offset = 0) (h1 : P.underlying f1.type = some (.int k1)) (c1 : P.cellsOf f1.type = 1) (o1 : f1.offset = 1) (h2 : P.underlying f2.type = some (.int k2)) (c2 : P.cellsOf f2.type = 1) (o2 : f2.offset = 2) (h3 : P.underlying f3.type = some (.int k3)) (c3 : P.cellsOf f3.type = 1) (o3 : f3.offset = 3)
    (h : DataW.trod enc P w base spare held fuel t cs = some x) : ∃ a0 a1 a2 a3 : Int, cs = [.int k0 a0, .int k1 a1, .int k2 a2, .int k3 a3] ∧ (Lit.int k0 a0).wf = true ∧ (Lit.int k1 a1).wf = true ∧ (Lit.int k2 a2).wf = true ∧ (Lit.int k3 a3).wf = true := by
  obtain ⟨xs, n, _, _, hl, hlen, hf⟩ := DataW.trod_struct ht h
  rw [hC] at hl
  obtain ⟨v0, v1, v2, v3, rfl⟩ : ∃ v0 v1 v2 v3, cs = [v0, v1, v2, v3] := by
    match cs, hl with
    | [v0, v1, v2, v3], _ => exact ⟨v0, v1, v2, v3, rfl⟩
  simp only [List.size_toArray, List.length_cons, List.length_nil] at hlen
  have g0 := hf 0 f0 rfl
  rw [c0, o0, List.getElem?_eq_getElem (by omega)] at g0
  obtain ⟨a0, e0, _, w0⟩ := DataW.trod_int h0 g0
  simp at e0
  subst e0
  have g1 := hf 1 f1 rfl
  rw [c1, o1, List.getElem?_eq_getElem (by omega)] at g1
  obtain ⟨a1, e1, _, w1⟩ := DataW.trod_int h1 g1
  simp at e1
  subst e1
  have g2 := hf 2 f2 rfl
  rw [c2, o2, List.getElem?_eq_getElem (by omega)] at g2
  obtain ⟨a2, e2, _, w2⟩ := DataW.trod_int h2 g2
  simp at e2
  subst e2
  have g3 := hf 3 f3 rfl
  rw [c3, o3, List.getElem?_eq_getElem (by omega)] at g3
  obtain ⟨a3, e3, _, w3⟩ := DataW.trod_int h3 g3
  simp at e3
  subst e3
  exact ⟨a0, a1, a2, a3, rfl, w0, w1, w2, w3⟩

theorem open_ints4 {r : Reach} {b0 : Nat} {t : TypeId} {k0 k1 k2 k3 : IntKind} {f0 f1 f2 f3 : Field} {v : Value} {d : DataW H} {ps : List MemPlace} (ht : P.underlying t = some (.struct #[f0, f1, f2, f3])) (hC : P.cellsOf t = 4) (h0 : P.underlying f0.type = some (.int k0)) (c0 : P.cellsOf f0.type = 1) (o0 : f0.offset = 0) (h1 : P.underlying f1.type = some (.int k1)) (c1 : P.cellsOf f1.type = 1) (o1 : f1.offset = 1) (h2 : P.underlying f2.type = some (.int k2)) (c2 : P.cellsOf f2.type = 1) (o2 : f2.offset = 2) (h3 : P.underlying f3.type = some (.int k3)) (c3 : P.cellsOf f3.type = 1) (o3 : f3.offset = 3)
    (hval : Value.okWide P w r b0 t v) (hd : DataW.Trod enc P w base spare held t v d ps) : ∃ a0 a1 a2 a3 : Int, v = .agg #[.int k0 a0, .int k1 a1, .int k2 a2, .int k3 a3] ∧ (Lit.int k0 a0).wf = true ∧ (Lit.int k1 a1).wf = true ∧ (Lit.int k2 a2).wf = true ∧ (Lit.int k3 a3).wf = true := by
  obtain ⟨cs, rfl, _⟩ := okWide_struct ht hval
  obtain ⟨fuel, hf⟩ := hd
  obtain ⟨a0, a1, a2, a3, e, hw⟩ := trod_ints4 ht hC h0 c0 o0 h1 c1 o1 h2 c2 o2 h3 c3 o3 hf
  refine ⟨a0, a1, a2, a3, ?_, hw⟩
  simp only [Value.cells] at e
  rw [← e]



end
end Go.Proofs.Ytbhbpfpggfcpgaa
