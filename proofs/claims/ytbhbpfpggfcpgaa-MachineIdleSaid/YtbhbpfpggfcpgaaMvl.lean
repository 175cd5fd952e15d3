/-
Lists of moves that are laid anew (mvsC): as a source, as a row.
-/
import Derived.Test.YtbhbpfpggfcpgaaLawW
namespace Go
open Go.RowKit
open Go.Proofs.Ytbhbpfpggfcpgaa

def mvsC (l : List Mv) : List Value := l.flatMap Mv.cells
theorem mvsC_len (l : List Mv) : (mvsC l).length = l.length * 4 := by
  induction l with
  | nil => rfl
  | cons m l ih => simp only [mvsC, List.flatMap_cons, List.length_append, List.length_cons] at ih ⊢; rw [ih]; simp [Mv.cells]; omega
theorem mvsC_get (l : List Mv) (i j : Nat) (hi : i < l.length) (hj : j < 4) : (mvsC l)[i * 4 + j]? = l[i].cells[j]? := flat_get (f := Mv.cells) (k := 4) (fun _ => rfl) l i j hi hj
theorem mvsC_app (a b : List Mv) : mvsC (a ++ b) = mvsC a ++ mvsC b := by simp [mvsC]
theorem mvsC_one (l : List Mv) : ∀ u ∈ mvsC l, u.oneCell' = true := by
  intro u hu
  simp only [mvsC, List.mem_flatMap, Mv.cells] at hu
  obtain ⟨x, _, hx⟩ := hu
  simp at hx
  rcases hx with rfl | rfl | rfl | rfl <;> rfl
theorem addr_add (b off j : Nat) : (⟨b, off, none⟩ : Addr).add j = ⟨b, off + j, none⟩ := by unfold Addr.add; split <;> simp_all
end Go
namespace Go.Proofs.Ytbhbpfpggfcpgaa
open Go.ChangeShapes Go.WideShapes Go.ChangeAt Go.RowKit Go.Shelf
theorem infoMove : (Try.prog.info? 34).map (fun i => (i.zero, i.size, i.bytes)) = some (some (.agg #[.int .i64 0, .int .i64 0, .int .i64 0, .int .i64 0]), 4, 32) := by kernel_rfl
theorem MvsIn.src {w : World} {om : Option Addr} {cm : Nat} {ms : List Mv} (h : MvsIn w (.slice om ms.length cm) ms) (hn : om = none → cm = 0) : w.Src 4 (.slice om ms.length cm) ms.length (mvsC ms) := by
  obtain ⟨o, c, e, h1, h2, h3⟩ := h
  cases e
  refine ⟨mvsC_len ms, ?_⟩
  cases om with
  | none =>
    have := hn rfl
    subst this
    have h0 : ms.length = 0 := by omega
    exact .inl ⟨by rw [h0], h0⟩
  | some ad =>
    refine .inr ⟨ad, cm, rfl, h1, fun j u hu => ?_⟩
    have hj := (List.getElem?_eq_some_iff.1 hu).1
    rw [mvsC_len] at hj
    have hi : j / 4 < ms.length := by omega
    obtain ⟨b, off, e1, hb, c0, c1, c2, c3⟩ := h3 (j / 4) hi
    cases e1
    have hjj : j = j / 4 * 4 + j % 4 := by omega
    have hr : j % 4 < 4 := Nat.mod_lt _ (by omega)
    rw [addr_add]
    rw [hjj, mvsC_get ms _ _ hi hr] at hu
    rw [hjj]
    generalize j % 4 = r at *
    generalize hq : j / 4 = q at *
    rw [← Nat.add_assoc]
    rcases (by omega : r = 0 ∨ r = 1 ∨ r = 2 ∨ r = 3) with rfl | rfl | rfl | rfl
    · cases hu; exact c0
    · cases hu; exact c1
    · cases hu; exact c2
    · cases hu; exact c3
theorem MvsIn.of_row {w : World} {base : Nat} {v : Value} {ms : List Mv} (h : w.RowV base 34 4 v ms.length (mvsC ms)) : MvsIn w v ms := by
  obtain ⟨o, c, rfl, h1, h2⟩ := h.form
  refine ⟨o, c, rfl, h1, h2, fun i hi => ?_⟩
  obtain ⟨g, cap, e, f1, f2, f3, f4, f5, f6⟩ := h.some_form (by omega)
  simp only [Value.slice.injEq] at e
  obtain ⟨rfl, _, rfl⟩ := e
  refine ⟨g, 0, rfl, f3, ?_, ?_, ?_, ?_⟩
  · rw [Nat.zero_add]; exact f6 (i * 4 + 0) _ (mvsC_get ms i 0 hi (by omega))
  · rw [Nat.zero_add]; exact f6 (i * 4 + 1) _ (mvsC_get ms i 1 hi (by omega))
  · rw [Nat.zero_add]; exact f6 (i * 4 + 2) _ (mvsC_get ms i 2 hi (by omega))
  · rw [Nat.zero_add]; exact f6 (i * 4 + 3) _ (mvsC_get ms i 3 hi (by omega))
end Go.Proofs.Ytbhbpfpggfcpgaa
