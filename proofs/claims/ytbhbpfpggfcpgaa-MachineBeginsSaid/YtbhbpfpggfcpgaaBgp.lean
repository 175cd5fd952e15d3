/-
A run of some of the moves and the run of all (MachineBegins). Plain.
-/
import Derived.Test.YtbhbpfpggfcpgaaLtr
namespace Go
open Go.RowKit
open Go.Proofs.Ytbhbpfpggfcpgaa

theorem begins_len (l : List Int) (n : Nat) (ms : List Mv) (hm : ms.length ≤ 65536) (u : Nat) (hu : u ≤ ms.length) :
    (osOf l n (ms.take u)).calls.length ≤ (osOf l n ms).calls.length ∧ (osOf l n (ms.take u)).log.length ≤ (osOf l n ms).log.length := (later_of l n ms hm u hu).len

theorem begins_call (l : List Int) (n : Nat) (ms : List Mv) (hm : ms.length ≤ 65536) (u : Nat) (hu : u ≤ ms.length) (j : Nat) (c' : Cal) (hc : (osOf l n ms).calls[j]? = some c') :
    ((u : Int) ≤ c'.beg ∧ (osOf l n (ms.take u)).calls.length ≤ j) ∨
    (c'.beg < (u : Int) ∧ j < (osOf l n (ms.take u)).calls.length ∧ ∃ c, (osOf l n (ms.take u)).calls[j]? = some c ∧
      ((c'.en < (u : Int) ∧ c'.pt < (u : Int) ∧ c = c') ∨ ((u : Int) ≤ c'.en ∧ (u : Int) ≤ c'.pt ∧ c = { c' with en := -1, pt := -1, ak := 0, av := 0 }))) := by
  have hL := later_of l n ms hm u hu
  have hI := inv_of l n (ms.take u) (by simp; omega)
  have hmo : (osOf l n (ms.take u)).moves = u := by rw [hI.moves]; simp; omega
  by_cases hj : j < (osOf l n (ms.take u)).calls.length
  · have hcj : (osOf l n (ms.take u)).calls[j]? = some _ := List.getElem?_eq_getElem hj
    generalize (osOf l n (ms.take u)).calls[j] = c at hcj
    obtain ⟨c2, q1, q2, q3, q4, q5, q6, q7⟩ := hL.callp j c hcj
    rw [hc] at q1
    cases q1
    obtain ⟨i, e1, e2, e3, e4, e5, e6, e7, e8, e9⟩ := hI.call j c hcj
    rw [hmo] at e7 e9 q7
    refine .inr ⟨by omega, hj, c, hcj, ?_⟩
    rcases q7 with rfl | ⟨r1, r2, r3⟩
    · refine .inl ⟨?_, ?_, rfl⟩
      · rcases e9 with ⟨h1, h2, _⟩ | ⟨h1, h2, h3, _⟩ <;> omega
      · rcases e9 with ⟨h1, h2, _⟩ | ⟨h1, h2, h3, _⟩ <;> omega
    · rcases e9 with ⟨h1, h2, h3, h4, _⟩ | ⟨h1, h2, h3, _⟩
      · refine .inr ⟨r2, by omega, ?_⟩
        obtain ⟨cth, cop, carg, cdata, cbeg, cen, cpt, cak, cav⟩ := c
        obtain ⟨dth, dop, darg, ddata, dbeg, den, dpt, dak, dav⟩ := c'
        simp only at q2 q3 q4 q5 q6 h1 h2 h3 h4
        subst q2 q3 q4 q5 q6 h1 h2 h3 h4
        rfl
      · omega
  · have := hL.calln j c' (by omega) hc
    rw [hmo] at this
    exact .inl ⟨this, by omega⟩

theorem begins_acc (l : List Int) (n : Nat) (ms : List Mv) (hm : ms.length ≤ 65536) (u : Nat) (hu : u ≤ ms.length) (j : Nat) (a : Acc) (ha : (osOf l n ms).log[j]? = some a) :
    ((u : Int) ≤ a.mv ∧ (osOf l n (ms.take u)).log.length ≤ j) ∨ (a.mv < (u : Int) ∧ j < (osOf l n (ms.take u)).log.length ∧ (osOf l n (ms.take u)).log[j]? = some a) := by
  have hL := later_of l n ms hm u hu
  have hI := inv_of l n (ms.take u) (by simp; omega)
  have hmo : (osOf l n (ms.take u)).moves = u := by rw [hI.moves]; simp; omega
  by_cases hj : j < (osOf l n (ms.take u)).log.length
  · have hcj : (osOf l n (ms.take u)).log[j]? = some _ := List.getElem?_eq_getElem hj
    generalize (osOf l n (ms.take u)).log[j] = c at hcj
    have q1 := hL.logp j c hcj
    rw [ha] at q1
    cases q1
    have := (hI.log j a hcj).mv.2
    rw [hmo] at this
    exact .inr ⟨this, hj, hcj⟩
  · have := hL.logn j a (by omega) ha
    rw [hmo] at this
    exact .inl ⟨this, by omega⟩
end Go
