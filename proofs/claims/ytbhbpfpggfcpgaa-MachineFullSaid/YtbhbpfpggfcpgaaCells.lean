/-
A row of integers of one kind as a function of the place: what stands in a block that 'make' has laid. Rules for the walk.
-/
import Derived.Test.YtbhbpfpggfcpgaaMore
import Derived.Deep.OwnRows
namespace Go
open Go.RowKit

def intCells (k : IntKind) (n : Nat) (f : Nat → Int) : Array Value := (Array.range n).map fun j => Value.int k (f j)
def updF (f : Nat → Int) (j : Nat) (v : Int) : Nat → Int := fun i => if i = j then v else f i

@[go_sem] theorem size_intCells (k : IntKind) (n : Nat) (f : Nat → Int) : (intCells k n f).size = n := by simp [intCells]
theorem intCells_lt (k : IntKind) (n : Nat) (f : Nat → Int) (j : Nat) (h : j < n) : (intCells k n f)[j]? = some (.int k (f j)) := by
  simp [intCells, h]
@[go_sem] theorem getElem?_intCells (k : IntKind) (n : Nat) (f : Nat → Int) (j : Nat) : (intCells k n f)[j]? = if j < n then some (.int k (f j)) else none := by
  split
  · exact intCells_lt _ _ _ _ ‹_›
  · simp [intCells]; omega
@[go_sem] theorem getElem_intCells (k : IntKind) (n : Nat) (f : Nat → Int) (j : Nat) (h : j < (intCells k n f).size) : (intCells k n f)[j] = .int k (f j) := by
  simp [intCells]
@[go_sem] theorem set_intCells (k : IntKind) (n : Nat) (f : Nat → Int) (j : Nat) (v : Int) : (intCells k n f).setIfInBounds j (.int k v) = intCells k n (updF f j v) := by
  apply Array.ext_getElem?
  intro i
  rw [Array.getElem?_setIfInBounds, getElem?_intCells, getElem?_intCells, size_intCells]
  unfold updF
  by_cases e : j = i
  · subst e
    simp
  · rw [if_neg e]
    simp [show ¬ i = j by omega]

theorem made_intCells (k : IntKind) (n : Nat) : madeCells #[.int k 0] n = intCells k n (fun _ => 0) := by
  apply Array.ext_getElem?
  intro i
  simp [madeCells, intCells, Array.getElem?_map]
  by_cases h : i < n
  · simp [h, Nat.mod_one]
  · simp [h]
end Go
