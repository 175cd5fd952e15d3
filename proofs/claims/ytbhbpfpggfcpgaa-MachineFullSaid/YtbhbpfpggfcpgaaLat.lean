/-
Worlds that are w but for some blocks (LaterF): a class for regions with steps that write.
-/
import Derived.Test.YtbhbpfpggfcpgaaMix
import Derived.Test.YtbhbpfpggfcpgaaMem
namespace Go
open Go.RowKit

/-- worlds that are w but for what F tells -/
structure LaterF (F : Nat → Prop) (w : World) where
  W : World
  on : Only F w W
instance (F : Nat → Prop) (w : World) : Nonempty (LaterF F w) := ⟨⟨w, Only.refl _ _⟩⟩
theorem LaterF.cell {F : Nat → Prop} {w : World} (g : LaterF F w) {b o : Nat} {v : Value} (h : w.cell? ⟨b, o, none⟩ = some v) (hlt : b < w.heap.size) (hn : ¬ F b) : g.W.cell? ⟨b, o, none⟩ = some v := (g.on.cellAt (p := ⟨b, o, none⟩) hlt hn).trans h
theorem laterF_in {F : Nat → Prop} {w W : World} (h : Only F w W) : ∃ g : LaterF F w, W = g.W := ⟨⟨W, h⟩, rfl⟩
theorem LaterF.frozen {F : Nat → Prop} {w : World} (g : LaterF F w) {b o : Nat} {x : Bool} (h : w.frozen? ⟨b, o, none⟩ = x) (hlt : b < w.heap.size) (hn : ¬ F b) : g.W.frozen? ⟨b, o, none⟩ = x :=
  (World.frozen?_of_block (g.on.block b hlt hn)).trans h
end Go
