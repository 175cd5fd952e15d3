/-
A world with new blocks at its end: 'w.more os d'. What a call leaves that only makes memory of its own: so that the walk goes on over a written world.
-/
import Derived.WalkKit
import Derived.ProofKit
import Derived.OpenShut
import Derived.Deep.QuietTactic
import Derived.BigQuiet
namespace Go
open Go.RowKit

/-- the world with the blocks os behind its own, and a count of draws -/
def World.more (w : World) (os : Array Obj) (d : Nat) : World := { w with heap := w.heap ++ os, drawn := d }

@[go_sem] theorem World.size_more (w : World) (os : Array Obj) (d : Nat) : (w.more os d).heap.size = w.heap.size + os.size := by simp [World.more]
@[go_sem] theorem World.more_drew (w : World) (os : Array Obj) (d : Nat) : (w.more os d).drew = w.more os (d + 1) := rfl

theorem World.heap_more (w : World) (os : Array Obj) (d : Nat) (b : Nat) (h : b < w.heap.size) : (w.more os d).heap[b]? = w.heap[b]? := by
  simp [World.more, Array.getElem?_append, h]

/-- names for what lies beyond: so that no rule turns for ever -/
def World.cellPast (w : World) (os : Array Obj) (d b o : Nat) : Option Value := (w.more os d).cell? ⟨b, o, none⟩
def World.frozenPast (w : World) (os : Array Obj) (d b o : Nat) : Bool := (w.more os d).frozen? ⟨b, o, none⟩
def World.setPast (w : World) (os : Array Obj) (d b o : Nat) (v : Value) : World := (w.more os d).setCell ⟨b, o, none⟩ v

theorem World.cell?_more_lt (w : World) (os : Array Obj) (d : Nat) (b o : Nat) (h : b < w.heap.size) : (w.more os d).cell? ⟨b, o, none⟩ = w.cell? ⟨b, o, none⟩ :=
  World.cell?_of_block (w := w) (w.heap_more os d b h)
theorem World.frozen?_more_lt (w : World) (os : Array Obj) (d : Nat) (b o : Nat) (h : b < w.heap.size) : (w.more os d).frozen? ⟨b, o, none⟩ = w.frozen? ⟨b, o, none⟩ :=
  World.frozen?_of_block (w := w) (w.heap_more os d b h)
theorem World.setCell_more_lt (w : World) (os : Array Obj) (d : Nat) (b o : Nat) (v : Value) (h : b < w.heap.size) : (w.more os d).setCell ⟨b, o, none⟩ v = (w.setCell ⟨b, o, none⟩ v).more os d := by
  simp only [World.setCell, World.more]
  congr 1
  apply Array.ext_getElem?
  intro i
  simp only [Array.getElem?_modify, Array.getElem?_append, Array.size_modify]
  by_cases hb : b = i
  · subst hb; simp [h]
  · simp [hb]

/- the same as tests that arithmetic decides -/
@[go_sem] theorem World.cell?_more (w : World) (os : Array Obj) (d : Nat) (b o : Nat) : (w.more os d).cell? ⟨b, o, none⟩ = if b < w.heap.size then w.cell? ⟨b, o, none⟩ else w.cellPast os d b o := by
  split
  · exact World.cell?_more_lt _ _ _ _ _ ‹_›
  · rfl
@[go_sem] theorem World.frozen?_more (w : World) (os : Array Obj) (d : Nat) (b o : Nat) : (w.more os d).frozen? ⟨b, o, none⟩ = if b < w.heap.size then w.frozen? ⟨b, o, none⟩ else w.frozenPast os d b o := by
  split
  · exact World.frozen?_more_lt _ _ _ _ _ ‹_›
  · rfl
@[go_sem] theorem World.setCell_more (w : World) (os : Array Obj) (d : Nat) (b o : Nat) (v : Value) : (w.more os d).setCell ⟨b, o, none⟩ v = if b < w.heap.size then (w.setCell ⟨b, o, none⟩ v).more os d else w.setPast os d b o v := by
  split
  · exact World.setCell_more_lt _ _ _ _ _ _ ‹_›
  · rfl
@[go_sem low] theorem World.cell?_alloc_ite (w : World) (c : Array Value) (t : TypeId) (f : Nat × Nat) (b o : Nat) : (w.alloc (.cells c t f)).cell? ⟨b, o, none⟩ = if b = w.heap.size then c[o]? else w.cell? ⟨b, o, none⟩ := by
  split
  · subst_vars
    simp only [World.alloc, World.cell?, Array.getElem?_push, ↓reduceIte]
    simp
  · exact World.cell?_alloc_old _ _ _ ‹_›
@[go_sem low] theorem World.frozen?_alloc_ite (w : World) (c : Array Value) (t : TypeId) (b o : Nat) : (w.alloc (.cells c t)).frozen? ⟨b, o, none⟩ = if b = w.heap.size then false else w.frozen? ⟨b, o, none⟩ := by
  split
  · subst_vars
    simp only [World.alloc, World.frozen?, Array.getElem?_push, ↓reduceIte]
    simp
  · exact World.frozen?_alloc_old _ _ _ ‹_›
@[go_sem low] theorem World.setCell_alloc_ite (w : World) (c : Array Value) (t : TypeId) (b o : Nat) (v : Value) : (w.alloc (.cells c t)).setCell ⟨b, o, none⟩ v = if b = w.heap.size then w.alloc (.cells (c.setIfInBounds o v) t) else (w.setCell ⟨b, o, none⟩ v).alloc (.cells c t) := by
  split
  · exact World.setCell_alloc_at _ _ _ _ _ ‹_›
  · rename_i h
    simp only [World.setCell, World.alloc]
    congr 1
    apply Array.ext_getElem?
    intro i
    simp only [Array.getElem?_modify, Array.getElem?_push, Array.size_modify]
    by_cases hb : b = i
    · subst hb; simp [h]
    · simp [hb]

theorem RowKit.Below.more {w w' : World} (h : Below w.heap.size w w') : ∃ os d, w' = w.more os d := by
  refine ⟨w'.heap.extract w.heap.size w'.heap.size, w'.drawn, ?_⟩
  obtain ⟨h1, h2, h3, h4, h5⟩ := h
  cases w'
  simp only at h1 h2 h3 h4 h5
  subst h1; subst h2; subst h3
  simp only [World.more]
  congr 1
  apply Array.ext_getElem?
  intro i
  by_cases hi : i < w.heap.size
  · rw [h5 i hi]; simp [Array.getElem?_append, hi]
  · simp [Array.getElem?_append, hi, Array.getElem?_extract]
    by_cases hj : i < Array.size ‹_›
    · rw [if_pos (by omega)]
      congr 1
      omega
    · rw [if_neg (by omega)]
      simp at hj
      simp [Array.getElem?_eq_none hj]

theorem RowKit.Below.of_more {B : Nat} {w w' : World} (h : Below B w w') (hB : B ≤ w'.heap.size) (os : Array Obj) (d : Nat) : Below B w (w'.more os d) :=
  h.trans ⟨rfl, rfl, rfl, by simp [World.more], fun k hk => World.heap_more _ _ _ _ (by omega)⟩

/-- the steps of a 'Below' whose floor is the first heap's size -/
theorem RowKit.Below.more1 {w W : World} (h : Below w.heap.size w W) (os : Array Obj) (d : Nat) : Below w.heap.size w (W.more os d) := h.of_more h.size os d
theorem RowKit.Below.alloc1 {w W : World} (h : Below w.heap.size w W) (o : Obj) : Below w.heap.size w (W.alloc o) := h.alloc h.size o

/-! A region that draws its order, whose operations read and whose calls only make memory: one walk, in the order of the text (over Derived/Deep/Quiet.lean's theorem, at the class 'the world with more blocks'). -/
structure Growth where
  os : Array Obj
  d : Nat
instance : Nonempty Growth := ⟨⟨#[], 0⟩⟩

theorem wp_region_more_lit {P : Program} {id : Nat} {Q : Exit → Act → World → Prop} {a : Act} {w : World} {l : List Oper} (hm : P.follows .mixedOrders = true) (hB : Region.lexB .any l.toArray = true)
    (h : wpQuiet P l.toArray (fun w' => ∃ g : Growth, w' = w.more g.os g.d) (fun a' => ∀ os d, Q .normal a' (w.more os d)) l a) : (Code.region id l.toArray true).wp P Q a w := by
  refine wp_region_quiet (C := fun w' => ∃ g : Growth, w' = w.more g.os g.d) hm hB ⟨⟨#[], w.drawn + 1⟩, by simp [World.more]⟩ ?_
  have e : (fun a' => ∀ os d, Q .normal a' (w.more os d)) = (fun a' => ∀ w', (∃ g : Growth, w' = w.more g.os g.d) → Q .normal a' w') := by
    funext a'
    apply propext
    constructor
    · rintro h w' ⟨⟨os, d⟩, rfl⟩; exact h os d
    · intro h os d; exact h _ ⟨⟨os, d⟩, rfl⟩
  rw [← e]
  simpa using h

theorem Calls.more_of {P : Program} {f : FuncId} {args : Array Value} {w : World} {os : Array Obj} {d : Nat} {v : Value}
    (h : Calls P f args (w.more os d) fun e w' => e = .returned v ∧ Below (w.more os d).heap.size (w.more os d) w') : Calls P f args (w.more os d) fun e w'' => e = .returned v ∧ ∃ g : Growth, w'' = w.more g.os g.d :=
  h.mono fun _ _ ⟨he, hb⟩ => ⟨he, by
    obtain ⟨os', d', e⟩ := RowKit.Below.more (((Below.refl _ _).of_more (Nat.le_refl _) os d).trans (hb.mono (by rw [World.size_more]; omega)))
    exact ⟨⟨os', d'⟩, e⟩⟩

/-- the world under a name -/
theorem gen_world {P : Program} {c : Code} {Q : Exit → Act → World → Prop} {a : Act} {w : World} (h : ∀ W, W = w → c.wp P Q a W) : c.wp P Q a w := h w rfl

end Go
