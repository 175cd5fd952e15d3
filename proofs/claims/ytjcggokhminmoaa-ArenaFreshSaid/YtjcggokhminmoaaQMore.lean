/-
A world with new blocks at its end: 'w.more os d'. What a call leaves that only makes memory of its own: so that the walk goes on over a written world.
Rows: a slice that reads as a list of cells and whose block is the program's own (RowV), or that holds nothing; what an append leaves of it (run_append_row).
A row of integers of one kind as a function of the place: what stands in a block that 'make' has laid. Rules for the walk.
The memory as data, and where it lies in the heap (MemIs). What a call may touch (Only).
Plain facts on integers and endings that the walks of this seat use. No program is named here.
memory.Memory: has, Size, Count, Now.
-/
import Derived.WalkKit
import Derived.ProofKit
import Derived.OpenShut
import Derived.Deep.QuietTactic
import Derived.BigQuiet
import Derived.Maps.AppendAt
import Derived.Deep.DeepAppendWide
import Derived.Deep.OwnRows
import Derived.Lib.Hide
import Derived.Test.YtjcggokhminmoaaRows
import Derived.Outline
import Derived.LoopTactic
namespace Go
open Go.RowKit

/-- the world with the blocks os behind its own, and a count of draws -/
def World.more (w : World) (os : Array Obj) (d : Nat) : World := { w with heap := w.heap ++ os, drawn := d }

@[go_sem] theorem World.size_more (w : World) (os : Array Obj) (d : Nat) : (w.more os d).heap.size = w.heap.size + os.size := by simp [World.more]
@[go_sem] theorem World.more_drew (w : World) (os : Array Obj) (d : Nat) : (w.more os d).drew = w.more os (d + 1) := rfl

theorem World.heap_more (w : World) (os : Array Obj) (d : Nat) (b : Nat) (h : b < w.heap.size) : (w.more os d).heap[b]? = w.heap[b]? := by
  simp [World.more, Array.getElem?_append, h]

/-- names for what lies beyond: so that no rule turns for ever -/
def World.cellPast (w : World) (os : Array Obj) (d b o : Nat) : Option Value := (w.more os d).cell? ⟨b, o, none⟩
def World.frozenPast (w : World) (os : Array Obj) (d b o : Nat) : Bool := (w.more os d).frozen? ⟨b, o, none⟩
def World.setPast (w : World) (os : Array Obj) (d b o : Nat) (v : Value) : World := (w.more os d).setCell ⟨b, o, none⟩ v

theorem World.cell?_more_lt (w : World) (os : Array Obj) (d : Nat) (b o : Nat) (h : b < w.heap.size) : (w.more os d).cell? ⟨b, o, none⟩ = w.cell? ⟨b, o, none⟩ :=
  World.cell?_of_block (w := w) (w.heap_more os d b h)
theorem World.frozen?_more_lt (w : World) (os : Array Obj) (d : Nat) (b o : Nat) (h : b < w.heap.size) : (w.more os d).frozen? ⟨b, o, none⟩ = w.frozen? ⟨b, o, none⟩ :=
  World.frozen?_of_block (w := w) (w.heap_more os d b h)
theorem World.setCell_more_lt (w : World) (os : Array Obj) (d : Nat) (b o : Nat) (v : Value) (h : b < w.heap.size) : (w.more os d).setCell ⟨b, o, none⟩ v = (w.setCell ⟨b, o, none⟩ v).more os d := by
  simp only [World.setCell, World.more]
  congr 1
  apply Array.ext_getElem?
  intro i
  simp only [Array.getElem?_modify, Array.getElem?_append, Array.size_modify]
  by_cases hb : b = i
  · subst hb; simp [h]
  · simp [hb]

/- the same as tests that arithmetic decides -/
@[go_sem] theorem World.cell?_more (w : World) (os : Array Obj) (d : Nat) (b o : Nat) : (w.more os d).cell? ⟨b, o, none⟩ = if b < w.heap.size then w.cell? ⟨b, o, none⟩ else w.cellPast os d b o := by
  split
  · exact World.cell?_more_lt _ _ _ _ _ ‹_›
  · rfl
@[go_sem] theorem World.frozen?_more (w : World) (os : Array Obj) (d : Nat) (b o : Nat) : (w.more os d).frozen? ⟨b, o, none⟩ = if b < w.heap.size then w.frozen? ⟨b, o, none⟩ else w.frozenPast os d b o := by
  split
  · exact World.frozen?_more_lt _ _ _ _ _ ‹_›
  · rfl
@[go_sem] theorem World.setCell_more (w : World) (os : Array Obj) (d : Nat) (b o : Nat) (v : Value) : (w.more os d).setCell ⟨b, o, none⟩ v = if b < w.heap.size then (w.setCell ⟨b, o, none⟩ v).more os d else w.setPast os d b o v := by
  split
  · exact World.setCell_more_lt _ _ _ _ _ _ ‹_›
  · rfl
@[go_sem low] theorem World.cell?_alloc_ite (w : World) (c : Array Value) (t : TypeId) (f : Nat × Nat) (b o : Nat) : (w.alloc (.cells c t f)).cell? ⟨b, o, none⟩ = if b = w.heap.size then c[o]? else w.cell? ⟨b, o, none⟩ := by
  split
  · subst_vars
    simp only [World.alloc, World.cell?, Array.getElem?_push, ↓reduceIte]
    simp
  · exact World.cell?_alloc_old _ _ _ ‹_›
@[go_sem low] theorem World.frozen?_alloc_ite (w : World) (c : Array Value) (t : TypeId) (b o : Nat) : (w.alloc (.cells c t)).frozen? ⟨b, o, none⟩ = if b = w.heap.size then false else w.frozen? ⟨b, o, none⟩ := by
  split
  · subst_vars
    simp only [World.alloc, World.frozen?, Array.getElem?_push, ↓reduceIte]
    simp
  · exact World.frozen?_alloc_old _ _ _ ‹_›
@[go_sem low] theorem World.setCell_alloc_ite (w : World) (c : Array Value) (t : TypeId) (b o : Nat) (v : Value) : (w.alloc (.cells c t)).setCell ⟨b, o, none⟩ v = if b = w.heap.size then w.alloc (.cells (c.setIfInBounds o v) t) else (w.setCell ⟨b, o, none⟩ v).alloc (.cells c t) := by
  split
  · exact World.setCell_alloc_at _ _ _ _ _ ‹_›
  · rename_i h
    simp only [World.setCell, World.alloc]
    congr 1
    apply Array.ext_getElem?
    intro i
    simp only [Array.getElem?_modify, Array.getElem?_push, Array.size_modify]
    by_cases hb : b = i
    · subst hb; simp [h]
    · simp [hb]

theorem RowKit.Below.more {w w' : World} (h : Below w.heap.size w w') : ∃ os d, w' = w.more os d := by
  refine ⟨w'.heap.extract w.heap.size w'.heap.size, w'.drawn, ?_⟩
  obtain ⟨h1, h2, h3, h4, h5⟩ := h
  cases w'
  simp only at h1 h2 h3 h4 h5
  subst h1; subst h2; subst h3
  simp only [World.more]
  congr 1
  apply Array.ext_getElem?
  intro i
  by_cases hi : i < w.heap.size
  · rw [h5 i hi]; simp [Array.getElem?_append, hi]
  · simp [Array.getElem?_append, hi, Array.getElem?_extract]
    by_cases hj : i < Array.size ‹_›
    · rw [if_pos (by omega)]
      congr 1
      omega
    · rw [if_neg (by omega)]
      simp at hj
      simp [Array.getElem?_eq_none hj]

theorem RowKit.Below.of_more {B : Nat} {w w' : World} (h : Below B w w') (hB : B ≤ w'.heap.size) (os : Array Obj) (d : Nat) : Below B w (w'.more os d) :=
  h.trans ⟨rfl, rfl, rfl, by simp [World.more], fun k hk => World.heap_more _ _ _ _ (by omega)⟩

/-- the steps of a 'Below' whose floor is the first heap's size -/
theorem RowKit.Below.more1 {w W : World} (h : Below w.heap.size w W) (os : Array Obj) (d : Nat) : Below w.heap.size w (W.more os d) := h.of_more h.size os d
theorem RowKit.Below.alloc1 {w W : World} (h : Below w.heap.size w W) (o : Obj) : Below w.heap.size w (W.alloc o) := h.alloc h.size o

/-! A region that draws its order, whose operations read and whose calls only make memory: one walk, in the order of the text (over Derived/Deep/Quiet.lean's theorem, at the class 'the world with more blocks'). -/
structure Growth where
  os : Array Obj
  d : Nat
instance : Nonempty Growth := ⟨⟨#[], 0⟩⟩

theorem wp_region_more_lit {P : Program} {id : Nat} {Q : Exit → Act → World → Prop} {a : Act} {w : World} {l : List Oper} (hm : P.follows .mixedOrders = true) (hB : Region.lexB .any l.toArray = true)
    (h : wpQuiet P l.toArray (fun w' => ∃ g : Growth, w' = w.more g.os g.d) (fun a' => ∀ os d, Q .normal a' (w.more os d)) l a) : (Code.region id l.toArray true).wp P Q a w := by
  refine wp_region_quiet (C := fun w' => ∃ g : Growth, w' = w.more g.os g.d) hm hB ⟨⟨#[], w.drawn + 1⟩, by simp [World.more]⟩ ?_
  have e : (fun a' => ∀ os d, Q .normal a' (w.more os d)) = (fun a' => ∀ w', (∃ g : Growth, w' = w.more g.os g.d) → Q .normal a' w') := by
    funext a'
    apply propext
    constructor
    · rintro h w' ⟨⟨os, d⟩, rfl⟩; exact h os d
    · intro h os d; exact h _ ⟨⟨os, d⟩, rfl⟩
  rw [← e]
  simpa using h

theorem Calls.more_of {P : Program} {f : FuncId} {args : Array Value} {w : World} {os : Array Obj} {d : Nat} {v : Value}
    (h : Calls P f args (w.more os d) fun e w' => e = .returned v ∧ Below (w.more os d).heap.size (w.more os d) w') : Calls P f args (w.more os d) fun e w'' => e = .returned v ∧ ∃ g : Growth, w'' = w.more g.os g.d :=
  h.mono fun _ _ ⟨he, hb⟩ => ⟨he, by
    obtain ⟨os', d', e⟩ := RowKit.Below.more (((Below.refl _ _).of_more (Nat.le_refl _) os d).trans (hb.mono (by rw [World.size_more]; omega)))
    exact ⟨⟨os', d'⟩, e⟩⟩

/-- the world under a name -/
theorem gen_world {P : Program} {c : Code} {Q : Exit → Act → World → Prop} {a : Act} {w : World} (h : ∀ W, W = w → c.wp P Q a W) : c.wp P Q a w := h w rfl

end Go
namespace Go
open Go.RowKit

/-- the slice v has n elements of type e (size cells each), the cells xs: it is empty and has no room, or it begins its block, a block from base on, and the cells up to its capacity are its own -/
def World.RowV (w : World) (base : Nat) (e : TypeId) (size : Nat) (v : Value) (n : Nat) (xs : List Value) : Prop :=
  xs.length = n * size ∧
  ((∃ o, v = .slice o 0 0 ∧ n = 0) ∨
   ∃ g cap cur, v = .slice (some ⟨g, 0, none⟩) n cap ∧ base ≤ g ∧ w.heap[g]? = some (.cells cur e (0, 0)) ∧ n ≤ cap ∧ 0 < cap ∧ cap ≤ maxLen ∧ cap * size ≤ cur.size ∧ cur.toList.take (n * size) = xs)

/-- the block that an append may write to -/
def Value.rowBlock : Value → Option Nat
  | .slice (some a) _ c => if c = 0 then none else some a.block
  | _ => none
def Value.roomOf : Value → Nat
  | .slice _ _ c => c
  | _ => 0

section
variable {w w' : World} {base : Nat} {e : TypeId} {size : Nat} {v : Value} {n : Nat} {xs : List Value}

theorem World.RowV_none (w : World) (base : Nat) (e : TypeId) (size : Nat) (o : Option Addr) : w.RowV base e size (.slice o 0 0) 0 [] := ⟨by simp, .inl ⟨o, rfl, rfl⟩⟩

theorem World.RowV.lt (h : w.RowV base e size v n xs) : ∀ k, v.rowBlock = some k → base ≤ k ∧ k < w.heap.size := by
  intro k hk
  rcases h.2 with ⟨o, rfl, _⟩ | ⟨g, cap, cur, rfl, hb, hg, _, hc, _⟩
  · cases o <;> simp [Value.rowBlock] at hk
  · simp [Value.rowBlock, Nat.ne_of_gt hc] at hk
    subst hk
    exact ⟨hb, (Array.getElem?_eq_some_iff.1 hg).1⟩

theorem World.RowV.of_block (h : w.RowV base e size v n xs) (hb : ∀ k, v.rowBlock = some k → w'.heap[k]? = w.heap[k]?) : w'.RowV base e size v n xs := by
  refine ⟨h.1, ?_⟩
  rcases h.2 with hn | ⟨g, cap, cur, rfl, hbs, hgg, hnc, hc, rest⟩
  · exact .inl hn
  · refine .inr ⟨g, cap, cur, rfl, hbs, ?_, hnc, hc, rest⟩
    rw [hb g (by simp [Value.rowBlock, Nat.ne_of_gt hc])]
    exact hgg

theorem World.RowV.more (h : w.RowV base e size v n xs) (os : Array Obj) (d : Nat) : (w.more os d).RowV base e size v n xs :=
  h.of_block fun k hk => World.heap_more _ _ _ _ (h.lt k hk).2
theorem World.RowV.alloc (h : w.RowV base e size v n xs) (o : Obj) : (w.alloc o).RowV base e size v n xs :=
  h.of_block fun k hk => Below.heap_alloc _ _ _ (h.lt k hk).2
theorem World.RowV.drew (h : w.RowV base e size v n xs) : w.drew.RowV base e size v n xs := h
theorem World.RowV.set (h : w.RowV base e size v n xs) {p : Addr} (hp : ∀ k, v.rowBlock = some k → k ≠ p.block) (u : Value) : (w.setCell p u).RowV base e size v n xs :=
  h.of_block fun k hk => Below.heap_setCell _ _ _ _ (hp k hk)
theorem World.RowV.grown {row : Option Nat} (h : w.RowV base e size v n xs) (hg : w.grownBy w' row) (hr : ∀ k, v.rowBlock = some k → some k ≠ row) : w'.RowV base e size v n xs :=
  h.of_block fun k hk => hg.block k (h.lt k hk).2 (hr k hk)

theorem World.RowV.base_mono {b' : Nat} (h : w.RowV base e size v n xs) (hb : b' ≤ base) : w.RowV b' e size v n xs := by
  refine ⟨h.1, ?_⟩
  rcases h.2 with hn | ⟨g, cap, cur, rfl, hbs, rest⟩
  · exact .inl hn
  · exact .inr ⟨g, cap, cur, rfl, Nat.le_trans hb hbs, rest⟩
theorem World.RowV.form (h : w.RowV base e size v n xs) : ∃ o cap, v = .slice o n cap ∧ n ≤ cap ∧ cap ≤ maxLen := by
  rcases h.2 with ⟨o, rfl, rfl⟩ | ⟨g, cap, cur, rfl, hb, hg, hn, hc, hm, _⟩
  · exact ⟨o, 0, rfl, Nat.le_refl _, Nat.zero_le _⟩
  · exact ⟨_, cap, rfl, hn, hm⟩

theorem World.RowV.some_form (h : w.RowV base e size v n xs) (hn : 0 < n) : ∃ g cap, v = .slice (some ⟨g, 0, none⟩) n cap ∧ n ≤ cap ∧ base ≤ g ∧ g < w.heap.size ∧ v.rowBlock = some g ∧ (∀ j, w.frozen? ⟨g, j, none⟩ = false) ∧ ∀ j u, xs[j]? = some u → w.cell? ⟨g, j, none⟩ = some u := by
  rcases h.2 with ⟨o, rfl, rfl⟩ | ⟨g, cap, cur, rfl, hb, hg, hn', hc, hm, hs, ht⟩
  · omega
  · refine ⟨g, cap, rfl, hn', hb, (Array.getElem?_eq_some_iff.1 hg).1, by simp [Value.rowBlock, Nat.ne_of_gt hc], fun j => by simp [World.frozen?, hg], fun j u hu => ?_⟩
    rw [← ht, List.getElem?_take] at hu
    split at hu
    · simpa [World.cell?, hg] using hu
    · cases hu

theorem add_none (g j : Nat) : (⟨g, 0, none⟩ : Addr).add j = ⟨g, j, none⟩ := by unfold Addr.add; split <;> simp_all

/-- a store into the row -/
theorem World.RowV.put (h : w.RowV base e size v n xs) {g : Nat} (hg : v.rowBlock = some g) (j : Nat) (hj : j < n * size) (u : Value) : (w.setCell ⟨g, j, none⟩ u).RowV base e size v n (xs.set j u) := by
  refine ⟨by simpa using h.1, ?_⟩
  rcases h.2 with ⟨o, rfl, rfl⟩ | ⟨g', cap, cur, rfl, hb, hgg, hn', hc, hm, hs, ht⟩
  · cases o <;> simp [Value.rowBlock] at hg
  · simp [Value.rowBlock, Nat.ne_of_gt hc] at hg
    subst hg
    refine .inr ⟨g', cap, cur.setIfInBounds j u, rfl, hb, ?_, hn', hc, hm, by simpa using hs, ?_⟩
    · simp [World.setCell, Array.getElem?_modify, hgg]
    · rw [← ht]
      apply List.ext_getElem?
      intro i
      simp only [Array.toList_setIfInBounds, List.getElem?_take, List.getElem?_set, List.length_take, Array.length_toList]
      have hle := Nat.le_trans (Nat.mul_le_mul_right size hn') hs
      have hm' : min (n * size) cur.size = n * size := Nat.min_eq_left hle
      rw [hm']
      by_cases e : j = i
      · subst e
        rw [if_pos hj, if_pos rfl, if_pos rfl, if_pos hj, if_pos (by omega)]
      · rw [if_neg e, if_neg e]
end

/-- what an append leaves of the world: there was room, and the row's block alone is written; or there was none, and a new block is made -/
def RowOut (w w' : World) (v v' : Value) (n m : Nat) : Prop :=
  (v'.rowBlock = v.rowBlock ∧ n + m ≤ v.roomOf ∧ v'.roomOf = v.roomOf ∧ w.grownBy w' v.rowBlock) ∨ (v'.rowBlock = some w.heap.size ∧ v.roomOf < n + m ∧ w.grownBy w' none)

theorem RowOut.block {w w' : World} {v v' : Value} {n m : Nat} (h : RowOut w w' v v' n m) {k : Nat} (hk : k < w.heap.size) (hne : v.rowBlock ≠ some k) : w'.heap[k]? = w.heap[k]? := by
  rcases h with ⟨_, _, _, hg⟩ | ⟨_, _, hg⟩
  · exact hg.block k hk (Ne.symm hne)
  · exact hg.block k hk (by simp)
theorem RowOut.size {w w' : World} {v v' : Value} {n m : Nat} (h : RowOut w w' v v' n m) : w.heap.size ≤ w'.heap.size := by
  rcases h with ⟨_, _, _, hg⟩ | ⟨_, _, hg⟩ <;> exact hg.size
theorem RowOut.news {w w' : World} {v v' : Value} {n m : Nat} (h : RowOut w w' v v' n m) {k : Nat} (hk : v'.rowBlock = some k) : v.rowBlock = some k ∨ k = w.heap.size := by
  rcases h with ⟨h1, _, _, hg⟩ | ⟨h1, _, hg⟩
  · exact .inl (by rw [← h1]; exact hk)
  · exact .inr (by rw [h1] at hk; cases hk; rfl)
theorem World.RowV.out {w w' : World} {base e size n m n1 : Nat} {u v v' : Value} {xs : List Value} (h : w.RowV base e size u n xs) (ho : RowOut w w' v v' n1 m) (hne : ∀ k, u.rowBlock = some k → v.rowBlock ≠ some k) : w'.RowV base e size u n xs :=
  h.of_block fun k hk => ho.block (h.lt k hk).2 (hne k hk)

section
variable {P : Program} (w : World)
theorem run_append_row (base : Nat) (t ty e : TypeId) (i : TypeInfo) (z : Value) (size bytes : Nat) (ht : P.underlying t = some (.slice e)) (hi : P.info? e = some i) (hz : i.zero = some z)
    (hsize : i.size = size) (hby : i.bytes = bytes) (hzs : z.cells.size = size)
    (v : Value) (n : Nat) (xs : List Value) (hown : w.RowV base e size v n xs)
    (a : Addr) (m c : Nat) (news : List Value) (hl : news.length = m * size) (hnews : ∀ j u, news[j]? = some u → w.cell? (a.add j) = some u) (h1 : ∀ u ∈ news, u.oneCell' = true)
    (h63 : n + m ≤ maxLen) (hbytes : ((n + m) + (n + m) / 4 + 192) * bytes ≤ 281474976710656) (hbase : base ≤ w.heap.size) :
    ∃ v' w', (Builtin.append_ #[t, t] ty #[v, .slice (some a) m c]).run P w = .ok v' w' ∧ w'.RowV base e size v' (n + m) (xs ++ news) ∧ RowOut w w' v v' n m := by
  subst hsize
  subst hby
  have hsmall : n + m ≤ 9223372036854775807 := by simp only [maxLen] at h63; omega
  have hlen : (xs ++ news).length = (n + m) * i.size := by rw [List.length_append, hown.1, hl, Nat.add_mul]
  -- what the growing arm leaves, whatever was there before
  have grown : ∀ (old : Nat), old < n + m →
      (w.drew.alloc (.cells (xs.toArray ++ news.toArray ++ Builtin.zeroCells z.cells (grownCap w (n + m) old e - (n + m))) e)).RowV base e i.size
        (.slice (some ⟨w.heap.size, 0, none⟩) (n + m) (grownCap w (n + m) old e)) (n + m) (xs ++ news) ∧
      w.grownBy (w.drew.alloc (.cells (xs.toArray ++ news.toArray ++ Builtin.zeroCells z.cells (grownCap w (n + m) old e - (n + m))) e)) none := by
    intro old ho
    have hge := grownCap_ge w (n + m) old e
    have hcm : grownCap w (n + m) old e ≤ maxLen := grownCap_le_maxLen w (n + m) old e h63
    refine ⟨⟨hlen, .inr ⟨w.heap.size, _, _, rfl, hbase, heap_alloc_new w.drew _, hge, by omega, hcm, ?_, ?_⟩⟩, ⟨rfl, rfl, rfl, by simp, fun k hk _ => Below.heap_alloc w.drew _ k hk⟩⟩
    · apply Nat.le_of_eq
      simp only [Array.size_append, List.size_toArray, size_zeroCells, hzs, hown.1, hl, ← Nat.add_mul]
      congr 1
      omega
    · simp only [Array.toList_append, List.append_assoc]
      rw [← List.append_assoc, ← hlen]
      exact List.take_left
  rcases hown.2 with ⟨o, rfl, rfl⟩ | ⟨g, cap, cur, rfl, hbg, hg, hnc, hc0, hcm, hcs, htake⟩
  · have hx : xs = [] := List.eq_nil_of_length_eq_zero (by simpa using hown.1)
    subst hx
    by_cases hm : m = 0
    · subst hm
      have hn : news = [] := List.eq_nil_of_length_eq_zero (by simpa using hl)
      subst hn
      refine ⟨.slice o 0 0, w, ?_, World.RowV_none w base e i.size o, .inl ⟨rfl, by simp [Value.roomOf], rfl, ⟨rfl, rfl, rfl, Nat.le_refl _, fun _ _ _ => rfl⟩⟩⟩
      cases o <;> simp [Builtin.append_, run_underlying ht, sizeOf, typeInfo, hi, Builtin.lenOf, Builtin.firstCells, loadCells, loadCellsFrom, storeCells]
    · have hgr := grown 0 (by omega)
      simp only [Nat.zero_add, List.nil_append, Array.empty_append] at hgr ⊢
      cases o with
      | none =>
        have hr := run_append_nil (P := P) w t ty e i z ht hi hz a m c news hl hnews (by omega) (by omega) (by have hb := hbytes; simp only [Nat.zero_add] at hb; exact Nat.le_trans (Nat.mul_le_mul_right _ (by omega)) hb)
        exact ⟨_, _, hr, hgr.1, .inr ⟨by simp [Value.rowBlock]; have := grownCap_ge w m 0 e; omega, by simp [Value.roomOf]; omega, hgr.2⟩⟩
      | some b =>
        have hr := run_append_grow (P := P) w t ty e i z ht hi hz b 0 0 [] (by simp) (by simp) a m c news hl hnews (by omega) (by omega) (growslice_fits_wide (by omega) hbytes)
        simp only [Nat.zero_add, Array.empty_append] at hr
        exact ⟨_, _, hr, hgr.1, .inr ⟨by simp [Value.rowBlock]; have := grownCap_ge w m 0 e; omega, by simp [Value.roomOf]; omega, hgr.2⟩⟩
  · by_cases hroom : n + m ≤ cap
    · have hfit : n * i.size + news.length ≤ cur.size := by rw [hl, ← Nat.add_mul]; exact Nat.le_trans (Nat.mul_le_mul_right _ hroom) hcs
      have hr := run_append_room (P := P) w t ty e i ht hi g n cap cur hg a m c news hl hnews h1 hroom hfit
      refine ⟨_, _, hr, ⟨hlen, .inr ⟨g, cap, _, rfl, hbg, setRow_heap w g cur _ e _ hg, hroom, hc0, hcm, ?_, ?_⟩⟩, .inl ⟨by simp [Value.rowBlock], hroom, rfl, ⟨rfl, rfl, rfl, by simp, fun k _ hk => setRow_other w g k _ (fun e => hk (by simp [Value.rowBlock, e, Nat.ne_of_gt hc0]))⟩⟩⟩
      · simp only [List.size_toArray, List.length_append, List.length_take, List.length_drop, Array.length_toList]
        omega
      · rw [htake, ← hlen]
        exact List.take_left
    · have holds : ∀ j u, xs[j]? = some u → w.cell? ((⟨g, 0, none⟩ : Addr).add j) = some u := by
        intro j u hu
        rw [add_none]
        rw [← htake, List.getElem?_take] at hu
        split at hu
        · simpa [World.cell?, hg] using hu
        · cases hu
      have hr := run_append_grow (P := P) w t ty e i z ht hi hz ⟨g, 0, none⟩ n cap xs hown.1 holds a m c news hl hnews (by omega) (by omega) (growslice_fits_wide (by omega) hbytes)
      have hgr := grown cap (by omega)
      exact ⟨_, _, hr, hgr.1, .inr ⟨by simp [Value.rowBlock]; have := grownCap_ge w (n + m) cap e; omega, by simp [Value.roomOf]; omega, hgr.2⟩⟩

/-- the source holds nothing: nil or empty -/
theorem run_append_row_none (t ty e : TypeId) (i : TypeInfo) (ht : P.underlying t = some (.slice e)) (hi : P.info? e = some i) (v : Value) {base size : Nat} (n : Nat) (xs : List Value) (hown : w.RowV base e size v n xs) :
    (Builtin.append_ #[t, t] ty #[v, .slice none 0 0]).run P w = .ok v w := by
  rcases hown.2 with ⟨o, rfl, rfl⟩ | ⟨g, cap, cur, rfl, hbg, hg, hnc, hc0, hcm, hcs, htake⟩
  · cases o <;> simp [Builtin.append_, run_underlying ht, sizeOf, typeInfo, hi, Builtin.lenOf, Builtin.firstCells, loadCells, loadCellsFrom, storeCells]
  · simp [Builtin.append_, run_underlying ht, sizeOf, typeInfo, hi, Builtin.lenOf, Builtin.firstCells, loadCells, storeCells, hnc]

/-- a slice that can be read: n elements, the cells xs -/
def World.Src (w : World) (size : Nat) (v : Value) (n : Nat) (xs : List Value) : Prop :=
  xs.length = n * size ∧ ((v = .slice none 0 0 ∧ n = 0) ∨ ∃ ad c, v = .slice (some ad) n c ∧ n ≤ c ∧ ∀ j u, xs[j]? = some u → w.cell? (ad.add j) = some u)

theorem World.RowV.src {w : World} {base e size n : Nat} {v : Value} {xs : List Value} (h : w.RowV base e size v n xs) : w.Src size v n xs := by
  refine ⟨h.1, ?_⟩
  rcases h.2 with ⟨o, rfl, rfl⟩ | ⟨g, cap, cur, rfl, hb, hg, hn', hc, hm, hs, ht⟩
  · cases o with
    | none => exact .inl ⟨rfl, rfl⟩
    | some a =>
      refine .inr ⟨a, 0, rfl, Nat.le_refl _, fun j u hu => ?_⟩
      have hx : xs = [] := List.eq_nil_of_length_eq_zero (by simpa using h.1)
      subst hx
      simp at hu
  · refine .inr ⟨_, cap, rfl, hn', fun j u hu => ?_⟩
    rw [add_none]
    rw [← ht, List.getElem?_take] at hu
    split at hu
    · simpa [World.cell?, hg] using hu
    · cases hu

theorem run_append_src (base : Nat) (t ty e : TypeId) (i : TypeInfo) (z : Value) (size bytes : Nat) (ht : P.underlying t = some (.slice e)) (hi : P.info? e = some i) (hz : i.zero = some z)
    (hsize : i.size = size) (hby : i.bytes = bytes) (hzs : z.cells.size = size)
    (v : Value) (n : Nat) (xs : List Value) (hown : w.RowV base e size v n xs)
    (x : Value) (m : Nat) (news : List Value) (hx : w.Src size x m news) (h1 : ∀ u ∈ news, u.oneCell' = true)
    (h63 : n + m ≤ maxLen) (hbytes : ((n + m) + (n + m) / 4 + 192) * bytes ≤ 281474976710656) (hbase : base ≤ w.heap.size) :
    ∃ v' w', (Builtin.append_ #[t, t] ty #[v, x]).run P w = .ok v' w' ∧ w'.RowV base e size v' (n + m) (xs ++ news) ∧ RowOut w w' v v' n m := by
  rcases hx.2 with ⟨rfl, rfl⟩ | ⟨ad, c, rfl, _, hc⟩
  · have hn : news = [] := List.eq_nil_of_length_eq_zero (by simpa using hx.1)
    subst hn
    refine ⟨v, w, run_append_row_none w t ty e i ht hi v n xs hown, by simpa using hown, .inl ⟨rfl, ?_, rfl, ⟨rfl, rfl, rfl, Nat.le_refl _, fun _ _ _ => rfl⟩⟩⟩
    obtain ⟨o, cap, rfl, hn, _⟩ := hown.form
    exact hn
  · exact run_append_row w base t ty e i z size bytes ht hi hz hsize hby hzs v n xs hown ad m c news hx.1 hc h1 h63 hbytes hbase

theorem wpList_append_row {ops : Array Oper} {rest : List Oper} {o : Oper} {a : Act} {Q : Exit → Act → World → Prop} (hgd : o.guard = none) (s x : Operand) (t : TypeId)
    (ho : o.op = .call { callee := .builtin .append, args := #[s, x], argTypes := #[t, t] })
    (base : Nat) (e : TypeId) (i : TypeInfo) (z : Value) (size bytes : Nat) (ht : P.underlying t = some (.slice e)) (hi : P.info? e = some i) (hz : i.zero = some z)
    (hsize : i.size = size) (hby : i.bytes = bytes) (hzs : z.cells.size = size)
    (v : Value) (n : Nat) (xs : List Value) (hs : a.eval s = v) (hown : w.RowV base e size v n xs)
    (vx : Value) (m : Nat) (news : List Value) (hx : a.eval x = vx) (hsrc : w.Src size vx m news) (h1 : ∀ u ∈ news, u.oneCell' = true)
    (h63 : n + m ≤ maxLen) (hbytes : ((n + m) + (n + m) / 4 + 192) * bytes ≤ 281474976710656) (hbase : base ≤ w.heap.size)
    (h : ∀ v' w', w'.RowV base e size v' (n + m) (xs ++ news) → RowOut w w' v v' n m → wpList P ops Q rest (a.put o.dst v') w') :
    wpList P ops Q (o :: rest) a w := by
  refine wpList_plain hgd fun K hK => ?_
  obtain ⟨v', w', hr, h2, h3⟩ := run_append_src (P := P) w base t o.type e i z size bytes ht hi hz hsize hby hzs v n xs hown vx m news hsrc h1 h63 hbytes hbase
  unfold Oper.wp execOp
  simp only [ho, resolve, invoke, builtin, Sem.run_bind, Sem.run_pure, Result.andThen_ok, List.map_toArray, List.map_cons, List.map_nil, hs, hx, hr]
  exact hK _ _ (h v' w' h2 h3)

theorem step_append_row {ops : Array Oper} {o : Oper} {a : Act} {K : Act → World → Prop} {Q : Exit → Act → World → Prop} {E : Prop} (hgd : o.guard = none) (s x : Operand) (t : TypeId)
    (ho : o.op = .call { callee := .builtin .append, args := #[s, x], argTypes := #[t, t] })
    (base : Nat) (e : TypeId) (i : TypeInfo) (z : Value) (size bytes : Nat) (ht : P.underlying t = some (.slice e)) (hi : P.info? e = some i) (hz : i.zero = some z)
    (hsize : i.size = size) (hby : i.bytes = bytes) (hzs : z.cells.size = size)
    (v : Value) (n : Nat) (xs : List Value) (hs : a.eval s = v) (hown : w.RowV base e size v n xs)
    (vx : Value) (m : Nat) (news : List Value) (hx : a.eval x = vx) (hsrc : w.Src size vx m news) (h1 : ∀ u ∈ news, u.oneCell' = true)
    (h63 : n + m ≤ maxLen) (hbytes : ((n + m) + (n + m) / 4 + 192) * bytes ≤ 281474976710656) (hbase : base ≤ w.heap.size)
    (h : ∀ v' w', w'.RowV base e size v' (n + m) (xs ++ news) → RowOut w w' v v' n m → K (a.put o.dst v') w') :
    if Region.wanted o (yielded ops a.tmps) = true then Oper.wp P o a w K Q else E := by
  have hw : Region.wanted o (yielded ops a.tmps) = true := by simp [Region.wanted, hgd]
  rw [if_pos hw]
  obtain ⟨v', w', hr, h2, h3⟩ := run_append_src (P := P) w base t o.type e i z size bytes ht hi hz hsize hby hzs v n xs hown vx m news hsrc h1 h63 hbytes hbase
  unfold Oper.wp execOp
  simp only [ho, resolve, invoke, builtin, Sem.run_bind, Sem.run_pure, Result.andThen_ok, List.map_toArray, List.map_cons, List.map_nil, hs, hx, hr]
  exact h v' w' h2 h3

/-- one element's cells in a new block: the source of append(s, x) -/
theorem World.Src.one {w : World} {k H : Nat} {cs : Array Value} {t : TypeId} (h : cs.size = k) (hH : w.heap.size = H) : (w.alloc (.cells cs t)).Src k (.slice (some ⟨H, 0, none⟩) 1 1) 1 cs.toList := by
  subst hH
  refine ⟨by simpa using h, .inr ⟨_, 1, rfl, Nat.le_refl _, fun j u hu => ?_⟩⟩
  rw [add_none]
  rw [cell_of_row _ _ _ _ _ (0, 0) (heap_alloc_new w (.cells cs t))]
  simpa using hu
theorem World.Src.of_block {w w' : World} {k n : Nat} {v : Value} {xs : List Value} (h : w.Src k v n xs) (hb : ∀ b, b < w.heap.size → w'.heap[b]? = w.heap[b]?) : w'.Src k v n xs := by
  refine ⟨h.1, ?_⟩
  rcases h.2 with h0 | ⟨ad, c, rfl, hc, hx⟩
  · exact .inl h0
  · refine .inr ⟨ad, c, rfl, hc, fun j u hu => ?_⟩
    have := hx j u hu
    rw [World.cell?_of_block (hb _ (World.block_lt_of_cell? w _ this))]
    exact this
theorem World.Src.alloc {w : World} {k n : Nat} {v : Value} {xs : List Value} (h : w.Src k v n xs) (o : Obj) : (w.alloc o).Src k v n xs := h.of_block fun _ hb => Below.heap_alloc _ _ _ hb
theorem World.Src.more {w : World} {k n : Nat} {v : Value} {xs : List Value} (h : w.Src k v n xs) (os : Array Obj) (d : Nat) : (w.more os d).Src k v n xs := h.of_block fun _ hb => World.heap_more _ _ _ _ hb
theorem World.Src.below {w w' : World} {k n : Nat} {v : Value} {xs : List Value} (h : w.Src k v n xs) (hb : Below w.heap.size w w') : w'.Src k v n xs := h.of_block hb.block
theorem World.Src.drew {w : World} {k n : Nat} {v : Value} {xs : List Value} (h : w.Src k v n xs) : w.drew.Src k v n xs := h
end
end Go
namespace Go
open Go.RowKit

def intCells (k : IntKind) (n : Nat) (f : Nat → Int) : Array Value := (Array.range n).map fun j => Value.int k (f j)
def updF (f : Nat → Int) (j : Nat) (v : Int) : Nat → Int := fun i => if i = j then v else f i

@[go_sem] theorem size_intCells (k : IntKind) (n : Nat) (f : Nat → Int) : (intCells k n f).size = n := by simp [intCells]
theorem intCells_lt (k : IntKind) (n : Nat) (f : Nat → Int) (j : Nat) (h : j < n) : (intCells k n f)[j]? = some (.int k (f j)) := by
  simp [intCells, h]
@[go_sem] theorem getElem?_intCells (k : IntKind) (n : Nat) (f : Nat → Int) (j : Nat) : (intCells k n f)[j]? = if j < n then some (.int k (f j)) else none := by
  split
  · exact intCells_lt _ _ _ _ ‹_›
  · simp [intCells]; omega
@[go_sem] theorem getElem_intCells (k : IntKind) (n : Nat) (f : Nat → Int) (j : Nat) (h : j < (intCells k n f).size) : (intCells k n f)[j] = .int k (f j) := by
  simp [intCells]
@[go_sem] theorem set_intCells (k : IntKind) (n : Nat) (f : Nat → Int) (j : Nat) (v : Int) : (intCells k n f).setIfInBounds j (.int k v) = intCells k n (updF f j v) := by
  apply Array.ext_getElem?
  intro i
  rw [Array.getElem?_setIfInBounds, getElem?_intCells, getElem?_intCells, size_intCells]
  unfold updF
  by_cases e : j = i
  · subst e
    simp
  · rw [if_neg e]
    simp [show ¬ i = j by omega]

theorem made_intCells (k : IntKind) (n : Nat) : madeCells #[.int k 0] n = intCells k n (fun _ => 0) := by
  apply Array.ext_getElem?
  intro i
  simp [madeCells, intCells, Array.getElem?_map]
  by_cases h : i < n
  · simp [h, Nat.mod_one]
  · simp [h]
end Go
namespace Go
open Go.RowKit

/-- below the heap's size w' is as w was, but for the blocks of F -/
structure Only (F : Nat → Prop) (w w' : World) : Prop where
  os : w'.os = w.os
  tape : w'.tape = w.tape
  output : w'.output = w.output
  size : w.heap.size ≤ w'.heap.size
  block : ∀ k, k < w.heap.size → ¬ F k → w'.heap[k]? = w.heap[k]?

section
variable {F G : Nat → Prop} {a b c w w' : World}
theorem Only.refl (F : Nat → Prop) (w : World) : Only F w w := ⟨rfl, rfl, rfl, Nat.le_refl _, fun _ _ _ => rfl⟩
theorem Only.mono (h : Only F a b) (hG : ∀ k, k < a.heap.size → F k → G k) : Only G a b := ⟨h.os, h.tape, h.output, h.size, fun k hk hn => h.block k hk fun hf => hn (hG k hk hf)⟩
/-- two steps: what the second touches beyond the first's is new -/
theorem Only.trans (h : Only F a b) (k : Only G b c) (hG : ∀ i, G i → F i ∨ a.heap.size ≤ i) : Only F a c :=
  ⟨k.os.trans h.os, k.tape.trans h.tape, k.output.trans h.output, Nat.le_trans h.size k.size, fun i hi hn =>
    (k.block i (Nat.lt_of_lt_of_le hi h.size) (fun hg => by rcases hG i hg with h1 | h1; exact hn h1; omega)).trans (h.block i hi hn)⟩
theorem Only.more (h : Only F a b) (os : Array Obj) (d : Nat) : Only F a (b.more os d) :=
  h.trans (G := fun _ => False) ⟨rfl, rfl, rfl, by simp [World.more], fun k hk _ => World.heap_more _ _ _ _ hk⟩ (fun _ h => h.elim)
theorem Only.alloc (h : Only F a b) (o : Obj) : Only F a (b.alloc o) :=
  h.trans (G := fun _ => False) ⟨rfl, rfl, rfl, by simp, fun k hk _ => Below.heap_alloc _ _ _ hk⟩ (fun _ h => h.elim)
theorem Only.drew (h : Only F a b) : Only F a b.drew := ⟨h.os, h.tape, h.output, h.size, h.block⟩
theorem Only.set (h : Only F a b) {p : Addr} (hp : F p.block ∨ a.heap.size ≤ p.block) (u : Value) : Only F a (b.setCell p u) :=
  h.trans (G := fun k => k = p.block) ⟨rfl, rfl, rfl, by simp [World.setCell], fun k _ hn => Below.heap_setCell _ _ _ _ hn⟩ (fun i hi => by subst hi; exact hp)
theorem Only.grown (h : Only F a b) {row : Option Nat} (hg : b.grownBy c row) (hr : ∀ k, row = some k → F k ∨ a.heap.size ≤ k) : Only F a c :=
  h.trans (G := fun k => row = some k) ⟨hg.os, hg.tape, hg.output, hg.size, fun k hk hn => hg.block k hk (fun e => hn e.symm)⟩ hr
theorem Only.of_below (h : Below a.heap.size a b) : Only F a b := ⟨h.os, h.tape, h.output, h.size, fun k hk _ => h.block k hk⟩
theorem Only.below (h : Only F a b) {B : Nat} (hB : ∀ k, F k → B ≤ k) (hs : B ≤ a.heap.size) : Below B a b :=
  ⟨h.os, h.tape, h.output, h.size, fun k hk => h.block k (by omega) (fun hf => by have := hB k hf; omega)⟩
theorem Only.more_eq (h : Only (fun _ => False) a b) : ∃ os d, b = a.more os d := RowKit.Below.more ⟨h.os, h.tape, h.output, h.size, fun k hk => h.block k hk (fun x => x)⟩
/-- a block that is not touched: its cells, as two rules for the walk -/
theorem Only.cells (h : Only F a b) {x : Nat} (hx : x < a.heap.size) (hn : ¬ F x) : (∀ o, b.cell? ⟨x, o, none⟩ = a.cell? ⟨x, o, none⟩) ∧ (∀ o, b.frozen? ⟨x, o, none⟩ = a.frozen? ⟨x, o, none⟩) :=
  ⟨fun _ => World.cell?_of_block (h.block x hx hn), fun _ => World.frozen?_of_block (h.block x hx hn)⟩
theorem Only.cellAt (h : Only F a b) {p : Addr} (hx : p.block < a.heap.size) (hn : ¬ F p.block) : b.cell? p = a.cell? p := World.cell?_of_block (h.block _ hx hn)
end

/-- an access -/
structure Acc where
  mv : Int
  th : Int
  kd : Int
  ad : Int
  old : Int
  nw : Int
  saw : Int
deriving DecidableEq
def Acc.cells (a : Acc) : List Value := [.int .i64 a.mv, .int .i64 a.th, .int .i64 a.kd, .int .i64 a.ad, .int .u64 a.old, .int .u64 a.nw, .int .u64 a.saw]
def u64s (l : List Int) : List Value := l.map (Value.int .u64)
def accs (l : List Acc) : List Value := l.flatMap Acc.cells

/-- a memory: its words, its log, what stood ahead of each access, the move's number -/
structure MemS where
  words : List Int
  log : List Acc
  ahead : List Int
  move : Int

/-- the memory's four slots -/
structure MemV where
  vw : Value
  vl : Value
  va : Value

/-- the blocks of a memory -/
def MemV.own (v : MemV) (mb k : Nat) : Prop := k = mb ∨ v.vw.rowBlock = some k ∨ v.vl.rowBlock = some k ∨ v.va.rowBlock = some k

structure MemAt (w : World) (base mb : Nat) (st : MemS) (v : MemV) : Prop where
  blk : w.heap[mb]? = some (.cells #[v.vw, v.vl, v.va, .int .i64 st.move] 170)
  ge : base ≤ mb
  rw : w.RowV base 52 1 v.vw st.words.length (u64s st.words)
  rl : w.RowV base 56 7 v.vl st.log.length (accs st.log)
  ra : w.RowV base 52 1 v.va st.ahead.length (u64s st.ahead)
  m1 : v.vw.rowBlock ≠ some mb
  m2 : v.vl.rowBlock ≠ some mb
  m3 : v.va.rowBlock ≠ some mb
  wl : ∀ k, v.vw.rowBlock = some k → v.vl.rowBlock ≠ some k
  wa : ∀ k, v.vw.rowBlock = some k → v.va.rowBlock ≠ some k
  la : ∀ k, v.vl.rowBlock = some k → v.va.rowBlock ≠ some k

section
variable {w w' : World} {base mb : Nat} {st : MemS} {v : MemV}
theorem MemAt.lt (h : MemAt w base mb st v) : ∀ k, v.own mb k → base ≤ k ∧ k < w.heap.size := by
  rintro k (rfl | h1 | h1 | h1)
  · exact ⟨h.ge, (Array.getElem?_eq_some_iff.1 h.blk).1⟩
  · exact h.rw.lt k h1
  · exact h.rl.lt k h1
  · exact h.ra.lt k h1
theorem MemAt.of_block (h : MemAt w base mb st v) (hb : ∀ k, v.own mb k → w'.heap[k]? = w.heap[k]?) : MemAt w' base mb st v :=
  ⟨by rw [hb mb (.inl rfl)]; exact h.blk, h.ge, h.rw.of_block fun k hk => hb k (.inr (.inl hk)), h.rl.of_block fun k hk => hb k (.inr (.inr (.inl hk))), h.ra.of_block fun k hk => hb k (.inr (.inr (.inr hk))),
    h.m1, h.m2, h.m3, h.wl, h.wa, h.la⟩
theorem MemAt.more (h : MemAt w base mb st v) (os : Array Obj) (d : Nat) : MemAt (w.more os d) base mb st v := h.of_block fun k hk => World.heap_more _ _ _ _ (h.lt k hk).2
theorem MemAt.alloc (h : MemAt w base mb st v) (o : Obj) : MemAt (w.alloc o) base mb st v := h.of_block fun k hk => Below.heap_alloc _ _ _ (h.lt k hk).2
theorem MemAt.set_other (h : MemAt w base mb st v) {p : Addr} (hp : ¬ v.own mb p.block) (u : Value) : MemAt (w.setCell p u) base mb st v :=
  h.of_block fun _k hk => Below.heap_setCell _ _ _ _ (fun e => hp (e ▸ hk))
theorem MemAt.only {F : Nat → Prop} (h : MemAt w base mb st v) (ho : Only F w w') (hF : ∀ k, v.own mb k → ¬ F k) : MemAt w' base mb st v :=
  h.of_block fun k hk => ho.block k (h.lt k hk).2 (hF k hk)
theorem MemAt.slices (h : MemAt w base mb st v) : ∃ ow cw ol cl oa ca, v = ⟨.slice ow st.words.length cw, .slice ol st.log.length cl, .slice oa st.ahead.length ca⟩ ∧ st.words.length ≤ cw ∧ st.log.length ≤ cl ∧ st.ahead.length ≤ ca ∧ cw ≤ 9223372036854775807 ∧ cl ≤ 9223372036854775807 ∧ ca ≤ 9223372036854775807 := by
  obtain ⟨o1, c1, e1, l1, m1⟩ := h.rw.form
  obtain ⟨o2, c2, e2, l2, m2⟩ := h.rl.form
  obtain ⟨o3, c3, e3, l3, m3⟩ := h.ra.form
  obtain ⟨v1, v2, v3⟩ := v
  simp only at e1 e2 e3
  subst e1; subst e2; subst e3
  unfold maxLen at m1 m2 m3
  exact ⟨o1, c1, o2, c2, o3, c3, rfl, l1, l2, l3, by omega, by omega, by omega⟩
theorem MemAt.head (h : MemAt w base mb st v) : w.cell? ⟨mb, 0, none⟩ = some v.vw ∧ w.cell? ⟨mb, 1, none⟩ = some v.vl ∧ w.cell? ⟨mb, 2, none⟩ = some v.va ∧ w.cell? ⟨mb, 3, none⟩ = some (.int .i64 st.move) ∧
    (∀ j, w.frozen? ⟨mb, j, none⟩ = false) ∧ mb < w.heap.size :=
  ⟨by simp [World.cell?, h.blk], by simp [World.cell?, h.blk], by simp [World.cell?, h.blk], by simp [World.cell?, h.blk], fun j => by simp [World.frozen?, h.blk], (Array.getElem?_eq_some_iff.1 h.blk).1⟩
/-- a new slot in the head -/
theorem MemAt.put {st' : MemS} {v' : MemV} (h : MemAt w base mb st v) {j : Nat} {u : Value} (hcs : (#[v.vw, v.vl, v.va, .int .i64 st.move] : Array Value).setIfInBounds j u = #[v'.vw, v'.vl, v'.va, .int .i64 st'.move])
    (rw' : (w.setCell ⟨mb, j, none⟩ u).RowV base 52 1 v'.vw st'.words.length (u64s st'.words))
    (rl' : (w.setCell ⟨mb, j, none⟩ u).RowV base 56 7 v'.vl st'.log.length (accs st'.log)) (ra' : (w.setCell ⟨mb, j, none⟩ u).RowV base 52 1 v'.va st'.ahead.length (u64s st'.ahead))
    (m1 : v'.vw.rowBlock ≠ some mb) (m2 : v'.vl.rowBlock ≠ some mb) (m3 : v'.va.rowBlock ≠ some mb)
    (wl : ∀ k, v'.vw.rowBlock = some k → v'.vl.rowBlock ≠ some k) (wa : ∀ k, v'.vw.rowBlock = some k → v'.va.rowBlock ≠ some k) (la : ∀ k, v'.vl.rowBlock = some k → v'.va.rowBlock ≠ some k) : MemAt (w.setCell ⟨mb, j, none⟩ u) base mb st' v' :=
  ⟨by simp [World.setCell, Array.getElem?_modify, h.blk, hcs], h.ge, rw', rl', ra', m1, m2, m3, wl, wa, la⟩
theorem MemAt.base_le (h : MemAt w base mb st v) : base ≤ w.heap.size := by have := h.lt mb (.inl rfl); omega
end

/-- what a call leaves: the memory as st', and nothing else of the old is touched -/
def MemOut (w : World) (base mb : Nat) (v : MemV) (st' : MemS) (w' : World) : Prop :=
  ∃ v', MemAt w' base mb st' v' ∧ Only (v.own mb) w w' ∧ ∀ k, v'.own mb k → v.own mb k ∨ w.heap.size ≤ k

def MemS.note (st : MemS) (a : Acc) (ahd : Int) : MemS := { st with log := st.log ++ [{ a with mv := st.move }], ahead := st.ahead ++ [ahd] }
def MemS.at (st : MemS) (a : Nat) : Int := st.words.getD a 0
def MemS.load (st : MemS) (th : Int) (a : Nat) : MemS := st.note ⟨0, th, 1, a, 0, 0, st.at a⟩ (st.at a)
def MemS.store (st : MemS) (th : Int) (a : Nat) (x : Int) : MemS := { st.note ⟨0, th, 2, a, 0, x, 0⟩ (st.at a) with words := st.words.set a x }
def MemS.swap (st : MemS) (th : Int) (a : Nat) (o x : Int) : MemS := if st.at a = o then { st.note ⟨0, th, 3, a, o, x, st.at a⟩ (st.at a) with words := st.words.set a x } else st.note ⟨0, th, 3, a, o, x, st.at a⟩ (st.at a)

theorem Only.out {w w' : World} {v v' : Value} {n m : Nat} {F : Nat → Prop} (h : RowOut w w' v v' n m) (hF : ∀ k, v.rowBlock = some k → F k) : Only F w w' := by
  rcases h with ⟨_, _, _, hg⟩ | ⟨_, _, hg⟩
  · exact (Only.refl _ _).grown hg (fun k hk => .inl (hF k hk))
  · exact (Only.refl _ _).grown hg (fun k hk => by cases hk)

section
variable {w w1 : World} {base mb : Nat} {st : MemS} {v : MemV}
theorem MemAt.drew (h : MemAt w base mb st v) : MemAt w.drew base mb st v := h.of_block fun _ _ => rfl

theorem RowOut.head {u u' : Value} {n m : Nat} (ho : RowOut w w1 u u' n m) (h : MemAt w base mb st v) (hu : u.rowBlock ≠ some mb) : w1.cell? ⟨mb, 0, none⟩ = some v.vw ∧ w1.cell? ⟨mb, 1, none⟩ = some v.vl ∧ w1.cell? ⟨mb, 2, none⟩ = some v.va ∧ w1.cell? ⟨mb, 3, none⟩ = some (.int .i64 st.move) ∧
    (∀ j, w1.frozen? ⟨mb, j, none⟩ = false) ∧ mb < w1.heap.size := by
  have hb : w1.heap[mb]? = some (.cells #[v.vw, v.vl, v.va, .int .i64 st.move] 170) := by rw [ho.block h.head.2.2.2.2.2 hu]; exact h.blk
  exact ⟨by simp [World.cell?, hb], by simp [World.cell?, hb], by simp [World.cell?, hb], by simp [World.cell?, hb], fun j => by simp [World.frozen?, hb], (Array.getElem?_eq_some_iff.1 hb).1⟩

theorem accs_snoc (l : List Acc) (x : Acc) : accs (l ++ [x]) = accs l ++ x.cells := by simp [accs]
theorem u64s_snoc (l : List Int) (x : Int) : u64s (l ++ [x]) = u64s l ++ [.int .u64 x] := by simp [u64s]

/-- m.log = append(m.log, x) -/
theorem MemAt.app_log (h : MemAt w base mb st v) {v' : Value} {x : Acc} (hown : w1.RowV base 56 7 v' (st.log.length + 1) (accs st.log ++ x.cells)) (ho : RowOut w w1 v.vl v' st.log.length 1) :
    MemOut w base mb v { st with log := st.log ++ [x] } (w1.setCell ⟨mb, 1, none⟩ v') := by
  have hn : ∀ k, v'.rowBlock = some k → v.vl.rowBlock = some k ∨ k = w.heap.size := fun k hk => ho.news hk
  have hlt := h.lt
  have hmb := h.lt mb (.inl rfl)
  have m2' : v'.rowBlock ≠ some mb := fun e => by rcases hn mb e with h1 | h1; exact h.m2 h1; omega
  have hw := h.rw.out ho (fun k hk => h.wl k hk)
  have ha := h.ra.out ho (fun k hk => fun e => h.la k e hk)
  have hblk : w1.heap[mb]? = some (.cells #[v.vw, v.vl, v.va, .int .i64 st.move] 170) := by rw [ho.block hmb.2 h.m2]; exact h.blk
  refine ⟨{ v with vl := v' }, ⟨by simp [World.setCell, Array.getElem?_modify, hblk], h.ge, ?_, ?_, ?_, h.m1, m2', h.m3, ?_, h.wa, ?_⟩, ?_, ?_⟩
  · exact hw.set (fun k hk e => h.m1 (by rw [hk]; exact congrArg some e)) _
  · rw [accs_snoc, List.length_append]
    exact hown.set (fun k hk e => m2' (by rw [hk]; exact congrArg some e)) _
  · exact ha.set (fun k hk e => h.m3 (by rw [hk]; exact congrArg some e)) _
  · intro k hk e
    rcases hn k e with h1 | h1
    · exact h.wl k hk h1
    · have := (hlt k (.inr (.inl hk))).2; omega
  · intro k hk e
    rcases hn k hk with h1 | h1
    · exact h.la k h1 e
    · have := (hlt k (.inr (.inr (.inr e)))).2; omega
  · exact (Only.out ho (fun k hk => .inr (.inr (.inl hk)))).set (.inl (.inl rfl)) _
  · rintro k (hk | hk | hk | hk)
    · exact .inl (.inl hk)
    · exact .inl (.inr (.inl hk))
    · rcases hn k hk with h1 | h1
      · exact .inl (.inr (.inr (.inl h1)))
      · exact .inr (by omega)
    · exact .inl (.inr (.inr (.inr hk)))

/-- m.ahead = append(m.ahead, x) -/
theorem MemAt.app_ahead (h : MemAt w base mb st v) {v' : Value} {x : Int} (hown : w1.RowV base 52 1 v' (st.ahead.length + 1) (u64s st.ahead ++ [.int .u64 x])) (ho : RowOut w w1 v.va v' st.ahead.length 1) :
    MemOut w base mb v { st with ahead := st.ahead ++ [x] } (w1.setCell ⟨mb, 2, none⟩ v') := by
  have hn : ∀ k, v'.rowBlock = some k → v.va.rowBlock = some k ∨ k = w.heap.size := fun k hk => ho.news hk
  have hlt := h.lt
  have hmb := h.lt mb (.inl rfl)
  have m3' : v'.rowBlock ≠ some mb := fun e => by rcases hn mb e with h1 | h1; exact h.m3 h1; omega
  have hw := h.rw.out ho (fun k hk => h.wa k hk)
  have hl := h.rl.out ho (fun k hk => h.la k hk)
  have hblk : w1.heap[mb]? = some (.cells #[v.vw, v.vl, v.va, .int .i64 st.move] 170) := by rw [ho.block hmb.2 h.m3]; exact h.blk
  refine ⟨{ v with va := v' }, ⟨by simp [World.setCell, Array.getElem?_modify, hblk], h.ge, ?_, ?_, ?_, h.m1, h.m2, m3', h.wl, ?_, ?_⟩, ?_, ?_⟩
  · exact hw.set (fun k hk e => h.m1 (by rw [hk]; exact congrArg some e)) _
  · exact hl.set (fun k hk e => h.m2 (by rw [hk]; exact congrArg some e)) _
  · rw [u64s_snoc, List.length_append]
    exact hown.set (fun k hk e => m3' (by rw [hk]; exact congrArg some e)) _
  · intro k hk e
    rcases hn k e with h1 | h1
    · exact h.wa k hk h1
    · have := (hlt k (.inr (.inl hk))).2; omega
  · intro k hk e
    rcases hn k e with h1 | h1
    · exact h.la k hk h1
    · have := (hlt k (.inr (.inr (.inl hk)))).2; omega
  · exact (Only.out ho (fun k hk => .inr (.inr (.inr hk)))).set (.inl (.inl rfl)) _
  · rintro k (hk | hk | hk | hk)
    · exact .inl (.inl hk)
    · exact .inl (.inr (.inl hk))
    · exact .inl (.inr (.inr (.inl hk)))
    · rcases hn k hk with h1 | h1
      · exact .inl (.inr (.inr (.inr h1)))
      · exact .inr (by omega)

/-- two steps, with new blocks ahead of each -/
theorem MemOut.trans {w0 : World} {v0 : MemV} {st1 st2 : MemS} (h : MemOut w0 base mb v0 st1 w) (k : ∀ v1, MemAt w base mb st1 v1 → MemOut w base mb v1 st2 w1) : MemOut w0 base mb v0 st2 w1 := by
  obtain ⟨v1, h1, h2, h3⟩ := h
  obtain ⟨v2, k1, k2, k3⟩ := k v1 h1
  refine ⟨v2, k1, h2.trans k2 h3, fun i hi => ?_⟩
  rcases k3 i hi with h4 | h4
  · exact h3 i h4
  · have := h2.size; exact .inr (by omega)
theorem MemOut.step {w0 : World} {v0 v1 : MemV} {st1 st2 : MemS} (_h1 : MemAt w base mb st1 v1) (h2 : Only (v0.own mb) w0 w) (h3 : ∀ k, v1.own mb k → v0.own mb k ∨ w0.heap.size ≤ k) (k : MemOut w base mb v1 st2 w1) : MemOut w0 base mb v0 st2 w1 := by
  obtain ⟨v2, k1, k2, k3⟩ := k
  refine ⟨v2, k1, h2.trans k2 h3, fun i hi => ?_⟩
  rcases k3 i hi with h4 | h4
  · exact h3 i h4
  · have := h2.size; exact .inr (by omega)
theorem MemOut.pre {w0 : World} {st1 : MemS} (hb : Only (fun _ => False) w0 w) (h : MemOut w base mb v st1 w1) : MemOut w0 base mb v st1 w1 := by
  obtain ⟨v1, h1, h2, h3⟩ := h
  refine ⟨v1, h1, ?_, fun i hi => ?_⟩
  · exact ⟨h2.os.trans hb.os, h2.tape.trans hb.tape, h2.output.trans hb.output, Nat.le_trans hb.size h2.size, fun k hk hn => (h2.block k (Nat.lt_of_lt_of_le hk hb.size) hn).trans (hb.block k hk (fun x => x))⟩
  · rcases h3 i hi with h4 | h4
    · exact .inl h4
    · have := hb.size; exact .inr (by omega)
theorem MemOut.post {w2 : World} {st1 : MemS} (h : MemOut w base mb v st1 w1) (hb : Only (fun _ => False) w1 w2) : MemOut w base mb v st1 w2 := by
  obtain ⟨v1, h1, h2, h3⟩ := h
  exact ⟨v1, h1.only hb (fun _ _ x => x), h2.trans hb (fun _ x => x.elim), h3⟩
end

section
variable {w : World} {base mb : Nat} {st : MemS} {v : MemV}
theorem MemAt.base_mono {b' : Nat} (h : MemAt w base mb st v) (hb : b' ≤ base) : MemAt w b' mb st v :=
  ⟨h.blk, Nat.le_trans hb h.ge, h.rw.base_mono hb, h.rl.base_mono hb, h.ra.base_mono hb, h.m1, h.m2, h.m3, h.wl, h.wa, h.la⟩
theorem u64s_get {l : List Int} {a : Nat} (h : a < l.length) : (u64s l)[a]? = some (.int .u64 (l.getD a 0)) := by simp [u64s, h]
/-- the word at an address that there is -/
theorem MemAt.read (h : MemAt w base mb st v) {a : Nat} (ha : a < st.words.length) : ∃ g cw, v.vw = .slice (some ⟨g, 0, none⟩) st.words.length cw ∧ st.words.length ≤ cw ∧ g < w.heap.size ∧ v.vw.rowBlock = some g ∧ g ≠ mb ∧
    w.cell? ⟨g, a, none⟩ = some (.int .u64 (st.at a)) ∧ (∀ j, w.frozen? ⟨g, j, none⟩ = false) := by
  obtain ⟨g, cap, e, h1, h2, h3, h4, h5, h6⟩ := h.rw.some_form (by omega)
  exact ⟨g, cap, e, h1, h3, h4, fun e' => h.m1 (by rw [h4, e']), h6 a _ (u64s_get ha), h5⟩
theorem MemAt.put_word (h : MemAt w base mb st v) {a g : Nat} (ha : a < st.words.length) (hg : v.vw.rowBlock = some g) (x : Int) : MemAt (w.setCell ⟨g, a, none⟩ (.int .u64 x)) base mb { st with words := st.words.set a x } v := by
  have hne : g ≠ mb := fun e => h.m1 (by rw [hg, e])
  refine ⟨by rw [Below.heap_setCell _ _ _ _ (show mb ≠ g from Ne.symm hne)]; exact h.blk, h.ge, ?_, ?_, ?_, h.m1, h.m2, h.m3, h.wl, h.wa, h.la⟩
  · have := h.rw.put hg a (by omega) (.int .u64 x)
    simpa [u64s, List.map_set] using this
  · exact h.rl.set (fun k hk e => h.wl g hg (by rw [hk]; exact congrArg some e)) _
  · exact h.ra.set (fun k hk e => h.wa g hg (by rw [hk]; exact congrArg some e)) _
end
end Go
namespace Go.Proofs.Ytjcggokhminmoaa
open Go.RowKit

theorem ret_int {k : IntKind} {a b : Int} (h : a = b) : Ending.returned (.int k a) = .returned (.int k b) := by rw [h]
theorem ret_bool {a b : Bool} (h : a = b) : Ending.returned (.bool a) = .returned (.bool b) := by rw [h]
theorem ret_v {a b : Value} (h : a = b) : Ending.returned a = .returned b := by rw [h]

theorem bcell {W w1 : World} (hb : Below W.heap.size W w1) : (∀ b o, b < W.heap.size → w1.cell? ⟨b, o, none⟩ = W.cell? ⟨b, o, none⟩) ∧ (∀ b o, b < W.heap.size → w1.frozen? ⟨b, o, none⟩ = W.frozen? ⟨b, o, none⟩) :=
  ⟨fun b o h => hb.cell (p := ⟨b, o, none⟩) h, fun b o h => hb.frozen (p := ⟨b, o, none⟩) h⟩

/-- the word of a slot's number and a mark -/
def packLink (i : Int) (m : Bool) : Int := i + 1 + if m then 4294967296 else 0
def isLink (w : Int) : Bool := decide (w < 8589934592) && decide (w % 4294967296 ≤ 2147483647)
def linkIndex (w : Int) : Int := w % 4294967296 - 1
def linkMark (w : Int) : Bool := w / 4294967296 % 2 == 1
def packHead (t i : Int) : Int := t * 4294967296 + (i + 1)
def isHead (w : Int) : Bool := decide (w % 4294967296 ≤ 2147483647)

theorem or_mark (i : Int) (h0 : 0 ≤ i) (h1 : i ≤ 2147483647) : bits .or .u64 i 4294967296 = i + 4294967296 := by
  obtain ⟨n, rfl⟩ := Int.eq_ofNat_of_zero_le h0
  rw [show (4294967296 : Int) = ((4294967296 : Nat) : Int) from rfl, u64_or_nat _ _ (by omega) (by omega), Nat.or_comm,
    nat_join 32 _ _ (by rfl) (by omega)]
  omega

theorem and_low (v : Int) (h0 : 0 ≤ v) (h1 : v ≤ 18446744073709551615) : bits .and .u64 v 4294967295 = v % 4294967296 := by
  obtain ⟨n, rfl⟩ := Int.eq_ofNat_of_zero_le h0
  rw [show (4294967295 : Int) = ((4294967295 : Nat) : Int) from rfl, u64_and_nat _ _ (by omega) (by omega), nat_mask32]
  omega

theorem and_mark (v : Int) (h0 : 0 ≤ v) (h1 : v ≤ 18446744073709551615) : bits .and .u64 v 4294967296 = v / 4294967296 % 2 * 4294967296 := by
  obtain ⟨n, rfl⟩ := Int.eq_ofNat_of_zero_le h0
  rw [show (4294967296 : Int) = ((4294967296 : Nat) : Int) from rfl, u64_and_nat _ _ (by omega) (by omega), show (4294967296 : Nat) = 2 ^ 32 from rfl, nat_bit]
  omega

theorem mark_ne (v : Int) : (v / 4294967296 % 2 * 4294967296 != 0) = linkMark v := by
  unfold linkMark
  rw [Bool.eq_iff_iff]; simp; omega

theorem or_tag (t i : Int) (h0 : 0 ≤ t) (h1 : t ≤ 4294967295) (h2 : 0 ≤ i) (h3 : i ≤ 2147483647) : bits .or .u64 (t * 4294967296) i = t * 4294967296 + i := by
  obtain ⟨n, rfl⟩ := Int.eq_ofNat_of_zero_le h0
  obtain ⟨k, rfl⟩ := Int.eq_ofNat_of_zero_le h2
  rw [show (n : Int) * 4294967296 = ((n * 4294967296 : Nat) : Int) from by omega, u64_or_nat _ _ (by omega) (by omega),
    nat_join 32 _ _ (by omega) (by omega)]
  omega

end Go.Proofs.Ytjcggokhminmoaa
namespace Go.Proofs.Ytjcggokhminmoaa
open Go.ChangeShapes Go.WideShapes Go.ChangeAt Go.RowKit

theorem size_mem {w : World} {base mb : Nat} {st : MemS} {v : MemV} (h : MemAt w base mb st v) : Calls Try.prog 114 #[.pointer (some ⟨mb, 0, none⟩)] w fun e w' => e = .returned (.int .i64 (st.words.length : Int)) ∧ w = w' := by
  obtain ⟨c0, c1, c2, c3, z, lt⟩ := h.head
  obtain ⟨ow, cw, ol, cl, oa, ca, rfl, l1, l2, l3, m1, m2, m3⟩ := h.slices
  go_enter Try.func114, Try.ntmps114
  go_wp2
  go_ret
  exact ⟨rfl, rfl⟩
theorem size_nil (w : World) : Calls Try.prog 114 #[.pointer none] w fun e w' => e = .returned (.int .i64 0) ∧ w = w' := by
  go_enter Try.func114, Try.ntmps114
  go_wp2
  go_ret
  exact ⟨rfl, rfl⟩

theorem has_mem {w : World} {base mb : Nat} {st : MemS} {v : MemV} (h : MemAt w base mb st v) (a : Int) : Calls Try.prog 115 #[.pointer (some ⟨mb, 0, none⟩), .int .i64 a] w fun e w' =>
    e = .returned (.bool (decide (0 ≤ a) && decide (a < (st.words.length : Int)))) ∧ w = w' := by
  by_cases h0 : 0 ≤ a
  all_goals
    go_enter Try.func115, Try.ntmps115
    go_wp2_with (go_at_call 114; refine (size_mem h).mono ?_; rintro e w1 ⟨rfl, rfl⟩)
    go_ret
    exact ⟨ret_bool (by rw [Bool.eq_iff_iff]; simp <;> omega), rfl⟩
theorem has_yes {w : World} {base mb : Nat} {st : MemS} {v : MemV} (h : MemAt w base mb st v) (a : Nat) (ha : a < st.words.length) : Calls Try.prog 115 #[.pointer (some ⟨mb, 0, none⟩), .int .i64 (a : Int)] w fun e w' =>
    e = .returned (.bool true) ∧ w = w' := by
  have := has_mem h (a : Int)
  rw [show (decide (0 ≤ (a : Int)) && decide ((a : Int) < (st.words.length : Int))) = true by simp; omega] at this
  exact this
theorem has_no {w : World} {base mb : Nat} {st : MemS} {v : MemV} (h : MemAt w base mb st v) (a : Int) (ha : a < 0 ∨ (st.words.length : Int) ≤ a) : Calls Try.prog 115 #[.pointer (some ⟨mb, 0, none⟩), .int .i64 a] w fun e w' =>
    e = .returned (.bool false) ∧ w = w' := by
  have := has_mem h a
  rw [show (decide (0 ≤ a) && decide (a < (st.words.length : Int))) = false by rw [Bool.eq_false_iff]; simp; omega] at this
  exact this
theorem has_nil (w : World) (a : Int) : Calls Try.prog 115 #[.pointer none, .int .i64 a] w fun e w' => e = .returned (.bool false) ∧ w = w' := by
  by_cases h0 : 0 ≤ a
  all_goals
    go_enter Try.func115, Try.ntmps115
    go_wp2_with (go_at_call 114; refine (size_nil _).mono ?_; rintro e w1 ⟨rfl, rfl⟩)
    go_ret
    exact ⟨by simp [h0] <;> omega, rfl⟩

theorem now_mem {w : World} {base mb : Nat} {st : MemS} {v : MemV} (h : MemAt w base mb st v) (x : Int) : Calls Try.prog 67 #[.pointer (some ⟨mb, 0, none⟩), .int .i64 x] w fun e w' =>
    e = .returned (.tuple #[]) ∧ MemAt w' base mb { st with move := x } v ∧ Only (v.own mb) w w' := by
  obtain ⟨c0, c1, c2, c3, z, lt⟩ := h.head
  go_enter Try.func67, Try.ntmps67
  go_wp2
  go_end0
  exact ⟨rfl, h.put (st' := { st with move := x }) rfl (h.rw.set (fun k hk e => h.m1 (by rw [hk]; exact congrArg some e)) _) (h.rl.set (fun k hk e => h.m2 (by rw [hk]; exact congrArg some e)) _) (h.ra.set (fun k hk e => h.m3 (by rw [hk]; exact congrArg some e)) _) h.m1 h.m2 h.m3 h.wl h.wa h.la, (Only.refl _ _).set (.inl (.inl rfl)) _⟩
theorem now_nil (w : World) (x : Int) : Calls Try.prog 67 #[.pointer none, .int .i64 x] w fun e w' => e = .returned (.tuple #[]) ∧ w = w' := by
  go_enter Try.func67, Try.ntmps67
  go_wp2
  go_end0
  exact ⟨rfl, rfl⟩
end Go.Proofs.Ytjcggokhminmoaa
