/-
WordOwn: what the memory holds while its loops run. Plain.
-/
import Derived.Test.YtaokjiajceefaaaApp
namespace Go
open Go.RowKit

def rowL (n : Nat) (f : Nat → Int) : List Value := (List.range n).map fun j => .int .u64 (f j)
theorem rowL_get {n : Nat} {f : Nat → Int} {j : Nat} (h : j < n) : (rowL n f)[j]? = some (.int .u64 (f j)) := by
  simp [rowL, h]
theorem rowL_len (n : Nat) (f : Nat → Int) : (rowL n f).length = n := by simp [rowL]
theorem rowL_one (n : Nat) (f : Nat → Int) : ∀ u ∈ rowL n f, u.oneCell' = true := by
  intro u hu
  simp only [rowL, List.mem_map] at hu
  obtain ⟨j, _, rfl⟩ := hu
  rfl
theorem RowAt.news {w : World} {b n : Nat} {f : Nat → Int} (h : RowAt w b n f) : ∀ j u, (rowL n f)[j]? = some u → w.cell? ((⟨b, 0, none⟩ : Addr).add j) = some u := by
  intro j u hu
  have hj : j < n := by
    rcases Nat.lt_or_ge j n with h | h
    · exact h
    · rw [List.getElem?_eq_none (by rw [rowL_len]; exact h)] at hu; cases hu
  rw [rowL_get hj] at hu
  cases hu
  have hadd : (⟨b, 0, none⟩ : Addr).add j = ⟨b, j, none⟩ := by unfold Addr.add; split <;> simp_all
  rw [hadd]
  exact h.cell j hj

/-- block b is a row of n words, and no more -/
def RowX (t : TypeId) (w : World) (b n : Nat) (f : Nat → Int) : Prop := w.heap[b]? = some (.cells (intCells .u64 n f) t)
section
variable {t : TypeId} {w w' : World} {b n : Nat} {f g : Nat → Int}
theorem RowX.row (h : RowX t w b n f) : RowAt w b n f := ⟨_, _, h, fun _j hj => intCells_lt _ _ _ _ hj⟩
theorem RowX.lt (h : RowX t w b n f) : b < w.heap.size := h.row.lt
theorem RowX.of_block (h : RowX t w b n f) (hb : w'.heap[b]? = w.heap[b]?) : RowX t w' b n f := by unfold RowX; rw [hb]; exact h
theorem RowX.set (h : RowX t w b n f) (k : Nat) (v : Int) : RowX t (w.setCell ⟨b, k, none⟩ (.int .u64 v)) b n (updF f k v) := by
  unfold RowX at h ⊢
  simp [World.setCell, Array.getElem?_modify, h, set_intCells]
theorem RowX.more (h : RowX t w b n f) (os : Array Obj) (d : Nat) : RowX t (w.more os d) b n f := h.of_block (World.heap_more _ _ _ _ h.lt)
theorem RowX.alloc (h : RowX t w b n f) (o : Obj) : RowX t (w.alloc o) b n f := h.of_block (Below.heap_alloc _ _ _ h.lt)
theorem RowX.made (w : World) (n : Nat) (f : Nat → Int) (t : TypeId) (h : b = w.heap.size) : RowX t (w.alloc (.cells (intCells .u64 n f) t)) b n f := by
  subst h
  exact heap_alloc_new w _
theorem RowX.congr (h : RowX t w b n f) (hg : ∀ j, j < n → f j = g j) : RowX t w b n g := by
  have : intCells .u64 n f = intCells .u64 n g := by
    apply Array.ext_getElem?
    intro i
    rw [getElem?_intCells, getElem?_intCells]
    split
    · rw [hg i ‹_›]
    · rfl
  unfold RowX
  rw [← this]
  exact h
theorem RowX.own (h : RowX t w b n f) (hn : n ≤ maxLen) : w.ownsRow 0 t 1 (.slice (some ⟨b, 0, none⟩) n n) n (rowL n f) := by
  refine ⟨by simp [rowL_len], .inr ⟨b, n, _, rfl, Nat.zero_le _, h, Nat.le_refl _, hn, by simp [intCells], ?_⟩⟩
  apply List.ext_getElem?
  intro i
  rw [List.getElem?_take]
  by_cases hi : i < n
  · simp [hi, rowL_get hi, intCells]
  · rw [show (rowL n f)[i]? = none from List.getElem?_eq_none (by rw [rowL_len]; omega), if_neg (by omega)]
end

/-- the memory of WordOwn: x: the configuration's box; A, B, C: the rows -/
structure OwnSt (t : TypeId) (w0 : World) (x A B C n : Nat) (cfg : Obj) (fA fB fC : Nat → Int) (w : World) : Prop where
  rA : RowX t w A n fA
  rB : RowAt w B n fB
  rC : RowAt w C n fC
  box : w.heap[x]? = some cfg
  bel : Below w0.heap.size w0 w

section
variable {t : TypeId} {w0 w w' : World} {x A B C n : Nat} {cfg : Obj} {fA fB fC : Nat → Int}
theorem OwnSt.more (h : OwnSt t w0 x A B C n cfg fA fB fC w) (os : Array Obj) (d : Nat) : OwnSt t w0 x A B C n cfg fA fB fC (w.more os d) :=
  ⟨h.rA.more _ _, h.rB.more _ _, h.rC.more _ _, by rw [World.heap_more _ _ _ _ (Array.getElem?_eq_some_iff.1 h.box).1]; exact h.box, h.bel.more1 _ _⟩
theorem OwnSt.alloc (h : OwnSt t w0 x A B C n cfg fA fB fC w) (o : Obj) : OwnSt t w0 x A B C n cfg fA fB fC (w.alloc o) :=
  ⟨h.rA.alloc _, h.rB.alloc _, h.rC.alloc _, by rw [Below.heap_alloc _ _ _ (Array.getElem?_eq_some_iff.1 h.box).1]; exact h.box, h.bel.alloc1 _⟩
theorem OwnSt.setA (h : OwnSt t w0 x A B C n cfg fA fB fC w) (hx : x < A) (hB : A ≠ B) (hC : A ≠ C) (hw : w0.heap.size ≤ A) (k : Nat) (v : Int) : OwnSt t w0 x A B C n cfg (updF fA k v) fB fC (w.setCell ⟨A, k, none⟩ (.int .u64 v)) :=
  ⟨h.rA.set _ _, h.rB.set_other (Ne.symm hB) _, h.rC.set_other (Ne.symm hC) _, by rw [Below.heap_setCell _ _ _ _ (show x ≠ A by omega)]; exact h.box, h.bel.setCell hw _⟩
theorem OwnSt.setB (h : OwnSt t w0 x A B C n cfg fA fB fC w) (hx : x < B) (hB : A ≠ B) (hC : B ≠ C) (hw : w0.heap.size ≤ B) (k : Nat) (v : Int) : OwnSt t w0 x A B C n cfg fA (updF fB k v) fC (w.setCell ⟨B, k, none⟩ (.int .u64 v)) :=
  ⟨h.rA.of_block (Below.heap_setCell _ _ _ _ hB), h.rB.set _ _, h.rC.set_other (Ne.symm hC) _, by rw [Below.heap_setCell _ _ _ _ (show x ≠ B by omega)]; exact h.box, h.bel.setCell hw _⟩
theorem OwnSt.grown (h : OwnSt t w0 x A B C n cfg fA fB fC w) {row : Option Nat} (hg : w.grownBy w' row) (hx : some x ≠ row) (hA : some A ≠ row) (hB : some B ≠ row) (hC : some C ≠ row) (hw : ∀ k, row = some k → w0.heap.size ≤ k) : OwnSt t w0 x A B C n cfg fA fB fC w' :=
  ⟨h.rA.of_block (hg.block _ h.rA.lt hA), h.rB.grown hg hB, h.rC.grown hg hC, by rw [hg.block _ (Array.getElem?_eq_some_iff.1 h.box).1 hx]; exact h.box, h.bel.grown hg h.bel.size hw⟩

/-- the growing slice: still row A, full; or a block from H on -/
def GrownIs (t : TypeId) (w : World) (A H n k : Nat) (fA : Nat → Int) (v : Value) : Prop :=
  ∃ g cap, v = .slice (some ⟨g, 0, none⟩) (n + k) cap ∧ w.ownsRow 0 t 1 v (n + k) (rowL n fA ++ List.replicate k (.int .u64 99)) ∧ ((g = A ∧ cap = n) ∨ H ≤ g) ∧ H ≤ w.heap.size

theorem GrownIs.start (h : OwnSt t w0 x A B C n cfg fA fB fC w) {H : Nat} (hH : H ≤ w.heap.size) (hn : n ≤ maxLen) : GrownIs t w A H n 0 fA (.slice (some ⟨A, 0, none⟩) n n) :=
  ⟨A, n, rfl, by simpa using h.rA.own hn, .inl ⟨rfl, rfl⟩, hH⟩

theorem GrownIs.next {H k : Nat} {v v' : Value} (hs : OwnSt t w0 x A B C n cfg fA fB fC w) (h : GrownIs t w A H n k fA v) (o : Obj) (hx : x < H) (hA : A < H) (hB : B < H) (hC : C < H) (hw : w0.heap.size ≤ H)
    (hown : w'.ownsRow 0 t 1 v' (n + k + 1) (rowL n fA ++ List.replicate k (.int .u64 99) ++ [.int .u64 99])) (hout : AppOut (w.alloc o) w' v v' (n + k) 1) :
    OwnSt t w0 x A B C n cfg fA fB fC w' ∧ GrownIs t w' A H n (k + 1) fA v' := by
  obtain ⟨g, cap, rfl, ho, hg, hH⟩ := h
  have hs' := hs.alloc o
  have hsz : (w.alloc o).heap.size = w.heap.size + 1 := by simp
  have hrep : rowL n fA ++ List.replicate k (.int .u64 99) ++ [.int .u64 99] = rowL n fA ++ List.replicate (k + 1) (.int .u64 99) := by
    rw [List.replicate_succ', List.append_assoc]
  rw [hrep] at hown
  have hform : ∃ g' cap', v' = .slice (some ⟨g', 0, none⟩) (n + (k + 1)) cap' := by
    rcases hown.2 with ⟨_, h0⟩ | ⟨g', cap', cur, rfl, _⟩
    · omega
    · exact ⟨g', cap', rfl⟩
  obtain ⟨g', cap', rfl⟩ := hform
  rcases hout with ⟨h1, h2, h3, h4⟩ | ⟨h1, h2, h3⟩
  · simp [Value.ownBlock] at h1
    simp [Value.capOf] at h2 h3
    subst h1
    have hgH : H ≤ g' := by omega
    have e : Value.ownBlock (.slice (some ⟨g', 0, none⟩) (n + k) cap) = some g' := rfl
    rw [e] at h4
    exact ⟨hs'.grown h4 (by simp; omega) (by simp; omega) (by simp; omega) (by simp; omega) (by simp; omega), g', cap', rfl, hown, .inr hgH, by have := h4.size; omega⟩
  · simp [Value.ownBlock] at h1
    exact ⟨hs'.grown h3 (by simp) (by simp) (by simp) (by simp) (by simp), g', cap', rfl, hown, .inr (by omega), by have := h3.size; omega⟩

theorem GrownIs.row {H k : Nat} {v : Value} (h : GrownIs t w A H n k fA v) : ∃ g cap, v = .slice (some ⟨g, 0, none⟩) (n + k) cap ∧ RowAt w g n fA ∧ ((g = A ∧ cap = n) ∨ H ≤ g) := by
  obtain ⟨g, cap, rfl, ho, hg, hH⟩ := h
  refine ⟨g, cap, rfl, RowAt.of_own ho rfl (fun j hj => ?_), hg⟩
  rw [List.getElem?_append_left (by rw [rowL_len]; exact hj)]
  exact rowL_get hj

/-- the copy: append to nothing -/
theorem want_of {base : Nat} {v' : Value} {f : Nat → Int} (hn : 0 < n) (hown : w'.ownsRow base t 1 v' n (rowL n f)) (hout : AppOut w w' (.slice none 0 0) v' 0 n) :
    ∃ C cap, C = w.heap.size ∧ v' = .slice (some ⟨C, 0, none⟩) n cap ∧ RowAt w' C n f ∧ w.grownBy w' none := by
  rcases hout with ⟨h1, h2, h3, h4⟩ | ⟨h1, h2, h3⟩
  · simp [Value.capOf] at h2
    omega
  · have hr := RowAt.of_own (n := n) (f := f) hown h1 (fun j hj => rowL_get hj)
    rcases hown.2 with ⟨_, h0⟩ | ⟨g', cap', cur, rfl, _⟩
    · omega
    · simp [Value.ownBlock] at h1
      subst h1
      exact ⟨_, cap', rfl, rfl, hr, h3⟩

theorem OwnSt.begin (hg : w.grownBy w' none) (rA : RowX t w A n fA) (rB : RowAt w B n fB) (rC : RowAt w' C n fC) (box : w.heap[x]? = some cfg) (bel : Below w0.heap.size w0 w) : OwnSt t w0 x A B C n cfg fA fB fC w' :=
  ⟨rA.of_block (hg.block _ rA.lt (by simp)), rB.grown hg (by simp), rC, by rw [hg.block _ (Array.getElem?_eq_some_iff.1 box).1 (by simp)]; exact box, bel.grown hg bel.size (by simp)⟩

theorem OwnSt.fact (h : OwnSt t w0 x A B C n cfg fA fB fC w) (k : Nat) (hk : k < n) : w.cell? ⟨A, k, none⟩ = some (.int .u64 (fA k)) ∧ w.cell? ⟨B, k, none⟩ = some (.int .u64 (fB k)) ∧ w.cell? ⟨C, k, none⟩ = some (.int .u64 (fC k)) ∧ w.frozen? ⟨A, k, none⟩ = false ∧ w.frozen? ⟨B, k, none⟩ = false ∧ A < w.heap.size ∧ B < w.heap.size ∧ C < w.heap.size :=
  ⟨h.rA.row.cell k hk, h.rB.cell k hk, h.rC.cell k hk, h.rA.row.free k, h.rB.free k, h.rA.lt, h.rB.lt, h.rC.lt⟩
theorem OwnSt.congrA {g : Nat → Int} (h : OwnSt t w0 x A B C n cfg fA fB fC w) (hg : ∀ j, j < n → fA j = g j) : OwnSt t w0 x A B C n cfg g fB fC w := ⟨h.rA.congr hg, h.rB, h.rC, h.box, h.bel⟩
theorem OwnSt.congrB {g : Nat → Int} (h : OwnSt t w0 x A B C n cfg fA fB fC w) (hg : ∀ j, j < n → fB j = g j) : OwnSt t w0 x A B C n cfg fA g fC w := ⟨h.rA, h.rB.congr hg, h.rC, h.box, h.bel⟩

/-- the row while it is overwritten: below k the new words -/
def overF (g f : Nat → Int) (k j : Nat) : Int := if j < k then g j else f j
theorem overF_next (g f : Nat → Int) (k : Nat) (v : Int) (hv : v = g k) : updF (overF g f k) k v = overF g f (k + 1) := by
  subst hv
  funext j
  unfold updF overF
  by_cases h : j = k
  · subst h; simp
  · rw [if_neg h]
    by_cases h1 : j < k
    · rw [if_pos h1, if_pos (by omega)]
    · rw [if_neg h1, if_neg (by omega)]
theorem overF_zero (g f : Nat → Int) : overF g f 0 = f := by funext j; simp [overF]
theorem overF_at (g f : Nat → Int) (k : Nat) : overF g f k k = f k := by simp [overF]
theorem overF_end (g f : Nat → Int) {n : Nat} : ∀ j, j < n → overF g f n j = g j := by intro j hj; simp [overF, hj]
def newA (j : Nat) : Int := 77 + (j : Int)
def newB (_ : Nat) : Int := 11
end
end Go
