/-
What the memory holds while doc gathers a log. Plain.
-/
import Derived.Test.YtpmadfokpimjcaaDocB
namespace Go.Proofs.Ytpmadfokpimjcaa
open Go.ChangeShapes Go.WideShapes Go.ChangeAt Go.RowKit

theorem numsL_zero (log : List Acc) (s : Nat) : numsL log s 0 = [] := by simp [numsL, items_none]
theorem logL_zero (log : List Acc) (s : Nat) : logL log s 0 = [] := by simp [logL, items_none]
theorem numsL_snoc (log : List Acc) (s i : Nat) : i64s (numsL log s i) ++ [.int .i64 ((s + i : Nat) : Int)] = i64s (numsL log s (i + 1)) := by
  unfold numsL
  rw [show s + (i + 1) = (s + i) + 1 by omega, items_snoc _ _ _ (by omega)]
  simp [i64s]
theorem logL_snoc (log : List Acc) (s i : Nat) : accs (logL log s i) ++ (log.getD (s + i) default).cells = accs (logL log s (i + 1)) := by
  unfold logL
  rw [show s + (i + 1) = (s + i) + 1 by omega, items_snoc _ _ _ (by omega)]
  simp [accs]

structure DocI (w W : World) (kd t a n old x : Int) (log : List Acc) (s i j : Nat) (vn vl : Value) : Prop where
  bx : AskBox w W (.int .i64 kd) (.int .i64 t) (.int .i64 a) (.int .i64 n) (.int .u64 old) (.int .u64 x) (.int .i64 0) (.slice none 0 0) (.slice none 0 0) (.slice none 0 0) (.int .i64 0) vn (.slice none 0 0) vl
  rn : W.RowV (w.heap.size + 1 + 1 + 1) 3 1 vn i (i64s (numsL log s i))
  rl : W.RowV (w.heap.size + 1 + 1 + 1) 45 7 vl j (accs (logL log s j))
  ap : ∀ k, vn.rowBlock = some k → vl.rowBlock ≠ some k
  be : Below w.heap.size w W
section
variable {w W W' w1 : World} {kd t a n old x : Int} {log : List Acc} {s i j : Nat} {vn vl vn' vl' : Value}
theorem DocI.sz (h : DocI w W kd t a n old x log s i j vn vl) : w.heap.size + 1 + 1 + 1 ≤ W.heap.size := h.bx.cells.2.2.2.2.2
theorem DocI.below (h : DocI w W kd t a n old x log s i j vn vl) (hb : Below W.heap.size W W') : DocI w W' kd t a n old x log s i j vn vl :=
  ⟨h.bx.only (F := fun _ => False) (Only.of_below hb) (fun _ hx => hx.elim), h.rn.of_block fun k hk => hb.block k (h.rn.lt k hk).2, h.rl.of_block fun k hk => hb.block k (h.rl.lt k hk).2, h.ap, h.be.trans (hb.mono h.be.size)⟩
theorem DocI.alloc (h : DocI w W kd t a n old x log s i j vn vl) (o : Obj) : DocI w (W.alloc o) kd t a n old x log s i j vn vl := h.below ((Below.refl _ _).alloc1 _)
theorem DocI.more (h : DocI w W kd t a n old x log s i j vn vl) (os : Array Obj) (d : Nat) : DocI w (W.more os d) kd t a n old x log s i j vn vl := h.below ((Below.refl _ _).more1 _ _)
theorem DocI.drew (h : DocI w W kd t a n old x log s i j vn vl) : DocI w W.drew kd t a n old x log s i j vn vl := h.below ((Below.refl _ _).drew)
theorem DocI.stepN (h : DocI w W kd t a n old x log s i j vn vl) (hown : w1.RowV (w.heap.size + 1 + 1 + 1) 3 1 vn' (i + 1) (i64s (numsL log s i) ++ [.int .i64 ((s + i : Nat) : Int)])) (ho : RowOut W w1 vn vn' i 1) :
    DocI w (w1.setCell ⟨w.heap.size + 1 + 1, 1, none⟩ vn') kd t a n old x log s (i + 1) j vn' vl := by
  have hO := Only.out ho (F := fun k => w.heap.size + 1 + 1 + 1 ≤ k) (fun k hk => (h.rn.lt k hk).1)
  have k0 := box_only h.bx.h0 hO (by omega)
  have k1 := box_only h.bx.h1 hO (by omega)
  have k2 := box_only h.bx.h2 hO (by omega)
  have hl := h.rl.out ho (fun k hk e => h.ap k e hk)
  have nn : ∀ k, vn'.rowBlock = some k → vn.rowBlock = some k ∨ k = W.heap.size := fun k hk => ho.news hk
  refine ⟨⟨?_, ?_, by simp [World.setCell, Array.getElem?_modify, k2]⟩, ?_, hl.set (fun k hk e => by have := (h.rl.lt k hk).1; have e' : k = w.heap.size + 1 + 1 := e; omega) _, fun k hk e => ?_, (h.be.trans (hO.below (fun k hk => by omega) h.be.size)).setCell (by show w.heap.size ≤ w.heap.size + 1 + 1; omega) _⟩
  · rw [Below.heap_setCell _ _ _ _ (show w.heap.size ≠ w.heap.size + 1 + 1 by omega)]; exact k0
  · rw [Below.heap_setCell _ _ _ _ (show w.heap.size + 1 ≠ w.heap.size + 1 + 1 by omega)]; exact k1
  · rw [numsL_snoc] at hown
    exact hown.set (fun k hk e => by have := (hown.lt k hk).1; have e' : k = w.heap.size + 1 + 1 := e; omega) _
  · rcases nn k hk with h4 | h4
    · exact h.ap k h4 e
    · have := (h.rl.lt k e).2
      omega
theorem DocI.stepL (h : DocI w W kd t a n old x log s i j vn vl) (hown : w1.RowV (w.heap.size + 1 + 1 + 1) 45 7 vl' (j + 1) (accs (logL log s j) ++ (log.getD (s + j) default).cells)) (ho : RowOut W w1 vl vl' j 1) :
    DocI w (w1.setCell ⟨w.heap.size + 1 + 1, 3, none⟩ vl') kd t a n old x log s i (j + 1) vn vl' := by
  have hO := Only.out ho (F := fun k => w.heap.size + 1 + 1 + 1 ≤ k) (fun k hk => (h.rl.lt k hk).1)
  have k0 := box_only h.bx.h0 hO (by omega)
  have k1 := box_only h.bx.h1 hO (by omega)
  have k2 := box_only h.bx.h2 hO (by omega)
  have hl := h.rn.out ho (fun k hk e => h.ap k hk e)
  have nn : ∀ k, vl'.rowBlock = some k → vl.rowBlock = some k ∨ k = W.heap.size := fun k hk => ho.news hk
  refine ⟨⟨?_, ?_, by simp [World.setCell, Array.getElem?_modify, k2]⟩, hl.set (fun k hk e => by have := (h.rn.lt k hk).1; have e' : k = w.heap.size + 1 + 1 := e; omega) _, ?_, fun k hk e => ?_, (h.be.trans (hO.below (fun k hk => by omega) h.be.size)).setCell (by show w.heap.size ≤ w.heap.size + 1 + 1; omega) _⟩
  · rw [Below.heap_setCell _ _ _ _ (show w.heap.size ≠ w.heap.size + 1 + 1 by omega)]; exact k0
  · rw [Below.heap_setCell _ _ _ _ (show w.heap.size + 1 ≠ w.heap.size + 1 + 1 by omega)]; exact k1
  · rw [logL_snoc] at hown
    exact hown.set (fun k hk e => by have := (hown.lt k hk).1; have e' : k = w.heap.size + 1 + 1 := e; omega) _
  · rcases nn k e with h4 | h4
    · exact h.ap k hk h4
    · have := (h.rn.lt k hk).2
      omega
theorem DocI.cellsAfter (h : DocI w W kd t a n old x log s i j vn vl) {v v' : Value} {m : Nat} (ho : RowOut W w1 v v' m 1) (hv : ∀ k, v.rowBlock = some k → w.heap.size + 1 + 1 + 1 ≤ k) :
    w1.cell? ⟨w.heap.size + 1 + 1, 1, none⟩ = some vn ∧ w1.cell? ⟨w.heap.size + 1 + 1, 3, none⟩ = some vl ∧ (∀ j, w1.frozen? ⟨w.heap.size + 1 + 1, j, none⟩ = false) ∧ w.heap.size + 1 + 1 < w1.heap.size := by
  have hO := Only.out ho (F := fun k => w.heap.size + 1 + 1 + 1 ≤ k) hv
  have k2 := box_only h.bx.h2 hO (by omega)
  exact ⟨by simp [World.cell?, k2], by simp [World.cell?, k2], fun j => by simp [World.frozen?, k2], (Array.getElem?_eq_some_iff.1 k2).1⟩
/-- the answer, when all is gathered -/
theorem DocI.tell (h : DocI w W kd t a n old x log s i i vn vl) (hf : Only (AskF w) W W') :
    TellAt w.heap.size ⟨0, numsL log s i, [], logL log s i⟩ (.returned (.agg #[.int .i64 0, vn, .slice none 0 0, vl])) W' ∧ Below w.heap.size w W' := by
  refine ⟨⟨vn, _, vl, rfl, ?_, World.RowV_none _ _ _ _ _, ?_⟩, h.be.trans (hf.below (fun k hk => by rcases hk with hk | hk <;> omega) h.be.size)⟩
  · rw [numsL_len]
    exact ask_row h.rn hf (by omega)
  · rw [logL_len]
    exact ask_row h.rl hf (by omega)
end
end Go.Proofs.Ytpmadfokpimjcaa
