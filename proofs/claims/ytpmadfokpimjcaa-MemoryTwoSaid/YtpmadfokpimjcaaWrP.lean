/-
What the memory holds while memory.Writer ranges over a log. Plain.
-/
import Derived.Test.YtpmadfokpimjcaaLogP
import Derived.Test.YtpmadfokpimjcaaMemE
namespace Go.Proofs.Ytpmadfokpimjcaa
open Go.ChangeShapes Go.WideShapes Go.ChangeAt Go.RowKit Go.Shelf

/-- the last write of a word: thread and number -/
def lastS (ad : Int) (r : Int × Int) (x : Nat × Acc) : Int × Int := if x.2.ad = ad ∧ accWr x.2 = true then (x.2.th, (x.1 : Int)) else r
def lastW (ad : Int) (pre : List (Nat × Acc)) : Int × Int := pre.foldl (lastS ad) (-1, -1)
theorem lastW_snoc (ad : Int) (pre : List (Nat × Acc)) (x : Nat × Acc) : lastW ad (pre ++ [x]) = lastS ad (lastW ad pre) x := by simp [lastW]

def WrFoot (tb nb : Nat) (_ : World) (k : Nat) : Prop := k = tb ∨ k = nb

structure WrI (w : World) (H ab tb nb : Nat) (ad : Int) (pre : List (Nat × Acc)) (W : World) : Prop where
  ba : Boxed W ab 3 (.int .i64 ad)
  bt : Boxed W tb 3 (.int .i64 (lastW ad pre).1)
  bn : Boxed W nb 3 (.int .i64 (lastW ad pre).2)
  hb : Below w.heap.size w W
  hH : H ≤ W.heap.size
  xn : w.heap.size ≤ ab ∧ w.heap.size ≤ tb ∧ w.heap.size ≤ nb ∧ ab < H ∧ tb < H ∧ nb < H ∧ tb ≠ nb ∧ ab ≠ tb ∧ ab ≠ nb
section
variable {w W : World} {H ab tb nb : Nat} {ad : Int} {pre : List (Nat × Acc)}
theorem WrI.of_grown {W' : World} {row : Option Nat} (h : WrI w H ab tb nb ad pre W) (hg : W.grownBy W' row) (hr : ∀ r, row = some r → H ≤ r) : WrI w H ab tb nb ad pre W' := by
  obtain ⟨x1, x2, x3, x4, x5, x6, x7, x8, x9⟩ := h.xn
  refine ⟨h.ba.kept hg (fun e => by have := hr ab e.symm; omega), h.bt.kept hg (fun e => by have := hr tb e.symm; omega), h.bn.kept hg (fun e => by have := hr nb e.symm; omega), ?_, Nat.le_trans h.hH hg.size, h.xn⟩
  exact h.hb.grown hg h.hb.size (fun k e => by have := hr k e; omega)
theorem WrI.ownFrom : OwnFrom H (WrI w H ab tb nb ad) := fun _pre _W _W' _row h hg hr => h.of_grown hg (fun r e => (hr r e).1)
theorem WrI.skip (h : WrI w H ab tb nb ad pre W) {x : Nat × Acc} (hx : ¬ (x.2.ad = ad ∧ accWr x.2 = true)) : WrI w H ab tb nb ad (pre ++ [x]) W := by
  refine ⟨h.ba, ?_, ?_, h.hb, h.hH, h.xn⟩
  · rw [lastW_snoc]; unfold lastS; rw [if_neg hx]; exact h.bt
  · rw [lastW_snoc]; unfold lastS; rw [if_neg hx]; exact h.bn
theorem WrI.put (h : WrI w H ab tb nb ad pre W) {x : Nat × Acc} (hx : x.2.ad = ad ∧ accWr x.2 = true) :
    WrI w H ab tb nb ad (pre ++ [x]) ((W.setCell ⟨tb, 0, none⟩ (.int .i64 x.2.th)).setCell ⟨nb, 0, none⟩ (.int .i64 (x.1 : Int))) := by
  obtain ⟨x1, x2, x3, x4, x5, x6, x7, x8, x9⟩ := h.xn
  have ha := h.ba
  have ht := h.bt
  have hn := h.bn
  unfold Boxed at ha ht hn
  refine ⟨?_, ?_, ?_, (h.hb.setCell (p := ⟨tb, 0, none⟩) x2 _).setCell (p := ⟨nb, 0, none⟩) x3 _, by have := h.hH; simp [World.setCell]; omega, h.xn⟩
  · unfold Boxed
    rw [Below.heap_setCell _ _ _ _ (show ab ≠ nb from x9), Below.heap_setCell _ _ _ _ (show ab ≠ tb from x8)]
    exact ha
  · unfold Boxed
    rw [lastW_snoc, Below.heap_setCell _ _ _ _ (show tb ≠ nb from x7)]
    unfold lastS
    rw [if_pos hx]
    simp [World.setCell, Array.getElem?_modify, ht]
  · unfold Boxed
    rw [lastW_snoc]
    unfold lastS
    rw [if_pos hx]
    simp [World.setCell, Array.getElem?_modify, hn, x7]
theorem WrI.keepsPut (h : WrI w H ab tb nb ad pre W) (u v : Value) : KeepsFrom H W ((W.setCell ⟨tb, 0, none⟩ u).setCell ⟨nb, 0, none⟩ v) := by
  obtain ⟨x1, x2, x3, x4, x5, x6, x7, x8, x9⟩ := h.xn
  refine ⟨by simp [World.setCell], fun k o hk ho hc => ?_⟩
  rw [Below.heap_setCell _ _ _ _ (show k ≠ nb by omega), Below.heap_setCell _ _ _ _ (show k ≠ tb by omega)]
  exact ho
end
theorem LogKp.const {F : Nat → Prop} {A B : World} (hs : A.heap.size ≤ B.heap.size) (hb : ∀ k o, A.heap[k]? = some o → o.isCells = true → ¬ F k → B.heap[k]? = some o) : LogKp (fun _ => F) A B :=
  ⟨hs, hb, fun _ h => .inl h⟩
theorem WrKp.alloc {tb nb : Nat} (W : World) (o : Obj) : LogKp (WrFoot tb nb) W (W.alloc o) :=
  ⟨by simp, fun k o' ho _ _ => by rw [Below.heap_alloc _ _ _ (Array.getElem?_eq_some_iff.1 ho).1]; exact ho, fun _ h => .inl h⟩
theorem WrKp.refl {tb nb : Nat} (W : World) : LogKp (WrFoot tb nb) W W := ⟨Nat.le_refl _, fun _ _ ho _ _ => ho, fun _ h => .inl h⟩
theorem WrKp.put {tb nb : Nat} (W : World) (u v : Value) : LogKp (WrFoot tb nb) W ((W.setCell ⟨tb, 0, none⟩ u).setCell ⟨nb, 0, none⟩ v) :=
  ⟨by simp [World.setCell], fun k o ho _ hn => by
    rw [Below.heap_setCell _ _ _ _ (show k ≠ nb from fun e => hn (.inr e)), Below.heap_setCell _ _ _ _ (show k ≠ tb from fun e => hn (.inl e))]; exact ho, fun _ h => .inl h⟩
theorem WrKp.putObj {tb nb l : Nat} {W : World} (o o' : Obj) (ho : W.heap[l]? = some o) (hc : o.isCells = false) : LogKp (WrFoot tb nb) W (W.putObj l o') :=
  ⟨by simp, fun k o2 h2 h3 _ => by
    have hk : k ≠ l := fun e => by subst e; rw [ho] at h2; cases h2; rw [hc] at h3; cases h3
    rw [World.putObj_heap_other hk]
    exact h2, fun _ h => .inl h⟩
end Go.Proofs.Ytpmadfokpimjcaa
