/-
What the memory holds while reclaimlaw02.logged ranges over a log. Plain.
-/
import Derived.Test.YtpmadfokpimjcaaLogA
namespace Go.Proofs.Ytpmadfokpimjcaa
open Go.ChangeShapes Go.WideShapes Go.ChangeAt Go.RowKit Go.Shelf

/-- the two boxes and the rows that lie in them -/
def LogFoot (nb lb : Nat) (W : World) (k : Nat) : Prop :=
  k = nb ∨ k = lb ∨ (∃ v, W.cell? ⟨nb, 0, none⟩ = some v ∧ v.rowBlock = some k) ∨ (∃ v, W.cell? ⟨lb, 0, none⟩ = some v ∧ v.rowBlock = some k)

def nums (pre : List (Nat × Acc)) : List Value := pre.map fun x => .int .i64 (x.1 : Int)
def ents (pre : List (Nat × Acc)) : List Value := accs (pre.map (·.2))
theorem nums_snoc (pre : List (Nat × Acc)) (x : Nat × Acc) : nums (pre ++ [x]) = nums pre ++ [.int .i64 (x.1 : Int)] := by simp [nums]
theorem ents_snoc (pre : List (Nat × Acc)) (x : Nat × Acc) : ents (pre ++ [x]) = ents pre ++ x.2.cells := by simp [ents, accs]

structure LogIV (w : World) (H xb nb lb : Nat) (most : Int) (pre : List (Nat × Acc)) (vn vl : Value) (W : World) : Prop where
  bn : Boxed W nb 39 vn
  bl : Boxed W lb 40 vl
  bm : Boxed W xb 3 (.int .i64 most)
  rn : W.RowV H 3 1 vn pre.length (nums pre)
  rl : W.RowV H 45 7 vl pre.length (ents pre)
  ap : ∀ k, vn.rowBlock = some k → vl.rowBlock ≠ some k
  hb : Below w.heap.size w W
  hH : H ≤ W.heap.size
  mo : (pre.length : Int) ≤ most ∨ pre = []
  xn : w.heap.size ≤ xb ∧ w.heap.size ≤ nb ∧ w.heap.size ≤ lb ∧ xb < H ∧ nb < H ∧ lb < H ∧ nb ≠ lb ∧ xb ≠ nb ∧ xb ≠ lb
def LogI (w : World) (H xb nb lb : Nat) (most : Int) (pre : List (Nat × Acc)) (W : World) : Prop := ∃ vn vl, LogIV w H xb nb lb most pre vn vl W

section
variable {w W : World} {H xb nb lb : Nat} {most : Int} {pre : List (Nat × Acc)} {vn vl : Value}

theorem LogIV.of_grown {W' : World} {row : Option Nat} (h : LogIV w H xb nb lb most pre vn vl W) (hg : W.grownBy W' row) (hr : ∀ r, row = some r → H ≤ r ∧ ∃ o : Obj, W.heap[r]? = some o ∧ o.isCells = false) : LogIV w H xb nb lb most pre vn vl W' := by
  obtain ⟨x1, x2, x3, x4, x5, x6, x7, x8, x9⟩ := h.xn
  have hrow : ∀ (e size n : Nat) (v : Value) (xs : List Value), W.RowV H e size v n xs → W'.RowV H e size v n xs := by
    intro e size n v xs hv
    refine hv.of_block fun k hk => hg.block k (hv.lt k hk).2 (fun he => ?_)
    obtain ⟨_, o, ho, hc⟩ := hr k he.symm
    rcases hv.2 with ⟨oo, rfl, _⟩ | ⟨g, cap, cur, rfl, _, hgg, _, hcap, _⟩
    · cases oo <;> simp [Value.rowBlock] at hk
    · simp [Value.rowBlock, Nat.ne_of_gt hcap] at hk
      subst hk
      rw [hgg] at ho
      cases ho
      cases hc
  refine ⟨h.bn.kept hg (fun e => by have := (hr nb e.symm).1; omega), h.bl.kept hg (fun e => by have := (hr lb e.symm).1; omega), h.bm.kept hg (fun e => by have := (hr xb e.symm).1; omega),
    hrow _ _ _ _ _ h.rn, hrow _ _ _ _ _ h.rl, h.ap, ?_, Nat.le_trans h.hH hg.size, h.mo, h.xn⟩
  exact h.hb.grown hg h.hb.size (fun k e => by have := (hr k e).1; omega)
theorem LogI.ownFrom : OwnFrom H (LogI w H xb nb lb most) := fun _pre _W _W' _row ⟨vn, vl, h⟩ hg hr => ⟨vn, vl, h.of_grown hg hr⟩

theorem LogIV.step (h : LogIV w H xb nb lb most pre vn vl W) (x : Nat × Acc) (hm : (pre.length : Int) < most) {w1 w2 : World} {vn' vl' : Value} {o1 o2 : Obj}
    (hown1 : w1.RowV H 3 1 vn' (pre.length + 1) (nums pre ++ [.int .i64 (x.1 : Int)])) (ho1 : RowOut (W.alloc o1) w1 vn vn' pre.length 1)
    (hown2 : w2.RowV H 45 7 vl' (pre.length + 1) (ents pre ++ x.2.cells)) (ho2 : RowOut ((w1.setCell ⟨nb, 0, none⟩ vn').alloc o2) w2 vl vl' pre.length 1) :
    LogIV w H xb nb lb most (pre ++ [x]) vn' vl' (w2.setCell ⟨lb, 0, none⟩ vl') ∧ LogKp (LogFoot nb lb) W (w2.setCell ⟨lb, 0, none⟩ vl') ∧ KeepsFrom H W (w2.setCell ⟨lb, 0, none⟩ vl') := by
  obtain ⟨x1, x2, x3, x4, x5, x6, x7, x8, x9⟩ := h.xn
  have hH := h.hH
  have s1 := ho1.size
  have s2 := ho2.size
  have e1 : (W.alloc o1).heap.size = W.heap.size + 1 := by simp
  have e2 : ((w1.setCell ⟨nb, 0, none⟩ vn').alloc o2).heap.size = w1.heap.size + 1 := by simp [World.setCell]
  rw [e1] at s1
  rw [e2] at s2
  have hvn : ∀ k, vn.rowBlock = some k → H ≤ k ∧ k < W.heap.size := h.rn.lt
  have hvl : ∀ k, vl.rowBlock = some k → H ≤ k ∧ k < W.heap.size := h.rl.lt
  have nn : ∀ k, vn'.rowBlock = some k → vn.rowBlock = some k ∨ k = W.heap.size + 1 := fun k hk => by have := ho1.news hk; rwa [e1] at this
  have nl : ∀ k, vl'.rowBlock = some k → vl.rowBlock = some k ∨ k = w1.heap.size + 1 := fun k hk => by have := ho2.news hk; rwa [e2] at this
  -- a block of the first world that is neither box nor row stands in the last
  have hfar : ∀ k, k < W.heap.size → k ≠ nb → k ≠ lb → vn.rowBlock ≠ some k → vl.rowBlock ≠ some k → (w2.setCell ⟨lb, 0, none⟩ vl').heap[k]? = W.heap[k]? := by
    intro k hk k1 k2 k3 k4
    rw [Below.heap_setCell _ _ _ _ k2, ho2.block (by rw [e2]; omega) k4, Below.heap_alloc _ _ _ (by simp [World.setCell]; omega), Below.heap_setCell _ _ _ _ k1, ho1.block (by rw [e1]; omega) k3, Below.heap_alloc _ _ _ hk]
  have hnb1 : w1.heap[nb]? = some (.cells #[vn] 39 (0, 0)) := by
    rw [ho1.block (by rw [e1]; omega) (fun e => by have := (hvn nb e).1; omega), Below.heap_alloc _ _ _ (by omega)]
    exact h.bn
  have hlb1 : w1.heap[lb]? = some (.cells #[vl] 40 (0, 0)) := by
    rw [ho1.block (by rw [e1]; omega) (fun e => by have := (hvn lb e).1; omega), Below.heap_alloc _ _ _ (by omega)]
    exact h.bl
  have hnbE : Boxed (w2.setCell ⟨lb, 0, none⟩ vl') nb 39 vn' := by
    unfold Boxed
    rw [Below.heap_setCell _ _ _ _ (show nb ≠ lb from x7), ho2.block (by rw [e2]; omega) (fun e => by have := (hvl nb e).1; omega), Below.heap_alloc _ _ _ (by simp [World.setCell]; omega)]
    simp [World.setCell, Array.getElem?_modify, hnb1]
  have hlb2 : w2.heap[lb]? = some (.cells #[vl] 40 (0, 0)) := by
    rw [ho2.block (by rw [e2]; omega) (fun e => by have := (hvl lb e).1; omega), Below.heap_alloc _ _ _ (by simp [World.setCell]; omega), Below.heap_setCell _ _ _ _ (show lb ≠ nb from Ne.symm x7)]
    exact hlb1
  have hlbE : Boxed (w2.setCell ⟨lb, 0, none⟩ vl') lb 40 vl' := by
    unfold Boxed
    simp [World.setCell, Array.getElem?_modify, hlb2]
  have hcn : W.cell? ⟨nb, 0, none⟩ = some vn := h.bn.cell
  have hcl : W.cell? ⟨lb, 0, none⟩ = some vl := h.bl.cell
  have hrn2 : (w2.setCell ⟨lb, 0, none⟩ vl').RowV H 3 1 vn' (pre.length + 1) (nums pre ++ [.int .i64 (x.1 : Int)]) := by
    refine hown1.of_block fun k hk => ?_
    have hlt := hown1.lt k hk
    rw [Below.heap_setCell _ _ _ _ (show k ≠ lb by omega), ho2.block (by rw [e2]; omega) (fun e => ?_), Below.heap_alloc _ _ _ (by simp [World.setCell]; omega), Below.heap_setCell _ _ _ _ (show k ≠ nb by omega)]
    rcases nn k hk with h3 | h3
    · exact h.ap k h3 e
    · have := (hvl k e).2; omega
  have hrl2 : (w2.setCell ⟨lb, 0, none⟩ vl').RowV H 45 7 vl' (pre.length + 1) (ents pre ++ x.2.cells) :=
    hown2.set (fun k hk e => by have := (hown2.lt k hk).1; have e' : k = lb := e; omega) _
  refine ⟨⟨hnbE, hlbE, ?_, ?_, ?_, ?_, ?_, ?_, ?_, h.xn⟩, ⟨?_, ?_, ?_⟩, ⟨?_, ?_⟩⟩
  · unfold Boxed
    rw [hfar xb (by omega) x8 x9 (fun e => by have := (hvn xb e).1; omega) (fun e => by have := (hvl xb e).1; omega)]
    exact h.bm
  · rw [nums_snoc, List.length_append]
    exact hrn2
  · rw [ents_snoc, List.length_append]
    exact hrl2
  · intro k hk e
    rcases nn k hk with h3 | h3
    · rcases nl k e with h4 | h4
      · exact h.ap k h3 h4
      · have := (hvn k h3).2; omega
    · rcases nl k e with h4 | h4
      · have := (hvl k h4).2; omega
      · have := (hown1.lt k hk).2; omega
  · have hos1 : w1.os = W.os ∧ w1.tape = W.tape ∧ w1.output = W.output := by
      rcases ho1 with ⟨_, _, _, hg⟩ | ⟨_, _, hg⟩ <;> exact ⟨hg.os, hg.tape, hg.output⟩
    have hos2 : w2.os = w1.os ∧ w2.tape = w1.tape ∧ w2.output = w1.output := by
      rcases ho2 with ⟨_, _, _, hg⟩ | ⟨_, _, hg⟩ <;> exact ⟨hg.os, hg.tape, hg.output⟩
    exact ⟨(hos2.1.trans hos1.1).trans h.hb.os, (hos2.2.1.trans hos1.2.1).trans h.hb.tape, (hos2.2.2.trans hos1.2.2).trans h.hb.output, by have := h.hb.size; simp [World.setCell]; omega,
      fun k hk => by have := h.hb.size; exact (hfar k (by omega) (by omega) (by omega) (fun e => by have := (hvn k e).1; omega) (fun e => by have := (hvl k e).1; omega)).trans (h.hb.block k hk)⟩
  · simp [World.setCell]; omega
  · exact .inl (by simp; omega)
  · simp [World.setCell]; omega
  · intro k o ho hc hn
    have hk := (Array.getElem?_eq_some_iff.1 ho).1
    rw [hfar k hk (fun e => hn (.inl e)) (fun e => hn (.inr (.inl e))) (fun e => hn (.inr (.inr (.inl ⟨vn, hcn, e⟩)))) (fun e => hn (.inr (.inr (.inr ⟨vl, hcl, e⟩))))]
    exact ho
  · rintro k (hk | hk | ⟨u, hu, hk⟩ | ⟨u, hu, hk⟩)
    · exact .inl (.inl hk)
    · exact .inl (.inr (.inl hk))
    · rw [hnbE.cell] at hu
      cases hu
      rcases nn k hk with h3 | h3
      · exact .inl (.inr (.inr (.inl ⟨vn, hcn, h3⟩)))
      · exact .inr (by omega)
    · rw [hlbE.cell] at hu
      cases hu
      rcases nl k hk with h3 | h3
      · exact .inl (.inr (.inr (.inr ⟨vl, hcl, h3⟩)))
      · exact .inr (by omega)
  · simp [World.setCell]; omega
  · intro k o hk ho hc
    have hlt := (Array.getElem?_eq_some_iff.1 ho).1
    have hrow : ∀ (e size n : Nat) (v : Value) (xs : List Value), W.RowV H e size v n xs → v.rowBlock ≠ some k := by
      intro e size n v xs hv hvk
      rcases hv.2 with ⟨oo, rfl, _⟩ | ⟨g, cap, cur, rfl, _, hgg, _, hcap, _⟩
      · cases oo <;> simp [Value.rowBlock] at hvk
      · simp [Value.rowBlock, Nat.ne_of_gt hcap] at hvk
        subst hvk
        rw [hgg] at ho
        cases ho
        cases hc
    rw [hfar k hlt (by omega) (by omega) (hrow _ _ _ _ _ h.rn) (hrow _ _ _ _ _ h.rl)]
    exact ho

theorem boxF {w : World} {b : Nat} {v : Value} {t : TypeId} (h : w.heap[b]? = some (.cells #[v] t (0, 0))) : w.cell? ⟨b, 0, none⟩ = some v ∧ w.frozen? ⟨b, 0, none⟩ = false ∧ b < w.heap.size :=
  ⟨by simp [World.cell?, h], by simp [World.frozen?, h], (Array.getElem?_eq_some_iff.1 h).1⟩

theorem boxA {w : World} {b : Nat} {a0 a1 a2 a3 a4 a5 a6 : Value} {t : TypeId} (h : w.heap[b]? = some (.cells #[a0, a1, a2, a3, a4, a5, a6] t (0, 0))) : w.cell? ⟨b, 0, none⟩ = some a0 ∧ w.cell? ⟨b, 1, none⟩ = some a1 ∧ w.cell? ⟨b, 2, none⟩ = some a2 ∧ w.cell? ⟨b, 3, none⟩ = some a3 ∧
    w.cell? ⟨b, 4, none⟩ = some a4 ∧ w.cell? ⟨b, 5, none⟩ = some a5 ∧ w.cell? ⟨b, 6, none⟩ = some a6 :=
  ⟨by simp [World.cell?, h], by simp [World.cell?, h], by simp [World.cell?, h], by simp [World.cell?, h], by simp [World.cell?, h], by simp [World.cell?, h], by simp [World.cell?, h]⟩

theorem LogIV.mid (h : LogIV w H xb nb lb most pre vn vl W) {w1 : World} {vn' : Value} {o1 : Obj} (ho1 : RowOut (W.alloc o1) w1 vn vn' pre.length 1) {Bx : Nat} {cs : Array Value} (hB : W.heap[Bx]? = some (.cells cs 45 (0, 0))) :
    w1.heap[nb]? = some (.cells #[vn] 39 (0, 0)) ∧ w1.heap[lb]? = some (.cells #[vl] 40 (0, 0)) ∧ w1.heap[Bx]? = some (.cells cs 45 (0, 0)) ∧ nb < w1.heap.size ∧ lb < w1.heap.size := by
  obtain ⟨x1, x2, x3, x4, x5, x6, x7, x8, x9⟩ := h.xn
  have hH := h.hH
  have e1 : (W.alloc o1).heap.size = W.heap.size + 1 := by simp
  have s1 := ho1.size
  rw [e1] at s1
  have hvn : ∀ k, vn.rowBlock = some k → H ≤ k ∧ k < W.heap.size := h.rn.lt
  have hx := (Array.getElem?_eq_some_iff.1 hB).1
  refine ⟨?_, ?_, ?_, by omega, by omega⟩
  · rw [ho1.block (by rw [e1]; omega) (fun e => by have := (hvn nb e).1; omega), Below.heap_alloc _ _ _ (by omega)]
    exact h.bn
  · rw [ho1.block (by rw [e1]; omega) (fun e => by have := (hvn lb e).1; omega), Below.heap_alloc _ _ _ (by omega)]
    exact h.bl
  · rw [ho1.block (by rw [e1]; omega) (fun e => ?_), Below.heap_alloc _ _ _ hx]
    · exact hB
    · rcases h.rn.2 with ⟨oo, rfl, _⟩ | ⟨g, cap, cur, rfl, _, hgg, _, hcap, _⟩
      · cases oo <;> simp [Value.rowBlock] at e
      · simp [Value.rowBlock, Nat.ne_of_gt hcap] at e
        subst e
        rw [hgg] at hB
        simp at hB
end

theorem LogIV.row2 {w W w1 : World} {H xb nb lb : Nat} {most : Int} {pre : List (Nat × Acc)} {vn vl vn' : Value} {o1 : Obj} (h : LogIV w H xb nb lb most pre vn vl W) (ho1 : RowOut (W.alloc o1) w1 vn vn' pre.length 1) (o2 : Obj) (u : Value) :
    ((w1.setCell ⟨nb, 0, none⟩ u).alloc o2).RowV H 45 7 vl pre.length (ents pre) := by
  obtain ⟨x1, x2, x3, x4, x5, x6, x7, x8, x9⟩ := h.xn
  have h2 := (h.rl.alloc o1).out ho1 (fun k hk e => h.ap k e hk)
  exact (h2.set (p := ⟨nb, 0, none⟩) (fun k hk e => by have := (h.rl.lt k hk).1; have e' : k = nb := e; omega) u).alloc _
theorem LogIV.mid2 {w W w1 w2 : World} {H xb nb lb : Nat} {most : Int} {pre : List (Nat × Acc)} {vn vl vn' vl' u : Value} {o1 o2 : Obj} (h : LogIV w H xb nb lb most pre vn vl W) (ho1 : RowOut (W.alloc o1) w1 vn vn' pre.length 1)
    (ho2 : RowOut ((w1.setCell ⟨nb, 0, none⟩ u).alloc o2) w2 vl vl' pre.length 1) : w2.heap[lb]? = some (.cells #[vl] 40 (0, 0)) := by
  obtain ⟨x1, x2, x3, x4, x5, x6, x7, x8, x9⟩ := h.xn
  have hH := h.hH
  have e1 : (W.alloc o1).heap.size = W.heap.size + 1 := by simp
  have e2 : ((w1.setCell ⟨nb, 0, none⟩ u).alloc o2).heap.size = w1.heap.size + 1 := by simp [World.setCell]
  have s1 := ho1.size
  rw [e1] at s1
  have hvn : ∀ k, vn.rowBlock = some k → H ≤ k ∧ k < W.heap.size := h.rn.lt
  have hvl : ∀ k, vl.rowBlock = some k → H ≤ k ∧ k < W.heap.size := h.rl.lt
  rw [ho2.block (by rw [e2]; omega) (fun e => by have := (hvl lb e).1; omega), Below.heap_alloc _ _ _ (by simp [World.setCell]; omega), Below.heap_setCell _ _ _ _ (show lb ≠ nb from Ne.symm x7), ho1.block (by rw [e1]; omega) (fun e => by have := (hvn lb e).1; omega), Below.heap_alloc _ _ _ (by omega)]
  exact h.bl

theorem grown_drew_put (W : World) (D : Nat) (o : Obj) : W.grownBy (W.drew.putObj D o) (some D) := by
  have h := grownBy_putObj' W.drew D o
  exact ⟨h.os, h.tape, h.output, h.size, h.block⟩

/-- a round has broken off -/
def LogIx (w : World) (H xb nb lb : Nat) (most : Int) (c : Code) (ps : List (Nat × Acc)) (W : World) : Prop :=
  ∃ pre x, ps = pre ++ [x] ∧ c = .exit 0 ∧ LogI w H xb nb lb most pre W ∧ most ≤ (pre.length : Int)
/-- what logged answers -/
def Logged (w : World) (log : List Acc) (s : Nat) (most : Int) (e : Ending) (w' : World) : Prop :=
  ∃ on cn ol cl, e = .returned (.tuple #[.slice on (min (log.length - s) most.toNat) cn, .slice ol (min (log.length - s) most.toNat) cl, .bool true]) ∧
    w'.RowV w.heap.size 3 1 (.slice on (min (log.length - s) most.toNat) cn) (min (log.length - s) most.toNat) (nums (items log s (s + min (log.length - s) most.toNat))) ∧
    w'.RowV w.heap.size 45 7 (.slice ol (min (log.length - s) most.toNat) cl) (min (log.length - s) most.toNat) (ents (items log s (s + min (log.length - s) most.toNat))) ∧
    Below w.heap.size w w'


theorem items_cnt (log : List Acc) (s : Nat) : items log s (s + (log.length - s)) = items log s log.length := by
  unfold items
  rw [show s + (log.length - s) - s = log.length - s by omega]
theorem prefix_items {log : List Acc} {s : Nat} {pre : List (Nat × Acc)} (h : pre <+: items log s log.length) : pre = items log s (s + pre.length) := by
  have h1 := h.length_le
  rw [items_len] at h1
  by_cases h0 : pre.length = 0
  · rw [List.eq_nil_of_length_eq_zero h0]
    exact (items_none _ _ _ (by simp)).symm
  · have h2 := items_prefix log s (s + pre.length) log.length (by omega)
    have h3 := List.prefix_of_prefix_length_le h h2 (by rw [items_len]; omega)
    exact h3.eq_of_length (by rw [items_len]; omega)

theorem LogIV.logged {w W : World} {H xb nb lb : Nat} {most : Int} {pre : List (Nat × Acc)} {on ol : Option Addr} {cn cl : Nat} {log : List Acc} {s : Nat} (h : LogIV w H xb nb lb most pre (.slice on pre.length cn) (.slice ol pre.length cl) W)
    (hp : pre = items log s (s + pre.length)) (hc : min (log.length - s) most.toNat = pre.length) : Logged w log s most (.returned (.tuple #[.slice on pre.length cn, .slice ol pre.length cl, .bool true])) W := by
  obtain ⟨x1, x2, x3, x4, x5, x6, x7, x8, x9⟩ := h.xn
  unfold Logged
  rw [hc, ← hp]
  exact ⟨on, cn, ol, cl, rfl, h.rn.base_mono (by omega), h.rl.base_mono (by omega), h.hb⟩
theorem LogIV.logged_all {w W : World} {H xb nb lb : Nat} {most : Int} {pre : List (Nat × Acc)} {on ol : Option Addr} {cn cl : Nat} {log : List Acc} {s : Nat} (h : LogIV w H xb nb lb most pre (.slice on pre.length cn) (.slice ol pre.length cl) W)
    (hp : pre = items log s log.length) : Logged w log s most (.returned (.tuple #[.slice on pre.length cn, .slice ol pre.length cl, .bool true])) W := by
  have hl : pre.length = log.length - s := by rw [hp, items_len]
  refine h.logged (by rw [hl, items_cnt]; exact hp) ?_
  rcases h.mo with h1 | h1
  · omega
  · rw [h1] at hl ⊢
    simp at hl ⊢
    omega
theorem LogIV.logged_some {w W : World} {H xb nb lb : Nat} {most : Int} {pre : List (Nat × Acc)} {x : Nat × Acc} {on ol : Option Addr} {cn cl : Nat} {log : List Acc} {s : Nat} (h : LogIV w H xb nb lb most pre (.slice on pre.length cn) (.slice ol pre.length cl) W)
    (hp : pre ++ [x] <+: items log s log.length) (hm : most ≤ (pre.length : Int)) : Logged w log s most (.returned (.tuple #[.slice on pre.length cn, .slice ol pre.length cl, .bool true])) W := by
  have hl := hp.length_le
  rw [items_len, List.length_append, List.length_singleton] at hl
  refine h.logged (prefix_items (List.IsPrefix.trans (List.prefix_append _ _) hp)) ?_
  rcases h.mo with h1 | h1
  · omega
  · have : pre.length = 0 := by rw [h1]; rfl
    omega
end Go.Proofs.Ytpmadfokpimjcaa
