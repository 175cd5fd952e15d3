/-
machine.Machine: Run: what holds while the log is ranged over (RunI). Plain.
-/
import Derived.Test.YtbhbpfpggfcpgaaRunP
import Derived.Maps.OwnIn
namespace Go.Proofs.Ytbhbpfpggfcpgaa
open Go.ChangeShapes Go.WideShapes Go.ChangeAt Go.RowKit Go.Shelf

/-- the run's block and the row in it -/
def RunFoot (rb : Nat) (W : World) (k : Nat) : Prop := k = rb ∨ ∃ v, W.cell? ⟨rb, 1, none⟩ = some v ∧ v.rowBlock = some k
def ents (pre : List (Nat × Acc)) : List Value := accs (pre.map (·.2))
theorem ents_snoc (pre : List (Nat × Acc)) (x : Nat × Acc) : ents (pre ++ [x]) = ents pre ++ x.2.cells := by simp [ents, accs]

structure RunIV (W0 : World) (rb : Nat) (va vb vc : Value) (pre : List (Nat × Acc)) (vt : Value) (W : World) : Prop where
  bx : W.heap[rb]? = some (.cells #[va, vt, vb, vc] 41 (0, 0))
  rt : W.RowV W0.heap.size 66 7 vt pre.length (ents pre)
  on : Only (fun k => k = rb) W0 W
  lt : rb < W0.heap.size
def RunI (W0 : World) (rb : Nat) (va vb vc : Value) (pre : List (Nat × Acc)) (W : World) : Prop := ∃ vt, RunIV W0 rb va vb vc pre vt W

section
variable {W0 W : World} {rb : Nat} {va vb vc vt : Value} {pre : List (Nat × Acc)}
theorem rowCells {w : World} {H e s n : Nat} {v : Value} {xs : List Value} (hv : w.RowV H e s v n xs) {k : Nat} {o : Obj} (ho : w.heap[k]? = some o) (hc : o.isCells = false) : v.rowBlock ≠ some k := by
  intro hvk
  rcases hv.2 with ⟨oo, rfl, _⟩ | ⟨g, cap, cur, rfl, _, hgg, _, hcap, _⟩
  · cases oo <;> simp [Value.rowBlock] at hvk
  · simp [Value.rowBlock, Nat.ne_of_gt hcap] at hvk
    subst hvk
    rw [hgg] at ho
    cases ho
    cases hc
theorem RunIV.of_grown {W' : World} {row : Option Nat} (h : RunIV W0 rb va vb vc pre vt W) (hg : W.grownBy W' row) (hr : ∀ r, row = some r → W0.heap.size ≤ r ∧ ∃ o : Obj, W.heap[r]? = some o ∧ o.isCells = false) : RunIV W0 rb va vb vc pre vt W' := by
  have hlt := h.lt
  have hs := h.on.size
  refine ⟨?_, ?_, ⟨hg.os.trans h.on.os, hg.tape.trans h.on.tape, hg.output.trans h.on.output, Nat.le_trans hs hg.size, fun k hk hn => ?_⟩, h.lt⟩
  · rw [hg.block rb (by omega) (fun e => by have := (hr rb e.symm).1; omega)]
    exact h.bx
  · refine h.rt.of_block fun k hk => hg.block k (h.rt.lt k hk).2 (fun he => ?_)
    obtain ⟨_, o, ho, hc⟩ := hr k he.symm
    exact rowCells h.rt ho hc hk
  · rw [hg.block k (by omega) (fun e => by have := (hr k e.symm).1; omega)]
    exact h.on.block k hk hn
theorem RunI.ownFrom : OwnFrom W0.heap.size (RunI W0 rb va vb vc) := fun _pre _W _W' _row ⟨vt, h⟩ hg hr => ⟨vt, h.of_grown hg hr⟩

theorem RunIV.cell (h : RunIV W0 rb va vb vc pre vt W) : W.cell? ⟨rb, 1, none⟩ = some vt := by simp [World.cell?, h.bx]
theorem RunIV.facts (h : RunIV W0 rb va vb vc pre vt W) : W.cell? ⟨rb, 0, none⟩ = some va ∧ W.cell? ⟨rb, 1, none⟩ = some vt ∧ W.cell? ⟨rb, 2, none⟩ = some vb ∧ W.cell? ⟨rb, 3, none⟩ = some vc ∧ (∀ j, W.frozen? ⟨rb, j, none⟩ = false) ∧ rb < W.heap.size :=
  ⟨by simp [World.cell?, h.bx], h.cell, by simp [World.cell?, h.bx], by simp [World.cell?, h.bx], fun j => by simp [World.frozen?, h.bx], (Array.getElem?_eq_some_iff.1 h.bx).1⟩

theorem RunIV.step (h : RunIV W0 rb va vb vc pre vt W) (x : Nat × Acc) {w1 : World} {vt' : Value} {o1 : Obj}
    (hown : w1.RowV W0.heap.size 66 7 vt' (pre.length + 1) (ents pre ++ x.2.cells)) (ho : RowOut (W.alloc o1) w1 vt vt' pre.length 1) :
    RunIV W0 rb va vb vc (pre ++ [x]) vt' (w1.setCell ⟨rb, 1, none⟩ vt') ∧ LogKp (RunFoot rb) W (w1.setCell ⟨rb, 1, none⟩ vt') ∧ KeepsFrom W0.heap.size W (w1.setCell ⟨rb, 1, none⟩ vt') := by
  have hlt := h.lt
  have hs := h.on.size
  have s1 := ho.size
  have e1 : (W.alloc o1).heap.size = W.heap.size + 1 := by simp
  rw [e1] at s1
  have hvt := h.rt.lt
  have nn : ∀ k, vt'.rowBlock = some k → vt.rowBlock = some k ∨ k = W.heap.size + 1 := fun k hk => by have := ho.news hk; rwa [e1] at this
  have hfar : ∀ k, k < W.heap.size → k ≠ rb → vt.rowBlock ≠ some k → (w1.setCell ⟨rb, 1, none⟩ vt').heap[k]? = W.heap[k]? := by
    intro k hk k1 k2
    rw [Below.heap_setCell _ _ _ _ k1, ho.block (by rw [e1]; omega) k2, Below.heap_alloc _ _ _ hk]
  have hb1 : w1.heap[rb]? = some (.cells #[va, vt, vb, vc] 41 (0, 0)) := by
    rw [ho.block (by rw [e1]; omega) (fun e => by have := (hvt rb e).1; omega), Below.heap_alloc _ _ _ (by omega)]
    exact h.bx
  have hbE : (w1.setCell ⟨rb, 1, none⟩ vt').heap[rb]? = some (.cells #[va, vt', vb, vc] 41 (0, 0)) := by
    simp [World.setCell, Array.getElem?_modify, hb1]
  have hos : w1.os = W.os ∧ w1.tape = W.tape ∧ w1.output = W.output := by
    rcases ho with ⟨_, _, _, hg⟩ | ⟨_, _, hg⟩ <;> exact ⟨hg.os, hg.tape, hg.output⟩
  refine ⟨⟨hbE, ?_, ⟨hos.1.trans h.on.os, hos.2.1.trans h.on.tape, hos.2.2.trans h.on.output, by simp [World.setCell]; omega, fun k hk hn => ?_⟩, h.lt⟩, ⟨?_, ?_, ?_⟩, ⟨?_, ?_⟩⟩
  · rw [ents_snoc, List.length_append]
    exact hown.set (fun k hk e => by have := (hown.lt k hk).1; have e' : k = rb := e; omega) _
  · rw [hfar k (by omega) hn (fun e => by have := (hvt k e).1; omega)]
    exact h.on.block k hk hn
  · simp [World.setCell]; omega
  · intro k o ho' hc hn
    have hk := (Array.getElem?_eq_some_iff.1 ho').1
    rw [hfar k hk (fun e => hn (.inl e)) (fun e => hn (.inr ⟨vt, h.cell, e⟩))]
    exact ho'
  · rintro k (hk | ⟨u, hu, hk⟩)
    · exact .inl (.inl hk)
    · have : (w1.setCell ⟨rb, 1, none⟩ vt').cell? ⟨rb, 1, none⟩ = some vt' := by simp [World.cell?, hbE]
      rw [this] at hu
      cases hu
      rcases nn k hk with h3 | h3
      · exact .inl (.inr ⟨vt, h.cell, h3⟩)
      · exact .inr (by omega)
  · simp [World.setCell]; omega
  · intro k o hk ho' hc
    have hl := (Array.getElem?_eq_some_iff.1 ho').1
    rw [hfar k hl (by omega) (rowCells h.rt ho' hc)]
    exact ho'
end

theorem LogKp.alloc1 {rb : Nat} {W : World} (hn : rb < W.heap.size) (o : Obj) : LogKp (RunFoot rb) W (W.alloc o) := by
  have c : (W.alloc o).cell? ⟨rb, 1, none⟩ = W.cell? ⟨rb, 1, none⟩ := World.cell?_of_block (Below.heap_alloc _ _ _ hn)
  refine ⟨by simp, fun k o' ho _ _ => by rw [Below.heap_alloc _ _ _ (Array.getElem?_eq_some_iff.1 ho).1]; exact ho, fun k hk => .inl ?_⟩
  rcases hk with hk | ⟨v, hv, hk⟩
  · exact .inl hk
  · exact .inr ⟨v, by rw [← c]; exact hv, hk⟩
theorem LogKp.putObj1 {rb l : Nat} {W : World} (hn : rb ≠ l) (o o' : Obj) (ho : W.heap[l]? = some o) (hc : o.isCells = false) : LogKp (RunFoot rb) W (W.putObj l o') := by
  have c : (W.putObj l o').cell? ⟨rb, 1, none⟩ = W.cell? ⟨rb, 1, none⟩ := World.cell?_of_block (World.putObj_heap_other hn)
  refine ⟨by simp, fun k o2 h2 h3 _ => ?_, fun k hk => .inl ?_⟩
  · have hk : k ≠ l := fun e => by subst e; rw [ho] at h2; cases h2; rw [hc] at h3; cases h3
    rw [World.putObj_heap_other hk]
    exact h2
  · rcases hk with hk | ⟨v, hv, hk⟩
    · exact .inl hk
    · exact .inr ⟨v, by rw [← c]; exact hv, hk⟩
theorem grown_drew_put (W : World) (D : Nat) (o : Obj) : W.grownBy (W.drew.putObj D o) (some D) := by
  have h := grownBy_putObj' W.drew D o
  exact ⟨h.os, h.tape, h.output, h.size, h.block⟩
theorem boxA {w : World} {b : Nat} {a0 a1 a2 a3 a4 a5 a6 : Value} {t : TypeId} (h : w.heap[b]? = some (.cells #[a0, a1, a2, a3, a4, a5, a6] t (0, 0))) : w.cell? ⟨b, 0, none⟩ = some a0 ∧ w.cell? ⟨b, 1, none⟩ = some a1 ∧ w.cell? ⟨b, 2, none⟩ = some a2 ∧ w.cell? ⟨b, 3, none⟩ = some a3 ∧
    w.cell? ⟨b, 4, none⟩ = some a4 ∧ w.cell? ⟨b, 5, none⟩ = some a5 ∧ w.cell? ⟨b, 6, none⟩ = some a6 :=
  ⟨by simp [World.cell?, h], by simp [World.cell?, h], by simp [World.cell?, h], by simp [World.cell?, h], by simp [World.cell?, h], by simp [World.cell?, h], by simp [World.cell?, h]⟩

/-- the entries of a whole log -/
theorem items_all (log : List Acc) : (items log 0 log.length).map (·.2) = log := by
  unfold items
  simp only [Nat.sub_zero, List.map_map]
  apply List.ext_getElem?
  intro i
  simp only [List.getElem?_map]
  by_cases h : i < log.length
  · simp [h, List.getD]
  · simp [h]

/-- a run as data -/
structure RunS where
  calls : List Cal
  trace : List Acc
  shifts : List Shf
  words : List Int
structure RunVs where
  va : Value
  vt : Value
  vb : Value
  vc : Value
def RunVs.v (x : RunVs) : Value := .agg #[x.va, x.vt, x.vb, x.vc]
def RunVs.own (x : RunVs) (k : Nat) : Prop := x.va.rowBlock = some k ∨ x.vt.rowBlock = some k ∨ x.vb.rowBlock = some k ∨ x.vc.rowBlock = some k
/-- the rows of a run, each for itself -/
structure RunAt (w : World) (base : Nat) (x : RunVs) (r : RunS) : Prop where
  wa : w.RowV base 63 9 x.va r.calls.length (cals r.calls)
  wt : w.RowV base 66 7 x.vt r.trace.length (accs r.trace)
  wb : w.RowV base 132 5 x.vb r.shifts.length (shfs r.shifts)
  wc : w.RowV base 27 1 x.vc r.words.length (u64s r.words)
  at' : ∀ k, x.va.rowBlock = some k → x.vt.rowBlock ≠ some k
  ab : ∀ k, x.va.rowBlock = some k → x.vb.rowBlock ≠ some k
  ac : ∀ k, x.va.rowBlock = some k → x.vc.rowBlock ≠ some k
  tb : ∀ k, x.vt.rowBlock = some k → x.vb.rowBlock ≠ some k
  tc : ∀ k, x.vt.rowBlock = some k → x.vc.rowBlock ≠ some k
  bc : ∀ k, x.vb.rowBlock = some k → x.vc.rowBlock ≠ some k
theorem RunAt.lt {w : World} {base : Nat} {x : RunVs} {r : RunS} (h : RunAt w base x r) : ∀ k, x.own k → base ≤ k ∧ k < w.heap.size := by
  rintro k (e | e | e | e)
  · exact h.wa.lt k e
  · exact h.wt.lt k e
  · exact h.wb.lt k e
  · exact h.wc.lt k e
theorem RunAt.of_block {w w' : World} {base : Nat} {x : RunVs} {r : RunS} (h : RunAt w base x r) (hb : ∀ k, x.own k → w'.heap[k]? = w.heap[k]?) : RunAt w' base x r :=
  ⟨h.wa.of_block fun k hk => hb k (.inl hk), h.wt.of_block fun k hk => hb k (.inr (.inl hk)), h.wb.of_block fun k hk => hb k (.inr (.inr (.inl hk))), h.wc.of_block fun k hk => hb k (.inr (.inr (.inr hk))), h.at', h.ab, h.ac, h.tb, h.tc, h.bc⟩
theorem RunAt.base_mono {w : World} {base b' : Nat} {x : RunVs} {r : RunS} (h : RunAt w base x r) (hb : b' ≤ base) : RunAt w b' x r :=
  ⟨h.wa.base_mono hb, h.wt.base_mono hb, h.wb.base_mono hb, h.wc.base_mono hb, h.at', h.ab, h.ac, h.tb, h.tc, h.bc⟩
theorem RunAt.ne_row {W : World} {base : Nat} {x : RunVs} {r : RunS} (h : RunAt W base x r) {D : Nat} {o : Obj} (ho : W.heap[D]? = some o) (hc : o.isCells = false) : ¬ x.own D := by
  rintro (e | e | e | e)
  · exact rowCells h.wa ho hc e
  · exact rowCells h.wt ho hc e
  · exact rowCells h.wb ho hc e
  · exact rowCells h.wc ho hc e
theorem RunAt.left {w W W' : World} {base : Nat} {x : RunVs} {r : RunS} (h : RunAt W base x r) (hb : w.heap.size < base) (ho : Only (fun _ => False) w W) {D : Nat} (hD : W.heap[D]? = some (.deferred (some []))) (hDw : w.heap.size ≤ D)
    (hk : ∀ k, k ≠ w.heap.size → k ≠ D → W'.heap[k]? = W.heap[k]?) (hos : W'.os = W.os) (hta : W'.tape = W.tape) (hou : W'.output = W.output) (hsz : W.heap.size ≤ W'.heap.size) :
    RunAt W' w.heap.size x r ∧ Only (fun _ => False) w W' := by
  have hs := ho.size
  refine ⟨(h.of_block fun k hk' => hk k (by have := (h.lt k hk').1; omega) (fun e => by subst e; exact h.ne_row hD rfl hk')).base_mono (by omega), ⟨hos.trans ho.os, hta.trans ho.tape, hou.trans ho.output, by omega, fun k hl _ => ?_⟩⟩
  rw [hk k (by omega) (by omega), ho.block k hl (fun x => x)]
/-- what a call answers that makes a run -/
def RunRes (w : World) (r : RunS) (e : Ending) (w' : World) : Prop := ∃ x : RunVs, e = .returned x.v ∧ RunAt w' w.heap.size x r ∧ Only (fun _ => False) w w'

theorem RunSet.run {w W0 W : World} {cl : List Cal} {sl : List Shf} {wl : List Int} {rb : Nat} {va vb vc vt v0 : Value} {log : List Acc} {xs : List (Nat × Acc)} (hs : RunSet w cl sl wl W0 rb va vb vc v0) {W1 : World} (h1 : Below W0.heap.size W0 W1) (h : RunIV W1 rb va vb vc xs vt W) (hx : xs = items log 0 log.length) :
    RunAt W w.heap.size ⟨va, vt, vb, vc⟩ ⟨cl, log, sl, wl⟩ ∧ Only (fun _ => False) w W := by
  have hk : ∀ k, k < W0.heap.size → k ≠ rb → W.heap[k]? = W0.heap[k]? := fun k hk hn => by
    rw [h.on.block k (by have := h1.size; omega) hn, h1.block k hk]
  have hrow : ∀ {e s n : Nat} {v : Value} {xs : List Value}, W0.RowV w.heap.size e s v n xs → v.rowBlock ≠ some rb → W.RowV w.heap.size e s v n xs := fun hv hn =>
    hv.of_block fun k hk' => hk k (hv.lt k hk').2 (fun e => hn (by rw [hk', e]))
  have hne : ∀ {e s n : Nat} {v : Value} {xs : List Value}, W0.RowV w.heap.size e s v n xs → ∀ k, v.rowBlock = some k → vt.rowBlock ≠ some k := fun hv k hk' e => by
    have := (hv.lt k hk').2; have := (h.rt.lt k e).1; have := h1.size; omega
  have hlen : xs.length = log.length := by rw [hx, items_len]; omega
  refine ⟨⟨hrow hs.wa hs.xa, ?_, hrow hs.wb hs.xb, hrow hs.wc hs.xc, hne hs.wa, hs.ab, hs.ac, fun k e1 e2 => hne hs.wb k e2 e1, fun k e1 e2 => hne hs.wc k e2 e1, hs.bc⟩, ?_⟩
  · have := h.rt
    rw [hlen] at this
    unfold ents at this
    rw [hx, items_all] at this
    exact this.base_mono (by have := hs.on.size; have := h1.size; omega)
  · exact (hs.on.trans (⟨h1.os, h1.tape, h1.output, h1.size, fun k hk _ => h1.block k hk⟩ : Only (fun _ => False) W0 W1) (fun _ x => False.elim x)).trans h.on (fun i hi => .inr (by subst hi; exact hs.ge))

theorem wpListIn_append_row {F : Fence} {nF : Nat} {P : Program} (w : World) {ops : Array Oper} {rest : List Oper} {o : Oper} {a : Act} {Q : Exit → Act → World → Prop} (hgd : o.guard = none) (s x : Operand) (t : TypeId)
    (ho : o.op = .call { callee := .builtin .append, args := #[s, x], argTypes := #[t, t] })
    (base : Nat) (e : TypeId) (i : TypeInfo) (z : Value) (size bytes : Nat) (ht : P.underlying t = some (.slice e)) (hi : P.info? e = some i) (hz : i.zero = some z)
    (hsize : i.size = size) (hby : i.bytes = bytes) (hzs : z.cells.size = size)
    (v : Value) (n : Nat) (xs : List Value) (hs : a.eval s = v) (hown : w.RowV base e size v n xs)
    (vx : Value) (m : Nat) (news : List Value) (hx : a.eval x = vx) (hsrc : w.Src size vx m news) (h1 : ∀ u ∈ news, u.oneCell' = true)
    (h63 : n + m ≤ maxLen) (hbytes : ((n + m) + (n + m) / 4 + 192) * bytes ≤ 281474976710656) (hbase : base ≤ w.heap.size)
    (h : ∀ v' w', w'.RowV base e size v' (n + m) (xs ++ news) → RowOut w w' v v' n m → wpListIn F nF P ops Q rest (a.put o.dst v') w') :
    wpListIn F nF P ops Q (o :: rest) a w := by
  refine wpListIn_plain hgd fun K hK => ?_
  obtain ⟨v', w', hr, h2, h3⟩ := run_append_src (P := P) w base t o.type e i z size bytes ht hi hz hsize hby hzs v n xs hown vx m news hsrc h1 h63 hbytes hbase
  unfold Oper.wpIn
  refine ⟨by simp [Oper.about, ho, resolve, Target.leads, Sem.run_pure], ?_⟩
  rw [Oper.semAt_plain F _ _ (by rw [ho]; intro c hc'; cases hc')]
  simp [execOp, ho, resolve, invoke, builtin, hs, hx, hr, Result.andThen]
  exact hK _ _ (h v' w' h2 h3)

end Go.Proofs.Ytbhbpfpggfcpgaa
