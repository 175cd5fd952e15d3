/-
The document's memory (reclaimref02): where it lies. Plain.
-/
import Derived.Test.YtpmadfokpimjcaaMem
namespace Go
open Go.RowKit

structure RefV where
  vf : Value
  vn : Value
  vt : Value
def RefV.own (v : RefV) (rb k : Nat) : Prop := k = rb ∨ v.vf.rowBlock = some k ∨ v.vn.rowBlock = some k ∨ v.vt.rowBlock = some k
/-- the document's memory at rb: the first words l, the words now, the trace, the beat -/
structure RefAt (w : World) (base rb : Nat) (l : List Int) (st : MemS) (v : RefV) : Prop where
  blk : w.heap[rb]? = some (.cells #[v.vf, v.vn, v.vt, .int .i64 st.move] 72)
  ge : base ≤ rb
  rf : w.RowV base 23 1 v.vf l.length (u64s l)
  rn : w.RowV base 23 1 v.vn st.words.length (u64s st.words)
  rt : w.RowV base 45 7 v.vt st.log.length (accs st.log)
  m1 : v.vf.rowBlock ≠ some rb
  m2 : v.vn.rowBlock ≠ some rb
  m3 : v.vt.rowBlock ≠ some rb
  fn : ∀ k, v.vf.rowBlock = some k → v.vn.rowBlock ≠ some k
  ft : ∀ k, v.vf.rowBlock = some k → v.vt.rowBlock ≠ some k
  nt : ∀ k, v.vn.rowBlock = some k → v.vt.rowBlock ≠ some k
def RefOut (w : World) (base rb : Nat) (v : RefV) (l : List Int) (st' : MemS) (w' : World) : Prop :=
  ∃ v', RefAt w' base rb l st' v' ∧ Only (v.own rb) w w' ∧ ∀ k, v'.own rb k → v.own rb k ∨ w.heap.size ≤ k

section
variable {w w' w1 : World} {base rb : Nat} {l : List Int} {st : MemS} {v : RefV}
theorem RefAt.lt (h : RefAt w base rb l st v) : ∀ k, v.own rb k → base ≤ k ∧ k < w.heap.size := by
  rintro k (rfl | h1 | h1 | h1)
  · exact ⟨h.ge, (Array.getElem?_eq_some_iff.1 h.blk).1⟩
  · exact h.rf.lt k h1
  · exact h.rn.lt k h1
  · exact h.rt.lt k h1
theorem RefAt.of_block (h : RefAt w base rb l st v) (hb : ∀ k, v.own rb k → w'.heap[k]? = w.heap[k]?) : RefAt w' base rb l st v :=
  ⟨by rw [hb rb (.inl rfl)]; exact h.blk, h.ge, h.rf.of_block fun k hk => hb k (.inr (.inl hk)), h.rn.of_block fun k hk => hb k (.inr (.inr (.inl hk))), h.rt.of_block fun k hk => hb k (.inr (.inr (.inr hk))),
    h.m1, h.m2, h.m3, h.fn, h.ft, h.nt⟩
theorem RefAt.alloc (h : RefAt w base rb l st v) (o : Obj) : RefAt (w.alloc o) base rb l st v := h.of_block fun k hk => Below.heap_alloc _ _ _ (h.lt k hk).2
theorem RefAt.more (h : RefAt w base rb l st v) (os : Array Obj) (d : Nat) : RefAt (w.more os d) base rb l st v := h.of_block fun k hk => World.heap_more _ _ _ _ (h.lt k hk).2
theorem RefAt.drew (h : RefAt w base rb l st v) : RefAt w.drew base rb l st v := h.of_block fun _ _ => rfl
theorem RefAt.base_le (h : RefAt w base rb l st v) : base ≤ w.heap.size := by have := h.lt rb (.inl rfl); omega
theorem RefAt.base_mono {b' : Nat} (h : RefAt w base rb l st v) (hb : b' ≤ base) : RefAt w b' rb l st v :=
  ⟨h.blk, Nat.le_trans hb h.ge, h.rf.base_mono hb, h.rn.base_mono hb, h.rt.base_mono hb, h.m1, h.m2, h.m3, h.fn, h.ft, h.nt⟩
theorem RefAt.of_eq {st' : MemS} (h : RefAt w base rb l st v) (h1 : st'.words = st.words) (h2 : st'.log = st.log) (h3 : st'.move = st.move) : RefAt w base rb l st' v := by
  refine ⟨by rw [h3]; exact h.blk, h.ge, h.rf, by rw [h1]; exact h.rn, by rw [h2]; exact h.rt, h.m1, h.m2, h.m3, h.fn, h.ft, h.nt⟩
theorem RefOut.of_eq {st' st'' : MemS} (h : RefOut w base rb v l st' w') (h1 : st''.words = st'.words) (h2 : st''.log = st'.log) (h3 : st''.move = st'.move) : RefOut w base rb v l st'' w' := by
  obtain ⟨v', k1, k2, k3⟩ := h
  exact ⟨v', k1.of_eq h1 h2 h3, k2, k3⟩
theorem RefAt.slices (h : RefAt w base rb l st v) : ∃ ow cw ol cl oa ca, v = ⟨.slice ow l.length cw, .slice ol st.words.length cl, .slice oa st.log.length ca⟩ ∧ l.length ≤ cw ∧ st.words.length ≤ cl ∧ st.log.length ≤ ca ∧ cw ≤ 9223372036854775807 ∧ cl ≤ 9223372036854775807 ∧ ca ≤ 9223372036854775807 := by
  obtain ⟨o1, c1, e1, l1, m1⟩ := h.rf.form
  obtain ⟨o2, c2, e2, l2, m2⟩ := h.rn.form
  obtain ⟨o3, c3, e3, l3, m3⟩ := h.rt.form
  obtain ⟨v1, v2, v3⟩ := v
  simp only at e1 e2 e3
  subst e1; subst e2; subst e3
  unfold maxLen at m1 m2 m3
  exact ⟨o1, c1, o2, c2, o3, c3, rfl, l1, l2, l3, by omega, by omega, by omega⟩
theorem RefAt.head (h : RefAt w base rb l st v) : w.cell? ⟨rb, 0, none⟩ = some v.vf ∧ w.cell? ⟨rb, 1, none⟩ = some v.vn ∧ w.cell? ⟨rb, 2, none⟩ = some v.vt ∧ w.cell? ⟨rb, 3, none⟩ = some (.int .i64 st.move) ∧
    (∀ j, w.frozen? ⟨rb, j, none⟩ = false) ∧ rb < w.heap.size :=
  ⟨by simp [World.cell?, h.blk], by simp [World.cell?, h.blk], by simp [World.cell?, h.blk], by simp [World.cell?, h.blk], fun j => by simp [World.frozen?, h.blk], (Array.getElem?_eq_some_iff.1 h.blk).1⟩
theorem RowOut.headR {u u' : Value} {n m : Nat} (ho : RowOut w w1 u u' n m) (h : RefAt w base rb l st v) (hu : u.rowBlock ≠ some rb) : w1.cell? ⟨rb, 0, none⟩ = some v.vf ∧ w1.cell? ⟨rb, 1, none⟩ = some v.vn ∧ w1.cell? ⟨rb, 2, none⟩ = some v.vt ∧ w1.cell? ⟨rb, 3, none⟩ = some (.int .i64 st.move) ∧
    (∀ j, w1.frozen? ⟨rb, j, none⟩ = false) ∧ rb < w1.heap.size := by
  have hb : w1.heap[rb]? = some (.cells #[v.vf, v.vn, v.vt, .int .i64 st.move] 72) := by rw [ho.block h.head.2.2.2.2.2 hu]; exact h.blk
  exact ⟨by simp [World.cell?, hb], by simp [World.cell?, hb], by simp [World.cell?, hb], by simp [World.cell?, hb], fun j => by simp [World.frozen?, hb], (Array.getElem?_eq_some_iff.1 hb).1⟩
/-- m.Trace = append(m.Trace, x) -/
theorem RefAt.app (h : RefAt w base rb l st v) {v' : Value} {x : Acc} (hown : w1.RowV base 45 7 v' (st.log.length + 1) (accs st.log ++ x.cells)) (ho : RowOut w w1 v.vt v' st.log.length 1) :
    RefOut w base rb v l { st with log := st.log ++ [x] } (w1.setCell ⟨rb, 2, none⟩ v') := by
  have hn : ∀ k, v'.rowBlock = some k → v.vt.rowBlock = some k ∨ k = w.heap.size := fun k hk => ho.news hk
  have hlt := h.lt
  have hmb := h.lt rb (.inl rfl)
  have m3' : v'.rowBlock ≠ some rb := fun e => by rcases hn rb e with h1 | h1; exact h.m3 h1; omega
  have hf := h.rf.out ho (fun k hk => h.ft k hk)
  have hw := h.rn.out ho (fun k hk => h.nt k hk)
  have hblk : w1.heap[rb]? = some (.cells #[v.vf, v.vn, v.vt, .int .i64 st.move] 72) := by rw [ho.block hmb.2 h.m3]; exact h.blk
  refine ⟨{ v with vt := v' }, ⟨by simp [World.setCell, Array.getElem?_modify, hblk], h.ge, ?_, ?_, ?_, h.m1, h.m2, m3', h.fn, ?_, ?_⟩, ?_, ?_⟩
  · exact hf.set (fun k hk e => h.m1 (by rw [hk]; exact congrArg some e)) _
  · exact hw.set (fun k hk e => h.m2 (by rw [hk]; exact congrArg some e)) _
  · rw [accs_snoc, List.length_append]
    exact hown.set (fun k hk e => m3' (by rw [hk]; exact congrArg some e)) _
  · intro k hk e
    rcases hn k e with h1 | h1
    · exact h.ft k hk h1
    · have := (hlt k (.inr (.inl hk))).2; omega
  · intro k hk e
    rcases hn k e with h1 | h1
    · exact h.nt k hk h1
    · have := (hlt k (.inr (.inr (.inl hk)))).2; omega
  · exact (Only.out ho (fun k hk => .inr (.inr (.inr hk)))).set (.inl (.inl rfl)) _
  · rintro k (hk | hk | hk | hk)
    · exact .inl (.inl hk)
    · exact .inl (.inr (.inl hk))
    · exact .inl (.inr (.inr (.inl hk)))
    · rcases hn k hk with h1 | h1
      · exact .inl (.inr (.inr (.inr h1)))
      · exact .inr (by omega)
/-- a word is written -/
theorem RefAt.put (h : RefAt w base rb l st v) {g j : Nat} (hg : v.vn.rowBlock = some g) (hj : j < st.words.length) (x : Int) : RefAt (w.setCell ⟨g, j, none⟩ (.int .u64 x)) base rb l { st with words := st.words.set j x } v := by
  have hne : rb ≠ g := fun e => h.m2 (by rw [hg, e])
  refine ⟨?_, h.ge, h.rf.set (fun k hk e => h.fn k hk (by rw [hg]; exact congrArg some e.symm)) _, ?_, h.rt.set (fun k hk e => h.nt g hg (by rw [hk]; exact congrArg some e)) _, h.m1, h.m2, h.m3, h.fn, h.ft, h.nt⟩
  · rw [Below.heap_setCell _ _ _ _ (show rb ≠ g from hne)]
    exact h.blk
  · have := h.rn.put hg j (by omega) (.int .u64 x)
    simpa [u64s, List.map_set] using this
theorem RefAt.beat (h : RefAt w base rb l st v) (x : Int) : RefAt (w.setCell ⟨rb, 3, none⟩ (.int .i64 x)) base rb l { st with move := x } v := by
  have hb := h.blk
  exact ⟨by simp [World.setCell, Array.getElem?_modify, hb], h.ge, h.rf.set (fun k hk e => h.m1 (by rw [hk]; exact congrArg some e)) _, h.rn.set (fun k hk e => h.m2 (by rw [hk]; exact congrArg some e)) _, h.rt.set (fun k hk e => h.m3 (by rw [hk]; exact congrArg some e)) _,
    h.m1, h.m2, h.m3, h.fn, h.ft, h.nt⟩
/-- two steps -/
theorem RefOut.step {w0 : World} {v0 : RefV} {st' : MemS} (h2 : Only (v0.own rb) w0 w) (h3 : ∀ k, v.own rb k → v0.own rb k ∨ w0.heap.size ≤ k) (k : RefOut w base rb v l st' w') : RefOut w0 base rb v0 l st' w' := by
  obtain ⟨v', k1, k2, k3⟩ := k
  refine ⟨v', k1, h2.trans k2 h3, fun i hi => ?_⟩
  rcases k3 i hi with h4 | h4
  · exact h3 i h4
  · have := h2.size
    exact .inr (by omega)
end
end Go
