/-
The memory as data, and where it lies in the heap (MemIs). What a call may touch (Only).
-/
import Derived.Test.YtbhbpfpggfcpgaaRow
import Derived.Test.YtbhbpfpggfcpgaaCells
namespace Go
open Go.RowKit

/-- below the heap's size w' is as w was, but for the blocks of F -/
structure Only (F : Nat → Prop) (w w' : World) : Prop where
  os : w'.os = w.os
  tape : w'.tape = w.tape
  output : w'.output = w.output
  size : w.heap.size ≤ w'.heap.size
  block : ∀ k, k < w.heap.size → ¬ F k → w'.heap[k]? = w.heap[k]?

section
variable {F G : Nat → Prop} {a b c w w' : World}
theorem Only.refl (F : Nat → Prop) (w : World) : Only F w w := ⟨rfl, rfl, rfl, Nat.le_refl _, fun _ _ _ => rfl⟩
theorem Only.mono (h : Only F a b) (hG : ∀ k, k < a.heap.size → F k → G k) : Only G a b := ⟨h.os, h.tape, h.output, h.size, fun k hk hn => h.block k hk fun hf => hn (hG k hk hf)⟩
/-- two steps: what the second touches beyond the first's is new -/
theorem Only.trans (h : Only F a b) (k : Only G b c) (hG : ∀ i, G i → F i ∨ a.heap.size ≤ i) : Only F a c :=
  ⟨k.os.trans h.os, k.tape.trans h.tape, k.output.trans h.output, Nat.le_trans h.size k.size, fun i hi hn =>
    (k.block i (Nat.lt_of_lt_of_le hi h.size) (fun hg => by rcases hG i hg with h1 | h1; exact hn h1; omega)).trans (h.block i hi hn)⟩
theorem Only.more (h : Only F a b) (os : Array Obj) (d : Nat) : Only F a (b.more os d) :=
  h.trans (G := fun _ => False) ⟨rfl, rfl, rfl, by simp [World.more], fun k hk _ => World.heap_more _ _ _ _ hk⟩ (fun _ h => h.elim)
theorem Only.alloc (h : Only F a b) (o : Obj) : Only F a (b.alloc o) :=
  h.trans (G := fun _ => False) ⟨rfl, rfl, rfl, by simp, fun k hk _ => Below.heap_alloc _ _ _ hk⟩ (fun _ h => h.elim)
theorem Only.drew (h : Only F a b) : Only F a b.drew := ⟨h.os, h.tape, h.output, h.size, h.block⟩
theorem Only.set (h : Only F a b) {p : Addr} (hp : F p.block ∨ a.heap.size ≤ p.block) (u : Value) : Only F a (b.setCell p u) :=
  h.trans (G := fun k => k = p.block) ⟨rfl, rfl, rfl, by simp [World.setCell], fun k _ hn => Below.heap_setCell _ _ _ _ hn⟩ (fun i hi => by subst hi; exact hp)
theorem Only.grown (h : Only F a b) {row : Option Nat} (hg : b.grownBy c row) (hr : ∀ k, row = some k → F k ∨ a.heap.size ≤ k) : Only F a c :=
  h.trans (G := fun k => row = some k) ⟨hg.os, hg.tape, hg.output, hg.size, fun k hk hn => hg.block k hk (fun e => hn e.symm)⟩ hr
theorem Only.of_below (h : Below a.heap.size a b) : Only F a b := ⟨h.os, h.tape, h.output, h.size, fun k hk _ => h.block k hk⟩
theorem Only.below (h : Only F a b) {B : Nat} (hB : ∀ k, F k → B ≤ k) (hs : B ≤ a.heap.size) : Below B a b :=
  ⟨h.os, h.tape, h.output, h.size, fun k hk => h.block k (by omega) (fun hf => by have := hB k hf; omega)⟩
theorem Only.more_eq (h : Only (fun _ => False) a b) : ∃ os d, b = a.more os d := RowKit.Below.more ⟨h.os, h.tape, h.output, h.size, fun k hk => h.block k hk (fun x => x)⟩
/-- a block that is not touched: its cells, as two rules for the walk -/
theorem Only.cells (h : Only F a b) {x : Nat} (hx : x < a.heap.size) (hn : ¬ F x) : (∀ o, b.cell? ⟨x, o, none⟩ = a.cell? ⟨x, o, none⟩) ∧ (∀ o, b.frozen? ⟨x, o, none⟩ = a.frozen? ⟨x, o, none⟩) :=
  ⟨fun _ => World.cell?_of_block (h.block x hx hn), fun _ => World.frozen?_of_block (h.block x hx hn)⟩
theorem Only.cellAt (h : Only F a b) {p : Addr} (hx : p.block < a.heap.size) (hn : ¬ F p.block) : b.cell? p = a.cell? p := World.cell?_of_block (h.block _ hx hn)
end

/-- an access -/
structure Acc where
  mv : Int
  th : Int
  kd : Int
  ad : Int
  old : Int
  nw : Int
  saw : Int
deriving DecidableEq
def Acc.cells (a : Acc) : List Value := [.int .i64 a.mv, .int .i64 a.th, .int .i64 a.kd, .int .i64 a.ad, .int .u64 a.old, .int .u64 a.nw, .int .u64 a.saw]
def u64s (l : List Int) : List Value := l.map (Value.int .u64)
def accs (l : List Acc) : List Value := l.flatMap Acc.cells

/-- a memory: its words, its log, what stood ahead of each access, the move's number -/
structure MemS where
  words : List Int
  log : List Acc
  ahead : List Int
  move : Int

/-- the memory's four slots -/
structure MemV where
  vw : Value
  vl : Value
  va : Value

/-- the blocks of a memory -/
def MemV.own (v : MemV) (mb k : Nat) : Prop := k = mb ∨ v.vw.rowBlock = some k ∨ v.vl.rowBlock = some k ∨ v.va.rowBlock = some k

structure MemAt (w : World) (base mb : Nat) (st : MemS) (v : MemV) : Prop where
  blk : w.heap[mb]? = some (.cells #[v.vw, v.vl, v.va, .int .i64 st.move] 158)
  ge : base ≤ mb
  rw : w.RowV base 27 1 v.vw st.words.length (u64s st.words)
  rl : w.RowV base 66 7 v.vl st.log.length (accs st.log)
  ra : w.RowV base 27 1 v.va st.ahead.length (u64s st.ahead)
  m1 : v.vw.rowBlock ≠ some mb
  m2 : v.vl.rowBlock ≠ some mb
  m3 : v.va.rowBlock ≠ some mb
  wl : ∀ k, v.vw.rowBlock = some k → v.vl.rowBlock ≠ some k
  wa : ∀ k, v.vw.rowBlock = some k → v.va.rowBlock ≠ some k
  la : ∀ k, v.vl.rowBlock = some k → v.va.rowBlock ≠ some k

section
variable {w w' : World} {base mb : Nat} {st : MemS} {v : MemV}
theorem MemAt.lt (h : MemAt w base mb st v) : ∀ k, v.own mb k → base ≤ k ∧ k < w.heap.size := by
  rintro k (rfl | h1 | h1 | h1)
  · exact ⟨h.ge, (Array.getElem?_eq_some_iff.1 h.blk).1⟩
  · exact h.rw.lt k h1
  · exact h.rl.lt k h1
  · exact h.ra.lt k h1
theorem MemAt.of_block (h : MemAt w base mb st v) (hb : ∀ k, v.own mb k → w'.heap[k]? = w.heap[k]?) : MemAt w' base mb st v :=
  ⟨by rw [hb mb (.inl rfl)]; exact h.blk, h.ge, h.rw.of_block fun k hk => hb k (.inr (.inl hk)), h.rl.of_block fun k hk => hb k (.inr (.inr (.inl hk))), h.ra.of_block fun k hk => hb k (.inr (.inr (.inr hk))),
    h.m1, h.m2, h.m3, h.wl, h.wa, h.la⟩
theorem MemAt.more (h : MemAt w base mb st v) (os : Array Obj) (d : Nat) : MemAt (w.more os d) base mb st v := h.of_block fun k hk => World.heap_more _ _ _ _ (h.lt k hk).2
theorem MemAt.alloc (h : MemAt w base mb st v) (o : Obj) : MemAt (w.alloc o) base mb st v := h.of_block fun k hk => Below.heap_alloc _ _ _ (h.lt k hk).2
theorem MemAt.set_other (h : MemAt w base mb st v) {p : Addr} (hp : ¬ v.own mb p.block) (u : Value) : MemAt (w.setCell p u) base mb st v :=
  h.of_block fun _k hk => Below.heap_setCell _ _ _ _ (fun e => hp (e ▸ hk))
theorem MemAt.only {F : Nat → Prop} (h : MemAt w base mb st v) (ho : Only F w w') (hF : ∀ k, v.own mb k → ¬ F k) : MemAt w' base mb st v :=
  h.of_block fun k hk => ho.block k (h.lt k hk).2 (hF k hk)
theorem MemAt.slices (h : MemAt w base mb st v) : ∃ ow cw ol cl oa ca, v = ⟨.slice ow st.words.length cw, .slice ol st.log.length cl, .slice oa st.ahead.length ca⟩ ∧ st.words.length ≤ cw ∧ st.log.length ≤ cl ∧ st.ahead.length ≤ ca ∧ cw ≤ 9223372036854775807 ∧ cl ≤ 9223372036854775807 ∧ ca ≤ 9223372036854775807 := by
  obtain ⟨o1, c1, e1, l1, m1⟩ := h.rw.form
  obtain ⟨o2, c2, e2, l2, m2⟩ := h.rl.form
  obtain ⟨o3, c3, e3, l3, m3⟩ := h.ra.form
  obtain ⟨v1, v2, v3⟩ := v
  simp only at e1 e2 e3
  subst e1; subst e2; subst e3
  unfold maxLen at m1 m2 m3
  exact ⟨o1, c1, o2, c2, o3, c3, rfl, l1, l2, l3, by omega, by omega, by omega⟩
theorem MemAt.head (h : MemAt w base mb st v) : w.cell? ⟨mb, 0, none⟩ = some v.vw ∧ w.cell? ⟨mb, 1, none⟩ = some v.vl ∧ w.cell? ⟨mb, 2, none⟩ = some v.va ∧ w.cell? ⟨mb, 3, none⟩ = some (.int .i64 st.move) ∧
    (∀ j, w.frozen? ⟨mb, j, none⟩ = false) ∧ mb < w.heap.size :=
  ⟨by simp [World.cell?, h.blk], by simp [World.cell?, h.blk], by simp [World.cell?, h.blk], by simp [World.cell?, h.blk], fun j => by simp [World.frozen?, h.blk], (Array.getElem?_eq_some_iff.1 h.blk).1⟩
/-- a new slot in the head -/
theorem MemAt.put {st' : MemS} {v' : MemV} (h : MemAt w base mb st v) {j : Nat} {u : Value} (hcs : (#[v.vw, v.vl, v.va, .int .i64 st.move] : Array Value).setIfInBounds j u = #[v'.vw, v'.vl, v'.va, .int .i64 st'.move])
    (rw' : (w.setCell ⟨mb, j, none⟩ u).RowV base 27 1 v'.vw st'.words.length (u64s st'.words))
    (rl' : (w.setCell ⟨mb, j, none⟩ u).RowV base 66 7 v'.vl st'.log.length (accs st'.log)) (ra' : (w.setCell ⟨mb, j, none⟩ u).RowV base 27 1 v'.va st'.ahead.length (u64s st'.ahead))
    (m1 : v'.vw.rowBlock ≠ some mb) (m2 : v'.vl.rowBlock ≠ some mb) (m3 : v'.va.rowBlock ≠ some mb)
    (wl : ∀ k, v'.vw.rowBlock = some k → v'.vl.rowBlock ≠ some k) (wa : ∀ k, v'.vw.rowBlock = some k → v'.va.rowBlock ≠ some k) (la : ∀ k, v'.vl.rowBlock = some k → v'.va.rowBlock ≠ some k) : MemAt (w.setCell ⟨mb, j, none⟩ u) base mb st' v' :=
  ⟨by simp [World.setCell, Array.getElem?_modify, h.blk, hcs], h.ge, rw', rl', ra', m1, m2, m3, wl, wa, la⟩
theorem MemAt.base_le (h : MemAt w base mb st v) : base ≤ w.heap.size := by have := h.lt mb (.inl rfl); omega
end

/-- what a call leaves: the memory as st', and nothing else of the old is touched -/
def MemOut (w : World) (base mb : Nat) (v : MemV) (st' : MemS) (w' : World) : Prop :=
  ∃ v', MemAt w' base mb st' v' ∧ Only (v.own mb) w w' ∧ ∀ k, v'.own mb k → v.own mb k ∨ w.heap.size ≤ k

def MemS.note (st : MemS) (a : Acc) (ahd : Int) : MemS := { st with log := st.log ++ [{ a with mv := st.move }], ahead := st.ahead ++ [ahd] }
def MemS.at (st : MemS) (a : Nat) : Int := st.words.getD a 0
def MemS.load (st : MemS) (th : Int) (a : Nat) : MemS := st.note ⟨0, th, 1, a, 0, 0, st.at a⟩ (st.at a)
def MemS.store (st : MemS) (th : Int) (a : Nat) (x : Int) : MemS := { st.note ⟨0, th, 2, a, 0, x, 0⟩ (st.at a) with words := st.words.set a x }
def MemS.swap (st : MemS) (th : Int) (a : Nat) (o x : Int) : MemS := if st.at a = o then { st.note ⟨0, th, 3, a, o, x, st.at a⟩ (st.at a) with words := st.words.set a x } else st.note ⟨0, th, 3, a, o, x, st.at a⟩ (st.at a)

theorem Only.out {w w' : World} {v v' : Value} {n m : Nat} {F : Nat → Prop} (h : RowOut w w' v v' n m) (hF : ∀ k, v.rowBlock = some k → F k) : Only F w w' := by
  rcases h with ⟨_, _, _, hg⟩ | ⟨_, _, hg⟩
  · exact (Only.refl _ _).grown hg (fun k hk => .inl (hF k hk))
  · exact (Only.refl _ _).grown hg (fun k hk => by cases hk)

section
variable {w w1 : World} {base mb : Nat} {st : MemS} {v : MemV}
theorem MemAt.drew (h : MemAt w base mb st v) : MemAt w.drew base mb st v := h.of_block fun _ _ => rfl

theorem RowOut.head {u u' : Value} {n m : Nat} (ho : RowOut w w1 u u' n m) (h : MemAt w base mb st v) (hu : u.rowBlock ≠ some mb) : w1.cell? ⟨mb, 0, none⟩ = some v.vw ∧ w1.cell? ⟨mb, 1, none⟩ = some v.vl ∧ w1.cell? ⟨mb, 2, none⟩ = some v.va ∧ w1.cell? ⟨mb, 3, none⟩ = some (.int .i64 st.move) ∧
    (∀ j, w1.frozen? ⟨mb, j, none⟩ = false) ∧ mb < w1.heap.size := by
  have hb : w1.heap[mb]? = some (.cells #[v.vw, v.vl, v.va, .int .i64 st.move] 158) := by rw [ho.block h.head.2.2.2.2.2 hu]; exact h.blk
  exact ⟨by simp [World.cell?, hb], by simp [World.cell?, hb], by simp [World.cell?, hb], by simp [World.cell?, hb], fun j => by simp [World.frozen?, hb], (Array.getElem?_eq_some_iff.1 hb).1⟩

theorem accs_snoc (l : List Acc) (x : Acc) : accs (l ++ [x]) = accs l ++ x.cells := by simp [accs]
theorem u64s_snoc (l : List Int) (x : Int) : u64s (l ++ [x]) = u64s l ++ [.int .u64 x] := by simp [u64s]

/-- m.log = append(m.log, x) -/
theorem MemAt.app_log (h : MemAt w base mb st v) {v' : Value} {x : Acc} (hown : w1.RowV base 66 7 v' (st.log.length + 1) (accs st.log ++ x.cells)) (ho : RowOut w w1 v.vl v' st.log.length 1) :
    MemOut w base mb v { st with log := st.log ++ [x] } (w1.setCell ⟨mb, 1, none⟩ v') := by
  have hn : ∀ k, v'.rowBlock = some k → v.vl.rowBlock = some k ∨ k = w.heap.size := fun k hk => ho.news hk
  have hlt := h.lt
  have hmb := h.lt mb (.inl rfl)
  have m2' : v'.rowBlock ≠ some mb := fun e => by rcases hn mb e with h1 | h1; exact h.m2 h1; omega
  have hw := h.rw.out ho (fun k hk => h.wl k hk)
  have ha := h.ra.out ho (fun k hk => fun e => h.la k e hk)
  have hblk : w1.heap[mb]? = some (.cells #[v.vw, v.vl, v.va, .int .i64 st.move] 158) := by rw [ho.block hmb.2 h.m2]; exact h.blk
  refine ⟨{ v with vl := v' }, ⟨by simp [World.setCell, Array.getElem?_modify, hblk], h.ge, ?_, ?_, ?_, h.m1, m2', h.m3, ?_, h.wa, ?_⟩, ?_, ?_⟩
  · exact hw.set (fun k hk e => h.m1 (by rw [hk]; exact congrArg some e)) _
  · rw [accs_snoc, List.length_append]
    exact hown.set (fun k hk e => m2' (by rw [hk]; exact congrArg some e)) _
  · exact ha.set (fun k hk e => h.m3 (by rw [hk]; exact congrArg some e)) _
  · intro k hk e
    rcases hn k e with h1 | h1
    · exact h.wl k hk h1
    · have := (hlt k (.inr (.inl hk))).2; omega
  · intro k hk e
    rcases hn k hk with h1 | h1
    · exact h.la k h1 e
    · have := (hlt k (.inr (.inr (.inr e)))).2; omega
  · exact (Only.out ho (fun k hk => .inr (.inr (.inl hk)))).set (.inl (.inl rfl)) _
  · rintro k (hk | hk | hk | hk)
    · exact .inl (.inl hk)
    · exact .inl (.inr (.inl hk))
    · rcases hn k hk with h1 | h1
      · exact .inl (.inr (.inr (.inl h1)))
      · exact .inr (by omega)
    · exact .inl (.inr (.inr (.inr hk)))

/-- m.ahead = append(m.ahead, x) -/
theorem MemAt.app_ahead (h : MemAt w base mb st v) {v' : Value} {x : Int} (hown : w1.RowV base 27 1 v' (st.ahead.length + 1) (u64s st.ahead ++ [.int .u64 x])) (ho : RowOut w w1 v.va v' st.ahead.length 1) :
    MemOut w base mb v { st with ahead := st.ahead ++ [x] } (w1.setCell ⟨mb, 2, none⟩ v') := by
  have hn : ∀ k, v'.rowBlock = some k → v.va.rowBlock = some k ∨ k = w.heap.size := fun k hk => ho.news hk
  have hlt := h.lt
  have hmb := h.lt mb (.inl rfl)
  have m3' : v'.rowBlock ≠ some mb := fun e => by rcases hn mb e with h1 | h1; exact h.m3 h1; omega
  have hw := h.rw.out ho (fun k hk => h.wa k hk)
  have hl := h.rl.out ho (fun k hk => h.la k hk)
  have hblk : w1.heap[mb]? = some (.cells #[v.vw, v.vl, v.va, .int .i64 st.move] 158) := by rw [ho.block hmb.2 h.m3]; exact h.blk
  refine ⟨{ v with va := v' }, ⟨by simp [World.setCell, Array.getElem?_modify, hblk], h.ge, ?_, ?_, ?_, h.m1, h.m2, m3', h.wl, ?_, ?_⟩, ?_, ?_⟩
  · exact hw.set (fun k hk e => h.m1 (by rw [hk]; exact congrArg some e)) _
  · exact hl.set (fun k hk e => h.m2 (by rw [hk]; exact congrArg some e)) _
  · rw [u64s_snoc, List.length_append]
    exact hown.set (fun k hk e => m3' (by rw [hk]; exact congrArg some e)) _
  · intro k hk e
    rcases hn k e with h1 | h1
    · exact h.wa k hk h1
    · have := (hlt k (.inr (.inl hk))).2; omega
  · intro k hk e
    rcases hn k e with h1 | h1
    · exact h.la k hk h1
    · have := (hlt k (.inr (.inr (.inl hk)))).2; omega
  · exact (Only.out ho (fun k hk => .inr (.inr (.inr hk)))).set (.inl (.inl rfl)) _
  · rintro k (hk | hk | hk | hk)
    · exact .inl (.inl hk)
    · exact .inl (.inr (.inl hk))
    · exact .inl (.inr (.inr (.inl hk)))
    · rcases hn k hk with h1 | h1
      · exact .inl (.inr (.inr (.inr h1)))
      · exact .inr (by omega)

/-- two steps, with new blocks ahead of each -/
theorem MemOut.trans {w0 : World} {v0 : MemV} {st1 st2 : MemS} (h : MemOut w0 base mb v0 st1 w) (k : ∀ v1, MemAt w base mb st1 v1 → MemOut w base mb v1 st2 w1) : MemOut w0 base mb v0 st2 w1 := by
  obtain ⟨v1, h1, h2, h3⟩ := h
  obtain ⟨v2, k1, k2, k3⟩ := k v1 h1
  refine ⟨v2, k1, h2.trans k2 h3, fun i hi => ?_⟩
  rcases k3 i hi with h4 | h4
  · exact h3 i h4
  · have := h2.size; exact .inr (by omega)
theorem MemOut.step {w0 : World} {v0 v1 : MemV} {st1 st2 : MemS} (_h1 : MemAt w base mb st1 v1) (h2 : Only (v0.own mb) w0 w) (h3 : ∀ k, v1.own mb k → v0.own mb k ∨ w0.heap.size ≤ k) (k : MemOut w base mb v1 st2 w1) : MemOut w0 base mb v0 st2 w1 := by
  obtain ⟨v2, k1, k2, k3⟩ := k
  refine ⟨v2, k1, h2.trans k2 h3, fun i hi => ?_⟩
  rcases k3 i hi with h4 | h4
  · exact h3 i h4
  · have := h2.size; exact .inr (by omega)
theorem MemOut.pre {w0 : World} {st1 : MemS} (hb : Only (fun _ => False) w0 w) (h : MemOut w base mb v st1 w1) : MemOut w0 base mb v st1 w1 := by
  obtain ⟨v1, h1, h2, h3⟩ := h
  refine ⟨v1, h1, ?_, fun i hi => ?_⟩
  · exact ⟨h2.os.trans hb.os, h2.tape.trans hb.tape, h2.output.trans hb.output, Nat.le_trans hb.size h2.size, fun k hk hn => (h2.block k (Nat.lt_of_lt_of_le hk hb.size) hn).trans (hb.block k hk (fun x => x))⟩
  · rcases h3 i hi with h4 | h4
    · exact .inl h4
    · have := hb.size; exact .inr (by omega)
theorem MemOut.post {w2 : World} {st1 : MemS} (h : MemOut w base mb v st1 w1) (hb : Only (fun _ => False) w1 w2) : MemOut w base mb v st1 w2 := by
  obtain ⟨v1, h1, h2, h3⟩ := h
  exact ⟨v1, h1.only hb (fun _ _ x => x), h2.trans hb (fun _ x => x.elim), h3⟩
end

section
variable {w : World} {base mb : Nat} {st : MemS} {v : MemV}
theorem MemAt.base_mono {b' : Nat} (h : MemAt w base mb st v) (hb : b' ≤ base) : MemAt w b' mb st v :=
  ⟨h.blk, Nat.le_trans hb h.ge, h.rw.base_mono hb, h.rl.base_mono hb, h.ra.base_mono hb, h.m1, h.m2, h.m3, h.wl, h.wa, h.la⟩
theorem u64s_get {l : List Int} {a : Nat} (h : a < l.length) : (u64s l)[a]? = some (.int .u64 (l.getD a 0)) := by simp [u64s, h]
/-- the word at an address that there is -/
theorem MemAt.read (h : MemAt w base mb st v) {a : Nat} (ha : a < st.words.length) : ∃ g cw, v.vw = .slice (some ⟨g, 0, none⟩) st.words.length cw ∧ st.words.length ≤ cw ∧ g < w.heap.size ∧ v.vw.rowBlock = some g ∧ g ≠ mb ∧
    w.cell? ⟨g, a, none⟩ = some (.int .u64 (st.at a)) ∧ (∀ j, w.frozen? ⟨g, j, none⟩ = false) := by
  obtain ⟨g, cap, e, h1, h2, h3, h4, h5, h6⟩ := h.rw.some_form (by omega)
  exact ⟨g, cap, e, h1, h3, h4, fun e' => h.m1 (by rw [h4, e']), h6 a _ (u64s_get ha), h5⟩
theorem MemAt.put_word (h : MemAt w base mb st v) {a g : Nat} (ha : a < st.words.length) (hg : v.vw.rowBlock = some g) (x : Int) : MemAt (w.setCell ⟨g, a, none⟩ (.int .u64 x)) base mb { st with words := st.words.set a x } v := by
  have hne : g ≠ mb := fun e => h.m1 (by rw [hg, e])
  refine ⟨by rw [Below.heap_setCell _ _ _ _ (show mb ≠ g from Ne.symm hne)]; exact h.blk, h.ge, ?_, ?_, ?_, h.m1, h.m2, h.m3, h.wl, h.wa, h.la⟩
  · have := h.rw.put hg a (by omega) (.int .u64 x)
    simpa [u64s, List.map_set] using this
  · exact h.rl.set (fun k hk e => h.wl g hg (by rw [hk]; exact congrArg some e)) _
  · exact h.ra.set (fun k hk e => h.wa g hg (by rw [hk]; exact congrArg some e)) _
end
end Go
