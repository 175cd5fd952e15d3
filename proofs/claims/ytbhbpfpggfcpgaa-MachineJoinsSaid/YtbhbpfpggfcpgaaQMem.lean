/-
The memory as data, and where it lies in the heap (MemIs). What a call may touch (Only).
Plain facts on integers and endings that the walks of this seat use. No program is named here.
memory.Memory: has, Size, Count, Now.
memory.Memory: note.
slices.Clone at []uint64 and []api.Access; memory.New, Words; Load, Store, Swap.
memory.Memory: Store, Swap, Words.
A region that draws its order: all operations but the last few read or call (a call may make memory of its own), and the last few come in one order behind them all. One walk, in the order of the text, serves every order.
-/
import Derived.Test.YtbhbpfpggfcpgaaQClose
import Derived.WalkKit
import Derived.ProofKit
import Derived.OpenShut
import Derived.Lib.Hide
import Derived.Test.YtbhbpfpggfcpgaaRows
import Derived.Outline
import Derived.LoopTactic
import Derived.Deep.RegionHeld3
import Derived.Deep.RegionLaw
import Derived.Deep.DeepCutAuto
import Derived.Deep.Cut
import Derived.WalkSpells
import Derived.StillTail
namespace Go
open Go.RowKit

/-- below the heap's size w' is as w was, but for the blocks of F -/
structure Only (F : Nat → Prop) (w w' : World) : Prop where
  os : w'.os = w.os
  tape : w'.tape = w.tape
  output : w'.output = w.output
  size : w.heap.size ≤ w'.heap.size
  block : ∀ k, k < w.heap.size → ¬ F k → w'.heap[k]? = w.heap[k]?

section
variable {F G : Nat → Prop} {a b c w w' : World}
theorem Only.refl (F : Nat → Prop) (w : World) : Only F w w := ⟨rfl, rfl, rfl, Nat.le_refl _, fun _ _ _ => rfl⟩
theorem Only.mono (h : Only F a b) (hG : ∀ k, k < a.heap.size → F k → G k) : Only G a b := ⟨h.os, h.tape, h.output, h.size, fun k hk hn => h.block k hk fun hf => hn (hG k hk hf)⟩
/-- two steps: what the second touches beyond the first's is new -/
theorem Only.trans (h : Only F a b) (k : Only G b c) (hG : ∀ i, G i → F i ∨ a.heap.size ≤ i) : Only F a c :=
  ⟨k.os.trans h.os, k.tape.trans h.tape, k.output.trans h.output, Nat.le_trans h.size k.size, fun i hi hn =>
    (k.block i (Nat.lt_of_lt_of_le hi h.size) (fun hg => by rcases hG i hg with h1 | h1; exact hn h1; omega)).trans (h.block i hi hn)⟩
theorem Only.more (h : Only F a b) (os : Array Obj) (d : Nat) : Only F a (b.more os d) :=
  h.trans (G := fun _ => False) ⟨rfl, rfl, rfl, by simp [World.more], fun k hk _ => World.heap_more _ _ _ _ hk⟩ (fun _ h => h.elim)
theorem Only.alloc (h : Only F a b) (o : Obj) : Only F a (b.alloc o) :=
  h.trans (G := fun _ => False) ⟨rfl, rfl, rfl, by simp, fun k hk _ => Below.heap_alloc _ _ _ hk⟩ (fun _ h => h.elim)
theorem Only.drew (h : Only F a b) : Only F a b.drew := ⟨h.os, h.tape, h.output, h.size, h.block⟩
theorem Only.set (h : Only F a b) {p : Addr} (hp : F p.block ∨ a.heap.size ≤ p.block) (u : Value) : Only F a (b.setCell p u) :=
  h.trans (G := fun k => k = p.block) ⟨rfl, rfl, rfl, by simp [World.setCell], fun k _ hn => Below.heap_setCell _ _ _ _ hn⟩ (fun i hi => by subst hi; exact hp)
theorem Only.grown (h : Only F a b) {row : Option Nat} (hg : b.grownBy c row) (hr : ∀ k, row = some k → F k ∨ a.heap.size ≤ k) : Only F a c :=
  h.trans (G := fun k => row = some k) ⟨hg.os, hg.tape, hg.output, hg.size, fun k hk hn => hg.block k hk (fun e => hn e.symm)⟩ hr
theorem Only.of_below (h : Below a.heap.size a b) : Only F a b := ⟨h.os, h.tape, h.output, h.size, fun k hk _ => h.block k hk⟩
theorem Only.below (h : Only F a b) {B : Nat} (hB : ∀ k, F k → B ≤ k) (hs : B ≤ a.heap.size) : Below B a b :=
  ⟨h.os, h.tape, h.output, h.size, fun k hk => h.block k (by omega) (fun hf => by have := hB k hf; omega)⟩
theorem Only.more_eq (h : Only (fun _ => False) a b) : ∃ os d, b = a.more os d := RowKit.Below.more ⟨h.os, h.tape, h.output, h.size, fun k hk => h.block k hk (fun x => x)⟩
/-- a block that is not touched: its cells, as two rules for the walk -/
theorem Only.cells (h : Only F a b) {x : Nat} (hx : x < a.heap.size) (hn : ¬ F x) : (∀ o, b.cell? ⟨x, o, none⟩ = a.cell? ⟨x, o, none⟩) ∧ (∀ o, b.frozen? ⟨x, o, none⟩ = a.frozen? ⟨x, o, none⟩) :=
  ⟨fun _ => World.cell?_of_block (h.block x hx hn), fun _ => World.frozen?_of_block (h.block x hx hn)⟩
theorem Only.cellAt (h : Only F a b) {p : Addr} (hx : p.block < a.heap.size) (hn : ¬ F p.block) : b.cell? p = a.cell? p := World.cell?_of_block (h.block _ hx hn)
end

/-- an access -/
structure Acc where
  mv : Int
  th : Int
  kd : Int
  ad : Int
  old : Int
  nw : Int
  saw : Int
deriving DecidableEq
def Acc.cells (a : Acc) : List Value := [.int .i64 a.mv, .int .i64 a.th, .int .i64 a.kd, .int .i64 a.ad, .int .u64 a.old, .int .u64 a.nw, .int .u64 a.saw]
def u64s (l : List Int) : List Value := l.map (Value.int .u64)
def accs (l : List Acc) : List Value := l.flatMap Acc.cells

/-- a memory: its words, its log, what stood ahead of each access, the move's number -/
structure MemS where
  words : List Int
  log : List Acc
  ahead : List Int
  move : Int

/-- the memory's four slots -/
structure MemV where
  vw : Value
  vl : Value
  va : Value

/-- the blocks of a memory -/
def MemV.own (v : MemV) (mb k : Nat) : Prop := k = mb ∨ v.vw.rowBlock = some k ∨ v.vl.rowBlock = some k ∨ v.va.rowBlock = some k

structure MemAt (w : World) (base mb : Nat) (st : MemS) (v : MemV) : Prop where
  blk : w.heap[mb]? = some (.cells #[v.vw, v.vl, v.va, .int .i64 st.move] 158)
  ge : base ≤ mb
  rw : w.RowV base 27 1 v.vw st.words.length (u64s st.words)
  rl : w.RowV base 66 7 v.vl st.log.length (accs st.log)
  ra : w.RowV base 27 1 v.va st.ahead.length (u64s st.ahead)
  m1 : v.vw.rowBlock ≠ some mb
  m2 : v.vl.rowBlock ≠ some mb
  m3 : v.va.rowBlock ≠ some mb
  wl : ∀ k, v.vw.rowBlock = some k → v.vl.rowBlock ≠ some k
  wa : ∀ k, v.vw.rowBlock = some k → v.va.rowBlock ≠ some k
  la : ∀ k, v.vl.rowBlock = some k → v.va.rowBlock ≠ some k

section
variable {w w' : World} {base mb : Nat} {st : MemS} {v : MemV}
theorem MemAt.lt (h : MemAt w base mb st v) : ∀ k, v.own mb k → base ≤ k ∧ k < w.heap.size := by
  rintro k (rfl | h1 | h1 | h1)
  · exact ⟨h.ge, (Array.getElem?_eq_some_iff.1 h.blk).1⟩
  · exact h.rw.lt k h1
  · exact h.rl.lt k h1
  · exact h.ra.lt k h1
theorem MemAt.of_block (h : MemAt w base mb st v) (hb : ∀ k, v.own mb k → w'.heap[k]? = w.heap[k]?) : MemAt w' base mb st v :=
  ⟨by rw [hb mb (.inl rfl)]; exact h.blk, h.ge, h.rw.of_block fun k hk => hb k (.inr (.inl hk)), h.rl.of_block fun k hk => hb k (.inr (.inr (.inl hk))), h.ra.of_block fun k hk => hb k (.inr (.inr (.inr hk))),
    h.m1, h.m2, h.m3, h.wl, h.wa, h.la⟩
theorem MemAt.more (h : MemAt w base mb st v) (os : Array Obj) (d : Nat) : MemAt (w.more os d) base mb st v := h.of_block fun k hk => World.heap_more _ _ _ _ (h.lt k hk).2
theorem MemAt.alloc (h : MemAt w base mb st v) (o : Obj) : MemAt (w.alloc o) base mb st v := h.of_block fun k hk => Below.heap_alloc _ _ _ (h.lt k hk).2
theorem MemAt.set_other (h : MemAt w base mb st v) {p : Addr} (hp : ¬ v.own mb p.block) (u : Value) : MemAt (w.setCell p u) base mb st v :=
  h.of_block fun _k hk => Below.heap_setCell _ _ _ _ (fun e => hp (e ▸ hk))
theorem MemAt.only {F : Nat → Prop} (h : MemAt w base mb st v) (ho : Only F w w') (hF : ∀ k, v.own mb k → ¬ F k) : MemAt w' base mb st v :=
  h.of_block fun k hk => ho.block k (h.lt k hk).2 (hF k hk)
theorem MemAt.slices (h : MemAt w base mb st v) : ∃ ow cw ol cl oa ca, v = ⟨.slice ow st.words.length cw, .slice ol st.log.length cl, .slice oa st.ahead.length ca⟩ ∧ st.words.length ≤ cw ∧ st.log.length ≤ cl ∧ st.ahead.length ≤ ca ∧ cw ≤ 9223372036854775807 ∧ cl ≤ 9223372036854775807 ∧ ca ≤ 9223372036854775807 := by
  obtain ⟨o1, c1, e1, l1, m1⟩ := h.rw.form
  obtain ⟨o2, c2, e2, l2, m2⟩ := h.rl.form
  obtain ⟨o3, c3, e3, l3, m3⟩ := h.ra.form
  obtain ⟨v1, v2, v3⟩ := v
  simp only at e1 e2 e3
  subst e1; subst e2; subst e3
  unfold maxLen at m1 m2 m3
  exact ⟨o1, c1, o2, c2, o3, c3, rfl, l1, l2, l3, by omega, by omega, by omega⟩
theorem MemAt.head (h : MemAt w base mb st v) : w.cell? ⟨mb, 0, none⟩ = some v.vw ∧ w.cell? ⟨mb, 1, none⟩ = some v.vl ∧ w.cell? ⟨mb, 2, none⟩ = some v.va ∧ w.cell? ⟨mb, 3, none⟩ = some (.int .i64 st.move) ∧
    (∀ j, w.frozen? ⟨mb, j, none⟩ = false) ∧ mb < w.heap.size :=
  ⟨by simp [World.cell?, h.blk], by simp [World.cell?, h.blk], by simp [World.cell?, h.blk], by simp [World.cell?, h.blk], fun j => by simp [World.frozen?, h.blk], (Array.getElem?_eq_some_iff.1 h.blk).1⟩
/-- a new slot in the head -/
theorem MemAt.put {st' : MemS} {v' : MemV} (h : MemAt w base mb st v) {j : Nat} {u : Value} (hcs : (#[v.vw, v.vl, v.va, .int .i64 st.move] : Array Value).setIfInBounds j u = #[v'.vw, v'.vl, v'.va, .int .i64 st'.move])
    (rw' : (w.setCell ⟨mb, j, none⟩ u).RowV base 27 1 v'.vw st'.words.length (u64s st'.words))
    (rl' : (w.setCell ⟨mb, j, none⟩ u).RowV base 66 7 v'.vl st'.log.length (accs st'.log)) (ra' : (w.setCell ⟨mb, j, none⟩ u).RowV base 27 1 v'.va st'.ahead.length (u64s st'.ahead))
    (m1 : v'.vw.rowBlock ≠ some mb) (m2 : v'.vl.rowBlock ≠ some mb) (m3 : v'.va.rowBlock ≠ some mb)
    (wl : ∀ k, v'.vw.rowBlock = some k → v'.vl.rowBlock ≠ some k) (wa : ∀ k, v'.vw.rowBlock = some k → v'.va.rowBlock ≠ some k) (la : ∀ k, v'.vl.rowBlock = some k → v'.va.rowBlock ≠ some k) : MemAt (w.setCell ⟨mb, j, none⟩ u) base mb st' v' :=
  ⟨by simp [World.setCell, Array.getElem?_modify, h.blk, hcs], h.ge, rw', rl', ra', m1, m2, m3, wl, wa, la⟩
theorem MemAt.base_le (h : MemAt w base mb st v) : base ≤ w.heap.size := by have := h.lt mb (.inl rfl); omega
end

/-- what a call leaves: the memory as st', and nothing else of the old is touched -/
def MemOut (w : World) (base mb : Nat) (v : MemV) (st' : MemS) (w' : World) : Prop :=
  ∃ v', MemAt w' base mb st' v' ∧ Only (v.own mb) w w' ∧ ∀ k, v'.own mb k → v.own mb k ∨ w.heap.size ≤ k

def MemS.note (st : MemS) (a : Acc) (ahd : Int) : MemS := { st with log := st.log ++ [{ a with mv := st.move }], ahead := st.ahead ++ [ahd] }
def MemS.at (st : MemS) (a : Nat) : Int := st.words.getD a 0
def MemS.load (st : MemS) (th : Int) (a : Nat) : MemS := st.note ⟨0, th, 1, a, 0, 0, st.at a⟩ (st.at a)
def MemS.store (st : MemS) (th : Int) (a : Nat) (x : Int) : MemS := { st.note ⟨0, th, 2, a, 0, x, 0⟩ (st.at a) with words := st.words.set a x }
def MemS.swap (st : MemS) (th : Int) (a : Nat) (o x : Int) : MemS := if st.at a = o then { st.note ⟨0, th, 3, a, o, x, st.at a⟩ (st.at a) with words := st.words.set a x } else st.note ⟨0, th, 3, a, o, x, st.at a⟩ (st.at a)

theorem Only.out {w w' : World} {v v' : Value} {n m : Nat} {F : Nat → Prop} (h : RowOut w w' v v' n m) (hF : ∀ k, v.rowBlock = some k → F k) : Only F w w' := by
  rcases h with ⟨_, _, _, hg⟩ | ⟨_, _, hg⟩
  · exact (Only.refl _ _).grown hg (fun k hk => .inl (hF k hk))
  · exact (Only.refl _ _).grown hg (fun k hk => by cases hk)

section
variable {w w1 : World} {base mb : Nat} {st : MemS} {v : MemV}
theorem MemAt.drew (h : MemAt w base mb st v) : MemAt w.drew base mb st v := h.of_block fun _ _ => rfl

theorem RowOut.head {u u' : Value} {n m : Nat} (ho : RowOut w w1 u u' n m) (h : MemAt w base mb st v) (hu : u.rowBlock ≠ some mb) : w1.cell? ⟨mb, 0, none⟩ = some v.vw ∧ w1.cell? ⟨mb, 1, none⟩ = some v.vl ∧ w1.cell? ⟨mb, 2, none⟩ = some v.va ∧ w1.cell? ⟨mb, 3, none⟩ = some (.int .i64 st.move) ∧
    (∀ j, w1.frozen? ⟨mb, j, none⟩ = false) ∧ mb < w1.heap.size := by
  have hb : w1.heap[mb]? = some (.cells #[v.vw, v.vl, v.va, .int .i64 st.move] 158) := by rw [ho.block h.head.2.2.2.2.2 hu]; exact h.blk
  exact ⟨by simp [World.cell?, hb], by simp [World.cell?, hb], by simp [World.cell?, hb], by simp [World.cell?, hb], fun j => by simp [World.frozen?, hb], (Array.getElem?_eq_some_iff.1 hb).1⟩

theorem accs_snoc (l : List Acc) (x : Acc) : accs (l ++ [x]) = accs l ++ x.cells := by simp [accs]
theorem u64s_snoc (l : List Int) (x : Int) : u64s (l ++ [x]) = u64s l ++ [.int .u64 x] := by simp [u64s]

/-- m.log = append(m.log, x) -/
theorem MemAt.app_log (h : MemAt w base mb st v) {v' : Value} {x : Acc} (hown : w1.RowV base 66 7 v' (st.log.length + 1) (accs st.log ++ x.cells)) (ho : RowOut w w1 v.vl v' st.log.length 1) :
    MemOut w base mb v { st with log := st.log ++ [x] } (w1.setCell ⟨mb, 1, none⟩ v') := by
  have hn : ∀ k, v'.rowBlock = some k → v.vl.rowBlock = some k ∨ k = w.heap.size := fun k hk => ho.news hk
  have hlt := h.lt
  have hmb := h.lt mb (.inl rfl)
  have m2' : v'.rowBlock ≠ some mb := fun e => by rcases hn mb e with h1 | h1; exact h.m2 h1; omega
  have hw := h.rw.out ho (fun k hk => h.wl k hk)
  have ha := h.ra.out ho (fun k hk => fun e => h.la k e hk)
  have hblk : w1.heap[mb]? = some (.cells #[v.vw, v.vl, v.va, .int .i64 st.move] 158) := by rw [ho.block hmb.2 h.m2]; exact h.blk
  refine ⟨{ v with vl := v' }, ⟨by simp [World.setCell, Array.getElem?_modify, hblk], h.ge, ?_, ?_, ?_, h.m1, m2', h.m3, ?_, h.wa, ?_⟩, ?_, ?_⟩
  · exact hw.set (fun k hk e => h.m1 (by rw [hk]; exact congrArg some e)) _
  · rw [accs_snoc, List.length_append]
    exact hown.set (fun k hk e => m2' (by rw [hk]; exact congrArg some e)) _
  · exact ha.set (fun k hk e => h.m3 (by rw [hk]; exact congrArg some e)) _
  · intro k hk e
    rcases hn k e with h1 | h1
    · exact h.wl k hk h1
    · have := (hlt k (.inr (.inl hk))).2; omega
  · intro k hk e
    rcases hn k hk with h1 | h1
    · exact h.la k h1 e
    · have := (hlt k (.inr (.inr (.inr e)))).2; omega
  · exact (Only.out ho (fun k hk => .inr (.inr (.inl hk)))).set (.inl (.inl rfl)) _
  · rintro k (hk | hk | hk | hk)
    · exact .inl (.inl hk)
    · exact .inl (.inr (.inl hk))
    · rcases hn k hk with h1 | h1
      · exact .inl (.inr (.inr (.inl h1)))
      · exact .inr (by omega)
    · exact .inl (.inr (.inr (.inr hk)))

/-- m.ahead = append(m.ahead, x) -/
theorem MemAt.app_ahead (h : MemAt w base mb st v) {v' : Value} {x : Int} (hown : w1.RowV base 27 1 v' (st.ahead.length + 1) (u64s st.ahead ++ [.int .u64 x])) (ho : RowOut w w1 v.va v' st.ahead.length 1) :
    MemOut w base mb v { st with ahead := st.ahead ++ [x] } (w1.setCell ⟨mb, 2, none⟩ v') := by
  have hn : ∀ k, v'.rowBlock = some k → v.va.rowBlock = some k ∨ k = w.heap.size := fun k hk => ho.news hk
  have hlt := h.lt
  have hmb := h.lt mb (.inl rfl)
  have m3' : v'.rowBlock ≠ some mb := fun e => by rcases hn mb e with h1 | h1; exact h.m3 h1; omega
  have hw := h.rw.out ho (fun k hk => h.wa k hk)
  have hl := h.rl.out ho (fun k hk => h.la k hk)
  have hblk : w1.heap[mb]? = some (.cells #[v.vw, v.vl, v.va, .int .i64 st.move] 158) := by rw [ho.block hmb.2 h.m3]; exact h.blk
  refine ⟨{ v with va := v' }, ⟨by simp [World.setCell, Array.getElem?_modify, hblk], h.ge, ?_, ?_, ?_, h.m1, h.m2, m3', h.wl, ?_, ?_⟩, ?_, ?_⟩
  · exact hw.set (fun k hk e => h.m1 (by rw [hk]; exact congrArg some e)) _
  · exact hl.set (fun k hk e => h.m2 (by rw [hk]; exact congrArg some e)) _
  · rw [u64s_snoc, List.length_append]
    exact hown.set (fun k hk e => m3' (by rw [hk]; exact congrArg some e)) _
  · intro k hk e
    rcases hn k e with h1 | h1
    · exact h.wa k hk h1
    · have := (hlt k (.inr (.inl hk))).2; omega
  · intro k hk e
    rcases hn k e with h1 | h1
    · exact h.la k hk h1
    · have := (hlt k (.inr (.inr (.inl hk)))).2; omega
  · exact (Only.out ho (fun k hk => .inr (.inr (.inr hk)))).set (.inl (.inl rfl)) _
  · rintro k (hk | hk | hk | hk)
    · exact .inl (.inl hk)
    · exact .inl (.inr (.inl hk))
    · exact .inl (.inr (.inr (.inl hk)))
    · rcases hn k hk with h1 | h1
      · exact .inl (.inr (.inr (.inr h1)))
      · exact .inr (by omega)

/-- two steps, with new blocks ahead of each -/
theorem MemOut.trans {w0 : World} {v0 : MemV} {st1 st2 : MemS} (h : MemOut w0 base mb v0 st1 w) (k : ∀ v1, MemAt w base mb st1 v1 → MemOut w base mb v1 st2 w1) : MemOut w0 base mb v0 st2 w1 := by
  obtain ⟨v1, h1, h2, h3⟩ := h
  obtain ⟨v2, k1, k2, k3⟩ := k v1 h1
  refine ⟨v2, k1, h2.trans k2 h3, fun i hi => ?_⟩
  rcases k3 i hi with h4 | h4
  · exact h3 i h4
  · have := h2.size; exact .inr (by omega)
theorem MemOut.step {w0 : World} {v0 v1 : MemV} {st1 st2 : MemS} (_h1 : MemAt w base mb st1 v1) (h2 : Only (v0.own mb) w0 w) (h3 : ∀ k, v1.own mb k → v0.own mb k ∨ w0.heap.size ≤ k) (k : MemOut w base mb v1 st2 w1) : MemOut w0 base mb v0 st2 w1 := by
  obtain ⟨v2, k1, k2, k3⟩ := k
  refine ⟨v2, k1, h2.trans k2 h3, fun i hi => ?_⟩
  rcases k3 i hi with h4 | h4
  · exact h3 i h4
  · have := h2.size; exact .inr (by omega)
theorem MemOut.pre {w0 : World} {st1 : MemS} (hb : Only (fun _ => False) w0 w) (h : MemOut w base mb v st1 w1) : MemOut w0 base mb v st1 w1 := by
  obtain ⟨v1, h1, h2, h3⟩ := h
  refine ⟨v1, h1, ?_, fun i hi => ?_⟩
  · exact ⟨h2.os.trans hb.os, h2.tape.trans hb.tape, h2.output.trans hb.output, Nat.le_trans hb.size h2.size, fun k hk hn => (h2.block k (Nat.lt_of_lt_of_le hk hb.size) hn).trans (hb.block k hk (fun x => x))⟩
  · rcases h3 i hi with h4 | h4
    · exact .inl h4
    · have := hb.size; exact .inr (by omega)
theorem MemOut.post {w2 : World} {st1 : MemS} (h : MemOut w base mb v st1 w1) (hb : Only (fun _ => False) w1 w2) : MemOut w base mb v st1 w2 := by
  obtain ⟨v1, h1, h2, h3⟩ := h
  exact ⟨v1, h1.only hb (fun _ _ x => x), h2.trans hb (fun _ x => x.elim), h3⟩
end

section
variable {w : World} {base mb : Nat} {st : MemS} {v : MemV}
theorem MemAt.base_mono {b' : Nat} (h : MemAt w base mb st v) (hb : b' ≤ base) : MemAt w b' mb st v :=
  ⟨h.blk, Nat.le_trans hb h.ge, h.rw.base_mono hb, h.rl.base_mono hb, h.ra.base_mono hb, h.m1, h.m2, h.m3, h.wl, h.wa, h.la⟩
theorem u64s_get {l : List Int} {a : Nat} (h : a < l.length) : (u64s l)[a]? = some (.int .u64 (l.getD a 0)) := by simp [u64s, h]
/-- the word at an address that there is -/
theorem MemAt.read (h : MemAt w base mb st v) {a : Nat} (ha : a < st.words.length) : ∃ g cw, v.vw = .slice (some ⟨g, 0, none⟩) st.words.length cw ∧ st.words.length ≤ cw ∧ g < w.heap.size ∧ v.vw.rowBlock = some g ∧ g ≠ mb ∧
    w.cell? ⟨g, a, none⟩ = some (.int .u64 (st.at a)) ∧ (∀ j, w.frozen? ⟨g, j, none⟩ = false) := by
  obtain ⟨g, cap, e, h1, h2, h3, h4, h5, h6⟩ := h.rw.some_form (by omega)
  exact ⟨g, cap, e, h1, h3, h4, fun e' => h.m1 (by rw [h4, e']), h6 a _ (u64s_get ha), h5⟩
theorem MemAt.put_word (h : MemAt w base mb st v) {a g : Nat} (ha : a < st.words.length) (hg : v.vw.rowBlock = some g) (x : Int) : MemAt (w.setCell ⟨g, a, none⟩ (.int .u64 x)) base mb { st with words := st.words.set a x } v := by
  have hne : g ≠ mb := fun e => h.m1 (by rw [hg, e])
  refine ⟨by rw [Below.heap_setCell _ _ _ _ (show mb ≠ g from Ne.symm hne)]; exact h.blk, h.ge, ?_, ?_, ?_, h.m1, h.m2, h.m3, h.wl, h.wa, h.la⟩
  · have := h.rw.put hg a (by omega) (.int .u64 x)
    simpa [u64s, List.map_set] using this
  · exact h.rl.set (fun k hk e => h.wl g hg (by rw [hk]; exact congrArg some e)) _
  · exact h.ra.set (fun k hk e => h.wa g hg (by rw [hk]; exact congrArg some e)) _
end
end Go
namespace Go.Proofs.Ytbhbpfpggfcpgaa
open Go.RowKit

theorem ret_int {k : IntKind} {a b : Int} (h : a = b) : Ending.returned (.int k a) = .returned (.int k b) := by rw [h]
theorem ret_bool {a b : Bool} (h : a = b) : Ending.returned (.bool a) = .returned (.bool b) := by rw [h]
theorem ret_v {a b : Value} (h : a = b) : Ending.returned a = .returned b := by rw [h]

theorem bcell {W w1 : World} (hb : Below W.heap.size W w1) : (∀ b o, b < W.heap.size → w1.cell? ⟨b, o, none⟩ = W.cell? ⟨b, o, none⟩) ∧ (∀ b o, b < W.heap.size → w1.frozen? ⟨b, o, none⟩ = W.frozen? ⟨b, o, none⟩) :=
  ⟨fun b o h => hb.cell (p := ⟨b, o, none⟩) h, fun b o h => hb.frozen (p := ⟨b, o, none⟩) h⟩

/-- the word of a slot's number and a mark -/
def packLink (i : Int) (m : Bool) : Int := i + 1 + if m then 4294967296 else 0
def isLink (w : Int) : Bool := decide (w < 8589934592) && decide (w % 4294967296 ≤ 2147483647)
def linkIndex (w : Int) : Int := w % 4294967296 - 1
def linkMark (w : Int) : Bool := w / 4294967296 % 2 == 1
def packHead (t i : Int) : Int := t * 4294967296 + (i + 1)
def isHead (w : Int) : Bool := decide (w % 4294967296 ≤ 2147483647)

theorem or_mark (i : Int) (h0 : 0 ≤ i) (h1 : i ≤ 2147483647) : bits .or .u64 i 4294967296 = i + 4294967296 := by
  obtain ⟨n, rfl⟩ := Int.eq_ofNat_of_zero_le h0
  rw [show (4294967296 : Int) = ((4294967296 : Nat) : Int) from rfl, u64_or_nat _ _ (by omega) (by omega), Nat.or_comm,
    nat_join 32 _ _ (by rfl) (by omega)]
  omega

theorem and_low (v : Int) (h0 : 0 ≤ v) (h1 : v ≤ 18446744073709551615) : bits .and .u64 v 4294967295 = v % 4294967296 := by
  obtain ⟨n, rfl⟩ := Int.eq_ofNat_of_zero_le h0
  rw [show (4294967295 : Int) = ((4294967295 : Nat) : Int) from rfl, u64_and_nat _ _ (by omega) (by omega), nat_mask32]
  omega

theorem and_mark (v : Int) (h0 : 0 ≤ v) (h1 : v ≤ 18446744073709551615) : bits .and .u64 v 4294967296 = v / 4294967296 % 2 * 4294967296 := by
  obtain ⟨n, rfl⟩ := Int.eq_ofNat_of_zero_le h0
  rw [show (4294967296 : Int) = ((4294967296 : Nat) : Int) from rfl, u64_and_nat _ _ (by omega) (by omega), show (4294967296 : Nat) = 2 ^ 32 from rfl, nat_bit]
  omega

theorem mark_ne (v : Int) : (v / 4294967296 % 2 * 4294967296 != 0) = linkMark v := by
  unfold linkMark
  rw [Bool.eq_iff_iff]; simp; omega

theorem or_tag (t i : Int) (h0 : 0 ≤ t) (h1 : t ≤ 4294967295) (h2 : 0 ≤ i) (h3 : i ≤ 2147483647) : bits .or .u64 (t * 4294967296) i = t * 4294967296 + i := by
  obtain ⟨n, rfl⟩ := Int.eq_ofNat_of_zero_le h0
  obtain ⟨k, rfl⟩ := Int.eq_ofNat_of_zero_le h2
  rw [show (n : Int) * 4294967296 = ((n * 4294967296 : Nat) : Int) from by omega, u64_or_nat _ _ (by omega) (by omega),
    nat_join 32 _ _ (by omega) (by omega)]
  omega

end Go.Proofs.Ytbhbpfpggfcpgaa
namespace Go.Proofs.Ytbhbpfpggfcpgaa
open Go.ChangeShapes Go.WideShapes Go.ChangeAt Go.RowKit

theorem size_mem {w : World} {base mb : Nat} {st : MemS} {v : MemV} (h : MemAt w base mb st v) : Calls Try.prog 73 #[.pointer (some ⟨mb, 0, none⟩)] w fun e w' => e = .returned (.int .i64 (st.words.length : Int)) ∧ w = w' := by
  obtain ⟨c0, c1, c2, c3, z, lt⟩ := h.head
  obtain ⟨ow, cw, ol, cl, oa, ca, rfl, l1, l2, l3, m1, m2, m3⟩ := h.slices
  go_enter Try.func73, Try.ntmps73
  go_wp2
  go_ret
  exact ⟨rfl, rfl⟩
theorem size_nil (w : World) : Calls Try.prog 73 #[.pointer none] w fun e w' => e = .returned (.int .i64 0) ∧ w = w' := by
  go_enter Try.func73, Try.ntmps73
  go_wp2
  go_ret
  exact ⟨rfl, rfl⟩

theorem has_mem {w : World} {base mb : Nat} {st : MemS} {v : MemV} (h : MemAt w base mb st v) (a : Int) : Calls Try.prog 74 #[.pointer (some ⟨mb, 0, none⟩), .int .i64 a] w fun e w' =>
    e = .returned (.bool (decide (0 ≤ a) && decide (a < (st.words.length : Int)))) ∧ w = w' := by
  by_cases h0 : 0 ≤ a
  all_goals
    go_enter Try.func74, Try.ntmps74
    go_wp2_with (go_at_call 73; refine (size_mem h).mono ?_; rintro e w1 ⟨rfl, rfl⟩)
    go_ret
    exact ⟨ret_bool (by rw [Bool.eq_iff_iff]; simp <;> omega), rfl⟩
theorem has_yes {w : World} {base mb : Nat} {st : MemS} {v : MemV} (h : MemAt w base mb st v) (a : Nat) (ha : a < st.words.length) : Calls Try.prog 74 #[.pointer (some ⟨mb, 0, none⟩), .int .i64 (a : Int)] w fun e w' =>
    e = .returned (.bool true) ∧ w = w' := by
  have := has_mem h (a : Int)
  rw [show (decide (0 ≤ (a : Int)) && decide ((a : Int) < (st.words.length : Int))) = true by simp; omega] at this
  exact this
theorem has_no {w : World} {base mb : Nat} {st : MemS} {v : MemV} (h : MemAt w base mb st v) (a : Int) (ha : a < 0 ∨ (st.words.length : Int) ≤ a) : Calls Try.prog 74 #[.pointer (some ⟨mb, 0, none⟩), .int .i64 a] w fun e w' =>
    e = .returned (.bool false) ∧ w = w' := by
  have := has_mem h a
  rw [show (decide (0 ≤ a) && decide (a < (st.words.length : Int))) = false by rw [Bool.eq_false_iff]; simp; omega] at this
  exact this
theorem has_nil (w : World) (a : Int) : Calls Try.prog 74 #[.pointer none, .int .i64 a] w fun e w' => e = .returned (.bool false) ∧ w = w' := by
  by_cases h0 : 0 ≤ a
  all_goals
    go_enter Try.func74, Try.ntmps74
    go_wp2_with (go_at_call 73; refine (size_nil _).mono ?_; rintro e w1 ⟨rfl, rfl⟩)
    go_ret
    exact ⟨by simp [h0] <;> omega, rfl⟩

theorem now_mem {w : World} {base mb : Nat} {st : MemS} {v : MemV} (h : MemAt w base mb st v) (x : Int) : Calls Try.prog 68 #[.pointer (some ⟨mb, 0, none⟩), .int .i64 x] w fun e w' =>
    e = .returned (.tuple #[]) ∧ MemAt w' base mb { st with move := x } v ∧ Only (v.own mb) w w' := by
  obtain ⟨c0, c1, c2, c3, z, lt⟩ := h.head
  go_enter Try.func68, Try.ntmps68
  go_wp2
  go_end0
  exact ⟨rfl, h.put (st' := { st with move := x }) rfl (h.rw.set (fun k hk e => h.m1 (by rw [hk]; exact congrArg some e)) _) (h.rl.set (fun k hk e => h.m2 (by rw [hk]; exact congrArg some e)) _) (h.ra.set (fun k hk e => h.m3 (by rw [hk]; exact congrArg some e)) _) h.m1 h.m2 h.m3 h.wl h.wa h.la, (Only.refl _ _).set (.inl (.inl rfl)) _⟩
theorem now_nil (w : World) (x : Int) : Calls Try.prog 68 #[.pointer none, .int .i64 x] w fun e w' => e = .returned (.tuple #[]) ∧ w = w' := by
  go_enter Try.func68, Try.ntmps68
  go_wp2
  go_end0
  exact ⟨rfl, rfl⟩
end Go.Proofs.Ytbhbpfpggfcpgaa
namespace Go.Proofs.Ytbhbpfpggfcpgaa
open Go.ChangeShapes Go.WideShapes Go.ChangeAt Go.RowKit

theorem infoU64 : (Try.prog.info? 27).map (fun i => (i.zero, i.size, i.bytes)) = some (some (.int .u64 0), 1, 8) := by kernel_rfl
theorem infoAcc : (Try.prog.info? 66).map (fun i => (i.zero, i.size, i.bytes)) = some (some (.agg #[.int .i64 0, .int .i64 0, .int .i64 0, .int .i64 0, .int .u64 0, .int .u64 0, .int .u64 0]), 7, 56) := by kernel_rfl

set_option maxRecDepth 100000 in
set_option maxHeartbeats 2000000 in
theorem note_any {w : World} {base mb : Nat} {st : MemS} {v : MemV} (h : MemAt w base mb st v) (x : Acc) (ahd : Int) (hl1 : st.log.length ≤ 3000000000000) (hl2 : st.ahead.length ≤ 3000000000000) :
    Calls Try.prog 75 #[.pointer (some ⟨mb, 0, none⟩), .agg #[.int .i64 x.mv, .int .i64 x.th, .int .i64 x.kd, .int .i64 x.ad, .int .u64 x.old, .int .u64 x.nw, .int .u64 x.saw], .int .u64 ahd] w fun e w' =>
    e = .returned (.tuple #[]) ∧ MemOut w base mb v (st.note x ahd) w' := by
  obtain ⟨c0, c1, c2, c3, z, lt⟩ := h.head
  have hv := h.slices
  obtain ⟨ow, cw, ol, cl, oa, ca, rfl, l1, l2, l3, m1, m2, m3⟩ := hv
  obtain ⟨i0, hi, hz0, hz1, hz2⟩ := info_parts infoAcc
  have HI := Lib.hid hi
  have HZ0 := Lib.hid hz0
  have HZ1 := Lib.hid hz1
  have HZ2 := Lib.hid hz2
  clear hi hz0 hz1 hz2
  have S1 := Lib.hid (show ∀ u ∈ [Value.int .i64 st.move, .int .i64 x.th, .int .i64 x.kd, .int .i64 x.ad, .int .u64 x.old, .int .u64 x.nw, .int .u64 x.saw], u.oneCell' = true by simp [Value.oneCell'])
  have S2 := Lib.hid (show st.log.length + 1 ≤ maxLen by unfold maxLen; omega)
  have S3 := Lib.hid (show ((st.log.length + 1) + (st.log.length + 1) / 4 + 192) * 56 ≤ 281474976710656 by omega)
  go_enter Try.func75, Try.ntmps75
  go_upto_region 2 with (fail)
  go_cut [] (fun wx => MemOut w base mb ⟨.slice ow st.words.length cw, .slice ol st.log.length cl, .slice oa st.ahead.length ca⟩ { st with log := st.log ++ [{ x with mv := st.move }] } wx)
  case first =>
    go_region_law ((refine step_append_row _ (by rfl) _ _ 38 (by rfl) base 66 i0 _ 7 56 Try.underlying38 HI.out HZ0.out HZ1.out HZ2.out rfl (.slice ol st.log.length cl) st.log.length (accs st.log) (by rfl) (by repeat (first | exact h.rl | apply World.RowV.alloc | apply World.RowV.drew)) _ 1 _ (by rfl) (by repeat (first | apply World.Src.drew | exact World.Src.one rfl (by simp))) S1.out S2.out S3.out (by have := h.base_le; simp; omega) ?_; intro v' w1 hown hout; obtain ⟨o', c', rfl, hn', hm'⟩ := hown.form; obtain ⟨d0, d1, d2, d3, zz, lt1⟩ := hout.head (by repeat (first | exact h | apply MemAt.alloc | apply MemAt.drew)) h.m2; have H1 := Lib.hid (MemAt.app_log (v := ⟨.slice ow st.words.length cw, .slice ol st.log.length cl, .slice oa st.ahead.length ca⟩) (x := { x with mv := st.move }) (by repeat (first | exact h | apply MemAt.alloc | apply MemAt.drew)) hown hout); clear hown hout hm'))
    all_goals
      go_wp2
      go_meet
      exact MemOut.pre (by repeat (first | exact Only.refl _ _ | apply Only.alloc | apply Only.drew)) H1.out
  case rest =>
    have S5 := Lib.hid (show ∀ u ∈ [Value.int .u64 ahd], u.oneCell' = true by simp [Value.oneCell'])
    have S6 := Lib.hid (show st.ahead.length + 1 ≤ maxLen by unfold maxLen; omega)
    have S7 := Lib.hid (show ((st.ahead.length + 1) + (st.ahead.length + 1) / 4 + 192) * 8 ≤ 281474976710656 by omega)
    obtain ⟨j0, ji, jz0, jz1, jz2⟩ := info_parts infoU64
    have JI := Lib.hid ji
    have JZ0 := Lib.hid jz0
    have JZ1 := Lib.hid jz1
    have JZ2 := Lib.hid jz2
    clear ji jz0 jz1 jz2 c0 c1 c2 c3 z lt h
    obtain ⟨v2, k1, k2, k3⟩ := hcut
    have hm0 := k1.base_le
    obtain ⟨e0, e1, e2, e3, ee, el⟩ := k1.head
    obtain ⟨ow2, cw2, ol2, cl2, oa2, ca2, rfl, q1, q2, q3, r1, r2, r3⟩ := k1.slices
    have K1 := Lib.hid k1
    have K2 := Lib.hid k2
    have K3 := Lib.hid k3
    clear k1 k2 k3
    go_wp2_with (at_builtin; refine wpList_append_row _ rfl _ _ 28 rfl base 27 j0 _ 1 8 Try.underlying28 JI.out JZ0.out JZ1.out JZ2.out rfl (.slice oa2 st.ahead.length ca2) st.ahead.length (u64s st.ahead) rfl (K1.out.ra.alloc _) _ 1 _ rfl (World.Src.one rfl rfl) S5.out S6.out S7.out (by have := hm0; simp; omega) ?_; intro v' w1 hown hout; obtain ⟨o', c', rfl, hn', hm'⟩ := hown.form; obtain ⟨d0, d1, d2, d3, zz, lt1⟩ := hout.head (K1.out.alloc _) K1.out.m3; have H2 := Lib.hid (MemAt.app_ahead (st := { st with log := st.log ++ [{ x with mv := st.move }] }) (v := ⟨.slice ow2 st.words.length cw2, .slice ol2 (st.log ++ [{ x with mv := st.move }]).length cl2, .slice oa2 st.ahead.length ca2⟩) (K1.out.alloc _) hown hout); clear hown hout hm')
    go_end0
    exact ⟨rfl, MemOut.step K1.out K2.out K3.out (MemOut.pre ((Only.refl _ _).alloc _) H2.out)⟩
end Go.Proofs.Ytbhbpfpggfcpgaa
namespace Go.Proofs.Ytbhbpfpggfcpgaa
open Go.ChangeShapes Go.WideShapes Go.ChangeAt Go.RowKit

theorem u64s_one (l : List Int) : ∀ u ∈ u64s l, u.oneCell' = true := by
  intro u hu
  simp only [u64s, List.mem_map] at hu
  obtain ⟨x, _, rfl⟩ := hu
  rfl
theorem accs_one (l : List Acc) : ∀ u ∈ accs l, u.oneCell' = true := by
  intro u hu
  simp only [accs, List.mem_flatMap, Acc.cells] at hu
  obtain ⟨x, _, hx⟩ := hu
  simp at hx
  rcases hx with rfl | rfl | rfl | rfl | rfl | rfl | rfl <;> rfl

/-- a new slice with these cells -/
def Cloned (w : World) (t size n : Nat) (xs : List Value) (e : Ending) (w' : World) : Prop :=
  ∃ o c, e = .returned (.slice o n c) ∧ n ≤ c ∧ c ≤ 9223372036854775807 ∧ w'.RowV w.heap.size t size (.slice o n c) n xs ∧ Only (fun _ => False) w w'

set_option maxRecDepth 100000 in
theorem clone_u64 {w : World} {vx : Value} {l : List Int} (hs : w.Src 1 vx l.length (u64s l)) (hn : l.length ≤ 3000000000000) : Calls Try.prog 67 #[vx] w (Cloned w 27 1 l.length (u64s l)) := by
  obtain ⟨i0, hi, hz0, hz1, hz2⟩ := info_parts infoU64
  have HI := Lib.hid hi
  have HZ0 := Lib.hid hz0
  have HZ1 := Lib.hid hz1
  have HZ2 := Lib.hid hz2
  clear hi hz0 hz1 hz2
  have HS := Lib.hid hs
  rcases hs.2 with ⟨rfl, h0⟩ | ⟨ad, c, rfl, hc, _⟩
  · obtain rfl : l = [] := List.eq_nil_of_length_eq_zero h0
    have hq := fun w => Lib.run_eql_slice_nil (P := Try.prog) w 28 27 none 0 0 0 0 Try.underlying28
    clear hs HS
    go_enter Try.func67, Try.ntmps67
    go_wp2
    go_ret
    exact ⟨none, 0, rfl, Nat.le_refl _, by omega, World.RowV_none _ _ _ _ _, Only.refl _ _⟩
  · have hq := fun w => Lib.run_eql_slice_nil (P := Try.prog) w 28 27 (some ad) l.length c 0 0 Try.underlying28
    have S1 := Lib.hid (u64s_one l)
    have S2 := Lib.hid (show 0 + l.length ≤ maxLen by unfold maxLen; omega)
    have S3 := Lib.hid (show ((0 + l.length) + (0 + l.length) / 4 + 192) * 8 ≤ 281474976710656 by omega)
    clear hs
    go_enter Try.func67, Try.ntmps67
    go_wp2_with (at_builtin; refine wpList_append_row _ rfl _ _ 28 rfl w.heap.size 27 i0 _ 1 8 Try.underlying28 HI.out HZ0.out HZ1.out HZ2.out rfl (.slice (some ⟨w.heap.size, 0, none⟩) 0 0) 0 [] rfl (World.RowV_none _ _ _ _ _) _ l.length (u64s l) rfl (HS.out.alloc _) S1.out S2.out S3.out (by simp) ?_; intro v' w1 hown hout; obtain ⟨o', c', rfl, hn', hm'⟩ := hown.form; have H1 := Lib.hid hown; have H2 := Lib.hid hout; clear hown hout; unfold maxLen at hm')
    go_ret
    exact ⟨o', c', rfl, by omega, by omega, by simpa using H1.out, Only.trans ((Only.refl _ _).alloc _) (Only.out (F := fun _ => False) H2.out (by simp [Value.rowBlock])) (fun _ h => h.elim)⟩

theorem new_long {w : World} (o : Option Addr) (n c : Nat) (hn : 8192 < n) (hm : n ≤ 9223372036854775807) : Calls Try.prog 49 #[.slice o n c] w fun e w' => e = .returned (.tuple #[.pointer none, .int .i64 3]) ∧ w = w' := by
  go_enter Try.func49, Try.ntmps49
  go_wp2
  go_ret2
  exact ⟨rfl, rfl⟩

/-- a new memory -/
def MadeMem (w : World) (l : List Int) (e : Ending) (w' : World) : Prop :=
  ∃ mb v, e = .returned (.tuple #[.pointer (some ⟨mb, 0, none⟩), .int .i64 0]) ∧ MemAt w' w.heap.size mb ⟨l, [], [], 0⟩ v ∧ Only (fun _ => False) w w'

theorem new_ok {w : World} {vx : Value} {l : List Int} (hs : w.Src 1 vx l.length (u64s l)) (hn : l.length ≤ 8192) : Calls Try.prog 49 #[vx] w (MadeMem w l) := by
  have HC := Lib.hid (fun h => clone_u64 (w := w) (vx := vx) (l := l) hs h)
  obtain ⟨o, c, rfl⟩ : ∃ o c, vx = .slice o l.length c := by
    rcases hs.2 with ⟨rfl, h0⟩ | ⟨ad, c, rfl, hc, _⟩
    · exact ⟨none, 0, by rw [h0]⟩
    · exact ⟨some ad, c, rfl⟩
  clear hs
  go_enter Try.func49, Try.ntmps49
  go_wp2_with (go_at_call 67; refine (HC.out (by omega)).mono ?_; rintro e w1 ⟨o', c', rfl, hn', hm', hr, ho⟩; have HR := Lib.hid hr; have HO := Lib.hid ho; clear hr ho)
  go_ret2
  have hlt : ∀ k, (Value.slice o' l.length c').rowBlock = some k → w.heap.size ≤ k ∧ k < w1.heap.size := fun k hk => HR.out.lt k hk
  have hne : (Value.slice o' l.length c').rowBlock ≠ some w1.heap.size := fun e => by have := (hlt _ e).2; omega
  exact ⟨w1.heap.size, ⟨.slice o' l.length c', .slice none 0 0, .slice none 0 0⟩, rfl,
    ⟨heap_alloc_new w1 _, HO.out.size, HR.out.alloc _, World.RowV_none _ _ _ _ _, World.RowV_none _ _ _ _ _, hne, by simp [Value.rowBlock], by simp [Value.rowBlock], by simp [Value.rowBlock], by simp [Value.rowBlock], by simp [Value.rowBlock]⟩, HO.out.alloc _⟩

theorem load_bad {w : World} {base mb : Nat} {st : MemS} {v : MemV} (h : MemAt w base mb st v) (th a : Int) (ha : a < 0 ∨ (st.words.length : Int) ≤ a) : Calls Try.prog 65 #[.pointer (some ⟨mb, 0, none⟩), .int .i64 th, .int .i64 a] w fun e w' =>
    e = .returned (.tuple #[.int .u64 0, .int .i64 20]) ∧ w = w' := by
  have HA := Lib.hid (has_no h a ha)
  clear ha
  go_enter Try.func65, Try.ntmps65
  go_wp2_with (go_at_call 74; refine HA.out.mono ?_; rintro e w1 ⟨rfl, rfl⟩)
  go_ret2
  exact ⟨rfl, rfl⟩

set_option maxRecDepth 100000 in
theorem load_ok {w : World} {base mb : Nat} {st : MemS} {v : MemV} (h : MemAt w base mb st v) (hl1 : st.log.length ≤ 3000000000000) (hl2 : st.ahead.length ≤ 3000000000000) (th : Int) (a : Nat) (ha : a < st.words.length) :
    Calls Try.prog 65 #[.pointer (some ⟨mb, 0, none⟩), .int .i64 th, .int .i64 (a : Int)] w fun e w' =>
    e = .returned (.tuple #[.int .u64 (st.at a), .int .i64 0]) ∧ MemOut w base mb v (st.load th a) w' := by
  obtain ⟨c0, c1, c2, c3, z, lt⟩ := h.head
  obtain ⟨ow, cw, ol, cl, oa, ca, rfl, l1, l2, l3, m1, m2, m3⟩ := h.slices
  obtain ⟨g, cg, e, hg, gl, gb, gn, gc, gz⟩ := h.read ha
  cases e
  have HA := Lib.hid (has_yes h a ha)
  have HN := Lib.hid (note_any h ⟨0, th, 1, a, 0, 0, st.at a⟩ (st.at a) hl1 hl2)
  clear gb
  go_enter Try.func65, Try.ntmps65
  go_wp2_with (first
    | (go_at_call 74; refine HA.out.mono ?_; rintro e w1 ⟨rfl, rfl⟩)
    | (go_at_call 75; refine HN.out.mono ?_; rintro e w1 ⟨rfl, hm⟩; have HM := Lib.hid hm; clear hm))
  go_ret2
  exact ⟨rfl, HM.out⟩
end Go.Proofs.Ytbhbpfpggfcpgaa
namespace Go.Proofs.Ytbhbpfpggfcpgaa
open Go.ChangeShapes Go.WideShapes Go.ChangeAt Go.RowKit

theorem store_bad {w : World} {base mb : Nat} {st : MemS} {v : MemV} (h : MemAt w base mb st v) (th a x : Int) (ha : a < 0 ∨ (st.words.length : Int) ≤ a) : Calls Try.prog 64 #[.pointer (some ⟨mb, 0, none⟩), .int .i64 th, .int .i64 a, .int .u64 x] w fun e w' =>
    e = .returned (.int .i64 20) ∧ w = w' := by
  have HA := Lib.hid (has_no h a ha)
  clear ha
  go_enter Try.func64, Try.ntmps64
  go_wp2_with (go_at_call 74; refine HA.out.mono ?_; rintro e w1 ⟨rfl, rfl⟩)
  go_ret
  exact ⟨rfl, rfl⟩
theorem swap_bad {w : World} {base mb : Nat} {st : MemS} {v : MemV} (h : MemAt w base mb st v) (th a x y : Int) (ha : a < 0 ∨ (st.words.length : Int) ≤ a) : Calls Try.prog 66 #[.pointer (some ⟨mb, 0, none⟩), .int .i64 th, .int .i64 a, .int .u64 x, .int .u64 y] w fun e w' =>
    e = .returned (.tuple #[.int .u64 0, .bool false, .int .i64 20]) ∧ w = w' := by
  have HA := Lib.hid (has_no h a ha)
  clear ha
  go_enter Try.func66, Try.ntmps66
  go_wp2_with (go_at_call 74; refine HA.out.mono ?_; rintro e w1 ⟨rfl, rfl⟩)
  go_ret3
  exact ⟨rfl, rfl⟩

theorem swap_end {sa : Int} {b c : Bool} (h : c = b) : Ending.returned (.tuple #[.int .u64 sa, .bool b, .int .i64 0]) = .returned (.tuple #[.int .u64 sa, .bool c, .int .i64 0]) := by rw [h]

/-- behind a noted access the word is written -/
theorem note_then {w w1 : World} {base mb : Nat} {st : MemS} {v v1 : MemV} {acc : Acc} {ahd : Int} (h1 : MemAt w1 base mb (st.note acc ahd) v1) (h2 : Only (v.own mb) w w1) (h3 : ∀ k, v1.own mb k → v.own mb k ∨ w.heap.size ≤ k)
    {a g : Nat} (ha : a < st.words.length) (hg : v1.vw.rowBlock = some g) (x : Int) : MemOut w base mb v { st.note acc ahd with words := st.words.set a x } (w1.setCell ⟨g, a, none⟩ (.int .u64 x)) :=
  ⟨v1, h1.put_word (st := st.note acc ahd) ha hg x, h2.set (h3 g (.inr (.inl hg))) _, h3⟩

set_option maxRecDepth 100000 in
set_option maxHeartbeats 1000000 in
theorem store_ok {w : World} {base mb : Nat} {st : MemS} {v : MemV} (h : MemAt w base mb st v) (hl1 : st.log.length ≤ 3000000000000) (hl2 : st.ahead.length ≤ 3000000000000) (th : Int) (a : Nat) (x : Int) (ha : a < st.words.length) :
    Calls Try.prog 64 #[.pointer (some ⟨mb, 0, none⟩), .int .i64 th, .int .i64 (a : Int), .int .u64 x] w fun e w' =>
    e = .returned (.int .i64 0) ∧ MemOut w base mb v (st.store th a x) w' := by
  obtain ⟨c0, c1, c2, c3, z, lt⟩ := h.head
  obtain ⟨ow, cw, ol, cl, oa, ca, rfl, l1, l2, l3, m1, m2, m3⟩ := h.slices
  obtain ⟨g, cg, e, hg, gl, gb, gn, gc, gz⟩ := h.read ha
  cases e
  have HA := Lib.hid (has_yes h a ha)
  have HN := Lib.hid (note_any h ⟨0, th, 2, a, 0, x, 0⟩ (st.at a) hl1 hl2)
  clear gb
  go_enter Try.func64, Try.ntmps64
  go_wp2_with (first
    | (go_at_call 74; refine HA.out.mono ?_; rintro e w1 ⟨rfl, rfl⟩)
    | (go_at_call 75; fail))
  refine HN.out.mono ?_
  rintro e w1 ⟨rfl, v1, k1, k2, k3⟩
  obtain ⟨d0, d1, d2, d3, dz, dlt⟩ := k1.head
  obtain ⟨g2, cg2, e2, hg2, gl2, gb2, gn2, gc2, gz2⟩ := k1.read (a := a) ha
  rw [e2] at d0
  have hlen : (st.note ⟨0, th, 2, a, 0, x, 0⟩ (st.at a)).words.length = st.words.length := rfl
  rw [hlen] at d0 hg2
  have K := Lib.hid (note_then k1 k2 k3 ha gb2 x)
  clear e2 gb2 k1 k2 k3 d1 d2 d3 hlen c0 c1 c2 c3 z lt gc gz h
  go_wp2
  go_ret
  exact ⟨rfl, K.out⟩

set_option maxRecDepth 100000 in
set_option maxHeartbeats 1000000 in
theorem swap_ok {w : World} {base mb : Nat} {st : MemS} {v : MemV} (h : MemAt w base mb st v) (hl1 : st.log.length ≤ 3000000000000) (hl2 : st.ahead.length ≤ 3000000000000) (th : Int) (a : Nat) (x y : Int) (ha : a < st.words.length) :
    Calls Try.prog 66 #[.pointer (some ⟨mb, 0, none⟩), .int .i64 th, .int .i64 (a : Int), .int .u64 x, .int .u64 y] w fun e w' =>
    e = .returned (.tuple #[.int .u64 (st.at a), .bool (decide (st.at a = x)), .int .i64 0]) ∧ MemOut w base mb v (st.swap th a x y) w' := by
  obtain ⟨c0, c1, c2, c3, z, lt⟩ := h.head
  obtain ⟨ow, cw, ol, cl, oa, ca, rfl, l1, l2, l3, m1, m2, m3⟩ := h.slices
  obtain ⟨g, cg, e, hg, gl, gb, gn, gc, gz⟩ := h.read ha
  cases e
  have HA := Lib.hid (has_yes h a ha)
  have HN := Lib.hid (note_any h ⟨0, th, 3, a, x, y, st.at a⟩ (st.at a) hl1 hl2)
  clear gb
  by_cases hx : st.at a = x
  · have hs : Hid (st.swap th a x y = { st.note ⟨0, th, 3, a, x, y, st.at a⟩ (st.at a) with words := st.words.set a y }) := by unfold MemS.swap; rw [if_pos hx]; rfl
    have hb : (st.at a != x) = false := by simpa using hx
    have HD := Lib.hid (show decide (st.at a = x) = true by simpa using hx)
    have HX := Lib.hid hx
    clear hx
    generalize st.at a = sa at *
    go_enter Try.func66, Try.ntmps66
    go_wp2_with (first
      | (go_at_call 74; refine HA.out.mono ?_; rintro e w1 ⟨rfl, rfl⟩)
      | (go_at_call 75; fail))
    refine HN.out.mono ?_
    rintro e w1 ⟨rfl, v1, k1, k2, k3⟩
    obtain ⟨d0, d1, d2, d3, dz, dlt⟩ := k1.head
    obtain ⟨g2, cg2, e2, hg2, gl2, gb2, gn2, gc2, gz2⟩ := k1.read (a := a) ha
    rw [e2] at d0
    have hlen : (st.note ⟨0, th, 3, a, x, y, sa⟩ sa).words.length = st.words.length := rfl
    rw [hlen] at d0 hg2
    have K := Lib.hid (note_then k1 k2 k3 ha gb2 y)
    clear e2 gb2 k1 k2 k3 d1 d2 d3 hlen c0 c1 c2 c3 z lt gc gz h
    go_wp2
    go_ret3
    exact ⟨swap_end HD.out, by rw [hs.out]; exact K.out⟩
  · have hs : Hid (st.swap th a x y = st.note ⟨0, th, 3, a, x, y, st.at a⟩ (st.at a)) := by unfold MemS.swap; rw [if_neg hx]; rfl
    have hb : (st.at a != x) = true := by simpa using hx
    have HD := Lib.hid (show decide (st.at a = x) = false by simpa using hx)
    clear hx
    generalize st.at a = sa at *
    go_enter Try.func66, Try.ntmps66
    go_wp2_with (first
      | (go_at_call 74; refine HA.out.mono ?_; rintro e w1 ⟨rfl, rfl⟩)
      | (go_at_call 75; refine HN.out.mono ?_; rintro e w1 ⟨rfl, hm⟩; have HM := Lib.hid hm; clear hm))
    go_ret3
    exact ⟨swap_end HD.out, by rw [hs.out]; exact HM.out⟩

theorem words_mem {w : World} {base mb : Nat} {st : MemS} {v : MemV} (h : MemAt w base mb st v) (hn : st.words.length ≤ 3000000000000) : Calls Try.prog 56 #[.pointer (some ⟨mb, 0, none⟩)] w (Cloned w 27 1 st.words.length (u64s st.words)) := by
  obtain ⟨c0, c1, c2, c3, z, lt⟩ := h.head
  have HC := Lib.hid (clone_u64 h.rw.src hn)
  obtain ⟨ow, cw, ol, cl, oa, ca, rfl, l1, l2, l3, m1, m2, m3⟩ := h.slices
  go_enter Try.func56, Try.ntmps56
  go_wp2_with (go_at_call 67; refine HC.out.mono ?_; rintro e w1 ⟨o', c', rfl, hn', hm', hr, ho⟩; have HR := Lib.hid hr; have HO := Lib.hid ho; clear hr ho)
  go_ret
  exact ⟨o', c', rfl, hn', hm', HR.out, HO.out⟩
theorem words_nil (w : World) : Calls Try.prog 56 #[.pointer none] w fun e w' => e = .returned (.slice none 0 0) ∧ w = w' := by
  go_enter Try.func56, Try.ntmps56
  go_wp2
  go_ret
  exact ⟨rfl, rfl⟩
end Go.Proofs.Ytbhbpfpggfcpgaa
namespace Go
open Go.RowKit

section
variable {P : Program} {ops : Array Oper} {md : Region.Mode} {C : World → Prop} {n : Nat} {L : Array Bool → Act → Prop}

/-- f operations of the head are still to come, in whatever order; then L. -/
def headAny (P : Program) (md : Region.Mode) (ops : Array Oper) (C : World → Prop) (n : Nat) (L : Array Bool → Act → Prop) : Nat → Array Bool → Act → Prop
  | 0, b, a => L b a
  | f + 1, b, a => (∃ i, i ∈ Region.ready md ops b) ∧ ∀ i, i ∈ Region.ready md ops b → i < n ∧ qOp P ops C i (headAny P md ops C n L f (b.setIfInBounds i true)) a

theorem headAny_sound {g : Nat} {Q : Exit → Act → World → Prop} (hL : ∀ b a w, C w → L b a → wpAny P md ops Q g b a w) :
    ∀ f b a w, C w → headAny P md ops C n L f b a → wpAny P md ops Q (f + g) b a w := by
  intro f
  induction f with
  | zero => intro b a w hw h; rw [Nat.zero_add]; exact hL _ _ _ hw h
  | succ f ih =>
    intro b a w hw h
    obtain ⟨⟨i0, hi0⟩, hall⟩ := h
    rw [show f + 1 + g = (f + g) + 1 by omega]
    refine ⟨fun he => ?_, fun i hi => wpOp_of_qOp hw (fun a' w' hw' h' => ih _ a' w' hw' h') (hall i hi).2⟩
    rw [he] at hi0
    cases hi0

/-- One operation of the head may be taken first. -/
theorem headAny_first {i : Nat} {o : Oper} {v : Value} (hi : ops[i]? = some o) (hsel : ∀ (j : Nat) (o : Oper) cs b, ops[j]? = some o → o.op ≠ .select cs b)
    (hs : Region.sinkB md ops n = true) (hc : Region.chainB md ops n = true) (hn : n < ops.size) (hin : i < n) (hend : ∀ b a, L b a → ∀ j ∈ Region.ready md ops b, n ≤ j) :
    ∀ f b a, HeadInv md ops n b → (∀ j oj, ops[j]? = some oj → j ≠ i → b.getD j true = false → (∀ e ∈ oj.after, Region.binds md e = true → e.on ≠ i) → o.apart ops oj = true) →
      i ∈ Region.ready md ops b → YieldsIn P ops C o v a → headAny P md ops C n L f (b.setIfInBounds i true) (a.put o.dst v) → headAny P md ops C n L (f + 1) b a := by
  intro f
  induction f with
  | zero =>
    intro b a inv hfree hr hy H
    refine ⟨⟨i, hr⟩, fun j hj => ?_⟩
    rcases Nat.lt_or_ge j n with hjn | hjn
    · refine ⟨hjn, ?_⟩
      by_cases e : j = i
      · subst e; exact hy.qOp hi H
      · exact absurd (hend _ _ H j (ready_mono hj e)) (by omega)
    · exact absurd hj (tail_waits hs hc hn inv _ i rfl hin (mem_ready.1 hr).1 j hjn)
  | succ f ih =>
    intro b a inv hfree hr hy H
    have hun := (mem_ready.1 hr).1
    refine ⟨⟨i, hr⟩, fun j hj => ?_⟩
    rcases Nat.lt_or_ge j n with hjn | hjn
    · refine ⟨hjn, ?_⟩
      by_cases e : j = i
      · subst e; exact hy.qOp hi H
      · obtain ⟨hjun, oj, hoj, hall⟩ := mem_ready.1 hj
        have hnot : ∀ x ∈ oj.after, Region.binds md x = true → x.on ≠ i := by
          intro x hx hb heq
          have := hall x hx hb
          rw [heq, getD_both hun] at this
          cases this
        have hq := qOp_put hoj (hfree j oj hoj e hjun hnot) (fun cs b => hsel i o cs b hi) (fun cs b => hsel j oj cs b hoj) hy (H.2 j (ready_mono hj e)).2
        refine qOp_mono (fun a' h3 => ih _ a' (inv.set hj hjn) ?_ (ready_mono hr (Ne.symm e)) h3.1 ?_) hq
        · intro k ok hk hki hku hno
          refine hfree k ok hk hki ?_ hno
          by_cases hjk : j = k
          · subst hjk; exact hjun
          · rwa [getD_set_ne true hjk] at hku
        · rw [Array.setIfInBounds_comm _ _ e]
          exact h3.2
    · exact absurd hj (tail_waits hs hc hn inv _ i rfl hin hun j hjn)

/-- The order of the text, as far as the head goes. -/
theorem headAny_text {g : Nat} {K : Act → Prop} (hsel : Region.noSelect ops = true) (hs : Region.sinkB md ops n = true) (hc : Region.chainB md ops n = true) (hn : n < ops.size) :
    ∀ (l : List Oper) (k : Nat) (b : Array Bool) (a : Act), (∀ j, j < l.length → l[j]? = ops[k + j]?) → k + l.length = n → HeadInv md ops n b →
      Region.lexHead md ops g l.length k b = true → wpQuiet P ops C K l a → headAny P md ops C n (fun b' a' => Region.seqB md ops g n b' = true ∧ K a') l.length b a := by
  intro l
  induction l with
  | nil =>
    intro k b a _ hk _ hB h
    obtain rfl : k = n := by simpa using hk
    exact ⟨hB, h⟩
  | cons o l ih =>
    intro k b a hl hk inv hB h
    have h0 : ops[k]? = some o := by simpa using (hl 0 (by simp)).symm
    simp only [List.length_cons] at hk hB
    simp only [Region.lexHead, Bool.and_eq_true] at hB
    obtain ⟨⟨hr, hf⟩, hB'⟩ := hB
    have hr' : k ∈ Region.ready md ops b := by simpa using hr
    have hq : qOp P ops C k (wpQuiet P ops C K l) a := by unfold qOp; simp only [h0]; exact h
    obtain ⟨v, hy, hK⟩ := yieldsIn_of_qOp h0 hq
    refine headAny_first h0 (Region.noSelect_spec hsel) hs hc hn (by omega) (fun b' a' hL => seqB_ready hL.1) l.length b a inv (Region.free_spec h0 hf) hr' hy ?_
    refine ih (k + 1) _ _ (fun j hj => ?_) (by omega) (inv.set hr' (by omega)) hB' hK
    have := hl (j + 1) (by simp; omega)
    simpa [Nat.add_assoc, Nat.add_comm 1 j] using this

theorem wp_region_more_tail {id : Nat} {Q : Exit → Act → World → Prop} {a : Act} {w : World} {l : List Oper} (n : Nat) (hm : P.follows .mixedOrders = true) (hB : Region.lexTailB .any l.toArray n = true)
    (h : wpQuiet P l.toArray (fun w' => ∃ g : Growth, w' = w.more g.os g.d) (fun a' => ∀ os d, wpList P l.toArray Q (l.drop n) a' (w.more os d)) (l.take n) a) : (Code.region id l.toArray true).wp P Q a w := by
  simp only [Region.lexTailB, Bool.and_eq_true, decide_eq_true_eq] at hB
  obtain ⟨⟨⟨⟨hsel, hn⟩, hs⟩, hc⟩, hlex⟩ := hB
  have hn' : n < l.length := by simpa using hn
  have htl : (l.take n).length = n := by simp; omega
  have hdl : (l.drop n).length = l.toArray.size - n := by simp
  have inv0 : HeadInv .any l.toArray n (Array.replicate l.toArray.size false) :=
    ⟨by simp, fun j oj _ hl => (by rw [getD_replicate_false] at hl; cases hl), fun t _ ht => getD_in (by simpa using ht) (getD_replicate_false _ _)⟩
  have H := headAny_text (md := .any) (g := l.toArray.size - n) hsel hs hc hn (l.take n) 0 _ a (fun j hj => by
    rw [htl] at hj
    simp [hj]) (by simpa using htl) inv0 (by rw [htl]; exact hlex) h
  refine wp_region_any hm ?_
  have hfin := headAny_sound (C := fun w' => ∃ g : Growth, w' = w.more g.os g.d) (Q := Q) (g := l.toArray.size - n) (fun b a' w' hw hL => by
    obtain ⟨g, rfl⟩ := hw
    have := wpAny_of_seq (md := .any) (Q' := Q) (l.drop n) n b a' (w.more g.os g.d) (fun j => by simp [List.getElem?_drop]) (by rw [hdl]; exact hL.1) (hL.2 _ _)
    rwa [hdl] at this) _ _ _ { w with drawn := w.drawn + 1 } ⟨⟨#[], w.drawn + 1⟩, by simp [World.more]⟩ H
  rw [htl, show n + (l.toArray.size - n) = l.toArray.size by omega] at hfin
  exact hfin
end
end Go
