/-
The arena as plain data: states, holders, caches; its parts (ATk) and what a step of theirs does. Plain.
The arena in the heap (ArAt).
Contracts of word.Link, Unlink, Head, Unhead, Number, Value and of the reference's functions on words.
-/
import Derived.Test.YtjcggokhminmoaaQMchS
import Derived.Test.YtjcggokhminmoaaQAddrA
import Derived.Test.YtjcggokhminmoaaRows
import Derived.Test.YtjcggokhminmoaaQMore
namespace Go
open Go.RowKit
open Go.Proofs.Ytjcggokhminmoaa

/-- the arena: what it was made with, each slot's state and holder, each thread's cache -/
structure ArS where
  c0 : Int
  c1 : Int
  c2 : Int
  c3 : Int
  c4 : Int
  c5 : Int
  c6 : Int
  slots : List (Int × Int)
  caches : List (List Int)
structure ArS.Ok (s : ArS) : Prop where
  cfg : okCfg s.c0 s.c1 s.c2 s.c3 s.c4 s.c5 s.c6 = true
  slots : (s.slots.length : Int) = s.c5
  caches : (s.caches.length : Int) = s.c0
def ArS.addr (s : ArS) (r i : Int) : Int := if addrOk s.c1 s.c2 s.c5 s.c6 r i 0 = true then addrAt s.c1 s.c2 s.c5 s.c6 r i 0 else 0
def ArS.has (s : ArS) (k : Int) : Bool := decide (0 ≤ k) && decide (k < (s.slots.length : Int))
def ArS.thread (s : ArS) (t : Int) : Bool := decide (0 ≤ t) && decide (t < (s.caches.length : Int))
def ArS.slot (s : ArS) (k : Int) : Int × Int := s.slots.getD k.toNat (0, 0)
def ArS.cache (s : ArS) (t : Int) : List Int := if s.thread t then s.caches.getD t.toNat [] else []
/-- State's answer -/
def ArS.state (s : ArS) (k : Int) : Int × Int × Int := if s.has k then ((s.slot k).1, (s.slot k).2, 0) else (0, 0, 2)
def ArS.setCache (s : ArS) (t : Int) (l : List Int) : ArS := { s with caches := s.caches.set t.toNat l }
/-- a slot's state changes -/
def ArS.shift (s : ArS) (d : DeskS) (k tgt : Int) : ArS × DeskS :=
  if s.has k && (decide (0 ≤ tgt) && decide (tgt ≤ 5)) then
    ({ s with slots := s.slots.set k.toNat (tgt, if tgt = 0 ∨ tgt = 3 then -1 else d.th) }, d.shift k (s.slot k).1 tgt)
  else (s, d)

/-! words as the parts take them apart and put them together -/
def hTag (w : Int) : Int := if isHead w then w / 4294967296 % 4294967296 else 0
def hIdx (w : Int) : Int := if isHead w then linkIndex w else 0
def lIdx (w : Int) : Int := if decide (0 ≤ w) && isLink w then linkIndex w else 0
def mkLink (i : Int) : Int := if decide (-1 ≤ i) && decide (i ≤ 2147483646) then packLink i false else 0
def mkHead (t i : Int) : Int := if decide (-1 ≤ i) && decide (i ≤ 2147483646) then packHead t i else 0
def tagUp (w : Int) : Int := IntKind.u32.wrap (hTag w + 1)
/-- the part that takes -/
structure TkTake where
  th : Int
  at' : Int
  head : Int
  next : Int
  slot : Int
  taken : Bool
deriving DecidableEq
/-- the loop that puts a slot into the free list, for a thread -/
structure TkPush where
  slot : Int
  at' : Int
  head : Int
  th : Int
deriving DecidableEq
inductive ATk where
  | take (t : TkTake)
  | give (p : TkPush)
  | flush (p : TkPush)
deriving DecidableEq
def ATk.th : ATk → Int
  | .take t => t.th
  | .give p => p.th
  | .flush p => p.th

def TkTake.got (s : ArS) (t : TkTake) (d : DeskS) (k : Int) : ArS × TkTake × DeskS × Bool :=
  ((s.shift d k 2).1, { t with slot := k, taken := true, at' := 0 }, (s.shift d k 2).2, true)
def TkTake.ready (s : ArS) (t : TkTake) (d : DeskS) : ArS × TkTake × DeskS × Bool :=
  if t.at' = 0 then (s, t, d, true)
  else match (s.cache t.th).getLast? with
    | none => (s, t, d, false)
    | some k => TkTake.got (s.setCache t.th (s.cache t.th).dropLast) t d k
def TkTake.step (s : ArS) (t : TkTake) (d : DeskS) : ArS × TkTake × DeskS × Bool :=
  if t.at' = 1 then
    let h := d.word (s.addr 1 0)
    let a : Int := if hIdx h < 0 then 0 else 2
    (s, { t with head := h, at' := a }, d.load (s.addr 1 0), decide (hIdx h < 0))
  else if t.at' = 2 then (s, { t with next := d.word (s.addr 10 (hIdx t.head)), at' := 3 }, d.load (s.addr 10 (hIdx t.head)), false)
  else if t.at' = 3 then
    let x := mkHead (tagUp t.head) (lIdx t.next)
    if d.swaps (s.addr 1 0) t.head then TkTake.got s t (d.swap (s.addr 1 0) t.head x) (hIdx t.head)
    else (s, { t with at' := 1 }, d.swap (s.addr 1 0) t.head x, false)
  else (s, t, d, decide (t.at' = 0))
def TkTake.slotOf (t : TkTake) : Int := if t.taken then t.slot else -1
/-- the call's answer, if the part has ended -/
def TkTake.tell (r : ArS × TkTake × DeskS × Bool) : ArS × TkTake × DeskS × Bool :=
  if r.2.2.2 then (r.1, r.2.1, if 0 ≤ r.2.1.slotOf then { r.2.2.1 with ak := 2, av := r.2.1.slotOf } else { r.2.2.1 with ak := 4, av := 0 }, true) else r

def TkPush.step (s : ArS) (p : TkPush) (d : DeskS) : ArS × TkPush × DeskS × Bool :=
  if p.at' = 1 then (s, { p with head := d.word (s.addr 1 0), at' := 2 }, d.load (s.addr 1 0), false)
  else if p.at' = 2 then (s, { p with at' := 3 }, d.store (s.addr 10 p.slot) (mkLink (hIdx p.head)), false)
  else if p.at' = 3 then
    let x := mkHead (tagUp p.head) p.slot
    if d.swaps (s.addr 1 0) p.head then ((s.shift (d.swap (s.addr 1 0) p.head x) p.slot 0).1, { p with at' := 0 }, (s.shift (d.swap (s.addr 1 0) p.head x) p.slot 0).2, true)
    else (s, { p with at' := 1 }, d.swap (s.addr 1 0) p.head x, false)
  else (s, p, d, false)
def TkPush.giveReady (s : ArS) (p : TkPush) (d : DeskS) : ArS × TkPush × DeskS × Bool :=
  if p.at' = 0 then (s, p, d, true)
  else if s.c4 ≤ ((s.cache p.th).length : Int) then (s, p, d, false)
  else (((s.setCache p.th (s.cache p.th ++ [p.slot])).shift d p.slot 1).1, { p with at' := 0 }, ((s.setCache p.th (s.cache p.th ++ [p.slot])).shift d p.slot 1).2, true)
def TkPush.giveStep (s : ArS) (p : TkPush) (d : DeskS) : ArS × TkPush × DeskS × Bool := if p.at' = 0 then (s, p, d, true) else p.step s d
def TkPush.flushReady (s : ArS) (p : TkPush) (d : DeskS) : ArS × TkPush × DeskS × Bool :=
  match (s.cache p.th).getLast? with
  | none => (s, p, d, true)
  | some k => (s, { p with slot := k, at' := 1 }, d, false)
def TkPush.flushStep (s : ArS) (p : TkPush) (d : DeskS) : ArS × TkPush × DeskS × Bool :=
  if p.at' = 0 then (s, p, d, true)
  else
    let r := p.step s d
    if r.2.2.2 then
      let c := (r.1.cache p.th).dropLast
      match c.getLast? with
      | none => (r.1.setCache p.th c, r.2.1, r.2.2.1, true)
      | some k => (r.1.setCache p.th c, { r.2.1 with slot := k, at' := 1 }, r.2.2.1, false)
    else r

def ATk.ready (s : ArS) (t : ATk) (d : DeskS) : ArS × ATk × DeskS × Bool := match t with
  | .take t => ((TkTake.tell (t.ready s d)).1, .take (TkTake.tell (t.ready s d)).2.1, (TkTake.tell (t.ready s d)).2.2)
  | .give p => ((p.giveReady s d).1, .give (p.giveReady s d).2.1, (p.giveReady s d).2.2)
  | .flush p => ((p.flushReady s d).1, .flush (p.flushReady s d).2.1, (p.flushReady s d).2.2)
def ATk.step (s : ArS) (t : ATk) (d : DeskS) : ArS × ATk × DeskS × Bool := match t with
  | .take t => ((TkTake.tell (t.step s d)).1, .take (TkTake.tell (t.step s d)).2.1, (TkTake.tell (t.step s d)).2.2)
  | .give p => ((p.giveStep s d).1, .give (p.giveStep s d).2.1, (p.giveStep s d).2.2)
  | .flush p => ((p.flushStep s d).1, .flush (p.flushStep s d).2.1, (p.flushStep s d).2.2)
/-- a call begins, or is refused -/
def arMake (s : ArS) (mv : Mv) : Option ATk :=
  if mv.op = 10 then some (.take ⟨mv.th, 1, 0, 0, 0, false⟩)
  else if mv.op = 11 then (if s.has mv.arg && (decide ((s.slot mv.arg).1 = 2) && decide ((s.slot mv.arg).2 = mv.th)) then some (.give ⟨mv.arg, 1, 0, mv.th⟩) else none)
  else if mv.op = 12 then some (.flush ⟨0, 0, 0, mv.th⟩)
  else none

/-! few things are put behind the lists; the desk stays the thread's -/
def Few (d d' : DeskS) (a b : Nat) : Prop := d'.mem.log.length ≤ d.mem.log.length + a ∧ d'.mem.ahead.length ≤ d.mem.ahead.length + a ∧ d'.shifts.length ≤ d.shifts.length + b ∧ d'.th = d.th ∧ d'.now = d.now
theorem Few.refl (d : DeskS) : Few d d 0 0 := ⟨by omega, by omega, by omega, rfl, rfl⟩
theorem Few.trans {d d1 d2 : DeskS} {a b a' b' : Nat} (h : Few d d1 a b) (k : Few d1 d2 a' b') : Few d d2 (a + a') (b + b') := by
  obtain ⟨h1, h2, h3, h4, h5⟩ := h
  obtain ⟨k1, k2, k3, k4, k5⟩ := k
  exact ⟨by omega, by omega, by omega, k4.trans h4, k5.trans h5⟩
theorem Few.le {d d' : DeskS} {a b a' b' : Nat} (h : Few d d' a b) (ha : a ≤ a') (hb : b ≤ b') : Few d d' a' b' := by
  obtain ⟨h1, h2, h3, h4, h5⟩ := h
  exact ⟨by omega, by omega, by omega, h4, h5⟩
theorem few_load (d : DeskS) (a : Int) : Few d (d.load a) 1 0 := by
  obtain ⟨h1, h2, h3, h4, h5⟩ := dload_len d a
  exact ⟨h1, h2, by rw [h3]; omega, h4, h5⟩
theorem few_swap (d : DeskS) (a o x : Int) : Few d (d.swap a o x) 1 0 := by
  obtain ⟨h1, h2, h3, h4, h5⟩ := dswap_len d a o x
  exact ⟨h1, h2, by rw [h3]; omega, h4, h5⟩
theorem few_store (d : DeskS) (a x : Int) : Few d (d.store a x) 1 0 := by
  unfold DeskS.store
  split
  · exact ⟨by simp [MemS.store, MemS.note], by simp [MemS.store, MemS.note], by simp, rfl, rfl⟩
  · exact (Few.refl d).le (by omega) (by omega)
theorem few_shift (s : ArS) (d : DeskS) (k tgt : Int) : Few d (s.shift d k tgt).2 0 1 := by
  unfold ArS.shift
  split
  · exact ⟨by simp [DeskS.shift], by simp [DeskS.shift], by simp [DeskS.shift], rfl, rfl⟩
  · exact (Few.refl d).le (by omega) (by omega)
theorem few_got (s : ArS) (t : TkTake) (d : DeskS) (k : Int) : Few d (TkTake.got s t d k).2.2.1 0 1 := few_shift s d k 2
theorem few_tready (s : ArS) (t : TkTake) (d : DeskS) : Few d (t.ready s d).2.2.1 0 1 := by
  unfold TkTake.ready
  split
  · exact (Few.refl d).le (by omega) (by omega)
  · split
    · exact (Few.refl d).le (by omega) (by omega)
    · exact few_got _ _ _ _
theorem few_tstep (s : ArS) (t : TkTake) (d : DeskS) : Few d (t.step s d).2.2.1 1 1 := by
  unfold TkTake.step
  split
  · exact (few_load d _).le (by omega) (by omega)
  · split
    · exact (few_load d _).le (by omega) (by omega)
    · split
      · simp only
        split
        · exact (few_swap d _ _ _).trans (few_got _ _ _ _)
        · exact (few_swap d _ _ _).le (by omega) (by omega)
      · exact (Few.refl d).le (by omega) (by omega)
theorem few_tell (r : ArS × TkTake × DeskS × Bool) : Few r.2.2.1 (TkTake.tell r).2.2.1 0 0 := by
  unfold TkTake.tell
  split
  · show Few _ (if _ then _ else _) 0 0
    split <;> exact Few.refl _
  · exact Few.refl _
theorem few_pstep (s : ArS) (p : TkPush) (d : DeskS) : Few d (p.step s d).2.2.1 1 1 := by
  unfold TkPush.step
  split
  · exact (few_load d _).le (by omega) (by omega)
  · split
    · exact (few_store d _ _).le (by omega) (by omega)
    · split
      · simp only
        split
        · exact (few_swap d _ _ _).trans (few_shift _ _ _ _)
        · exact (few_swap d _ _ _).le (by omega) (by omega)
      · exact (Few.refl d).le (by omega) (by omega)
theorem few_gready (s : ArS) (p : TkPush) (d : DeskS) : Few d (p.giveReady s d).2.2.1 0 1 := by
  unfold TkPush.giveReady
  split
  · exact (Few.refl d).le (by omega) (by omega)
  · split
    · exact (Few.refl d).le (by omega) (by omega)
    · exact few_shift _ _ _ _
theorem few_gstep (s : ArS) (p : TkPush) (d : DeskS) : Few d (p.giveStep s d).2.2.1 1 1 := by
  unfold TkPush.giveStep
  split
  · exact (Few.refl d).le (by omega) (by omega)
  · exact few_pstep _ _ _
theorem few_fready (s : ArS) (p : TkPush) (d : DeskS) : Few d (p.flushReady s d).2.2.1 0 0 := by
  unfold TkPush.flushReady
  split <;> exact Few.refl d
theorem few_fstep (s : ArS) (p : TkPush) (d : DeskS) : Few d (p.flushStep s d).2.2.1 1 1 := by
  unfold TkPush.flushStep
  split
  · exact (Few.refl d).le (by omega) (by omega)
  · have h := few_pstep s p d
    simp only
    split
    · split <;> exact h
    · exact h
theorem few_ready (s : ArS) (t : ATk) (d : DeskS) : Few d (t.ready s d).2.2.1 2 4 := by
  cases t with
  | take t => exact ((few_tready s t d).trans (few_tell _)).le (by omega) (by omega)
  | give p => exact (few_gready s p d).le (by omega) (by omega)
  | flush p => exact (few_fready s p d).le (by omega) (by omega)
theorem few_step (s : ArS) (t : ATk) (d : DeskS) : Few d (t.step s d).2.2.1 2 4 := by
  cases t with
  | take t => exact ((few_tstep s t d).trans (few_tell _)).le (by omega) (by omega)
  | give p => exact (few_gstep s p d).le (by omega) (by omega)
  | flush p => exact (few_fstep s p d).le (by omega) (by omega)
end Go
namespace Go
open Go.RowKit
open Go.Proofs.Ytjcggokhminmoaa

def slotC (x : Int × Int) : List Value := [.int .i64 x.1, .int .i64 x.2]
def slotsC (l : List (Int × Int)) : List Value := l.flatMap slotC
theorem slotsC_len (l : List (Int × Int)) : (slotsC l).length = l.length * 2 := flat_len (f := slotC) (k := 2) (fun _ => rfl) l
theorem slotsC_get (l : List (Int × Int)) (i j : Nat) (hi : i < l.length) (hj : j < 2) : (slotsC l)[i * 2 + j]? = (slotC l[i])[j]? := flat_get (f := slotC) (k := 2) (fun _ => rfl) l i j hi hj
theorem slotsC_set (l : List (Int × Int)) (i j : Nat) (hi : i < l.length) (hj : j < 2) (y : Int × Int) (u : Value) (h : slotC y = (slotC l[i]).set j u) : (slotsC l).set (i * 2 + j) u = slotsC (l.set i y) := flat_set (f := slotC) (k := 2) (fun _ => rfl) y u l i j hi hj h
def intsC (l : List Int) : List Value := l.map (Value.int .i64)
theorem intsC_len (l : List Int) : (intsC l).length = l.length := by simp [intsC]
theorem intsC_one (l : List Int) : ∀ u ∈ intsC l, u.oneCell' = true := by
  intro u hu
  simp only [intsC, List.mem_map] at hu
  obtain ⟨x, _, rfl⟩ := hu
  rfl

/-- the arena's slots: the slots' row, the caches' row, each cache's row; a colour for each block -/
structure ArV where
  vsl : Value
  vca : Value
  vcs : List Value
  col : Nat → Nat
def ArV.own (v : ArV) (ab k : Nat) : Prop := k = ab ∨ v.vsl.rowBlock = some k ∨ v.vca.rowBlock = some k ∨ ∃ (i : Nat) (u : Value), v.vcs[i]? = some u ∧ u.rowBlock = some k
def ArS.blk (s : ArS) (v : ArV) : Array Value := #[.int .i64 s.c0, .int .i64 s.c1, .int .i64 s.c2, .int .i64 s.c3, .int .i64 s.c4, .int .i64 s.c5, .int .i64 s.c6, v.vsl, v.vca]
structure ArAt (w : World) (base ab : Nat) (s : ArS) (v : ArV) : Prop where
  blk : w.heap[ab]? = some (.cells (s.blk v) 85 (0, 0))
  ge : base ≤ ab
  rsl : w.RowV base 87 2 v.vsl s.slots.length (slotsC s.slots)
  rca : w.RowV base 53 1 v.vca s.caches.length v.vcs
  len : v.vcs.length = s.caches.length
  rc : ∀ (i : Nat) (u : Value) (l : List Int), v.vcs[i]? = some u → s.caches[i]? = some l → w.RowV base 3 1 u l.length (intsC l)
  cx : v.col ab = 0
  cs : ∀ k, v.vsl.rowBlock = some k → v.col k = 1
  cc : ∀ k, v.vca.rowBlock = some k → v.col k = 2
  ci : ∀ (i : Nat) (u : Value) k, v.vcs[i]? = some u → u.rowBlock = some k → v.col k = 3 + i
  ok : s.Ok

section
variable {w w' : World} {base ab : Nat} {s : ArS} {v : ArV}
theorem ArAt.cacheAt (h : ArAt w base ab s v) {i : Nat} {u : Value} (hu : v.vcs[i]? = some u) : ∃ l, s.caches[i]? = some l ∧ w.RowV base 3 1 u l.length (intsC l) := by
  have hi := (List.getElem?_eq_some_iff.1 hu).1
  rw [h.len] at hi
  exact ⟨_, List.getElem?_eq_getElem hi, h.rc i u _ hu (List.getElem?_eq_getElem hi)⟩
theorem ArAt.lt (h : ArAt w base ab s v) : ∀ k, v.own ab k → base ≤ k ∧ k < w.heap.size := by
  rintro k (rfl | hk | hk | ⟨i, u, hu, hk⟩)
  · exact ⟨h.ge, (Array.getElem?_eq_some_iff.1 h.blk).1⟩
  · exact h.rsl.lt k hk
  · exact h.rca.lt k hk
  · obtain ⟨l, _, hr⟩ := h.cacheAt hu
    exact hr.lt k hk
theorem ArAt.of_block (h : ArAt w base ab s v) (hb : ∀ k, v.own ab k → w'.heap[k]? = w.heap[k]?) : ArAt w' base ab s v :=
  ⟨by rw [hb ab (.inl rfl)]; exact h.blk, h.ge, h.rsl.of_block fun k hk => hb k (.inr (.inl hk)), h.rca.of_block fun k hk => hb k (.inr (.inr (.inl hk))), h.len,
    fun i u l hu hl => (h.rc i u l hu hl).of_block fun k hk => hb k (.inr (.inr (.inr ⟨i, u, hu, hk⟩))), h.cx, h.cs, h.cc, h.ci, h.ok⟩
theorem ArAt.only {F : Nat → Prop} (h : ArAt w base ab s v) (ho : Only F w w') (hF : ∀ k, v.own ab k → ¬ F k) : ArAt w' base ab s v :=
  h.of_block fun k hk => ho.block k (h.lt k hk).2 (hF k hk)
theorem ArAt.base_mono {b' : Nat} (h : ArAt w base ab s v) (hb : b' ≤ base) : ArAt w b' ab s v :=
  ⟨h.blk, Nat.le_trans hb h.ge, h.rsl.base_mono hb, h.rca.base_mono hb, h.len, fun i u l hu hl => (h.rc i u l hu hl).base_mono hb, h.cx, h.cs, h.cc, h.ci, h.ok⟩
/-- the arena's own cells -/
theorem ArAt.head (h : ArAt w base ab s v) : w.cell? ⟨ab, 0, none⟩ = some (.int .i64 s.c0) ∧ w.cell? ⟨ab, 1, none⟩ = some (.int .i64 s.c1) ∧ w.cell? ⟨ab, 2, none⟩ = some (.int .i64 s.c2) ∧ w.cell? ⟨ab, 3, none⟩ = some (.int .i64 s.c3) ∧
    w.cell? ⟨ab, 4, none⟩ = some (.int .i64 s.c4) ∧ w.cell? ⟨ab, 5, none⟩ = some (.int .i64 s.c5) ∧ w.cell? ⟨ab, 6, none⟩ = some (.int .i64 s.c6) ∧ w.cell? ⟨ab, 7, none⟩ = some v.vsl ∧ w.cell? ⟨ab, 8, none⟩ = some v.vca ∧
    (∀ j, w.frozen? ⟨ab, j, none⟩ = false) ∧ ab < w.heap.size := by
  refine ⟨?_, ?_, ?_, ?_, ?_, ?_, ?_, ?_, ?_, fun j => ?_, (Array.getElem?_eq_some_iff.1 h.blk).1⟩
  all_goals simp [World.cell?, World.frozen?, h.blk, ArS.blk]
theorem ArAt.ns (h : ArAt w base ab s v) : ∀ k, v.vsl.rowBlock = some k → k ≠ ab := fun k hk e => by have := h.cs k hk; rw [e, h.cx] at this; cases this
theorem ArAt.nc (h : ArAt w base ab s v) : ∀ k, v.vca.rowBlock = some k → k ≠ ab := fun k hk e => by have := h.cc k hk; rw [e, h.cx] at this; cases this
theorem ArAt.ni (h : ArAt w base ab s v) {i : Nat} {u : Value} (hu : v.vcs[i]? = some u) : ∀ k, u.rowBlock = some k → k ≠ ab := fun k hk e => by have := h.ci i u k hu hk; rw [e, h.cx] at this; omega

/-- a slot's cells -/
theorem ArAt.slotAt (h : ArAt w base ab s v) {i : Nat} (hi : i < s.slots.length) : ∃ g cap, v.vsl = .slice (some ⟨g, 0, none⟩) s.slots.length cap ∧ s.slots.length ≤ cap ∧ cap ≤ maxLen ∧ v.vsl.rowBlock = some g ∧ g < w.heap.size ∧ g ≠ ab ∧ (∀ j, w.frozen? ⟨g, j, none⟩ = false) ∧
    w.cell? ⟨g, i * 2, none⟩ = some (.int .i64 s.slots[i].1) ∧ w.cell? ⟨g, i * 2 + 1, none⟩ = some (.int .i64 s.slots[i].2) := by
  obtain ⟨g, cap, e, f1, f2, f3, f4, f5, f6⟩ := h.rsl.some_form (by omega)
  obtain ⟨o, c, e2, _, h2⟩ := h.rsl.form
  have hc : c = cap := by rw [e] at e2; cases e2; rfl
  subst hc
  exact ⟨g, c, e, f1, h2, f4, f3, h.ns g f4, f5, f6 _ _ (slotsC_get s.slots i 0 hi (by omega)), f6 _ _ (slotsC_get s.slots i 1 hi (by omega))⟩
/-- a slot is written: one of its two cells -/
theorem ArAt.putSlot (h : ArAt w base ab s v) {g i j : Nat} (hg : v.vsl.rowBlock = some g) (hi : i < s.slots.length) (hj : j < 2) (y : Int × Int) (u : Value) (hy : slotC y = (slotC s.slots[i]).set j u) :
    ArAt (w.setCell ⟨g, i * 2 + j, none⟩ u) base ab { s with slots := s.slots.set i y } v := by
  have hga := h.ns g hg
  have c1 := h.cs g hg
  refine ⟨?_, h.ge, ?_, ?_, h.len, fun i' u' l hu hl => ?_, h.cx, h.cs, h.cc, h.ci, ⟨h.ok.cfg, by simpa using h.ok.slots, h.ok.caches⟩⟩
  · rw [Below.heap_setCell _ _ _ _ (Ne.symm hga)]; exact h.blk
  · show World.RowV _ _ _ _ _ (s.slots.set i y).length _
    rw [List.length_set, ← slotsC_set s.slots i j hi hj y u hy]
    exact h.rsl.put hg _ (by have : i + 1 ≤ s.slots.length := hi; have := Nat.mul_le_mul_right 2 this; omega) u
  · exact h.rca.set (fun k hk e => by have := h.cc k hk; rw [show k = g from e, c1] at this; cases this) u
  · exact (h.rc i' u' l hu hl).set (fun k hk e => by have := h.ci i' u' k hu hk; rw [show k = g from e, c1] at this; omega) u
/-- a cache's cell -/
theorem ArAt.cacheCell (h : ArAt w base ab s v) {i : Nat} (hi : i < s.caches.length) : ∃ g cap u, v.vca = .slice (some ⟨g, 0, none⟩) s.caches.length cap ∧ s.caches.length ≤ cap ∧ cap ≤ maxLen ∧ v.vca.rowBlock = some g ∧ g < w.heap.size ∧ g ≠ ab ∧ (∀ j, w.frozen? ⟨g, j, none⟩ = false) ∧
    w.cell? ⟨g, i, none⟩ = some u ∧ v.vcs[i]? = some u ∧ w.RowV base 3 1 u s.caches[i].length (intsC s.caches[i]) := by
  obtain ⟨g, cap, e, f1, f2, f3, f4, f5, f6⟩ := h.rca.some_form (by omega)
  obtain ⟨o, c, e2, _, h2⟩ := h.rca.form
  have hc : c = cap := by rw [e] at e2; cases e2; rfl
  subst hc
  have hv : v.vcs[i]? = some (v.vcs[i]'(by rw [h.len]; exact hi)) := List.getElem?_eq_getElem _
  exact ⟨g, c, _, e, f1, h2, f4, f3, h.nc g f4, f5, f6 _ _ hv, hv, h.rc i _ _ hv (List.getElem?_eq_getElem hi)⟩
/-- a cache is written: its row's value (the row shrank, or was appended to) -/
theorem ArAt.putCache {w1 : World} (h : ArAt w base ab s v) {g i : Nat} (hg : v.vca.rowBlock = some g) (hi : i < s.caches.length) {u : Value} {l : List Int} (hr : w1.RowV base 3 1 u l.length (intsC l))
    (hb : ∀ k, k < w.heap.size → (∀ u0, v.vcs[i]? = some u0 → u0.rowBlock ≠ some k) → w1.heap[k]? = w.heap[k]?)
    (hold : ∀ k, u.rowBlock = some k → (∃ u0, v.vcs[i]? = some u0 ∧ u0.rowBlock = some k) ∨ w.heap.size ≤ k) :
    ArAt (w1.setCell ⟨g, i, none⟩ u) base ab { s with caches := s.caches.set i l } { v with vcs := v.vcs.set i u, col := fun k => if w.heap.size ≤ k then 3 + i else v.col k } := by
  have hlt := h.lt
  have hne : ∀ k, v.col k ≠ 3 + i → ∀ u0, v.vcs[i]? = some u0 → u0.rowBlock ≠ some k := fun k hk u0 h0 e => hk (h.ci i u0 k h0 e)
  have hga := h.nc g hg
  have c1 := h.cc g hg
  have hcol : ∀ k, v.own ab k → (if w.heap.size ≤ k then 3 + i else v.col k) = v.col k := fun k hk => by rw [if_neg (by have := (hlt k hk).2; omega)]
  refine ⟨?_, h.ge, ?_, ?_, ?_, fun i' u' l' hu hl => ?_, ?_, fun k hk => ?_, fun k hk => ?_, fun i' u' k hu hk => ?_, ⟨h.ok.cfg, h.ok.slots, by simpa using h.ok.caches⟩⟩
  · rw [Below.heap_setCell _ _ _ _ (Ne.symm hga), hb ab (hlt ab (.inl rfl)).2 (hne ab (by rw [h.cx]; omega))]; exact h.blk
  · refine (h.rsl.of_block fun k hk => hb k (hlt k (.inr (.inl hk))).2 (hne k (by rw [h.cs k hk]; omega))).set (fun k hk e => by have := h.cs k hk; rw [show k = g from e, c1] at this; cases this) u
  · show World.RowV _ _ _ _ _ (s.caches.set i l).length _
    rw [List.length_set]
    exact (h.rca.of_block fun k hk => hb k (hlt k (.inr (.inr (.inl hk)))).2 (hne k (by rw [h.cc k hk]; omega))).put hg _ (by omega) u
  · show (v.vcs.set i u).length = (s.caches.set i l).length
    rw [List.length_set, List.length_set]; exact h.len
  · have hu' : (v.vcs.set i u)[i']? = some u' := hu
    have hl' : (s.caches.set i l)[i']? = some l' := hl
    by_cases e : i = i'
    · subst e
      rw [List.getElem?_set_self (by rw [h.len]; exact hi)] at hu'
      rw [List.getElem?_set_self hi] at hl'
      cases hu'
      cases hl'
      refine hr.set (fun k hk e => ?_) _
      rcases hold k hk with ⟨u0, h0, h1⟩ | h1
      · have := h.ci i u0 k h0 h1
        rw [show k = g from e, c1] at this
        omega
      · have := (hlt g (.inr (.inr (.inl hg)))).2
        have e' : k = g := e
        omega
    · rw [List.getElem?_set_ne e] at hu' hl'
      refine ((h.rc i' u' l' hu' hl').of_block fun k hk => hb k (hlt k (.inr (.inr (.inr ⟨i', u', hu', hk⟩)))).2 (hne k (by rw [h.ci i' u' k hu' hk]; omega))).set (fun k hk e => by have := h.ci i' u' k hu' hk; rw [show k = g from e, c1] at this; omega) u
  · exact (hcol ab (.inl rfl)).trans h.cx
  · exact (hcol k (.inr (.inl hk))).trans (h.cs k hk)
  · exact (hcol k (.inr (.inr (.inl hk)))).trans (h.cc k hk)
  · have hu' : (v.vcs.set i u)[i']? = some u' := hu
    by_cases e : i = i'
    · subst e
      rw [List.getElem?_set_self (by rw [h.len]; exact hi)] at hu'
      cases hu'
      rcases hold k hk with ⟨u0, h0, h1⟩ | h1
      · exact (hcol k (.inr (.inr (.inr ⟨i, u0, h0, h1⟩)))).trans (h.ci i u0 k h0 h1)
      · show (if _ then _ else _) = _
        rw [if_pos h1]
    · rw [List.getElem?_set_ne e] at hu'
      exact (hcol k (.inr (.inr (.inr ⟨i', u', hu', hk⟩)))).trans (h.ci i' u' k hu' hk)
end
theorem World.RowV.shrink {w : World} {base e size n : Nat} {xs : List Value} {o : Option Addr} {c : Nat} (h : w.RowV base e size (.slice o n c) n xs) {m : Nat} (hm : m ≤ n) : w.RowV base e size (.slice o m c) m (xs.take (m * size)) := by
  have hms := Nat.mul_le_mul_right size hm
  refine ⟨by rw [List.length_take, h.1]; omega, ?_⟩
  rcases h.2 with ⟨o', ho, hn⟩ | ⟨g, cap, cur, he, h1, h2, h3, h4, h5, h6, h7⟩
  · cases ho
    obtain rfl : m = 0 := by omega
    exact .inl ⟨_, rfl, rfl⟩
  · cases he
    exact .inr ⟨g, c, cur, rfl, h1, h2, Nat.le_trans hm h3, h4, h5, h6, by rw [← h7, List.take_take]; congr 1; omega⟩
end Go
namespace Go.Proofs.Ytjcggokhminmoaa
open Go.ChangeShapes Go.WideShapes Go.ChangeAt Go.RowKit

theorem link_bad (i : Int) (m : Bool) (w : World) (h : i < -1 ∨ 2147483646 < i) : Calls Try.prog 110 #[.int .i64 i, .bool m] w fun e w' => e = .returned (.tuple #[.int .u64 0, .int .i64 2]) ∧ w = w' := by
  rcases h with h | h
  · go_enter Try.func110, Try.ntmps110
    go_wp2
    go_ret2
    exact ⟨rfl, rfl⟩
  · have h' : ¬ i < -1 := by omega
    go_enter Try.func110, Try.ntmps110
    go_wp2
    go_ret2
    exact ⟨rfl, rfl⟩

theorem link_ok (i : Int) (m : Bool) (w : World) (h : -1 ≤ i) (h2 : i ≤ 2147483646) : Calls Try.prog 110 #[.int .i64 i, .bool m] w fun e w' => e = .returned (.tuple #[.int .u64 (packLink i m), .int .i64 0]) ∧ w = w' := by
  have hb := or_mark (i + 1) (by omega) (by omega)
  have HB := Lib.hid hb; clear hb
  cases m
  all_goals
    go_enter Try.func110, Try.ntmps110
    go_wp2
    go_ret2
    refine ⟨ret_v ?_, rfl⟩
  · show Value.tuple #[.int .u64 (i + 1), _] = _
    rw [packLink]; simp
  · show Value.tuple #[.int .u64 (bits .or .u64 (i + 1) 4294967296), _] = _
    rw [packLink, HB.out]; simp

theorem packLink_any (i : Int) (m : Bool) (w : World) (h : -1 ≤ i) (h2 : i ≤ 2147483646) : Calls Try.prog 52 #[.int .i64 i, .bool m] w fun e w' => e = .returned (.int .u64 (packLink i m)) ∧ w = w' := by
  cases m
  all_goals
    go_enter Try.func52, Try.ntmps52
    go_wp2
    go_ret
    refine ⟨ret_v ?_, rfl⟩
  · show Value.int .u64 (i + 1) = _
    rw [packLink]; simp
  · show Value.int .u64 (i + 1 + 4294967296) = _
    rw [packLink]; simp

theorem unlink_bad (v : Int) (w : World) (h0 : 0 ≤ v) (h1 : v ≤ 18446744073709551615) (h : isLink v = false) : Calls Try.prog 104 #[.int .u64 v] w fun e w' => e = .returned (.tuple #[.int .i64 0, .bool false, .int .i64 10]) ∧ w = w' := by
  have hb := and_low v h0 h1
  have hh : 8589934592 ≤ v ∨ 2147483647 < v % 4294967296 := by simp [isLink] at h; omega
  go_enter Try.func104, Try.ntmps104
  go_wp2
  all_goals
    go_ret3
    exact ⟨rfl, rfl⟩

theorem unlink_ok (v : Int) (w : World) (h0 : 0 ≤ v) (h1 : v ≤ 18446744073709551615) (h : isLink v = true) : Calls Try.prog 104 #[.int .u64 v] w fun e w' => e = .returned (.tuple #[.int .i64 (linkIndex v), .bool (linkMark v), .int .i64 0]) ∧ w = w' := by
  have hb := and_low v h0 h1
  have hc := and_mark v h0 h1
  have hh : v < 8589934592 ∧ v % 4294967296 ≤ 2147483647 := by simp [isLink] at h; omega
  obtain ⟨ha, hd⟩ := hh
  rw [← mark_ne]
  go_enter Try.func104, Try.ntmps104
  go_wp2
  go_ret3
  exact ⟨rfl, rfl⟩

theorem head_bad (t i : Int) (w : World) (h : i < -1 ∨ 2147483646 < i) : Calls Try.prog 105 #[.int .u32 t, .int .i64 i] w fun e w' => e = .returned (.tuple #[.int .u64 0, .int .i64 2]) ∧ w = w' := by
  go_enter Try.func105, Try.ntmps105
  go_wp2_with (go_at_call 110; refine (link_bad _ _ _ h).mono ?_; rintro e w' ⟨rfl, rfl⟩)
  go_ret2
  exact ⟨rfl, rfl⟩

theorem head_ok (t i : Int) (w : World) (h : -1 ≤ i) (h2 : i ≤ 2147483646) (h3 : 0 ≤ t) (h4 : t ≤ 4294967295) : Calls Try.prog 105 #[.int .u32 t, .int .i64 i] w fun e w' => e = .returned (.tuple #[.int .u64 (packHead t i), .int .i64 0]) ∧ w = w' := by
  have hb := or_tag t (i + 1) h3 h4 (by omega) (by omega)
  have hp : packLink i false = i + 1 := by simp [packLink]
  go_enter Try.func105, Try.ntmps105
  go_wp2_with (go_at_call 110; refine (link_ok _ _ _ h h2).mono ?_; rintro e w' ⟨rfl, rfl⟩)
  go_ret2
  exact ⟨rfl, rfl⟩

theorem packHead_any (t i : Int) (w : World) (h : -1 ≤ i) (h2 : i ≤ 2147483646) (h3 : 0 ≤ t) (h4 : t ≤ 4294967295) : Calls Try.prog 51 #[.int .u64 t, .int .i64 i] w fun e w' => e = .returned (.int .u64 (packHead t i)) ∧ w = w' := by
  have ht : t % 4294967296 = t := by omega
  go_enter Try.func51, Try.ntmps51
  go_wp2
  go_ret
  exact ⟨rfl, rfl⟩

theorem isLink_low {v : Int} (_h0 : 0 ≤ v) : isLink (v % 4294967296) = isHead v := by
  unfold isLink isHead
  rw [Bool.eq_iff_iff]; simp; omega

theorem linkIndex_low (v : Int) : linkIndex (v % 4294967296) = linkIndex v := by
  unfold linkIndex; omega

theorem unhead_bad (v : Int) (w : World) (h0 : 0 ≤ v) (h1 : v ≤ 18446744073709551615) (h : isHead v = false) : Calls Try.prog 103 #[.int .u64 v] w fun e w' => e = .returned (.tuple #[.int .u32 0, .int .i64 0, .int .i64 10]) ∧ w = w' := by
  have hb := and_low v h0 h1
  go_enter Try.func103, Try.ntmps103
  go_wp2_with (go_at_call 104; refine (unlink_bad _ _ (by omega) (by omega) (by rw [isLink_low h0]; exact h)).mono ?_; rintro e w' ⟨rfl, rfl⟩)
  go_ret3
  exact ⟨rfl, rfl⟩

theorem unhead_ok (v : Int) (w : World) (h0 : 0 ≤ v) (h1 : v ≤ 18446744073709551615) (h : isHead v = true) : Calls Try.prog 103 #[.int .u64 v] w fun e w' => e = .returned (.tuple #[.int .u32 (v / 4294967296), .int .i64 (linkIndex v), .int .i64 0]) ∧ w = w' := by
  have hb := and_low v h0 h1
  rw [← linkIndex_low]
  go_enter Try.func103, Try.ntmps103
  go_wp2_with (go_at_call 104; refine (unlink_ok _ _ (by omega) (by omega) (by rw [isLink_low h0]; exact h)).mono ?_; rintro e w' ⟨rfl, rfl⟩)
  go_ret3
  exact ⟨rfl, rfl⟩

end Go.Proofs.Ytjcggokhminmoaa
