/-
Lists of moves that are laid anew (mvsC): as a source, as a row.
The document's machine (reclaimref03.Machine) as data, and where it lies in the heap (RMAt).
reclaimref03: one instruction without an access (local), for the instructions of the machine's own calls.
A row of the document's machine grows (RMAt.app).
-/
import Derived.Test.YtbhbpfpggfcpgaaQInS
namespace Go
open Go.RowKit
open Go.Proofs.Ytbhbpfpggfcpgaa

def mvsC (l : List Mv) : List Value := l.flatMap Mv.cells
theorem mvsC_len (l : List Mv) : (mvsC l).length = l.length * 4 := by
  induction l with
  | nil => rfl
  | cons m l ih => simp only [mvsC, List.flatMap_cons, List.length_append, List.length_cons] at ih ⊢; rw [ih]; simp [Mv.cells]; omega
theorem mvsC_get (l : List Mv) (i j : Nat) (hi : i < l.length) (hj : j < 4) : (mvsC l)[i * 4 + j]? = l[i].cells[j]? := flat_get (f := Mv.cells) (k := 4) (fun _ => rfl) l i j hi hj
theorem mvsC_app (a b : List Mv) : mvsC (a ++ b) = mvsC a ++ mvsC b := by simp [mvsC]
theorem mvsC_one (l : List Mv) : ∀ u ∈ mvsC l, u.oneCell' = true := by
  intro u hu
  simp only [mvsC, List.mem_flatMap, Mv.cells] at hu
  obtain ⟨x, _, hx⟩ := hu
  simp at hx
  rcases hx with rfl | rfl | rfl | rfl <;> rfl
theorem addr_add (b off j : Nat) : (⟨b, off, none⟩ : Addr).add j = ⟨b, off + j, none⟩ := by unfold Addr.add; split <;> simp_all
end Go
namespace Go.Proofs.Ytbhbpfpggfcpgaa
open Go.ChangeShapes Go.WideShapes Go.ChangeAt Go.RowKit Go.Shelf
theorem infoMove : (Try.prog.info? 34).map (fun i => (i.zero, i.size, i.bytes)) = some (some (.agg #[.int .i64 0, .int .i64 0, .int .i64 0, .int .i64 0]), 4, 32) := by kernel_rfl
theorem MvsIn.src {w : World} {om : Option Addr} {cm : Nat} {ms : List Mv} (h : MvsIn w (.slice om ms.length cm) ms) (hn : om = none → cm = 0) : w.Src 4 (.slice om ms.length cm) ms.length (mvsC ms) := by
  obtain ⟨o, c, e, h1, h2, h3⟩ := h
  cases e
  refine ⟨mvsC_len ms, ?_⟩
  cases om with
  | none =>
    have := hn rfl
    subst this
    have h0 : ms.length = 0 := by omega
    exact .inl ⟨by rw [h0], h0⟩
  | some ad =>
    refine .inr ⟨ad, cm, rfl, h1, fun j u hu => ?_⟩
    have hj := (List.getElem?_eq_some_iff.1 hu).1
    rw [mvsC_len] at hj
    have hi : j / 4 < ms.length := by omega
    obtain ⟨b, off, e1, hb, c0, c1, c2, c3⟩ := h3 (j / 4) hi
    cases e1
    have hjj : j = j / 4 * 4 + j % 4 := by omega
    have hr : j % 4 < 4 := Nat.mod_lt _ (by omega)
    rw [addr_add]
    rw [hjj, mvsC_get ms _ _ hi hr] at hu
    rw [hjj]
    generalize j % 4 = r at *
    generalize hq : j / 4 = q at *
    rw [← Nat.add_assoc]
    rcases (by omega : r = 0 ∨ r = 1 ∨ r = 2 ∨ r = 3) with rfl | rfl | rfl | rfl
    · cases hu; exact c0
    · cases hu; exact c1
    · cases hu; exact c2
    · cases hu; exact c3
theorem MvsIn.of_row {w : World} {base : Nat} {v : Value} {ms : List Mv} (h : w.RowV base 34 4 v ms.length (mvsC ms)) : MvsIn w v ms := by
  obtain ⟨o, c, rfl, h1, h2⟩ := h.form
  refine ⟨o, c, rfl, h1, h2, fun i hi => ?_⟩
  obtain ⟨g, cap, e, f1, f2, f3, f4, f5, f6⟩ := h.some_form (by omega)
  simp only [Value.slice.injEq] at e
  obtain ⟨rfl, _, rfl⟩ := e
  refine ⟨g, 0, rfl, f3, ?_, ?_, ?_, ?_⟩
  · rw [Nat.zero_add]; exact f6 (i * 4 + 0) _ (mvsC_get ms i 0 hi (by omega))
  · rw [Nat.zero_add]; exact f6 (i * 4 + 1) _ (mvsC_get ms i 1 hi (by omega))
  · rw [Nat.zero_add]; exact f6 (i * 4 + 2) _ (mvsC_get ms i 2 hi (by omega))
  · rw [Nat.zero_add]; exact f6 (i * 4 + 3) _ (mvsC_get ms i 3 hi (by omega))
end Go.Proofs.Ytbhbpfpggfcpgaa
namespace Go
open Go.RowKit
open Go.Proofs.Ytbhbpfpggfcpgaa

/-! lists of cells, k for each entry of these -/
theorem flat_len' {α β : Type} {f : α → List β} {k : Nat} : ∀ (l : List α), (∀ x ∈ l, (f x).length = k) → (l.flatMap f).length = l.length * k := by
  intro l
  induction l with
  | nil => intro _; simp
  | cons x l ih => intro hk; rw [List.flatMap_cons, List.length_append, hk x (by simp), ih (fun y hy => hk y (by simp [hy])), List.length_cons, Nat.add_mul]; omega
theorem flat_get' {α β : Type} {f : α → List β} {k : Nat} : ∀ (l : List α), (∀ x ∈ l, (f x).length = k) → ∀ (i j : Nat) (hi : i < l.length), j < k → (l.flatMap f)[i * k + j]? = (f l[i])[j]? := by
  intro l
  induction l with
  | nil => intro _ i j hi; simp at hi
  | cons x l ih =>
    intro hk i j hi hj
    have hx := hk x (by simp)
    rw [List.flatMap_cons]
    cases i with
    | zero => rw [List.getElem?_append_left (by rw [hx]; omega)]; simp
    | succ i =>
      rw [List.getElem?_append_right (by rw [hx, Nat.add_mul]; omega), hx, show (i + 1) * k + j - k = i * k + j by rw [Nat.add_mul]; omega, ih (fun y hy => hk y (by simp [hy])) i j (by simpa using hi) hj]
      simp
theorem flat_set' {α β : Type} {f : α → List β} {k : Nat} (y : α) (u : β) : ∀ (l : List α), (∀ x ∈ l, (f x).length = k) → ∀ (i j : Nat) (hi : i < l.length), j < k → f y = (f l[i]).set j u → (l.flatMap f).set (i * k + j) u = (l.set i y).flatMap f := by
  intro l
  induction l with
  | nil => intro _ i j hi; simp at hi
  | cons x l ih =>
    intro hk i j hi hj hy
    have hx := hk x (by simp)
    rw [List.flatMap_cons]
    cases i with
    | zero =>
      rw [List.set_append_left _ _ (by rw [hx]; omega)]
      simp only [List.getElem_cons_zero, Nat.zero_mul, Nat.zero_add, List.set_cons_zero, List.flatMap_cons] at hy ⊢
      rw [hy]
    | succ i =>
      rw [List.set_append_right _ _ (by rw [hx, Nat.add_mul]; omega), hx, show (i + 1) * k + j - k = i * k + j by rw [Nat.add_mul]; omega, ih (fun y hy => hk y (by simp [hy])) i j (by simpa using hi) hj (by simpa using hy)]
      simp

structure Ins where
  kd : Int
  a : Int
  b : Int
  c : Int
  d : Int
  tgt : Int
deriving DecidableEq, Inhabited
def Ins.cells (i : Ins) : List Value := [.int .i64 i.kd, .int .i64 i.a, .int .i64 i.b, .int .i64 i.c, .int .i64 i.d, .int .i64 i.tgt]
def Ins.v (i : Ins) : Value := .agg #[.int .i64 i.kd, .int .i64 i.a, .int .i64 i.b, .int .i64 i.c, .int .i64 i.d, .int .i64 i.tgt]
structure Ent where
  op : Int
  lb : Int
  nd : Int
deriving DecidableEq, Inhabited
def Ent.cells (i : Ent) : List Value := [.int .i64 i.op, .int .i64 i.lb, .int .i64 i.nd]

/-- a thread -/
structure RT where
  busy : Bool
  call : Int
  pos : Int
  r : List Int
  vback : Value
  vcache : Value
  rc : Int
  vnames : Value
  vpend : Value
  kept : List Int
  vbag : Value
  vsince : Value
def RT.cells (t : RT) : List Value := .bool t.busy :: .int .i64 t.call :: .int .i64 t.pos :: (u64s t.r ++ (t.vback :: t.vcache :: .int .i64 t.rc :: t.vnames :: t.vpend :: (u64s t.kept ++ [t.vbag, t.vsince])))
def RT.ok (t : RT) : Prop := t.r.length = 48 ∧ t.kept.length = 600
theorem RT.len {t : RT} (h : t.ok) : t.cells.length = 658 := by simp [RT.cells, u64s, h.1, h.2]
theorem RT.c0 (t : RT) : t.cells[0]? = some (.bool t.busy) := rfl
theorem RT.c1 (t : RT) : t.cells[1]? = some (.int .i64 t.call) := rfl
theorem RT.c2 (t : RT) : t.cells[2]? = some (.int .i64 t.pos) := rfl
theorem RT.cr {t : RT} (h : t.ok) (i : Nat) (hi : i < 48) : t.cells[3 + i]? = some (.int .u64 (t.r.getD i 0)) := by
  have hl : i < t.r.length := by rw [h.1]; exact hi
  unfold RT.cells
  rw [show 3 + i = i + 1 + 1 + 1 by omega]
  simp only [List.getElem?_cons_succ]
  rw [List.getElem?_append_left (by simp [u64s]; exact hl)]
  simp [u64s, hl]
theorem RT.set0 (t : RT) (b : Bool) : { t with busy := b }.cells = t.cells.set 0 (.bool b) := rfl
theorem RT.set1 (t : RT) (x : Int) : { t with call := x }.cells = t.cells.set 1 (.int .i64 x) := rfl
theorem RT.set2 (t : RT) (x : Int) : { t with pos := x }.cells = t.cells.set 2 (.int .i64 x) := rfl
theorem RT.setr {t : RT} (h : t.ok) (i : Nat) (hi : i < 48) (x : Int) : { t with r := t.r.set i x }.cells = t.cells.set (3 + i) (.int .u64 x) := by
  have hl : i < t.r.length := by rw [h.1]; exact hi
  unfold RT.cells
  rw [show 3 + i = i + 1 + 1 + 1 by omega]
  simp only [List.set_cons_succ]
  rw [List.set_append_left _ _ (by simp [u64s]; exact hl)]
  simp [u64s, List.map_set]
theorem RT.setback {t : RT} (h : t.ok) (x : Value) : { t with vback := x }.cells = t.cells.set 51 x := by
  unfold RT.cells
  rw [show 51 = 48 + 1 + 1 + 1 by omega]
  simp only [List.set_cons_succ]
  rw [List.set_append_right _ _ (by simp [u64s, h.1])]
  simp [u64s, h.1]
def rts (l : List RT) : List Value := l.flatMap RT.cells

structure RM where
  c0 : Int
  c1 : Int
  c2 : Int
  c3 : Int
  c4 : Int
  c5 : Int
  c6 : Int
  words : List Int
  code : List Ins
  labels : List Int
  ents : List Ent
  T : List RT
  states : List Int
  holders : List Int
  lists : List Value
  moves : Int
  calls : List Cal
  trace : List Acc
  shifts : List Shf
def ints (l : List Int) : List Value := l.map (Value.int .i64)
/-- the rows: words, code, labels, entries, threads, states, holders, lists, calls, trace, shifts -/
def RM.xs (m : RM) : Nat → List Value
  | 0 => u64s m.words
  | 1 => m.code.flatMap Ins.cells
  | 2 => ints m.labels
  | 3 => m.ents.flatMap Ent.cells
  | 4 => rts m.T
  | 5 => ints m.states
  | 6 => ints m.holders
  | 7 => m.lists
  | 8 => cals m.calls
  | 9 => accs m.trace
  | _ => shfs m.shifts
def RM.len (m : RM) : Nat → Nat
  | 0 => m.words.length
  | 1 => m.code.length
  | 2 => m.labels.length
  | 3 => m.ents.length
  | 4 => m.T.length
  | 5 => m.states.length
  | 6 => m.holders.length
  | 7 => m.lists.length
  | 8 => m.calls.length
  | 9 => m.trace.length
  | _ => m.shifts.length
def rmTy : Nat → TypeId
  | 0 => 27
  | 1 => 143
  | 2 => 3
  | 3 => 145
  | 4 => 149
  | 5 => 107
  | 6 => 3
  | 7 => 70
  | 8 => 63
  | 9 => 66
  | _ => 132
def rmSz : Nat → Nat
  | 1 => 6
  | 3 => 3
  | 4 => 658
  | 8 => 9
  | 9 => 7
  | 10 => 5
  | _ => 1
structure RMV where
  row : Nat → Value
  col : Nat → Nat
def RM.blk (m : RM) (r : Nat → Value) : Array Value :=
  #[.int .i64 m.c0, .int .i64 m.c1, .int .i64 m.c2, .int .i64 m.c3, .int .i64 m.c4, .int .i64 m.c5, .int .i64 m.c6, r 0, r 1, r 2, r 3, r 4, r 5, r 6, r 7,
    .int .u64 0, .int .u64 0, .int .u64 0, .int .u64 0, .int .u64 0, .int .u64 0, .int .u64 0, .int .u64 0, .int .i64 m.moves, r 8, r 9, r 10]
def RMV.own (v : RMV) (mb k : Nat) : Prop := k = mb ∨ ∃ i, i < 11 ∧ (v.row i).rowBlock = some k

structure RMAt (w : World) (base mb : Nat) (m : RM) (v : RMV) : Prop where
  blk : w.heap[mb]? = some (.cells (m.blk v.row) 88 (0, 0))
  ge : base ≤ mb
  rows : ∀ i, i < 11 → w.RowV base (rmTy i) (rmSz i) (v.row i) (m.len i) (m.xs i)
  cm : v.col mb = 0
  cr : ∀ i, i < 11 → ∀ k, (v.row i).rowBlock = some k → v.col k = i + 1
  tok : ∀ t ∈ m.T, t.ok

section
variable {w w' : World} {base mb : Nat} {m m' : RM} {v : RMV}
theorem RMAt.lt (h : RMAt w base mb m v) : ∀ k, v.own mb k → base ≤ k ∧ k < w.heap.size := by
  rintro k (rfl | ⟨i, hi, hk⟩)
  · exact ⟨h.ge, (Array.getElem?_eq_some_iff.1 h.blk).1⟩
  · exact (h.rows i hi).lt k hk
theorem RMAt.of_block (h : RMAt w base mb m v) (hb : ∀ k, v.own mb k → w'.heap[k]? = w.heap[k]?) : RMAt w' base mb m v :=
  ⟨by rw [hb mb (.inl rfl)]; exact h.blk, h.ge, fun i hi => (h.rows i hi).of_block fun k hk => hb k (.inr ⟨i, hi, hk⟩), h.cm, h.cr, h.tok⟩
theorem RMAt.more (h : RMAt w base mb m v) (os : Array Obj) (d : Nat) : RMAt (w.more os d) base mb m v := h.of_block fun k hk => World.heap_more _ _ _ _ (h.lt k hk).2
theorem RMAt.alloc (h : RMAt w base mb m v) (o : Obj) : RMAt (w.alloc o) base mb m v := h.of_block fun k hk => Below.heap_alloc _ _ _ (h.lt k hk).2
theorem RMAt.drew (h : RMAt w base mb m v) : RMAt w.drew base mb m v := h.of_block fun _ _ => rfl
theorem RMAt.set_other (h : RMAt w base mb m v) {p : Addr} (hp : ¬ v.own mb p.block) (u : Value) : RMAt (w.setCell p u) base mb m v :=
  h.of_block fun _k hk => Below.heap_setCell _ _ _ _ (fun e => hp (e ▸ hk))
theorem RMAt.only {F : Nat → Prop} (h : RMAt w base mb m v) (ho : Only F w w') (hF : ∀ k, v.own mb k → ¬ F k) : RMAt w' base mb m v :=
  h.of_block fun k hk => ho.block k (h.lt k hk).2 (hF k hk)
/-- the machine's own block is no row's -/
theorem RMAt.apart (h : RMAt w base mb m v) {i : Nat} (hi : i < 11) {k : Nat} (hk : (v.row i).rowBlock = some k) : k ≠ mb := fun e => by
  have := h.cr i hi k hk; rw [e, h.cm] at this; omega
theorem RMAt.apart2 (h : RMAt w base mb m v) {i j : Nat} (hi : i < 11) (hj : j < 11) (hij : i ≠ j) {k k' : Nat} (hk : (v.row i).rowBlock = some k) (hk' : (v.row j).rowBlock = some k') : k ≠ k' := fun e => by
  subst e
  have h1 := h.cr i hi k hk
  have h2 := h.cr j hj k hk'
  omega
/-- a cell of a row -/
theorem RMAt.putRow (h : RMAt w base mb m v) {i g : Nat} (hi : i < 11) (hg : (v.row i).rowBlock = some g) (j : Nat) (hj : j < m.len i * rmSz i) (u : Value) (hb : m'.blk v.row = m.blk v.row)
    (hlen : ∀ k, k < 11 → m'.len k = m.len k) (hx : m'.xs i = (m.xs i).set j u) (ho : ∀ k, k < 11 → k ≠ i → m'.xs k = m.xs k) (ht : ∀ t ∈ m'.T, t.ok) : RMAt (w.setCell ⟨g, j, none⟩ u) base mb m' v := by
  refine ⟨?_, h.ge, fun k hk => ?_, h.cm, h.cr, ht⟩
  · rw [Below.heap_setCell _ _ _ _ (Ne.symm (h.apart hi hg)), hb]; exact h.blk
  · rw [hlen k hk]
    by_cases e : k = i
    · subst e
      rw [hx]
      exact (h.rows k hk).put hg j hj u
    · rw [ho k hk e]
      exact (h.rows k hk).set (fun b hb' e2 => h.apart2 hk hi e hb' hg e2) u
/-- a cell of the machine's own -/
theorem RMAt.putBlk {v' : RMV} (h : RMAt w base mb m v) {j : Nat} {u : Value} (hb : (m.blk v.row).setIfInBounds j u = m'.blk v'.row)
    (hr : ∀ i, i < 11 → (w.setCell ⟨mb, j, none⟩ u).RowV base (rmTy i) (rmSz i) (v'.row i) (m'.len i) (m'.xs i)) (cm : v'.col mb = 0) (cr : ∀ i, i < 11 → ∀ k, (v'.row i).rowBlock = some k → v'.col k = i + 1) (ht : ∀ t ∈ m'.T, t.ok) :
    RMAt (w.setCell ⟨mb, j, none⟩ u) base mb m' v' :=
  ⟨by simp [World.setCell, Array.getElem?_modify, h.blk, hb], h.ge, hr, cm, cr, ht⟩
theorem RMAt.head (h : RMAt w base mb m v) (j : Nat) (u : Value) (hj : (m.blk v.row)[j]? = some u) : w.cell? ⟨mb, j, none⟩ = some u := by
  simp [World.cell?, h.blk, hj]
theorem RMAt.frozen (h : RMAt w base mb m v) (j : Nat) : w.frozen? ⟨mb, j, none⟩ = false := by simp [World.frozen?, h.blk]
end

/-- what a method leaves: the rows up to the lists stay where they are -/
def ROut (w : World) (base mb : Nat) (v : RMV) (m' : RM) (w' : World) : Prop :=
  ∃ v', RMAt w' base mb m' v' ∧ Only (v.own mb) w w' ∧ (∀ k, v'.own mb k → v.own mb k ∨ w.heap.size ≤ k) ∧ ∀ j, j < 8 → v'.row j = v.row j
section
variable {w w1 w2 : World} {base mb : Nat} {m m1 m2 : RM} {v v1 : RMV}
theorem ROut.refl (h : RMAt w base mb m v) : ROut w base mb v m w := ⟨v, h, Only.refl _ _, fun _ hk => .inl hk, fun _ _ => rfl⟩
theorem ROut.trans (h : ROut w base mb v m1 w1) (k : ∀ v1, RMAt w1 base mb m1 v1 → (∀ j, j < 8 → v1.row j = v.row j) → ROut w1 base mb v1 m2 w2) : ROut w base mb v m2 w2 := by
  obtain ⟨v1, h1, h2, h3, h4⟩ := h
  obtain ⟨v2, k1, k2, k3, k4⟩ := k v1 h1 h4
  refine ⟨v2, k1, h2.trans k2 h3, fun i hi => ?_, fun j hj => (k4 j hj).trans (h4 j hj)⟩
  rcases k3 i hi with h4 | h4
  · exact h3 i h4
  · have := h2.size; exact .inr (by omega)
theorem ROut.post (h : ROut w base mb v m1 w1) (hb : Only (fun _ => False) w1 w2) : ROut w base mb v m1 w2 := by
  obtain ⟨v1, h1, h2, h3, h4⟩ := h
  exact ⟨v1, h1.only hb (fun _ _ x => x), h2.trans hb (fun _ x => x.elim), h3, h4⟩
theorem ROut.pre {w0 : World} (hb : Only (fun _ => False) w0 w) (h : ROut w base mb v m1 w1) : ROut w0 base mb v m1 w1 := by
  obtain ⟨v1, h1, h2, h3, h5⟩ := h
  refine ⟨v1, h1, ?_, fun i hi => ?_, h5⟩
  · exact ⟨h2.os.trans hb.os, h2.tape.trans hb.tape, h2.output.trans hb.output, Nat.le_trans hb.size h2.size, fun k hk hn => (h2.block k (Nat.lt_of_lt_of_le hk hb.size) hn).trans (hb.block k hk (fun x => x))⟩
  · rcases h3 i hi with h4 | h4
    · exact .inl h4
    · have := hb.size; exact .inr (by omega)
end

/-! the rows' cells -/
section
variable {w : World} {base mb : Nat} {m : RM} {v : RMV}
theorem RMAt.b7 (h : RMAt w base mb m v) : w.cell? ⟨mb, 7, none⟩ = some (v.row 0) := h.head 7 _ rfl
theorem RMAt.b8 (h : RMAt w base mb m v) : w.cell? ⟨mb, 8, none⟩ = some (v.row 1) := h.head 8 _ rfl
theorem RMAt.b9 (h : RMAt w base mb m v) : w.cell? ⟨mb, 9, none⟩ = some (v.row 2) := h.head 9 _ rfl
theorem RMAt.b10 (h : RMAt w base mb m v) : w.cell? ⟨mb, 10, none⟩ = some (v.row 3) := h.head 10 _ rfl
theorem RMAt.b11 (h : RMAt w base mb m v) : w.cell? ⟨mb, 11, none⟩ = some (v.row 4) := h.head 11 _ rfl
theorem RMAt.b12 (h : RMAt w base mb m v) : w.cell? ⟨mb, 12, none⟩ = some (v.row 5) := h.head 12 _ rfl
theorem RMAt.b13 (h : RMAt w base mb m v) : w.cell? ⟨mb, 13, none⟩ = some (v.row 6) := h.head 13 _ rfl
theorem RMAt.b14 (h : RMAt w base mb m v) : w.cell? ⟨mb, 14, none⟩ = some (v.row 7) := h.head 14 _ rfl
theorem RMAt.b24 (h : RMAt w base mb m v) : w.cell? ⟨mb, 24, none⟩ = some (v.row 8) := h.head 24 _ rfl
theorem RMAt.b25 (h : RMAt w base mb m v) : w.cell? ⟨mb, 25, none⟩ = some (v.row 9) := h.head 25 _ rfl
theorem RMAt.b26 (h : RMAt w base mb m v) : w.cell? ⟨mb, 26, none⟩ = some (v.row 10) := h.head 26 _ rfl
theorem RMAt.b23 (h : RMAt w base mb m v) : w.cell? ⟨mb, 23, none⟩ = some (.int .i64 m.moves) := h.head 23 _ rfl
theorem RMAt.b0 (h : RMAt w base mb m v) : w.cell? ⟨mb, 0, none⟩ = some (.int .i64 m.c0) := h.head 0 _ rfl
theorem RMAt.b1 (h : RMAt w base mb m v) : w.cell? ⟨mb, 1, none⟩ = some (.int .i64 m.c1) := h.head 1 _ rfl
theorem RMAt.b2 (h : RMAt w base mb m v) : w.cell? ⟨mb, 2, none⟩ = some (.int .i64 m.c2) := h.head 2 _ rfl
theorem RMAt.b3 (h : RMAt w base mb m v) : w.cell? ⟨mb, 3, none⟩ = some (.int .i64 m.c3) := h.head 3 _ rfl
theorem RMAt.b4 (h : RMAt w base mb m v) : w.cell? ⟨mb, 4, none⟩ = some (.int .i64 m.c4) := h.head 4 _ rfl
theorem RMAt.b5 (h : RMAt w base mb m v) : w.cell? ⟨mb, 5, none⟩ = some (.int .i64 m.c5) := h.head 5 _ rfl
theorem RMAt.b6 (h : RMAt w base mb m v) : w.cell? ⟨mb, 6, none⟩ = some (.int .i64 m.c6) := h.head 6 _ rfl
theorem RMAt.row (h : RMAt w base mb m v) {i : Nat} (hi : i < 11) (hn : 0 < m.len i) : ∃ g cap, v.row i = .slice (some ⟨g, 0, none⟩) (m.len i) cap ∧ m.len i ≤ cap ∧ cap ≤ maxLen ∧ base ≤ g ∧ g < w.heap.size ∧ (v.row i).rowBlock = some g ∧ (∀ j, w.frozen? ⟨g, j, none⟩ = false) ∧ (∀ j u, (m.xs i)[j]? = some u → w.cell? ⟨g, j, none⟩ = some u) ∧ g ≠ mb := by
  obtain ⟨g, cap, e, f1, f2, f3, f4, f5, f6⟩ := (h.rows i hi).some_form hn
  obtain ⟨o, c, e2, _, h2⟩ := (h.rows i hi).form
  have hc : c = cap := by rw [e] at e2; cases e2; rfl
  subst hc
  exact ⟨g, c, e, f1, h2, f2, f3, f4, f5, f6, h.apart hi f4⟩
theorem rts_get {l : List RT} (hok : ∀ t ∈ l, t.ok) (i j : Nat) (hi : i < l.length) (hj : j < 658) : (rts l)[i * 658 + j]? = l[i].cells[j]? := flat_get' l (fun t ht => RT.len (hok t ht)) i j hi hj
theorem rts_set {l : List RT} (hok : ∀ t ∈ l, t.ok) (i j : Nat) (hi : i < l.length) (hj : j < 658) (y : RT) (u : Value) (h : y.cells = l[i].cells.set j u) : (rts l).set (i * 658 + j) u = rts (l.set i y) := flat_set' y u l (fun t ht => RT.len (hok t ht)) i j hi hj h
theorem code_get (l : List Ins) (i j : Nat) (hi : i < l.length) (hj : j < 6) : (l.flatMap Ins.cells)[i * 6 + j]? = l[i].cells[j]? := flat_get (f := Ins.cells) (k := 6) (fun _ => rfl) l i j hi hj
theorem ents_get (l : List Ent) (i j : Nat) (hi : i < l.length) (hj : j < 3) : (l.flatMap Ent.cells)[i * 3 + j]? = l[i].cells[j]? := flat_get (f := Ent.cells) (k := 3) (fun _ => rfl) l i j hi hj
/-- where a thread lies -/
theorem RMAt.thr (h : RMAt w base mb m v) {i : Nat} (hi : i < m.T.length) : ∃ g cap, v.row 4 = .slice (some ⟨g, 0, none⟩) m.T.length cap ∧ m.T.length ≤ cap ∧ cap ≤ maxLen ∧ base ≤ g ∧ g < w.heap.size ∧ (v.row 4).rowBlock = some g ∧ (∀ j, w.frozen? ⟨g, j, none⟩ = false) ∧ (∀ j u, j < 658 → m.T[i].cells[j]? = some u → w.cell? ⟨g, i * 658 + j, none⟩ = some u) ∧ g ≠ mb := by
  obtain ⟨g, cap, e, f1, f2, f3, f4, f5, f6, f7, f8⟩ := h.row (i := 4) (by omega) (show 0 < m.T.length by omega)
  refine ⟨g, cap, e, f1, f2, f3, f4, f5, f6, fun j u hj hu => f7 _ u ?_, f8⟩
  exact (rts_get h.tok i j hi hj).trans hu
theorem ok_set {l : List RT} (hok : ∀ t ∈ l, t.ok) (i : Nat) {y : RT} (hy : y.ok) : ∀ t ∈ l.set i y, t.ok := by
  intro t ht
  rcases List.mem_or_eq_of_mem_set ht with h | rfl
  · exact hok t h
  · exact hy
/-- a thread's cell is written -/
theorem RMAt.putT (h : RMAt w base mb m v) {g i j : Nat} (hg : (v.row 4).rowBlock = some g) (hi : i < m.T.length) (hj : j < 658) (y : RT) (hy : y.ok) (u : Value) (hc : y.cells = m.T[i].cells.set j u) :
    RMAt (w.setCell ⟨g, i * 658 + j, none⟩ u) base mb { m with T := m.T.set i y } v := by
  refine h.putRow (i := 4) (by omega) hg _ (by show _ < m.T.length * 658; have : i + 1 ≤ m.T.length := hi; have := Nat.mul_le_mul_right 658 this; omega) u rfl ?_ ?_ ?_ (ok_set h.tok i hy)
  · intro k hk
    match k, hk with
    | 4, _ => simp [RM.len]
    | 0, _ | 1, _ | 2, _ | 3, _ | 5, _ | 6, _ | 7, _ | 8, _ | 9, _ | 10, _ => rfl
  · exact (rts_set h.tok i j hi hj y u hc).symm
  · intro k hk hne
    match k, hk with
    | 4, _ => exact absurd rfl hne
    | 0, _ | 1, _ | 2, _ | 3, _ | 5, _ | 6, _ | 7, _ | 8, _ | 9, _ | 10, _ => rfl
/-- a call's cell is written -/
theorem RMAt.putC (h : RMAt w base mb m v) {g i j : Nat} (hg : (v.row 8).rowBlock = some g) (hi : i < m.calls.length) (hj : j < 9) (y : Cal) (u : Value) (hc : y.cells = m.calls[i].cells.set j u) :
    RMAt (w.setCell ⟨g, i * 9 + j, none⟩ u) base mb { m with calls := m.calls.set i y } v := by
  refine h.putRow (i := 8) (by omega) hg _ (by show _ < m.calls.length * 9; have : i + 1 ≤ m.calls.length := hi; have := Nat.mul_le_mul_right 9 this; omega) u rfl ?_ ?_ ?_ h.tok
  · intro k hk
    match k, hk with
    | 8, _ => simp [RM.len]
    | 0, _ | 1, _ | 2, _ | 3, _ | 4, _ | 5, _ | 6, _ | 7, _ | 9, _ | 10, _ => rfl
  · exact (cals_set m.calls i j hi hj y u hc).symm
  · intro k hk hne
    match k, hk with
    | 8, _ => exact absurd rfl hne
    | 0, _ | 1, _ | 2, _ | 3, _ | 4, _ | 5, _ | 6, _ | 7, _ | 9, _ | 10, _ => rfl
/-- a word is written -/
theorem RMAt.putW (h : RMAt w base mb m v) {g i : Nat} (hg : (v.row 0).rowBlock = some g) (hi : i < m.words.length) (x : Int) : RMAt (w.setCell ⟨g, i, none⟩ (.int .u64 x)) base mb { m with words := m.words.set i x } v := by
  refine h.putRow (i := 0) (by omega) hg _ (by show _ < m.words.length * 1; omega) _ rfl ?_ ?_ ?_ h.tok
  · intro k hk
    match k, hk with
    | 0, _ => simp [RM.len]
    | 4, _ | 1, _ | 2, _ | 3, _ | 5, _ | 6, _ | 7, _ | 8, _ | 9, _ | 10, _ => rfl
  · simp [RM.xs, u64s, List.map_set]
  · intro k hk hne
    match k, hk with
    | 0, _ => exact absurd rfl hne
    | 4, _ | 1, _ | 2, _ | 3, _ | 5, _ | 6, _ | 7, _ | 8, _ | 9, _ | 10, _ => rfl
end
end Go
namespace Go
open Go.RowKit
/-- the thread numbered i turns -/
def RM.thr (m : RM) (i : Nat) (f : RT → RT) : RM := { m with T := m.T.modify i f }
theorem modify_set {α : Type} : ∀ (l : List α) (i : Nat) (f : α → α) (h : i < l.length), l.modify i f = l.set i (f l[i]) := by
  intro l
  induction l with
  | nil => intro i f h; simp at h
  | cons x l ih =>
    intro i f h
    cases i with
    | zero => simp
    | succ i =>
      simp only [List.modify_succ_cons, List.set_cons_succ, List.getElem_cons_succ]
      rw [ih i f (by simpa using h)]
theorem RM.thr_eq (m : RM) (i : Nat) (f : RT → RT) (h : i < m.T.length) : m.thr i f = { m with T := m.T.set i (f m.T[i]) } := by unfold RM.thr; rw [modify_set _ _ _ h]
theorem RM.thr_len (m : RM) (i : Nat) (f : RT → RT) : (m.thr i f).T.length = m.T.length := by simp [RM.thr]
theorem RM.thr_get (m : RM) (i : Nat) (f : RT → RT) (h : i < m.T.length) : (m.thr i f).T[i]'(by rw [RM.thr_len]; exact h) = f m.T[i] := by simp [RM.thr]
theorem RM.thr_thr (m : RM) (i : Nat) (f f' : RT → RT) : (m.thr i f).thr i f' = m.thr i (f' ∘ f) := by simp [RM.thr, List.modify_modify_eq]
def RT.next (t : RT) : RT := { t with pos := t.pos + 1 }
def RT.put (a : Nat) (x : Int) (t : RT) : RT := { t with r := t.r.set a x }
theorem RT.next_ok {t : RT} (h : t.ok) : t.next.ok := h
theorem RT.put_ok {t : RT} (h : t.ok) (a : Nat) (x : Int) : (t.put a x).ok := ⟨by simp [RT.put, h.1], h.2⟩
def RM.cal (m : RM) (ci : Nat) (f : Cal → Cal) : RM := { m with calls := m.calls.modify ci f }
theorem RM.cal_eq (m : RM) (i : Nat) (f : Cal → Cal) (h : i < m.calls.length) : m.cal i f = { m with calls := m.calls.set i (f m.calls[i]) } := by unfold RM.cal; rw [modify_set _ _ _ h]
end Go
namespace Go.Proofs.Ytbhbpfpggfcpgaa
open Go.ChangeShapes Go.WideShapes Go.ChangeAt Go.RowKit Go.Shelf

section
variable {w : World} {base mb : Nat} {m : RM} {v : RMV}
theorem thr_next (h : RMAt w base mb m v) {g i : Nat} (hg : (v.row 4).rowBlock = some g) (hi : i < m.T.length) : RMAt (w.setCell ⟨g, i * 658 + 2, none⟩ (.int .i64 (m.T[i].pos + 1))) base mb (m.thr i RT.next) v := by
  rw [RM.thr_eq _ _ _ hi]
  exact h.putT hg hi (j := 2) (by omega) _ (RT.next_ok (h.tok _ (List.getElem_mem hi))) _ (RT.set2 _ _)
theorem thr_put (h : RMAt w base mb m v) {g i : Nat} (hg : (v.row 4).rowBlock = some g) (hi : i < m.T.length) (a : Nat) (ha : a < 48) (x : Int) : RMAt (w.setCell ⟨g, i * 658 + 3 + a, none⟩ (.int .u64 x)) base mb (m.thr i (RT.put a x)) v := by
  rw [RM.thr_eq _ _ _ hi, Nat.add_assoc]
  have hok := h.tok _ (List.getElem_mem hi)
  exact h.putT hg hi (j := 3 + a) (by omega) _ (RT.put_ok hok a x) _ (RT.setr hok a ha x)
theorem own_row {i g : Nat} (hi : i < 11) (hg : (v.row i).rowBlock = some g) : v.own mb g := .inr ⟨i, hi, hg⟩
end

set_option maxRecDepth 100000 in
set_option maxHeartbeats 4000000 in
theorem lists_label {w : World} {base mb : Nat} {m : RM} {v : RMV} (H : RMAt w base mb m v) {i : Nat} (hi : i < m.T.length) (a b c d tgt : Int) :
    Calls Try.prog 87 #[.pointer (some ⟨mb, 0, none⟩), .int .i64 (i : Int), .agg #[.int .i64 10, .int .i64 a, .int .i64 b, .int .i64 c, .int .i64 d, .int .i64 tgt]] w
      fun e w' => e = .returned (.tuple #[]) ∧ Below w.heap.size w w' := by
  obtain ⟨g, cap, e4, h1, h1', h2, h3, h4, h5, h6, h7⟩ := H.thr hi
  have b11 := H.b11
  rw [e4] at b11
  have lb := (H.lt mb (.inl rfl)).2
  unfold maxLen at h1'
  clear H h4 h5 h6 e4
  go_enter Try.func87, Try.ntmps87
  go_wp2
  go_end0
  exact ⟨rfl, (by repeat (first | exact Below.refl _ _ | apply Below.drew | apply Below.more1 | apply Below.alloc1))⟩

set_option maxRecDepth 100000 in
set_option maxHeartbeats 4000000 in
theorem local_label {w : World} {base mb : Nat} {m : RM} {v : RMV} (H : RMAt w base mb m v) {i : Nat} (hi : i < m.T.length) (hp : 0 ≤ m.T[i].pos ∧ m.T[i].pos ≤ 1000) (a b c d tgt : Int)  :
    Calls Try.prog 77 #[.pointer (some ⟨mb, 0, none⟩), .int .i64 (i : Int), .agg #[.int .i64 10, .int .i64 a, .int .i64 b, .int .i64 c, .int .i64 d, .int .i64 tgt]] w
      fun e w' => e = .returned (.tuple #[]) ∧ RMAt w' base mb (m.thr i RT.next) v ∧ Only (v.own mb) w w' := by
  obtain ⟨g, cap, e4, h1, h1', h2, h3, h4, h5, h6, h7⟩ := H.thr hi
  have b11 := H.b11
  rw [e4] at b11
  have lb := (H.lt mb (.inl rfl)).2
  have t2 := h6 2 _ (by omega) (RT.c2 _)
  have z2 := h5 (i * 658 + 2)
  have HN := Lib.hid ((thr_next H h4 hi).alloc (.cells #[.int .i64 10, .int .i64 a, .int .i64 b, .int .i64 c, .int .i64 d, .int .i64 tgt] 143))
  have HO := Lib.hid (show Only (v.own mb) w ((w.setCell ⟨g, i * 658 + 2, none⟩ (.int .i64 (m.T[i].pos + 1))).alloc (.cells #[.int .i64 10, .int .i64 a, .int .i64 b, .int .i64 c, .int .i64 d, .int .i64 tgt] 143)) from ((Only.refl _ w).set (.inl (own_row (by omega) h4)) _).alloc _)
  have HH := Lib.hid H
  obtain ⟨hp1, hp2⟩ := hp
  unfold maxLen at h1'
  clear H h5 h6
  go_enter Try.func77, Try.ntmps77
  go_upto_region 3 with (fail)
  refine gen_world ?_
  intro W1 hW1
  rw [← hW1] at HN HO
  have hm5 : W1.heap[w.heap.size]? = some (.cells #[.int .i64 10, .int .i64 a, .int .i64 b, .int .i64 c, .int .i64 d, .int .i64 tgt] 143 (0, 0)) := by
    rw [hW1]
    exact heap_alloc_at (by simp)
  obtain ⟨b5, hb5⟩ : ∃ b5, b5 = w.heap.size := ⟨_, rfl⟩
  have hg5 : g ≠ b5 := by omega
  have h5g : b5 ≠ g := by omega
  have hm5n : mb ≠ b5 := by omega
  have h5mn : b5 ≠ mb := by omega
  have HB5 := Lib.hid hb5
  rw [← hb5] at hm5 ⊢
  have k0 : W1.cell? ⟨b5, 0, none⟩ = some (.int .i64 10) := by simp [World.cell?, hm5]
  have k1 : W1.cell? ⟨b5, 1, none⟩ = some (.int .i64 a) := by simp [World.cell?, hm5]
  have k2 : W1.cell? ⟨b5, 2, none⟩ = some (.int .i64 b) := by simp [World.cell?, hm5]
  have k3 : W1.cell? ⟨b5, 3, none⟩ = some (.int .i64 c) := by simp [World.cell?, hm5]
  have k4 : W1.cell? ⟨b5, 4, none⟩ = some (.int .i64 d) := by simp [World.cell?, hm5]
  have k5 : W1.cell? ⟨b5, 5, none⟩ = some (.int .i64 tgt) := by simp [World.cell?, hm5]
  have l5 := (Array.getElem?_eq_some_iff.1 hm5).1
  have hi1 : i < (m.thr i RT.next).T.length := by rw [RM.thr_len]; exact hi
  obtain ⟨g1, cap1, e41, p1, p1', p2, p3, p4, p5, p6, p7⟩ := HN.out.thr hi1
  obtain rfl : g = g1 := by rw [h4] at p4; exact Option.some.inj p4
  rw [RM.thr_get _ _ _ hi] at p6
  have lb1 := (HN.out.lt mb (.inl rfl)).2
  have H4 := Lib.hid h4
  clear hW1 hm5 b11 t2 z2 e41 p1 p1' p2 p4 hb5 h4 e4 lb
  have HL := Lib.hid (fun W (hb : Only (fun _ => False) W1 W) => lists_label (w := W) (HN.out.only hb (fun _ _ x => x)) hi1 a b c d tgt)
  clear p5 p6
  go_wp2_with (go_at_call 87; refine (HL.out _ (Below.only0 (by repeat (first | exact Below.refl _ _ | apply Below.drew | apply Below.more1 | apply Below.alloc1 | (refine Below.setCell ?_ (by first | exact Nat.le_refl _ | (simp; done) | (simp; omega)) _))))).mono ?_; rintro e w3 ⟨rfl, hb3⟩; obtain ⟨os, d', rfl⟩ := hb3.more; clear hb3)
  go_end0
  exact ⟨rfl, HN.out.more _ _, HO.out.more _ _⟩

set_option maxRecDepth 100000 in
set_option maxHeartbeats 4000000 in
theorem local_arg {w : World} {base mb : Nat} {m : RM} {v : RMV} (H : RMAt w base mb m v) {i : Nat} (hi : i < m.T.length) (hp : 0 ≤ m.T[i].pos ∧ m.T[i].pos ≤ 1000) (b c d tgt : Int) {ci : Nat} (hc : ci < m.calls.length) (hcall : m.T[i].call = (ci : Int)) (ra : Nat) (hra : ra < 48) :
    Calls Try.prog 77 #[.pointer (some ⟨mb, 0, none⟩), .int .i64 (i : Int), .agg #[.int .i64 48, .int .i64 (ra : Int), .int .i64 b, .int .i64 c, .int .i64 d, .int .i64 tgt]] w
      fun e w' => e = .returned (.tuple #[]) ∧ RMAt w' base mb (m.thr i (RT.put ra (IntKind.u64.wrap m.calls[ci].arg) ∘ RT.next)) v ∧ Only (v.own mb) w w' := by
  obtain ⟨g, cap, e4, h1, h1', h2, h3, h4, h5, h6, h7⟩ := H.thr hi
  have b11 := H.b11
  rw [e4] at b11
  have lb := (H.lt mb (.inl rfl)).2
  have t2 := h6 2 _ (by omega) (RT.c2 _)
  have z2 := h5 (i * 658 + 2)
  have HN := Lib.hid ((thr_next H h4 hi).alloc (.cells #[.int .i64 48, .int .i64 (ra : Int), .int .i64 b, .int .i64 c, .int .i64 d, .int .i64 tgt] 143))
  have HO := Lib.hid (show Only (v.own mb) w ((w.setCell ⟨g, i * 658 + 2, none⟩ (.int .i64 (m.T[i].pos + 1))).alloc (.cells #[.int .i64 48, .int .i64 (ra : Int), .int .i64 b, .int .i64 c, .int .i64 d, .int .i64 tgt] 143)) from ((Only.refl _ w).set (.inl (own_row (by omega) h4)) _).alloc _)
  have HH := Lib.hid H
  obtain ⟨hp1, hp2⟩ := hp
  unfold maxLen at h1'
  clear H h5 h6
  go_enter Try.func77, Try.ntmps77
  go_upto_region 3 with (fail)
  refine gen_world ?_
  intro W1 hW1
  rw [← hW1] at HN HO
  have hm5 : W1.heap[w.heap.size]? = some (.cells #[.int .i64 48, .int .i64 (ra : Int), .int .i64 b, .int .i64 c, .int .i64 d, .int .i64 tgt] 143 (0, 0)) := by
    rw [hW1]
    exact heap_alloc_at (by simp)
  obtain ⟨b5, hb5⟩ : ∃ b5, b5 = w.heap.size := ⟨_, rfl⟩
  have hg5 : g ≠ b5 := by omega
  have h5g : b5 ≠ g := by omega
  have hm5n : mb ≠ b5 := by omega
  have h5mn : b5 ≠ mb := by omega
  have HB5 := Lib.hid hb5
  rw [← hb5] at hm5 ⊢
  have k0 : W1.cell? ⟨b5, 0, none⟩ = some (.int .i64 48) := by simp [World.cell?, hm5]
  have k1 : W1.cell? ⟨b5, 1, none⟩ = some (.int .i64 (ra : Int)) := by simp [World.cell?, hm5]
  have k2 : W1.cell? ⟨b5, 2, none⟩ = some (.int .i64 b) := by simp [World.cell?, hm5]
  have k3 : W1.cell? ⟨b5, 3, none⟩ = some (.int .i64 c) := by simp [World.cell?, hm5]
  have k4 : W1.cell? ⟨b5, 4, none⟩ = some (.int .i64 d) := by simp [World.cell?, hm5]
  have k5 : W1.cell? ⟨b5, 5, none⟩ = some (.int .i64 tgt) := by simp [World.cell?, hm5]
  have l5 := (Array.getElem?_eq_some_iff.1 hm5).1
  have hi1 : i < (m.thr i RT.next).T.length := by rw [RM.thr_len]; exact hi
  obtain ⟨g1, cap1, e41, p1, p1', p2, p3, p4, p5, p6, p7⟩ := HN.out.thr hi1
  obtain rfl : g = g1 := by rw [h4] at p4; exact Option.some.inj p4
  rw [RM.thr_get _ _ _ hi] at p6
  have lb1 := (HN.out.lt mb (.inl rfl)).2
  have H4 := Lib.hid h4
  clear hW1 hm5 b11 t2 z2 e41 p1 p1' p2 p4 hb5 h4 e4 lb
  obtain ⟨gc, capc, ec, c1, c1', c2, c3, c4, c5, c6, c7⟩ := HN.out.row (i := 8) (by omega) (show 0 < m.calls.length by omega)
  change v.row 8 = .slice (some ⟨gc, 0, none⟩) m.calls.length capc at ec
  have b24 := HN.out.b24
  rw [ec] at b24
  change m.calls.length ≤ capc at c1
  have hgc : g ≠ gc := HN.out.apart2 (i := 4) (j := 8) (by omega) (by omega) (by omega) H4.out c4
  have hcg : gc ≠ g := Ne.symm hgc
  have hcb : gc ≠ b5 := fun e => by have := (HH.out.lt gc (own_row (by omega) c4)).2; have := HB5.out; omega
  have hbc : b5 ≠ gc := Ne.symm hcb
  have hcm : gc ≠ mb := c7
  have hmc : mb ≠ gc := Ne.symm c7
  unfold maxLen at c1'
  have t1 := p6 1 _ (by omega) (RT.c1 _)
  simp only [RT.next] at t1
  rw [hcall] at t1
  have HC4 := Lib.hid c4
  have HCC := Lib.hid hcall
  have c8 := c6 (ci * 9 + 2) _ (cals_get m.calls ci 2 hc (by omega))
  replace c8 : W1.cell? ⟨gc, ci * 9 + 2, none⟩ = some (.int .i64 m.calls[ci].arg) := c8
  have b11' := HN.out.b11
  obtain ⟨ur, hur⟩ : ∃ ur, W1.cell? ⟨g, i * 658 + 3 + ra, none⟩ = some ur := ⟨_, by rw [Nat.add_assoc]; exact p6 (3 + ra) _ (by omega) (RT.cr (RT.next_ok (HH.out.tok _ (List.getElem_mem hi))) ra hra)⟩
  have zr := p5 (i * 658 + 3 + ra)
  clear c2 c4 c5 c6 p5 p6 b11' ec hcall
  go_wp2
  refine wp_region_more_tail 18 (by kernel_rfl) (by kernel_rfl) ?_
  simp only [List.take_succ_cons, List.take_zero, List.drop_succ_cons, List.drop_zero]
  repeat (first | go_big_quiet_skip | (go_big_quiet_want; go_big_quiet_op; first | go_big_quiet_on | (apply Exists.intro; refine ⟨fun _ => ?_, ?_⟩; (focus (fail)); go_big_quiet_on)))
  refine wpQuiet_nil ?_
  intro osq dq
  go_wp2
  go_end0
  refine ⟨rfl, ?_, ?_⟩
  · have := (thr_put HN.out H4.out hi1 ra hra (IntKind.u64.wrap m.calls[ci].arg)).more osq dq
    rw [RM.thr_thr] at this
    exact this
  · exact (HO.out.set (.inl (own_row (i := 4) (by omega) H4.out)) _).more _ _

set_option maxRecDepth 100000 in
set_option maxHeartbeats 4000000 in
theorem local_add {w : World} {base mb : Nat} {m : RM} {v : RMV} (H : RMAt w base mb m v) {i : Nat} (hi : i < m.T.length) (hp : 0 ≤ m.T[i].pos ∧ m.T[i].pos ≤ 1000) (c d tgt : Int) (ra : Nat) (hra : ra < 48) (rb : Nat) (hrb : rb < 48) :
    Calls Try.prog 77 #[.pointer (some ⟨mb, 0, none⟩), .int .i64 (i : Int), .agg #[.int .i64 17, .int .i64 (ra : Int), .int .i64 (rb : Int), .int .i64 c, .int .i64 d, .int .i64 tgt]] w
      fun e w' => e = .returned (.tuple #[]) ∧ RMAt w' base mb (m.thr i (RT.put ra (IntKind.u64.wrap (m.T[i].r.getD rb 0 + IntKind.u64.wrap d)) ∘ RT.next)) v ∧ Only (v.own mb) w w' := by
  obtain ⟨g, cap, e4, h1, h1', h2, h3, h4, h5, h6, h7⟩ := H.thr hi
  have b11 := H.b11
  rw [e4] at b11
  have lb := (H.lt mb (.inl rfl)).2
  have t2 := h6 2 _ (by omega) (RT.c2 _)
  have z2 := h5 (i * 658 + 2)
  have HN := Lib.hid ((thr_next H h4 hi).alloc (.cells #[.int .i64 17, .int .i64 (ra : Int), .int .i64 (rb : Int), .int .i64 c, .int .i64 d, .int .i64 tgt] 143))
  have HO := Lib.hid (show Only (v.own mb) w ((w.setCell ⟨g, i * 658 + 2, none⟩ (.int .i64 (m.T[i].pos + 1))).alloc (.cells #[.int .i64 17, .int .i64 (ra : Int), .int .i64 (rb : Int), .int .i64 c, .int .i64 d, .int .i64 tgt] 143)) from ((Only.refl _ w).set (.inl (own_row (by omega) h4)) _).alloc _)
  have HH := Lib.hid H
  obtain ⟨hp1, hp2⟩ := hp
  unfold maxLen at h1'
  clear H h5 h6
  go_enter Try.func77, Try.ntmps77
  go_upto_region 3 with (fail)
  refine gen_world ?_
  intro W1 hW1
  rw [← hW1] at HN HO
  have hm5 : W1.heap[w.heap.size]? = some (.cells #[.int .i64 17, .int .i64 (ra : Int), .int .i64 (rb : Int), .int .i64 c, .int .i64 d, .int .i64 tgt] 143 (0, 0)) := by
    rw [hW1]
    exact heap_alloc_at (by simp)
  obtain ⟨b5, hb5⟩ : ∃ b5, b5 = w.heap.size := ⟨_, rfl⟩
  have hg5 : g ≠ b5 := by omega
  have h5g : b5 ≠ g := by omega
  have hm5n : mb ≠ b5 := by omega
  have h5mn : b5 ≠ mb := by omega
  have HB5 := Lib.hid hb5
  rw [← hb5] at hm5 ⊢
  have k0 : W1.cell? ⟨b5, 0, none⟩ = some (.int .i64 17) := by simp [World.cell?, hm5]
  have k1 : W1.cell? ⟨b5, 1, none⟩ = some (.int .i64 (ra : Int)) := by simp [World.cell?, hm5]
  have k2 : W1.cell? ⟨b5, 2, none⟩ = some (.int .i64 (rb : Int)) := by simp [World.cell?, hm5]
  have k3 : W1.cell? ⟨b5, 3, none⟩ = some (.int .i64 c) := by simp [World.cell?, hm5]
  have k4 : W1.cell? ⟨b5, 4, none⟩ = some (.int .i64 d) := by simp [World.cell?, hm5]
  have k5 : W1.cell? ⟨b5, 5, none⟩ = some (.int .i64 tgt) := by simp [World.cell?, hm5]
  have l5 := (Array.getElem?_eq_some_iff.1 hm5).1
  have hi1 : i < (m.thr i RT.next).T.length := by rw [RM.thr_len]; exact hi
  obtain ⟨g1, cap1, e41, p1, p1', p2, p3, p4, p5, p6, p7⟩ := HN.out.thr hi1
  obtain rfl : g = g1 := by rw [h4] at p4; exact Option.some.inj p4
  rw [RM.thr_get _ _ _ hi] at p6
  have lb1 := (HN.out.lt mb (.inl rfl)).2
  have H4 := Lib.hid h4
  clear hW1 hm5 b11 t2 z2 e41 p1 p1' p2 p4 hb5 h4 e4 lb
  have b11' := HN.out.b11
  have hok := HH.out.tok _ (List.getElem_mem hi)
  have cb : W1.cell? ⟨g, i * 658 + 3 + rb, none⟩ = some (.int .u64 (m.T[i].r.getD rb 0)) := by rw [Nat.add_assoc]; exact p6 (3 + rb) _ (by omega) (RT.cr (RT.next_ok hok) rb hrb)
  obtain ⟨ur, hur⟩ : ∃ ur, W1.cell? ⟨g, i * 658 + 3 + ra, none⟩ = some ur := ⟨_, by rw [Nat.add_assoc]; exact p6 (3 + ra) _ (by omega) (RT.cr (RT.next_ok hok) ra hra)⟩
  have zr := p5 (i * 658 + 3 + ra)
  clear p5 p6 b11'
  go_wp2
  refine wp_region_more_tail 17 (by kernel_rfl) (by kernel_rfl) ?_
  simp only [List.take_succ_cons, List.take_zero, List.drop_succ_cons, List.drop_zero]
  repeat (first | go_big_quiet_skip | (go_big_quiet_want; go_big_quiet_op; first | go_big_quiet_on | (apply Exists.intro; refine ⟨fun _ => ?_, ?_⟩; (focus (fail)); go_big_quiet_on)))
  refine wpQuiet_nil ?_
  intro osq dq
  go_wp2
  go_end0
  refine ⟨rfl, ?_, ?_⟩
  · have := (thr_put HN.out H4.out hi1 ra hra (IntKind.u64.wrap (m.T[i].r.getD rb 0 + IntKind.u64.wrap d))).more osq dq
    rw [RM.thr_thr] at this
    exact this
  · exact (HO.out.set (.inl (own_row (i := 4) (by omega) H4.out)) _).more _ _

set_option maxRecDepth 100000 in
set_option maxHeartbeats 4000000 in
theorem local_point {w : World} {base mb : Nat} {m : RM} {v : RMV} (H : RMAt w base mb m v) {i : Nat} (hi : i < m.T.length) (hp : 0 ≤ m.T[i].pos ∧ m.T[i].pos ≤ 1000) (a b c d tgt : Int) {ci : Nat} (hc : ci < m.calls.length) (hcall : m.T[i].call = (ci : Int)) :
    Calls Try.prog 77 #[.pointer (some ⟨mb, 0, none⟩), .int .i64 (i : Int), .agg #[.int .i64 27, .int .i64 a, .int .i64 b, .int .i64 c, .int .i64 d, .int .i64 tgt]] w
      fun e w' => e = .returned (.tuple #[]) ∧ RMAt w' base mb ((m.thr i RT.next).cal ci fun c => { c with pt := m.moves }) v ∧ Only (v.own mb) w w' := by
  obtain ⟨g, cap, e4, h1, h1', h2, h3, h4, h5, h6, h7⟩ := H.thr hi
  have b11 := H.b11
  rw [e4] at b11
  have lb := (H.lt mb (.inl rfl)).2
  have t2 := h6 2 _ (by omega) (RT.c2 _)
  have z2 := h5 (i * 658 + 2)
  have HN := Lib.hid ((thr_next H h4 hi).alloc (.cells #[.int .i64 27, .int .i64 a, .int .i64 b, .int .i64 c, .int .i64 d, .int .i64 tgt] 143))
  have HO := Lib.hid (show Only (v.own mb) w ((w.setCell ⟨g, i * 658 + 2, none⟩ (.int .i64 (m.T[i].pos + 1))).alloc (.cells #[.int .i64 27, .int .i64 a, .int .i64 b, .int .i64 c, .int .i64 d, .int .i64 tgt] 143)) from ((Only.refl _ w).set (.inl (own_row (by omega) h4)) _).alloc _)
  have HH := Lib.hid H
  obtain ⟨hp1, hp2⟩ := hp
  unfold maxLen at h1'
  clear H h5 h6
  go_enter Try.func77, Try.ntmps77
  go_upto_region 3 with (fail)
  refine gen_world ?_
  intro W1 hW1
  rw [← hW1] at HN HO
  have hm5 : W1.heap[w.heap.size]? = some (.cells #[.int .i64 27, .int .i64 a, .int .i64 b, .int .i64 c, .int .i64 d, .int .i64 tgt] 143 (0, 0)) := by
    rw [hW1]
    exact heap_alloc_at (by simp)
  obtain ⟨b5, hb5⟩ : ∃ b5, b5 = w.heap.size := ⟨_, rfl⟩
  have hg5 : g ≠ b5 := by omega
  have h5g : b5 ≠ g := by omega
  have hm5n : mb ≠ b5 := by omega
  have h5mn : b5 ≠ mb := by omega
  have HB5 := Lib.hid hb5
  rw [← hb5] at hm5 ⊢
  have k0 : W1.cell? ⟨b5, 0, none⟩ = some (.int .i64 27) := by simp [World.cell?, hm5]
  have k1 : W1.cell? ⟨b5, 1, none⟩ = some (.int .i64 a) := by simp [World.cell?, hm5]
  have k2 : W1.cell? ⟨b5, 2, none⟩ = some (.int .i64 b) := by simp [World.cell?, hm5]
  have k3 : W1.cell? ⟨b5, 3, none⟩ = some (.int .i64 c) := by simp [World.cell?, hm5]
  have k4 : W1.cell? ⟨b5, 4, none⟩ = some (.int .i64 d) := by simp [World.cell?, hm5]
  have k5 : W1.cell? ⟨b5, 5, none⟩ = some (.int .i64 tgt) := by simp [World.cell?, hm5]
  have l5 := (Array.getElem?_eq_some_iff.1 hm5).1
  have hi1 : i < (m.thr i RT.next).T.length := by rw [RM.thr_len]; exact hi
  obtain ⟨g1, cap1, e41, p1, p1', p2, p3, p4, p5, p6, p7⟩ := HN.out.thr hi1
  obtain rfl : g = g1 := by rw [h4] at p4; exact Option.some.inj p4
  rw [RM.thr_get _ _ _ hi] at p6
  have lb1 := (HN.out.lt mb (.inl rfl)).2
  have H4 := Lib.hid h4
  clear hW1 hm5 b11 t2 z2 e41 p1 p1' p2 p4 hb5 h4 e4 lb
  obtain ⟨gc, capc, ec, c1, c1', c2, c3, c4, c5, c6, c7⟩ := HN.out.row (i := 8) (by omega) (show 0 < m.calls.length by omega)
  change v.row 8 = .slice (some ⟨gc, 0, none⟩) m.calls.length capc at ec
  have b24 := HN.out.b24
  rw [ec] at b24
  change m.calls.length ≤ capc at c1
  have hgc : g ≠ gc := HN.out.apart2 (i := 4) (j := 8) (by omega) (by omega) (by omega) H4.out c4
  have hcg : gc ≠ g := Ne.symm hgc
  have hcb : gc ≠ b5 := fun e => by have := (HH.out.lt gc (own_row (by omega) c4)).2; have := HB5.out; omega
  have hbc : b5 ≠ gc := Ne.symm hcb
  have hcm : gc ≠ mb := c7
  have hmc : mb ≠ gc := Ne.symm c7
  unfold maxLen at c1'
  have t1 := p6 1 _ (by omega) (RT.c1 _)
  simp only [RT.next] at t1
  rw [hcall] at t1
  have HC4 := Lib.hid c4
  have HCC := Lib.hid hcall
  have c8 := c6 (ci * 9 + 6) _ (cals_get m.calls ci 6 hc (by omega))
  replace c8 : W1.cell? ⟨gc, ci * 9 + 6, none⟩ = some (.int .i64 m.calls[ci].pt) := c8
  have zc := c5 (ci * 9 + 6)
  have b23 : W1.cell? ⟨mb, 23, none⟩ = some (.int .i64 m.moves) := HN.out.b23
  clear c2 c4 c5 c6 p5 p6 ec hcall
  go_wp2
  refine wp_region_more_tail 14 (by kernel_rfl) (by kernel_rfl) ?_
  simp only [List.take_succ_cons, List.take_zero, List.drop_succ_cons, List.drop_zero]
  repeat (first | go_big_quiet_skip | (go_big_quiet_want; go_big_quiet_op; first | go_big_quiet_on | (apply Exists.intro; refine ⟨fun _ => ?_, ?_⟩; (focus (fail)); go_big_quiet_on)))
  refine wpQuiet_nil ?_
  intro osq dq
  go_wp2
  go_end0
  refine ⟨rfl, ?_, ?_⟩
  · rw [RM.cal_eq _ _ _ (by exact hc)]
    exact (HN.out.putC (i := ci) (j := 6) HC4.out (by exact hc) (by omega) _ (.int .i64 m.moves) rfl).more osq dq
  · exact (HO.out.set (.inl (own_row (i := 8) (by omega) HC4.out)) _).more _ _

/-- a call's end, with an answer -/
def Cal.done (mv x : Int) (c : Cal) : Cal := { c with en := mv, ak := 2, av := x }
def RT.idle (t : RT) : RT := { t with busy := false }
theorem putC' {w : World} {base mb : Nat} {m : RM} {v : RMV} (h : RMAt w base mb m v) {g i j : Nat} (hg : (v.row 8).rowBlock = some g) (hi : i < m.calls.length) (hj : j < 9) (f : Cal → Cal) (u : Value) (hc : (f m.calls[i]).cells = m.calls[i].cells.set j u) :
    RMAt (w.setCell ⟨g, i * 9 + j, none⟩ u) base mb (m.cal i f) v := by
  rw [RM.cal_eq _ _ _ hi]
  exact h.putC hg hi hj _ u hc
theorem RM.cal_cal (m : RM) (i : Nat) (f f' : Cal → Cal) : (m.cal i f).cal i f' = m.cal i (f' ∘ f) := by simp [RM.cal, List.modify_modify_eq]
theorem cal_done {w : World} {base mb : Nat} {m : RM} {v : RMV} (h : RMAt w base mb m v) {gc ci : Nat} (hg : (v.row 8).rowBlock = some gc) (hc : ci < m.calls.length) (mv x : Int) :
    RMAt (((w.setCell ⟨gc, ci * 9 + 5, none⟩ (.int .i64 mv)).setCell ⟨gc, ci * 9 + 7, none⟩ (.int .i64 2)).setCell ⟨gc, ci * 9 + 8, none⟩ (.int .i64 x)) base mb (m.cal ci (Cal.done mv x)) v := by
  have h1 := putC' h (i := ci) (j := 5) hg hc (by omega) (fun c => { c with en := mv }) (.int .i64 mv) rfl
  have h2 := putC' h1 (i := ci) (j := 7) hg (by simpa [RM.cal] using hc) (by omega) (fun c => { c with ak := 2 }) (.int .i64 2) rfl
  have h3 := putC' h2 (i := ci) (j := 8) hg (by simpa [RM.cal] using hc) (by omega) (fun c => { c with av := x }) (.int .i64 x) rfl
  rw [RM.cal_cal, RM.cal_cal] at h3
  exact h3
theorem thr_idle {w : World} {base mb : Nat} {m : RM} {v : RMV} (h : RMAt w base mb m v) {g i : Nat} (hg : (v.row 4).rowBlock = some g) (hi : i < m.T.length) : RMAt (w.setCell ⟨g, i * 658, none⟩ (.bool false)) base mb (m.thr i RT.idle) v := by
  rw [RM.thr_eq _ _ _ hi]
  have := h.putT hg hi (j := 0) (by omega) (RT.idle m.T[i]) (show (RT.idle m.T[i]).ok from h.tok m.T[i] (List.getElem_mem hi)) _ (RT.set0 _ false)
  rw [Nat.add_zero] at this
  exact this
set_option maxRecDepth 100000 in
set_option maxHeartbeats 4000000 in
theorem end_any {w : World} {base mb : Nat} {m : RM} {v : RMV} (H : RMAt w base mb m v) {i : Nat} (hi : i < m.T.length) {ci : Nat} (hc : ci < m.calls.length) (hcall : m.T[i].call = (ci : Int)) (kd : Int) (ra : Nat) (hra : ra < 48) (b c tgt : Int) :
    Calls Try.prog 79 #[.pointer (some ⟨mb, 0, none⟩), .int .i64 (i : Int), .agg #[.int .i64 kd, .int .i64 (ra : Int), .int .i64 b, .int .i64 c, .int .i64 2, .int .i64 tgt]] w
      fun e w' => e = .returned (.tuple #[]) ∧ RMAt w' base mb ((m.cal ci (Cal.done m.moves (wrap64 (m.T[i].r.getD ra 0)))).thr i RT.idle) v ∧ Only (v.own mb) w w' := by
  have hok := H.tok _ (List.getElem_mem hi)
  obtain ⟨g, cap, e4, h1, h1', h2, h3, h4, h5, h6, h7⟩ := H.thr hi
  obtain ⟨gc, capc, ec, c1, c1', c2, c3, c4, c5, c6, c7⟩ := H.row (i := 8) (by omega) (show 0 < m.calls.length by omega)
  change v.row 8 = .slice (some ⟨gc, 0, none⟩) m.calls.length capc at ec
  change m.calls.length ≤ capc at c1
  have b11 := H.b11
  have b24 := H.b24
  have b23 := H.b23
  rw [e4] at b11
  rw [ec] at b24
  have lb := (H.lt mb (.inl rfl)).2
  have hgc : g ≠ gc := H.apart2 (i := 4) (j := 8) (by omega) (by omega) (by omega) h4 c4
  have hcg : gc ≠ g := Ne.symm hgc
  have hgm : mb ≠ g := Ne.symm h7
  have hcm : mb ≠ gc := Ne.symm c7
  have t0 := h6 0 _ (by omega) (RT.c0 _)
  have t1 := h6 1 _ (by omega) (RT.c1 _)
  rw [hcall] at t1
  have tr : w.cell? ⟨g, i * 658 + 3 + ra, none⟩ = some (.int .u64 (m.T[i].r.getD ra 0)) := by rw [Nat.add_assoc]; exact h6 (3 + ra) _ (by omega) (RT.cr hok ra hra)
  have y5 : w.cell? ⟨gc, ci * 9 + 5, none⟩ = some (.int .i64 m.calls[ci].en) := c6 (ci * 9 + 5) _ (cals_get m.calls ci 5 hc (by omega))
  have y7 : w.cell? ⟨gc, ci * 9 + 7, none⟩ = some (.int .i64 m.calls[ci].ak) := c6 (ci * 9 + 7) _ (cals_get m.calls ci 7 hc (by omega))
  have y8 : w.cell? ⟨gc, ci * 9 + 8, none⟩ = some (.int .i64 m.calls[ci].av) := c6 (ci * 9 + 8) _ (cals_get m.calls ci 8 hc (by omega))
  have z5 := c5 (ci * 9 + 5)
  have z7 := c5 (ci * 9 + 7)
  have z8 := c5 (ci * 9 + 8)
  have z0 := h5 (i * 658 + 0)
  simp only [Nat.add_zero] at t0 z0
  have H4 := Lib.hid h4
  have C4 := Lib.hid c4
  have HH := Lib.hid H
  unfold maxLen at h1' c1'
  clear H h4 h5 h6 e4 c4 c5 c6 ec hcall h2 c2
  go_enter Try.func79, Try.ntmps79
  go_wp2
  go_wp2
  refine wp_region_more_lit (by kernel_rfl) (by kernel_rfl) ?_
  repeat (first | go_big_quiet_skip | (go_big_quiet_want; go_big_quiet_op; first | go_big_quiet_on | (apply Exists.intro; refine ⟨fun _ => ?_, ?_⟩; (focus (fail)); go_big_quiet_on)))
  refine wpQuiet_nil ?_
  intro osq dq
  go_wp2
  go_wp2
  refine wp_region_more_tail 12 (by kernel_rfl) (by kernel_rfl) ?_
  simp only [List.take_succ_cons, List.take_zero, List.drop_succ_cons, List.drop_zero]
  repeat (first | go_big_quiet_skip | (go_big_quiet_want; go_big_quiet_op; first | go_big_quiet_on | (apply Exists.intro; refine ⟨fun _ => ?_, ?_⟩; (focus (fail)); go_big_quiet_on)))
  refine wpQuiet_nil ?_
  intro osq dq
  go_wp2
  go_end0
  refine ⟨rfl, ?_, ?_⟩
  · repeat (first | apply RMAt.more | apply RMAt.alloc)
    have hfin := thr_idle (cal_done HH.out C4.out hc m.moves (wrap64 (m.T[i].r.getD ra 0))) H4.out hi
    rw [List.getD_eq_getElem?_getD] at hfin ⊢
    exact hfin
  · repeat (first | apply Only.more | apply Only.alloc)
    exact ((((Only.refl _ w).set (.inl (own_row (i := 8) (by omega) C4.out)) _).set (.inl (own_row (i := 8) (by omega) C4.out)) _).set (.inl (own_row (i := 8) (by omega) C4.out)) _).set (.inl (own_row (i := 4) (by omega) H4.out)) _

set_option maxRecDepth 100000 in
set_option maxHeartbeats 4000000 in
theorem local_end {w : World} {base mb : Nat} {m : RM} {v : RMV} (H : RMAt w base mb m v) {i : Nat} (hi : i < m.T.length) (hp : 0 ≤ m.T[i].pos ∧ m.T[i].pos ≤ 1000) (b c tgt : Int) {ci : Nat} (hc : ci < m.calls.length) (hcall : m.T[i].call = (ci : Int)) (ra : Nat) (hra : ra < 48) :
    Calls Try.prog 77 #[.pointer (some ⟨mb, 0, none⟩), .int .i64 (i : Int), .agg #[.int .i64 14, .int .i64 (ra : Int), .int .i64 b, .int .i64 c, .int .i64 2, .int .i64 tgt]] w
      fun e w' => e = .returned (.tuple #[]) ∧ RMAt w' base mb ((((m.thr i RT.next).cal ci (Cal.done m.moves (wrap64 (m.T[i].r.getD ra 0)))).thr i RT.idle)) v ∧ Only (v.own mb) w w' := by
  obtain ⟨g, cap, e4, h1, h1', h2, h3, h4, h5, h6, h7⟩ := H.thr hi
  have b11 := H.b11
  rw [e4] at b11
  have lb := (H.lt mb (.inl rfl)).2
  have t2 := h6 2 _ (by omega) (RT.c2 _)
  have z2 := h5 (i * 658 + 2)
  have HN := Lib.hid ((thr_next H h4 hi).alloc (.cells #[.int .i64 14, .int .i64 (ra : Int), .int .i64 b, .int .i64 c, .int .i64 2, .int .i64 tgt] 143))
  have HO := Lib.hid (show Only (v.own mb) w ((w.setCell ⟨g, i * 658 + 2, none⟩ (.int .i64 (m.T[i].pos + 1))).alloc (.cells #[.int .i64 14, .int .i64 (ra : Int), .int .i64 b, .int .i64 c, .int .i64 2, .int .i64 tgt] 143)) from ((Only.refl _ w).set (.inl (own_row (by omega) h4)) _).alloc _)
  have HH := Lib.hid H
  obtain ⟨hp1, hp2⟩ := hp
  unfold maxLen at h1'
  clear H h5 h6
  go_enter Try.func77, Try.ntmps77
  go_upto_region 3 with (fail)
  refine gen_world ?_
  intro W1 hW1
  rw [← hW1] at HN HO
  have hm5 : W1.heap[w.heap.size]? = some (.cells #[.int .i64 14, .int .i64 (ra : Int), .int .i64 b, .int .i64 c, .int .i64 2, .int .i64 tgt] 143 (0, 0)) := by
    rw [hW1]
    exact heap_alloc_at (by simp)
  obtain ⟨b5, hb5⟩ : ∃ b5, b5 = w.heap.size := ⟨_, rfl⟩
  have hg5 : g ≠ b5 := by omega
  have h5g : b5 ≠ g := by omega
  have hm5n : mb ≠ b5 := by omega
  have h5mn : b5 ≠ mb := by omega
  have HB5 := Lib.hid hb5
  rw [← hb5] at hm5 ⊢
  have k0 : W1.cell? ⟨b5, 0, none⟩ = some (.int .i64 14) := by simp [World.cell?, hm5]
  have k1 : W1.cell? ⟨b5, 1, none⟩ = some (.int .i64 (ra : Int)) := by simp [World.cell?, hm5]
  have k2 : W1.cell? ⟨b5, 2, none⟩ = some (.int .i64 b) := by simp [World.cell?, hm5]
  have k3 : W1.cell? ⟨b5, 3, none⟩ = some (.int .i64 c) := by simp [World.cell?, hm5]
  have k4 : W1.cell? ⟨b5, 4, none⟩ = some (.int .i64 2) := by simp [World.cell?, hm5]
  have k5 : W1.cell? ⟨b5, 5, none⟩ = some (.int .i64 tgt) := by simp [World.cell?, hm5]
  have l5 := (Array.getElem?_eq_some_iff.1 hm5).1
  have hi1 : i < (m.thr i RT.next).T.length := by rw [RM.thr_len]; exact hi
  obtain ⟨g1, cap1, e41, p1, p1', p2, p3, p4, p5, p6, p7⟩ := HN.out.thr hi1
  obtain rfl : g = g1 := by rw [h4] at p4; exact Option.some.inj p4
  rw [RM.thr_get _ _ _ hi] at p6
  have lb1 := (HN.out.lt mb (.inl rfl)).2
  have H4 := Lib.hid h4
  clear hW1 hm5 b11 t2 z2 e41 p1 p1' p2 p4 hb5 h4 e4 lb
  have HE := Lib.hid (end_any HN.out hi1 (by exact hc) (by rw [RM.thr_get _ _ _ hi]; exact hcall) 14 ra hra b c tgt)
  rw [RM.thr_get _ _ _ hi] at HE
  clear p5 p6
  go_wp2_with (go_at_call 79; refine HE.out.mono ?_; rintro e w3 ⟨rfl, hm3, ho3⟩; have HM3 := Lib.hid hm3; have HO3 := Lib.hid ho3; clear hm3 ho3)
  go_end0
  exact ⟨rfl, HM3.out, HO.out.trans HO3.out (fun _ hk => .inl hk)⟩
end Go.Proofs.Ytbhbpfpggfcpgaa
namespace Go.Proofs.Ytbhbpfpggfcpgaa
open Go.ChangeShapes Go.WideShapes Go.ChangeAt Go.RowKit Go.Shelf

def growRow (i : Nat) (u : Value) (r : Nat → Value) : Nat → Value := fun j => if j = i then u else r j
section
variable {w w' : World} {base mb : Nat} {m m' : RM} {v : RMV}
theorem _root_.Go.RMAt.app0 (h : RMAt w base mb m v) {i off n k : Nat} {u : Value} (hi : i < 11) (hr : w'.RowV base (rmTy i) (rmSz i) u (m'.len i) (m'.xs i)) (ho : RowOut w w' (v.row i) u n k)
    (hb : (m.blk v.row).setIfInBounds off u = m'.blk (growRow i u v.row)) (hlen : ∀ j, j < 11 → j ≠ i → m'.len j = m.len j) (hx : ∀ j, j < 11 → j ≠ i → m'.xs j = m.xs j) (ht : ∀ t ∈ m'.T, t.ok) :
    ∃ v', RMAt (w'.setCell ⟨mb, off, none⟩ u) base mb m' v' ∧ Only (v.own mb) w (w'.setCell ⟨mb, off, none⟩ u) ∧ (∀ k, v'.own mb k → v.own mb k ∨ w.heap.size ≤ k) ∧ v'.row = growRow i u v.row := by
  have hml := (h.lt mb (.inl rfl)).2
  have hnew : ∀ b, u.rowBlock = some b → b ≠ mb := fun b hb' e => by
    rcases ho.news hb' with h1 | h1
    · exact h.apart hi h1 e
    · omega
  have hmb : w'.heap[mb]? = w.heap[mb]? := ho.block hml (fun e => h.apart hi e rfl)
  refine ⟨⟨growRow i u v.row, fun b => if w.heap.size ≤ b then i + 1 else v.col b⟩, ⟨?_, h.ge, fun j hj => ?_, ?_, fun j hj b hjb => ?_, ht⟩, ?_, ?_, rfl⟩
  · simp [World.setCell, Array.getElem?_modify, hmb, h.blk, hb]
  · by_cases e : j = i
    · subst e
      show World.RowV _ _ _ _ (growRow j u v.row j) _ _
      rw [show growRow j u v.row j = u by simp [growRow]]
      exact hr.set hnew u
    · show World.RowV _ _ _ _ (growRow i u v.row j) _ _
      rw [show growRow i u v.row j = v.row j by simp [growRow, e], hlen j hj e, hx j hj e]
      exact ((h.rows j hj).out ho (fun b hb1 hb2 => h.apart2 hj hi e hb1 hb2 rfl)).set (fun b hb1 => h.apart hj hb1) u
  · show (if _ then _ else _) = _
    rw [if_neg (by omega)]; exact h.cm
  · have hjb' : (growRow i u v.row j).rowBlock = some b := hjb
    show (if _ then _ else _) = _
    by_cases e : j = i
    · subst e
      rw [show growRow j u v.row j = u by simp [growRow]] at hjb'
      split
      · rfl
      · rename_i hlt
        rcases ho.news hjb' with h1 | h1
        · exact h.cr j hj b h1
        · omega
    · rw [show growRow i u v.row j = v.row j by simp [growRow, e]] at hjb'
      rw [if_neg (by have := ((h.rows j hj).lt b hjb').2; omega)]
      exact h.cr j hj b hjb'
  · exact ((Only.out ho (F := v.own mb) (fun b hb' => own_row hi hb'))).set (.inl (.inl rfl)) u
  · rintro b (rfl | ⟨j, hj, hjb⟩)
    · exact .inl (.inl rfl)
    · have hjb' : (growRow i u v.row j).rowBlock = some b := hjb
      by_cases e : j = i
      · subst e
        rw [show growRow j u v.row j = u by simp [growRow]] at hjb'
        rcases ho.news hjb' with h1 | h1
        · exact .inl (own_row hj h1)
        · exact .inr (by omega)
      · rw [show growRow i u v.row j = v.row j by simp [growRow, e]] at hjb'
        exact .inl (own_row hj hjb')
theorem _root_.Go.RMAt.app (h : RMAt w base mb m v) {i off n k : Nat} {u : Value} (hi : i < 11) (h8 : 8 ≤ i) (hr : w'.RowV base (rmTy i) (rmSz i) u (m'.len i) (m'.xs i)) (ho : RowOut w w' (v.row i) u n k)
    (hb : (m.blk v.row).setIfInBounds off u = m'.blk (growRow i u v.row)) (hlen : ∀ j, j < 11 → j ≠ i → m'.len j = m.len j) (hx : ∀ j, j < 11 → j ≠ i → m'.xs j = m.xs j) (ht : ∀ t ∈ m'.T, t.ok) :
    ROut w base mb v m' (w'.setCell ⟨mb, off, none⟩ u) := by
  obtain ⟨v', h1, h2, h3, h4⟩ := h.app0 hi hr ho hb hlen hx ht
  exact ⟨v', h1, h2, h3, fun j hj => by rw [h4]; simp [growRow, show j ≠ i by omega]⟩
theorem _root_.Go.RMAt.aft (h : RMAt w base mb m v) {i n k : Nat} {u : Value} (hi : i < 11) (ho : RowOut w w' (v.row i) u n k) : (∀ j x, (m.blk v.row)[j]? = some x → w'.cell? ⟨mb, j, none⟩ = some x) ∧ (∀ j, w'.frozen? ⟨mb, j, none⟩ = false) ∧ mb < w'.heap.size := by
  have hml := (h.lt mb (.inl rfl)).2
  have hmb : w'.heap[mb]? = w.heap[mb]? := ho.block hml (fun e => h.apart hi e rfl)
  exact ⟨fun j x hj => (World.cell?_of_block hmb).trans (h.head j x hj), fun j => (World.frozen?_of_block hmb).trans (h.frozen j), Nat.lt_of_lt_of_le hml ho.size⟩
theorem ROut.ahead {w0 : World} (hb : Only (v.own mb) w0 w) (h : ROut w base mb v m' w') : ROut w0 base mb v m' w' := by
  obtain ⟨v1, h1, h2, h3, h5⟩ := h
  refine ⟨v1, h1, hb.trans h2 (fun _ hk => .inl hk), fun i hi => ?_, h5⟩
  rcases h3 i hi with h4 | h4
  · exact .inl h4
  · have := hb.size; exact .inr (by omega)
theorem app_trace (h : RMAt w base mb m v) {u : Value} {a : Acc} (hr : w'.RowV base 66 7 u (m.trace.length + 1) (accs m.trace ++ a.cells)) (ho : RowOut w w' (v.row 9) u m.trace.length 1) :
    ROut w base mb v { m with trace := m.trace ++ [a] } (w'.setCell ⟨mb, 25, none⟩ u) := by
  refine h.app (i := 9) (by omega) (by omega) ?_ ho rfl ?_ ?_ h.tok
  · show w'.RowV base 66 7 u (m.trace ++ [a]).length (accs (m.trace ++ [a]))
    rw [List.length_append, show accs (m.trace ++ [a]) = accs m.trace ++ a.cells by simp [accs]]
    exact hr
  · intro j hj hne
    match j, hj with
    | 9, _ => exact absurd rfl hne
    | 0, _ | 1, _ | 2, _ | 3, _ | 4, _ | 5, _ | 6, _ | 7, _ | 8, _ | 10, _ => rfl
  · intro j hj hne
    match j, hj with
    | 9, _ => exact absurd rfl hne
    | 0, _ | 1, _ | 2, _ | 3, _ | 4, _ | 5, _ | 6, _ | 7, _ | 8, _ | 10, _ => rfl
theorem app_calls (h : RMAt w base mb m v) {u : Value} {a : Cal} (hr : w'.RowV base 63 9 u (m.calls.length + 1) (cals m.calls ++ a.cells)) (ho : RowOut w w' (v.row 8) u m.calls.length 1) :
    ROut w base mb v { m with calls := m.calls ++ [a] } (w'.setCell ⟨mb, 24, none⟩ u) := by
  refine h.app (i := 8) (by omega) (by omega) ?_ ho rfl ?_ ?_ h.tok
  · show w'.RowV base 63 9 u (m.calls ++ [a]).length (cals (m.calls ++ [a]))
    rw [List.length_append, cals_snoc]
    exact hr
  · intro j hj hne
    match j, hj with
    | 8, _ => exact absurd rfl hne
    | 0, _ | 1, _ | 2, _ | 3, _ | 4, _ | 5, _ | 6, _ | 7, _ | 9, _ | 10, _ => rfl
  · intro j hj hne
    match j, hj with
    | 8, _ => exact absurd rfl hne
    | 0, _ | 1, _ | 2, _ | 3, _ | 4, _ | 5, _ | 6, _ | 7, _ | 9, _ | 10, _ => rfl
end
end Go.Proofs.Ytbhbpfpggfcpgaa
