/-
The machine as data, and where it lies in the heap (MachAt). What the desk's methods make of it (DeskS).
-/
import Derived.Test.YtbhbpfpggfcpgaaMemD
import Derived.Test.YtbhbpfpggfcpgaaLat
namespace Go
open Go.RowKit

/-! lists of cells, k for each entry -/
theorem flat_len {α β : Type} {f : α → List β} {k : Nat} (hk : ∀ x, (f x).length = k) (l : List α) : (l.flatMap f).length = l.length * k := by
  induction l with
  | nil => simp
  | cons x l ih => simp [List.flatMap_cons, hk, ih, Nat.add_mul]; omega
theorem flat_get {α β : Type} {f : α → List β} {k : Nat} (hk : ∀ x, (f x).length = k) : ∀ (l : List α) (i j : Nat) (hi : i < l.length), j < k → (l.flatMap f)[i * k + j]? = (f l[i])[j]? := by
  intro l
  induction l with
  | nil => intro i j hi; simp at hi
  | cons x l ih =>
    intro i j hi hj
    rw [List.flatMap_cons]
    cases i with
    | zero => rw [List.getElem?_append_left (by simp [hk]; omega)]; simp
    | succ i =>
      rw [List.getElem?_append_right (by simp [hk, Nat.add_mul]; omega), hk, show (i + 1) * k + j - k = i * k + j by rw [Nat.add_mul]; omega, ih i j (by simpa using hi) hj]
      simp
theorem flat_set {α β : Type} {f : α → List β} {k : Nat} (hk : ∀ x, (f x).length = k) (y : α) (u : β) : ∀ (l : List α) (i j : Nat) (hi : i < l.length), j < k → f y = (f l[i]).set j u → (l.flatMap f).set (i * k + j) u = (l.set i y).flatMap f := by
  intro l
  induction l with
  | nil => intro i j hi; simp at hi
  | cons x l ih =>
    intro i j hi hj hy
    rw [List.flatMap_cons]
    cases i with
    | zero =>
      rw [List.set_append_left _ _ (by simp [hk]; omega)]
      simp only [List.getElem_cons_zero, Nat.zero_mul, Nat.zero_add, List.set_cons_zero, List.flatMap_cons] at hy ⊢
      rw [hy]
    | succ i =>
      rw [List.set_append_right _ _ (by simp [hk, Nat.add_mul]; omega), hk, show (i + 1) * k + j - k = i * k + j by rw [Nat.add_mul]; omega, ih i j (by simpa using hi) hj (by simpa using hy)]
      simp

/-- a call -/
structure Cal where
  th : Int
  op : Int
  arg : Int
  data : Int
  beg : Int
  en : Int
  pt : Int
  ak : Int
  av : Int
deriving DecidableEq, Inhabited
def Cal.cells (c : Cal) : List Value := [.int .i64 c.th, .int .i64 c.op, .int .i64 c.arg, .int .i64 c.data, .int .i64 c.beg, .int .i64 c.en, .int .i64 c.pt, .int .i64 c.ak, .int .i64 c.av]
def cals (l : List Cal) : List Value := l.flatMap Cal.cells
theorem cals_snoc (l : List Cal) (x : Cal) : cals (l ++ [x]) = cals l ++ x.cells := by simp [cals]
theorem cals_len (l : List Cal) : (cals l).length = l.length * 9 := flat_len (f := Cal.cells) (k := 9) (fun _ => rfl) l
theorem cals_get (l : List Cal) (i j : Nat) (hi : i < l.length) (hj : j < 9) : (cals l)[i * 9 + j]? = l[i].cells[j]? := flat_get (f := Cal.cells) (k := 9) (fun _ => rfl) l i j hi hj
theorem cals_set (l : List Cal) (i j : Nat) (hi : i < l.length) (hj : j < 9) (y : Cal) (u : Value) (h : y.cells = l[i].cells.set j u) : (cals l).set (i * 9 + j) u = cals (l.set i y) := flat_set (f := Cal.cells) (k := 9) (fun _ => rfl) y u l i j hi hj h
theorem cals_one (l : List Cal) : ∀ u ∈ cals l, u.oneCell' = true := by
  intro u hu
  simp only [cals, List.mem_flatMap, Cal.cells] at hu
  obtain ⟨x, _, hx⟩ := hu
  simp at hx
  rcases hx with rfl | rfl | rfl | rfl | rfl | rfl | rfl | rfl | rfl <;> rfl

/-- a shift -/
structure Shf where
  mv : Int
  th : Int
  sl : Int
  fr : Int
  tgt : Int
deriving DecidableEq, Inhabited
def Shf.cells (c : Shf) : List Value := [.int .i64 c.mv, .int .i64 c.th, .int .i64 c.sl, .int .i64 c.fr, .int .i64 c.tgt]
def shfs (l : List Shf) : List Value := l.flatMap Shf.cells
theorem shfs_snoc (l : List Shf) (x : Shf) : shfs (l ++ [x]) = shfs l ++ x.cells := by simp [shfs]
theorem shfs_len (l : List Shf) : (shfs l).length = l.length * 5 := flat_len (f := Shf.cells) (k := 5) (fun _ => rfl) l
theorem shfs_one (l : List Shf) : ∀ u ∈ shfs l, u.oneCell' = true := by
  intro u hu
  simp only [shfs, List.mem_flatMap, Shf.cells] at hu
  obtain ⟨x, _, hx⟩ := hu
  simp at hx
  rcases hx with rfl | rfl | rfl | rfl | rfl <;> rfl

/-- a seat's cells -/
structure Seat where
  task : Value
  ready : Bool
  last : Int
  ak : Int
  av : Int
def Seat.cells (s : Seat) : List Value := [s.task, .bool s.ready, .int .i64 s.last, .int .i64 s.ak, .int .i64 s.av]
def seatC (l : List Seat) : List Value := l.flatMap Seat.cells
theorem seatC_snoc (l : List Seat) (x : Seat) : seatC (l ++ [x]) = seatC l ++ x.cells := by simp [seatC]
theorem seatC_len (l : List Seat) : (seatC l).length = l.length * 5 := flat_len (f := Seat.cells) (k := 5) (fun _ => rfl) l
theorem seatC_get (l : List Seat) (i j : Nat) (hi : i < l.length) (hj : j < 5) : (seatC l)[i * 5 + j]? = l[i].cells[j]? := flat_get (f := Seat.cells) (k := 5) (fun _ => rfl) l i j hi hj
theorem seatC_set (l : List Seat) (i j : Nat) (hi : i < l.length) (hj : j < 5) (y : Seat) (u : Value) (h : y.cells = l[i].cells.set j u) : (seatC l).set (i * 5 + j) u = seatC (l.set i y) := flat_set (f := Seat.cells) (k := 5) (fun _ => rfl) y u l i j hi hj h

/-- what lies before a task -/
structure DeskS where
  mem : MemS
  shifts : List Shf
  used : Bool
  th : Int
  now : Int
  pt : Int
  ak : Int
  av : Int

structure MachS where
  d : DeskS
  on : Option (Nat × Nat)
  seats : List Seat
  moves : Int
  calls : List Cal

def MachS.seatsNow (st : MachS) : List Seat := match st.on with
  | some (_, si) => st.seats.modify si fun s => { s with ak := st.d.ak, av := st.d.av }
  | none => st.seats
def MachS.callsNow (st : MachS) : List Cal := match st.on with
  | some (ci, _) => st.calls.modify ci fun c => { c with pt := st.d.pt }
  | none => st.calls
theorem MachS.seatsNow_len (st : MachS) : st.seatsNow.length = st.seats.length := by unfold MachS.seatsNow; split <;> simp
theorem MachS.callsNow_len (st : MachS) : st.callsNow.length = st.calls.length := by unfold MachS.callsNow; split <;> simp

/-- the machine's slots, and the owner of each block (0: the machine's own, 1: its memory, 2: its shifts, 3: its seats, 4: its calls) -/
structure MachV where
  mb : Nat
  mv : MemV
  vsh : Value
  vse : Value
  vca : Value
  kit : Value
  col : Nat → Nat

def ptrIn (v : Value) (o : Nat) : Value := match v.rowBlock with
  | some b => .pointer (some ⟨b, o, none⟩)
  | none => .pointer none
def MachS.callC (st : MachS) (v : MachV) : Value := match st.on with
  | some (ci, _) => ptrIn v.vca (ci * 9)
  | none => .pointer none
def MachS.toldC (st : MachS) (v : MachV) : Value := match st.on with
  | some (_, si) => ptrIn v.vse (si * 5 + 3)
  | none => .pointer none

def MachV.own (v : MachV) (xb k : Nat) : Prop := k = xb ∨ v.mv.own v.mb k ∨ v.vsh.rowBlock = some k ∨ v.vse.rowBlock = some k ∨ v.vca.rowBlock = some k

structure MachAt (w : World) (base xb : Nat) (st : MachS) (v : MachV) : Prop where
  blk : w.heap[xb]? = some (.cells #[.pointer (some ⟨v.mb, 0, none⟩), .int .i64 st.d.th, .int .i64 st.d.now, st.callC v, st.toldC v, .bool st.d.used, v.vsh, v.kit, v.vse, .int .i64 st.moves, v.vca] 100)
  ge : base ≤ xb
  mem : MemAt w base v.mb st.d.mem v.mv
  rsh : w.RowV base 132 5 v.vsh st.d.shifts.length (shfs st.d.shifts)
  rse : w.RowV base 118 5 v.vse st.seats.length (seatC st.seatsNow)
  rca : w.RowV base 63 9 v.vca st.calls.length (cals st.callsNow)
  cx : v.col xb = 0
  cm : ∀ k, v.mv.own v.mb k → v.col k = 1
  cs : ∀ k, v.vsh.rowBlock = some k → v.col k = 2
  ce : ∀ k, v.vse.rowBlock = some k → v.col k = 3
  cc : ∀ k, v.vca.rowBlock = some k → v.col k = 4

section
variable {w w' : World} {base xb : Nat} {st : MachS} {v : MachV}
theorem MachAt.lt (h : MachAt w base xb st v) : ∀ k, v.own xb k → base ≤ k ∧ k < w.heap.size := by
  rintro k (rfl | h1 | h1 | h1 | h1)
  · exact ⟨h.ge, (Array.getElem?_eq_some_iff.1 h.blk).1⟩
  · exact h.mem.lt k h1
  · exact h.rsh.lt k h1
  · exact h.rse.lt k h1
  · exact h.rca.lt k h1
theorem MachAt.of_block (h : MachAt w base xb st v) (hb : ∀ k, v.own xb k → w'.heap[k]? = w.heap[k]?) : MachAt w' base xb st v :=
  ⟨by rw [hb xb (.inl rfl)]; exact h.blk, h.ge, h.mem.of_block fun k hk => hb k (.inr (.inl hk)), h.rsh.of_block fun k hk => hb k (.inr (.inr (.inl hk))),
    h.rse.of_block fun k hk => hb k (.inr (.inr (.inr (.inl hk)))), h.rca.of_block fun k hk => hb k (.inr (.inr (.inr (.inr hk)))), h.cx, h.cm, h.cs, h.ce, h.cc⟩
theorem MachAt.more (h : MachAt w base xb st v) (os : Array Obj) (d : Nat) : MachAt (w.more os d) base xb st v := h.of_block fun k hk => World.heap_more _ _ _ _ (h.lt k hk).2
theorem MachAt.alloc (h : MachAt w base xb st v) (o : Obj) : MachAt (w.alloc o) base xb st v := h.of_block fun k hk => Below.heap_alloc _ _ _ (h.lt k hk).2
theorem MachAt.drew (h : MachAt w base xb st v) : MachAt w.drew base xb st v := h.of_block fun _ _ => rfl
theorem MachAt.set_other (h : MachAt w base xb st v) {p : Addr} (hp : ¬ v.own xb p.block) (u : Value) : MachAt (w.setCell p u) base xb st v :=
  h.of_block fun _k hk => Below.heap_setCell _ _ _ _ (fun e => hp (e ▸ hk))
theorem MachAt.only {F : Nat → Prop} (h : MachAt w base xb st v) (ho : Only F w w') (hF : ∀ k, v.own xb k → ¬ F k) : MachAt w' base xb st v :=
  h.of_block fun k hk => ho.block k (h.lt k hk).2 (hF k hk)
theorem MachAt.base_mono {b' : Nat} (h : MachAt w base xb st v) (hb : b' ≤ base) : MachAt w b' xb st v :=
  ⟨h.blk, Nat.le_trans hb h.ge, h.mem.base_mono hb, h.rsh.base_mono hb, h.rse.base_mono hb, h.rca.base_mono hb, h.cx, h.cm, h.cs, h.ce, h.cc⟩
theorem MachAt.base_le (h : MachAt w base xb st v) : base ≤ w.heap.size := by have := h.lt xb (.inl rfl); omega

theorem MachAt.head (h : MachAt w base xb st v) : w.cell? ⟨xb, 0, none⟩ = some (.pointer (some ⟨v.mb, 0, none⟩)) ∧ w.cell? ⟨xb, 1, none⟩ = some (.int .i64 st.d.th) ∧ w.cell? ⟨xb, 2, none⟩ = some (.int .i64 st.d.now) ∧
    w.cell? ⟨xb, 3, none⟩ = some (st.callC v) ∧ w.cell? ⟨xb, 4, none⟩ = some (st.toldC v) ∧ w.cell? ⟨xb, 5, none⟩ = some (.bool st.d.used) ∧ w.cell? ⟨xb, 6, none⟩ = some v.vsh ∧
    w.cell? ⟨xb, 7, none⟩ = some v.kit ∧ w.cell? ⟨xb, 8, none⟩ = some v.vse ∧ w.cell? ⟨xb, 9, none⟩ = some (.int .i64 st.moves) ∧ w.cell? ⟨xb, 10, none⟩ = some v.vca ∧
    (∀ j, w.frozen? ⟨xb, j, none⟩ = false) ∧ xb < w.heap.size :=
  ⟨by simp [World.cell?, h.blk], by simp [World.cell?, h.blk], by simp [World.cell?, h.blk], by simp [World.cell?, h.blk], by simp [World.cell?, h.blk], by simp [World.cell?, h.blk], by simp [World.cell?, h.blk],
    by simp [World.cell?, h.blk], by simp [World.cell?, h.blk], by simp [World.cell?, h.blk], by simp [World.cell?, h.blk], fun j => by simp [World.frozen?, h.blk], (Array.getElem?_eq_some_iff.1 h.blk).1⟩

/-- the machine's own block is written; the rows and the memory stay -/
theorem MachAt.put {st' : MachS} {v' : MachV} (h : MachAt w base xb st v) {j : Nat} {u : Value}
    (hcs : (#[.pointer (some ⟨v.mb, 0, none⟩), .int .i64 st.d.th, .int .i64 st.d.now, st.callC v, st.toldC v, .bool st.d.used, v.vsh, v.kit, v.vse, .int .i64 st.moves, v.vca] : Array Value).setIfInBounds j u =
      #[.pointer (some ⟨v'.mb, 0, none⟩), .int .i64 st'.d.th, .int .i64 st'.d.now, st'.callC v', st'.toldC v', .bool st'.d.used, v'.vsh, v'.kit, v'.vse, .int .i64 st'.moves, v'.vca])
    (mem' : MemAt (w.setCell ⟨xb, j, none⟩ u) base v'.mb st'.d.mem v'.mv)
    (rsh' : (w.setCell ⟨xb, j, none⟩ u).RowV base 132 5 v'.vsh st'.d.shifts.length (shfs st'.d.shifts))
    (rse' : (w.setCell ⟨xb, j, none⟩ u).RowV base 118 5 v'.vse st'.seats.length (seatC st'.seatsNow))
    (rca' : (w.setCell ⟨xb, j, none⟩ u).RowV base 63 9 v'.vca st'.calls.length (cals st'.callsNow))
    (cx : v'.col xb = 0) (cm : ∀ k, v'.mv.own v'.mb k → v'.col k = 1) (cs : ∀ k, v'.vsh.rowBlock = some k → v'.col k = 2) (ce : ∀ k, v'.vse.rowBlock = some k → v'.col k = 3) (cc : ∀ k, v'.vca.rowBlock = some k → v'.col k = 4) :
    MachAt (w.setCell ⟨xb, j, none⟩ u) base xb st' v' :=
  ⟨by simp [World.setCell, Array.getElem?_modify, h.blk, hcs], h.ge, mem', rsh', rse', rca', cx, cm, cs, ce, cc⟩

theorem MachAt.nm (h : MachAt w base xb st v) : ¬ v.mv.own v.mb xb := fun e => by have := h.cm _ e; rw [h.cx] at this; cases this
theorem MachAt.ns (h : MachAt w base xb st v) : ∀ k, v.vsh.rowBlock = some k → k ≠ xb := fun k hk e => by subst e; have := h.cs _ hk; rw [h.cx] at this; cases this
theorem MachAt.ne (h : MachAt w base xb st v) : ∀ k, v.vse.rowBlock = some k → k ≠ xb := fun k hk e => by subst e; have := h.ce _ hk; rw [h.cx] at this; cases this
theorem MachAt.nc (h : MachAt w base xb st v) : ∀ k, v.vca.rowBlock = some k → k ≠ xb := fun k hk e => by subst e; have := h.cc _ hk; rw [h.cx] at this; cases this

/-- one of the machine's own cells, the lists as they are -/
theorem MachAt.put0 {st' : MachS} (h : MachAt w base xb st v) {j : Nat} {u : Value}
    (hcs : (#[.pointer (some ⟨v.mb, 0, none⟩), .int .i64 st.d.th, .int .i64 st.d.now, st.callC v, st.toldC v, .bool st.d.used, v.vsh, v.kit, v.vse, .int .i64 st.moves, v.vca] : Array Value).setIfInBounds j u =
      #[.pointer (some ⟨v.mb, 0, none⟩), .int .i64 st'.d.th, .int .i64 st'.d.now, st'.callC v, st'.toldC v, .bool st'.d.used, v.vsh, v.kit, v.vse, .int .i64 st'.moves, v.vca])
    (hm : st'.d.mem = st.d.mem) (hsh : st'.d.shifts = st.d.shifts) (hse : st'.seatsNow = st.seatsNow) (hca : st'.callsNow = st.callsNow) : MachAt (w.setCell ⟨xb, j, none⟩ u) base xb st' v := by
  have e1 : st'.seats.length = st.seats.length := by rw [← st'.seatsNow_len, hse, st.seatsNow_len]
  have e2 : st'.calls.length = st.calls.length := by rw [← st'.callsNow_len, hca, st.callsNow_len]
  refine h.put hcs ?_ ?_ ?_ ?_ h.cx h.cm h.cs h.ce h.cc
  · rw [hm]; exact h.mem.set_other h.nm _
  · rw [hsh]; exact h.rsh.set h.ns _
  · rw [hse, e1]; exact h.rse.set h.ne _
  · rw [hca, e2]; exact h.rca.set h.nc _
end

/-- what a desk's method leaves: the machine as st', its seats and calls where they lay -/
def DeskOut (w : World) (base xb : Nat) (v : MachV) (st' : MachS) (w' : World) : Prop :=
  ∃ v', MachAt w' base xb st' v' ∧ Only (v.own xb) w w' ∧ (∀ k, v'.own xb k → v.own xb k ∨ w.heap.size ≤ k) ∧ v'.vse = v.vse ∧ v'.vca = v.vca ∧ v'.mb = v.mb ∧ v'.kit = v.kit
/-- what a move leaves -/
def MachOut (w : World) (base xb : Nat) (v : MachV) (st' : MachS) (w' : World) : Prop :=
  ∃ v', MachAt w' base xb st' v' ∧ Only (v.own xb) w w' ∧ (∀ k, v'.own xb k → v.own xb k ∨ w.heap.size ≤ k) ∧ v'.mb = v.mb ∧ v'.kit = v.kit

section
variable {w w1 w2 : World} {base xb : Nat} {st st1 st2 : MachS} {v v1 : MachV}
theorem DeskOut.mach (h : DeskOut w base xb v st1 w1) : MachOut w base xb v st1 w1 := by
  obtain ⟨v1, a, b, c, _, _, d, e⟩ := h
  exact ⟨v1, a, b, c, d, e⟩
theorem DeskOut.refl (h : MachAt w base xb st v) : DeskOut w base xb v st w := ⟨v, h, Only.refl _ _, fun _ hk => .inl hk, rfl, rfl, rfl, rfl⟩
theorem DeskOut.trans (h : DeskOut w base xb v st1 w1) (k : ∀ v1, MachAt w1 base xb st1 v1 → v1.vse = v.vse → v1.vca = v.vca → v1.mb = v.mb → v1.kit = v.kit → DeskOut w1 base xb v1 st2 w2) : DeskOut w base xb v st2 w2 := by
  obtain ⟨v1, h1, h2, h3, e1, e2, e3, e4⟩ := h
  obtain ⟨v2, k1, k2, k3, f1, f2, f3, f4⟩ := k v1 h1 e1 e2 e3 e4
  refine ⟨v2, k1, h2.trans k2 h3, fun i hi => ?_, f1.trans e1, f2.trans e2, f3.trans e3, f4.trans e4⟩
  rcases k3 i hi with h4 | h4
  · exact h3 i h4
  · have := h2.size; exact .inr (by omega)
theorem MachOut.trans (h : MachOut w base xb v st1 w1) (k : ∀ v1, MachAt w1 base xb st1 v1 → v1.mb = v.mb → v1.kit = v.kit → MachOut w1 base xb v1 st2 w2) : MachOut w base xb v st2 w2 := by
  obtain ⟨v1, h1, h2, h3, e3, e4⟩ := h
  obtain ⟨v2, k1, k2, k3, f3, f4⟩ := k v1 h1 e3 e4
  refine ⟨v2, k1, h2.trans k2 h3, fun i hi => ?_, f3.trans e3, f4.trans e4⟩
  rcases k3 i hi with h4 | h4
  · exact h3 i h4
  · have := h2.size; exact .inr (by omega)
/-- as DeskOut, with the slots named -/
structure DeskStep (w : World) (base xb : Nat) (v : MachV) (st' : MachS) (v' : MachV) (w' : World) : Prop where
  at' : MachAt w' base xb st' v'
  only : Only (v.own xb) w w'
  own : ∀ k, v'.own xb k → v.own xb k ∨ w.heap.size ≤ k
  vse : v'.vse = v.vse
  vca : v'.vca = v.vca
  mb : v'.mb = v.mb
  kit : v'.kit = v.kit
theorem DeskOut.step (h : DeskOut w base xb v st1 w1) : ∃ v1, DeskStep w base xb v st1 v1 w1 := by
  obtain ⟨v1, a, b, c, d, e, f, g⟩ := h
  exact ⟨v1, a, b, c, d, e, f, g⟩
theorem DeskStep.out (h : DeskStep w base xb v st1 v1 w1) : DeskOut w base xb v st1 w1 := ⟨v1, h.at', h.only, h.own, h.vse, h.vca, h.mb, h.kit⟩
theorem DeskStep.then (h : DeskStep w base xb v st1 v1 w1) (k : DeskOut w1 base xb v1 st2 w2) : DeskOut w base xb v st2 w2 := by
  obtain ⟨v2, k1, k2, k3, f1, f2, f3, f4⟩ := k
  refine ⟨v2, k1, h.only.trans k2 h.own, fun i hi => ?_, f1.trans h.vse, f2.trans h.vca, f3.trans h.mb, f4.trans h.kit⟩
  rcases k3 i hi with h4 | h4
  · exact h.own i h4
  · have := h.only.size; exact .inr (by omega)
/-- a block that was there and is not the machine's stays not the machine's -/
theorem DeskStep.not_own (h : DeskStep w base xb v st1 v1 w1) {b : Nat} (hb : ¬ v.own xb b) (hl : b < w.heap.size) : ¬ v1.own xb b := fun e => by
  rcases h.own b e with h | h
  · exact hb h
  · omega
theorem DeskOut.set {j : Nat} {u : Value} (_h : MachAt w base xb st v) (k : MachAt (w.setCell ⟨xb, j, none⟩ u) base xb st1 v) : DeskOut w base xb v st1 (w.setCell ⟨xb, j, none⟩ u) :=
  ⟨v, k, (Only.refl _ _).set (.inl (.inl rfl)) _, fun _ hk => .inl hk, rfl, rfl, rfl, rfl⟩
/-- ahead of it cells of the machine's own are written -/
theorem DeskOut.ahead {w0 : World} (hb : Only (v.own xb) w0 w) (h : DeskOut w base xb v st1 w1) : DeskOut w0 base xb v st1 w1 := by
  obtain ⟨v1, h1, h2, h3, e⟩ := h
  refine ⟨v1, h1, hb.trans h2 (fun _ hk => .inl hk), fun i hi => ?_, e⟩
  rcases h3 i hi with h4 | h4
  · exact .inl h4
  · have := hb.size; exact .inr (by omega)
theorem DeskOut.pre {w0 : World} (hb : Only (fun _ => False) w0 w) (h : DeskOut w base xb v st1 w1) : DeskOut w0 base xb v st1 w1 := by
  obtain ⟨v1, h1, h2, h3, e1, e2, e3, e4⟩ := h
  refine ⟨v1, h1, ?_, fun i hi => ?_, e1, e2, e3, e4⟩
  · exact ⟨h2.os.trans hb.os, h2.tape.trans hb.tape, h2.output.trans hb.output, Nat.le_trans hb.size h2.size, fun k hk hn => (h2.block k (Nat.lt_of_lt_of_le hk hb.size) hn).trans (hb.block k hk (fun x => x))⟩
  · rcases h3 i hi with h4 | h4
    · exact .inl h4
    · have := hb.size; exact .inr (by omega)
theorem DeskOut.post (h : DeskOut w base xb v st1 w1) (hb : Only (fun _ => False) w1 w2) : DeskOut w base xb v st1 w2 := by
  obtain ⟨v1, h1, h2, h3, e⟩ := h
  exact ⟨v1, h1.only hb (fun _ _ x => x), h2.trans hb (fun _ x => x.elim), h3, e⟩

/-- the memory turns -/
theorem MachAt.mem_out {ms : MemS} (h : MachAt w base xb st v) (hm : MemOut w base v.mb v.mv ms w1) : DeskOut w base xb v { st with d := { st.d with mem := ms } } w1 := by
  obtain ⟨mv', h1, h2, h3⟩ := hm
  have hk : ∀ k, (∃ c, v.col k = c ∧ c ≠ 1) → k < w.heap.size → w1.heap[k]? = w.heap[k]? := fun k ⟨c, e, hc⟩ hl => h2.block k hl (fun ho => hc (by rw [← e]; exact h.cm k ho))
  have hlt := h.lt
  have hnew : ∀ k, w.heap.size ≤ k → ∀ j, v.own xb j → j ≠ k := fun k hk j hj e => by have := (hlt j hj).2; omega
  refine ⟨{ v with mv := mv', col := fun k => if w.heap.size ≤ k then 1 else v.col k }, ⟨?_, h.ge, h1, ?_, ?_, ?_, ?_, ?_, ?_, ?_, ?_⟩, ?_, ?_, rfl, rfl, rfl, rfl⟩
  · rw [hk xb ⟨0, h.cx, by decide⟩ (hlt xb (.inl rfl)).2]; exact h.blk
  · exact h.rsh.of_block fun k e => hk k ⟨2, h.cs k e, by decide⟩ (h.rsh.lt k e).2
  · exact h.rse.of_block fun k e => hk k ⟨3, h.ce k e, by decide⟩ (h.rse.lt k e).2
  · exact h.rca.of_block fun k e => hk k ⟨4, h.cc k e, by decide⟩ (h.rca.lt k e).2
  · show (if _ then _ else _) = _
    rw [if_neg (by have := (hlt xb (.inl rfl)).2; omega)]; exact h.cx
  · intro k e
    show (if _ then _ else _) = _
    split
    · rfl
    · rcases h3 k e with h4 | h4
      · exact h.cm k h4
      · omega
  · intro k e
    show (if _ then _ else _) = _
    rw [if_neg (by have := (h.rsh.lt k e).2; omega)]; exact h.cs k e
  · intro k e
    show (if _ then _ else _) = _
    rw [if_neg (by have := (h.rse.lt k e).2; omega)]; exact h.ce k e
  · intro k e
    show (if _ then _ else _) = _
    rw [if_neg (by have := (h.rca.lt k e).2; omega)]; exact h.cc k e
  · exact h2.mono fun k _ e => .inr (.inl e)
  · rintro k (e | e | e | e | e)
    · exact .inl (.inl e)
    · rcases h3 k e with h4 | h4
      · exact .inl (.inr (.inl h4))
      · exact .inr h4
    · exact .inl (.inr (.inr (.inl e)))
    · exact .inl (.inr (.inr (.inr (.inl e))))
    · exact .inl (.inr (.inr (.inr (.inr e))))
end

def DeskS.can (d : DeskS) (a : Int) : Bool := !d.used && (decide (0 ≤ a) && decide (a < (d.mem.words.length : Int)))
def DeskS.word (d : DeskS) (a : Int) : Int := if d.can a then d.mem.at a.toNat else 0
def DeskS.load (d : DeskS) (a : Int) : DeskS := if d.can a then { d with used := true, mem := d.mem.load d.th a.toNat } else d
def DeskS.store (d : DeskS) (a x : Int) : DeskS := if d.can a then { d with used := true, mem := d.mem.store d.th a.toNat x } else d
def DeskS.swaps (d : DeskS) (a o : Int) : Bool := d.can a && decide (d.mem.at a.toNat = o)
def DeskS.swap (d : DeskS) (a o x : Int) : DeskS := if d.can a then { d with used := true, mem := d.mem.swap d.th a.toNat o x } else d
def DeskS.shift (d : DeskS) (sl fr tgt : Int) : DeskS := { d with shifts := d.shifts ++ [⟨d.now, d.th, sl, fr, tgt⟩] }
/-- the lists are of a length that may be -/
def DeskS.Fits (d : DeskS) : Prop := d.mem.log.length ≤ 3000000000000 ∧ d.mem.ahead.length ≤ 3000000000000 ∧ d.shifts.length ≤ 3000000000000
end Go
