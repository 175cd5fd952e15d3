/-
The machine in a step: how a step begins, what it writes, how it ends.
Calls by name of method and of function values; what a kit's tasks are (Kits).
machine: maps with whole numbers as keys: what such a map reads as (Reads), an entry laid or changed in whatever block.
machine: a kit's map is read and written; the desk's accesses put one entry behind the lists.
word.Check and reclaimref01.Config: whether a configuration may be.
word.many, word.Size, reclaimref01.Many, Base, Size: how many words a region has, where it begins.
word.Size, reclaimref01.Base and Size.
-/
import Derived.Test.YtjcggokhminmoaaQMchM
import Derived.Test.YtjcggokhminmoaaQMchE
import Derived.Test.YtjcggokhminmoaaQMore
import Derived.Maps.RangeWalk
import Derived.Laws.EntriesVeiled
import Derived.Test.YtjcggokhminmoaaRows
import Derived.LoopN
import Derived.Deep.WholeRow
import Derived.Deep.RegionWith
namespace Go
open Go.RowKit

def MachS.withCall (st : MachS) (ci : Nat) (f : Cal → Cal) : MachS := { st with calls := st.calls.modify ci f }
def MachS.withSeat (st : MachS) (si : Nat) (f : Seat → Seat) : MachS := { st with seats := st.seats.modify si f }
section
variable {w : World} {base xb : Nat} {st : MachS} {v : MachV} {ci si g : Nat}
theorem MachS.On.withCall (O : st.On ci si) (f : Cal → Cal) : (st.withCall ci f).On ci si := ⟨O.on, by simpa [MachS.withCall] using O.c, O.s⟩
theorem MachS.On.withSeat (O : st.On ci si) (f : Seat → Seat) : (st.withSeat si f).On ci si := ⟨O.on, O.c, by simpa [MachS.withSeat] using O.s⟩

theorem MachAt.call_cell (H : MachAt w base xb st v) (O : st.On ci si) (hg : v.vca.rowBlock = some g) {j : Nat} (hj : j < 9) (f : Cal → Cal) (u : Value)
    (hf : ∀ c p, ({ f c with pt := p } : Cal).cells = ({ c with pt := p } : Cal).cells.set j u) : MachAt (w.setCell ⟨g, ci * 9 + j, none⟩ u) base xb (st.withCall ci f) v := by
  have hc := O.c
  refine H.put_call (st' := st.withCall ci f) hg (j := ci * 9 + j) (u := u) (by omega) ⟨rfl, rfl, rfl, rfl, rfl, rfl, rfl, rfl, by simp [MachS.withCall]⟩ ?_
  have hc' : ci < st.callsNow.length := by rw [st.callsNow_len]; exact hc
  rw [cals_set st.callsNow ci j hc' hj { f (st.calls[ci]) with pt := st.d.pt } u (by rw [O.call hc']; exact hf _ _)]
  congr 1
  rw [O.calls, (O.withCall f).calls]
  show _ = (st.calls.modify ci f).modify ci _
  apply List.ext_getElem?
  intro i
  simp only [List.getElem?_set, List.getElem?_modify, List.length_modify]
  by_cases e : ci = i
  · subst e; simp [hc]; rfl
  · simp [e]
theorem MachAt.seat_cell (H : MachAt w base xb st v) (O : st.On ci si) (hg : v.vse.rowBlock = some g) {j : Nat} (hj : j < 5) (f : Seat → Seat) (u : Value)
    (hf : ∀ c p q, ({ f c with ak := p, av := q } : Seat).cells = ({ c with ak := p, av := q } : Seat).cells.set j u) : MachAt (w.setCell ⟨g, si * 5 + j, none⟩ u) base xb (st.withSeat si f) v := by
  have hc := O.s
  refine H.put_seat (st' := st.withSeat si f) hg (j := si * 5 + j) (u := u) (by omega) ⟨rfl, rfl, rfl, rfl, rfl, rfl, rfl, rfl, by simp [MachS.withSeat]⟩ ?_
  have hc' : si < st.seatsNow.length := by rw [st.seatsNow_len]; exact hc
  rw [seatC_set st.seatsNow si j hc' hj { f (st.seats[si]) with ak := st.d.ak, av := st.d.av } u (by rw [O.seat hc']; exact hf _ _ _)]
  congr 1
  rw [O.seatsE, (O.withSeat f).seatsE]
  show _ = (st.seats.modify si f).modify si _
  apply List.ext_getElem?
  intro i
  simp only [List.getElem?_set, List.getElem?_modify, List.length_modify]
  by_cases e : si = i
  · subst e; simp [hc]; exact ⟨rfl, rfl⟩
  · simp [e]

/-- the desk as it lies before a task when a step begins (the memory's number is set behind it) -/
def DeskS.fresh (d : DeskS) (th now : Int) (c : Cal) (s : Seat) : DeskS := { d with used := false, th := th, now := now, pt := c.pt, ak := s.ak, av := s.av }

theorem modify_same {α : Type} (l : List α) (i : Nat) (f : α → α) (h : ∀ (hi : i < l.length), f l[i] = l[i]) : l.modify i f = l := by
  apply List.ext_getElem?
  intro j
  simp only [List.getElem?_modify]
  by_cases e : i = j
  · subst e
    by_cases hi : i < l.length
    · simp [List.getElem?_eq_getElem hi, h hi]
    · simp [List.getElem?_eq_none (Nat.le_of_not_lt hi)]
  · simp [e]

theorem MachAt.begin (H : MachAt w base xb st v) (hon : st.on = none) (hc : ci < st.calls.length) (hs : si < st.seats.length) (th now : Int) {g2 : Nat} (hg : v.vse.rowBlock = some g) (hg2 : v.vca.rowBlock = some g2) :
    MachAt (((((w.setCell ⟨xb, 1, none⟩ (.int .i64 th)).setCell ⟨xb, 2, none⟩ (.int .i64 now)).setCell ⟨xb, 5, none⟩ (.bool false)).setCell ⟨xb, 3, none⟩ (.pointer (some ⟨g2, ci * 9, none⟩))).setCell ⟨xb, 4, none⟩ (.pointer (some ⟨g, si * 5 + 3, none⟩))) base xb
      { st with d := st.d.fresh th now st.calls[ci] st.seats[si], on := some (ci, si) } v := by
  have e1 : st.callsNow = st.calls := by unfold MachS.callsNow; rw [hon]
  have e2 : st.seatsNow = st.seats := by unfold MachS.seatsNow; rw [hon]
  have e3 : ({ st with d := st.d.fresh th now st.calls[ci] st.seats[si], on := some (ci, si) } : MachS).callsNow = st.calls := by
    unfold MachS.callsNow DeskS.fresh
    exact modify_same _ _ _ (fun _ => rfl)
  have e4 : ({ st with d := st.d.fresh th now st.calls[ci] st.seats[si], on := some (ci, si) } : MachS).seatsNow = st.seats := by
    unfold MachS.seatsNow DeskS.fresh
    exact modify_same _ _ _ (fun _ => rfl)
  have hb : (((((w.setCell ⟨xb, 1, none⟩ (.int .i64 th)).setCell ⟨xb, 2, none⟩ (.int .i64 now)).setCell ⟨xb, 5, none⟩ (.bool false)).setCell ⟨xb, 3, none⟩ (.pointer (some ⟨g2, ci * 9, none⟩))).setCell ⟨xb, 4, none⟩ (.pointer (some ⟨g, si * 5 + 3, none⟩))).heap[xb]? =
      some (.cells #[.pointer (some ⟨v.mb, 0, none⟩), .int .i64 th, .int .i64 now, .pointer (some ⟨g2, ci * 9, none⟩), .pointer (some ⟨g, si * 5 + 3, none⟩), .bool false, v.vsh, v.kit, v.vse, .int .i64 st.moves, v.vca] 120) := by
    simp [World.setCell, Array.getElem?_modify, H.blk]
  have ho : ∀ k, k ≠ xb → (((((w.setCell ⟨xb, 1, none⟩ (.int .i64 th)).setCell ⟨xb, 2, none⟩ (.int .i64 now)).setCell ⟨xb, 5, none⟩ (.bool false)).setCell ⟨xb, 3, none⟩ (.pointer (some ⟨g2, ci * 9, none⟩))).setCell ⟨xb, 4, none⟩ (.pointer (some ⟨g, si * 5 + 3, none⟩))).heap[k]? = w.heap[k]? := by
    intro k hk
    simp [World.setCell, Array.getElem?_modify, Ne.symm hk]
  refine ⟨?_, H.ge, ?_, ?_, ?_, ?_, H.cx, H.cm, H.cs, H.ce, H.cc⟩
  · rw [hb]
    unfold MachS.callC MachS.toldC
    simp only [ptrIn_eq hg, ptrIn_eq hg2]
    rfl
  · exact H.mem.of_block fun k hk => ho k (fun e => H.nm (e ▸ hk))
  · exact H.rsh.of_block fun k hk => ho k (H.ns k hk)
  · rw [e4]; have := H.rse.of_block (w' := (((((w.setCell ⟨xb, 1, none⟩ (.int .i64 th)).setCell ⟨xb, 2, none⟩ (.int .i64 now)).setCell ⟨xb, 5, none⟩ (.bool false)).setCell ⟨xb, 3, none⟩ (.pointer (some ⟨g2, ci * 9, none⟩))).setCell ⟨xb, 4, none⟩ (.pointer (some ⟨g, si * 5 + 3, none⟩)))) fun k hk => ho k (H.ne k hk)
    rw [e2] at this; exact this
  · rw [e3]; have := H.rca.of_block (w' := (((((w.setCell ⟨xb, 1, none⟩ (.int .i64 th)).setCell ⟨xb, 2, none⟩ (.int .i64 now)).setCell ⟨xb, 5, none⟩ (.bool false)).setCell ⟨xb, 3, none⟩ (.pointer (some ⟨g2, ci * 9, none⟩))).setCell ⟨xb, 4, none⟩ (.pointer (some ⟨g, si * 5 + 3, none⟩)))) fun k hk => ho k (H.nc k hk)
    rw [e1] at this; exact this

/-- the step is over: what was told stays with the call and the seat -/
def MachS.rest (st : MachS) : MachS := { st with on := none, calls := st.callsNow, seats := st.seatsNow }
theorem MachAt.rest (H : MachAt w base xb st v) : MachAt ((w.setCell ⟨xb, 3, none⟩ (.pointer none)).setCell ⟨xb, 4, none⟩ (.pointer none)) base xb st.rest v := by
  have hb : ((w.setCell ⟨xb, 3, none⟩ (.pointer none)).setCell ⟨xb, 4, none⟩ (.pointer none)).heap[xb]? =
      some (.cells #[.pointer (some ⟨v.mb, 0, none⟩), .int .i64 st.d.th, .int .i64 st.d.now, .pointer none, .pointer none, .bool st.d.used, v.vsh, v.kit, v.vse, .int .i64 st.moves, v.vca] 120) := by
    simp [World.setCell, Array.getElem?_modify, H.blk]
  have ho : ∀ k, k ≠ xb → ((w.setCell ⟨xb, 3, none⟩ (.pointer none)).setCell ⟨xb, 4, none⟩ (.pointer none)).heap[k]? = w.heap[k]? := by
    intro k hk
    simp [World.setCell, Array.getElem?_modify, Ne.symm hk]
  refine ⟨hb, H.ge, ?_, ?_, ?_, ?_, H.cx, H.cm, H.cs, H.ce, H.cc⟩
  · exact H.mem.of_block fun k hk => ho k (fun e => H.nm (e ▸ hk))
  · exact H.rsh.of_block fun k hk => ho k (H.ns k hk)
  · have := H.rse.of_block (w' := ((w.setCell ⟨xb, 3, none⟩ (.pointer none)).setCell ⟨xb, 4, none⟩ (.pointer none))) fun k hk => ho k (H.ne k hk)
    rw [← st.seatsNow_len] at this
    exact this
  · have := H.rca.of_block (w' := ((w.setCell ⟨xb, 3, none⟩ (.pointer none)).setCell ⟨xb, 4, none⟩ (.pointer none))) fun k hk => ho k (H.nc k hk)
    rw [← st.callsNow_len] at this
    exact this
end

/-- the cells that a step reads and writes -/
theorem MachAt.stepFacts {w : World} {base xb : Nat} {st : MachS} {v : MachV} {ci si g g2 : Nat} (H : MachAt w base xb st v) (O : st.On ci si) (hg : v.vse.rowBlock = some g) (hg2 : v.vca.rowBlock = some g2) {se : Seat} {ca : Cal} (hse : st.seats[si]? = some se) (hca : st.calls[ci]? = some ca) :
    (w.cell? ⟨g, si * 5, none⟩ = some se.task ∧ w.cell? ⟨g, si * 5 + 1, none⟩ = some (.bool se.ready) ∧ w.cell? ⟨g, si * 5 + 2, none⟩ = some (.int .i64 se.last) ∧
      w.cell? ⟨g, si * 5 + 3, none⟩ = some (.int .i64 st.d.ak) ∧ w.cell? ⟨g, si * 5 + 4, none⟩ = some (.int .i64 st.d.av) ∧ (∀ j, w.frozen? ⟨g, j, none⟩ = false) ∧ g < w.heap.size) ∧
    (w.cell? ⟨g2, ci * 9 + 5, none⟩ = some (.int .i64 ca.en) ∧ w.cell? ⟨g2, ci * 9 + 7, none⟩ = some (.int .i64 ca.ak) ∧ w.cell? ⟨g2, ci * 9 + 8, none⟩ = some (.int .i64 ca.av) ∧
      (∀ j, w.frozen? ⟨g2, j, none⟩ = false) ∧ g2 < w.heap.size) ∧
    (w.cell? ⟨xb, 10, none⟩ = some v.vca ∧ w.cell? ⟨xb, 3, none⟩ = some (.pointer (some ⟨g2, ci * 9, none⟩)) ∧ w.cell? ⟨xb, 4, none⟩ = some (.pointer (some ⟨g, si * 5 + 3, none⟩)) ∧ (∀ j, w.frozen? ⟨xb, j, none⟩ = false) ∧ xb < w.heap.size) ∧
    g ≠ xb ∧ g2 ≠ xb ∧ g ≠ g2 := by
  obtain ⟨ga, cap, e, hcap, hrb, hglt, hgx, gz, gc⟩ := H.seats_form O.s
  obtain ⟨gb, cap2, e2, hcap2, hrb2, hglt2, hgx2, gz2, gc2⟩ := H.calls_form O.c
  obtain rfl : g = ga := by rw [hg] at hrb; exact Option.some.inj hrb
  obtain rfl : g2 = gb := by rw [hg2] at hrb2; exact Option.some.inj hrb2
  obtain ⟨c0, c1, c2, c3, c4, c5, c6, c7, c8, c9, c10, z, lt⟩ := H.head
  rw [O.seat (by rw [MachS.seatsNow_len]; exact O.s)] at gc
  rw [O.call (by rw [MachS.callsNow_len]; exact O.c)] at gc2
  have e3 : st.callC v = .pointer (some ⟨g2, ci * 9, none⟩) := by unfold MachS.callC; rw [O.on]; exact ptrIn_eq hg2
  have e4 : st.toldC v = .pointer (some ⟨g, si * 5 + 3, none⟩) := by unfold MachS.toldC; rw [O.on]; exact ptrIn_eq hg
  rw [e3] at c3
  rw [e4] at c4
  rw [show st.seats[si]'O.s = se from (List.getElem?_eq_some_iff.1 hse).2] at gc
  rw [show st.calls[ci]'O.c = ca from (List.getElem?_eq_some_iff.1 hca).2] at gc2
  refine ⟨⟨gc 0 (by decide), gc 1 (by decide), gc 2 (by decide), gc 3 (by decide), gc 4 (by decide), gz, hglt⟩, ⟨gc2 5 (by decide), gc2 7 (by decide), gc2 8 (by decide), gz2, hglt2⟩, ⟨c10, c3, c4, z, lt⟩, hgx, hgx2, ?_⟩
  intro e
  have h1 := H.ce _ hg
  have h2 := H.cc _ hg2
  rw [e, h2] at h1
  cases h1
/-- the machine behind a step -/
def MachS.stepped (st : MachS) (ci si : Nat) (now : Int) (over : Bool) : MachS :=
  if over then ((((st.withCall ci fun c => { c with en := now }).withCall ci fun c => { c with ak := st.d.ak }).withCall ci fun c => { c with av := st.d.av }).withSeat si fun c => { c with task := .nilIface }).rest else st.rest
end Go
namespace Go
open Go.RowKit

/-- a call of a method of an interface value -/
def Runs (P : Program) (v : Value) (name : String) (args : Array Value) (w : World) (R : Ending → World → Prop) : Prop :=
  ∃ f rv, (∀ xs w0, (callMethod v name xs).run P w0 = .ok (.enter f (#[rv] ++ xs)) w0) ∧ Calls P f (#[rv] ++ args) w R
/-- a call of a function value -/
def RunsV (P : Program) (fv : Value) (args : Array Value) (w : World) (R : Ending → World → Prop) : Prop :=
  ∃ f as', (∀ w0, (do let d ← Deferred.ofValue fv args; invoke d.target d.args : Sem Next).run P w0 = .ok (.enter f as') w0) ∧ Calls P f as' w R

theorem Runs.mono {P : Program} {v : Value} {name : String} {args : Array Value} {w : World} {R R' : Ending → World → Prop} (h : Runs P v name args w R) (k : ∀ e w', R e w' → R' e w') : Runs P v name args w R' := by
  obtain ⟨f, rv, h1, h2⟩ := h
  exact ⟨f, rv, h1, h2.mono k⟩
theorem RunsV.mono {P : Program} {v : Value} {args : Array Value} {w : World} {R R' : Ending → World → Prop} (h : RunsV P v args w R) (k : ∀ e w', R e w' → R' e w') : RunsV P v args w R' := by
  obtain ⟨f, rv, h1, h2⟩ := h
  exact ⟨f, rv, h1, h2.mono k⟩

section
variable {P : Program} {ops : Array Oper} {rest : List Oper} {o : Oper} {a : Act} {Q : Exit → Act → World → Prop} {w : World}
theorem wpList_invoke (hgd : o.guard = none) (recv x : Operand) (name : String) (ty : Array TypeId) (ho : o.op = .call { callee := .invoke recv name, args := #[x], argTypes := ty })
    (v u : Value) (hv : a.eval recv = v) (hu : a.eval x = u) (R : Ending → World → Prop) (h : Runs P v name #[u] w R) (hk : ∀ e w', R e w' → ∃ y, e = .returned y ∧ wpList P ops Q rest (a.put o.dst y) w') : wpList P ops Q (o :: rest) a w := by
  refine wpList_plain hgd fun K hK => ?_
  obtain ⟨f, rv, h1, h2⟩ := h
  unfold Oper.wp execOp
  simp only [ho, resolve, Sem.run_bind, Sem.run_pure, Result.andThen_ok, hv, List.map_toArray, List.map_cons, List.map_nil, hu, invoke]
  have e1 : (#[v] ++ #[u] : Array Value)[0]? = some v := rfl
  have e2 : (#[v] ++ #[u] : Array Value).extract 1 (#[v] ++ #[u] : Array Value).size = #[u] := rfl
  simp only [e1, e2, h1]
  refine h2.mono fun e w' hr => ?_
  obtain ⟨y, rfl, hy⟩ := hk e w' hr
  exact hK _ _ hy
theorem wpList_value (hgd : o.guard = none) (fo x y : Operand) (ty : Array TypeId) (ho : o.op = .call { callee := .value fo, args := #[x, y], argTypes := ty })
    (fv u1 u2 : Value) (hf : a.eval fo = fv) (hu1 : a.eval x = u1) (hu2 : a.eval y = u2) (R : Ending → World → Prop) (h : RunsV P fv #[u1, u2] w R) (hk : ∀ e w', R e w' → ∃ z, e = .returned z ∧ wpList P ops Q rest (a.put o.dst z) w') : wpList P ops Q (o :: rest) a w := by
  refine wpList_plain hgd fun K hK => ?_
  obtain ⟨f, as', h1, h2⟩ := h
  unfold Oper.wp execOp
  have h3 := h1 w
  simp only [ho, resolve, hf, List.map_toArray, List.map_cons, List.map_nil, hu1, hu2]
  rw [h3]
  refine h2.mono fun e w' hr => ?_
  obtain ⟨z, rfl, hy⟩ := hk e w' hr
  exact hK _ _ hy
end

structure Mv where
  th : Int
  op : Int
  arg : Int
  data : Int
deriving DecidableEq, Inhabited
def Mv.v (m : Mv) : Value := .agg #[.int .i64 m.th, .int .i64 m.op, .int .i64 m.arg, .int .i64 m.data]
def Mv.cells (m : Mv) : List Value := [.int .i64 m.th, .int .i64 m.op, .int .i64 m.arg, .int .i64 m.data]

/-- a kit: its tasks, and what they share -/
structure Kits where
  T : Type
  S : Type
  At : World → Nat → Value → List Value → S → List (Option T) → (Nat → Prop) → Prop
  make : S → Mv → Option T
  ready : S → T → DeskS → S × T × DeskS × Bool
  step : S → T → DeskS → S × T × DeskS × Bool
/-- the desk before a task's first method in a step -/
def DeskS.first (d : DeskS) (th now : Int) (c : Cal) (s : Seat) : DeskS := { (d.fresh th now c s) with mem := { d.mem with move := now } }
/-- Ready, if it is the first step -/
def Kits.r1 (K : Kits) (rdy : Bool) (s : K.S) (t : K.T) (d : DeskS) : K.S × K.T × DeskS × Bool := if rdy then (s, t, d, false) else K.ready s t d
/-- and Step, if it is not over -/
def Kits.r2 (K : Kits) (r : K.S × K.T × DeskS × Bool) : K.S × K.T × DeskS × Bool := if r.2.2.2 then r else K.step r.1 r.2.1 r.2.2.1
theorem r1_true (K : Kits) (s : K.S) (t : K.T) (d : DeskS) : K.r1 true s t d = (s, t, d, false) := rfl
theorem r1_false (K : Kits) (s : K.S) (t : K.T) (d : DeskS) : K.r1 false s t d = K.ready s t d := rfl
end Go
namespace Go.Proofs.Ytjcggokhminmoaa
open Go.ChangeShapes Go.WideShapes Go.ChangeAt Go.RowKit

/-- the machine at xb and what its kit holds -/
structure MK (K : Kits) (w : World) (base xb : Nat) (st : MachS) (v : MachV) (vs : List Value) (s : K.S) (ts : List (Option K.T)) (F : Nat → Prop) : Prop where
  m : MachAt w base xb st v
  k : K.At w base v.kit vs s ts F
  sep : ∀ k, F k → ¬ v.own xb k
  tasks : st.seats.map Seat.task = vs
  len : ts.length = vs.length

/-- what a task's method leaves -/
def TaskOut (K : Kits) (w : World) (base xb : Nat) (st : MachS) (v : MachV) (vs : List Value) (ts : List (Option K.T)) (F : Nat → Prop) (i : Nat) (r : K.S × K.T × DeskS × Bool) (e : Ending) (w' : World) : Prop :=
  e = .returned (.bool r.2.2.2) ∧ ∃ v' F', MK K w' base xb { st with d := r.2.2.1 } v' vs r.1 (ts.set i (some r.2.1)) F' ∧ Only (fun k => v.own xb k ∨ F k) w w' ∧
    (∀ k, v'.own xb k → v.own xb k ∨ w.heap.size ≤ k) ∧ (∀ k, F' k → F k ∨ w.heap.size ≤ k) ∧ v'.vse = v.vse ∧ v'.vca = v.vca ∧ v'.mb = v.mb ∧ v'.kit = v.kit

structure KitsOk (K : Kits) : Prop where
  loc : ∀ {w w' b kit vs s ts F}, K.At w b kit vs s ts F → (∀ k, F k → w'.heap[k]? = w.heap[k]?) → K.At w' b kit vs s ts F
  lt : ∀ {w b kit vs s ts F}, K.At w b kit vs s ts F → ∀ k, F k → b ≤ k ∧ k < w.heap.size
  idle : ∀ {w b kit vs s ts F}, K.At w b kit vs s ts F → ∀ i : Nat, ts[i]? = some none → vs[i]? = some Value.nilIface
  busy : ∀ {w b kit vs s ts F}, K.At w b kit vs s ts F → ∀ (i : Nat) t, ts[i]? = some (some t) → ∃ ty x, vs[i]? = some (Value.iface ty x)
  drop : ∀ {w b kit vs s ts F}, K.At w b kit vs s ts F → ∀ i : Nat, K.At w b kit (vs.set i .nilIface) s (ts.set i none) F
  few : ∀ s t d, (K.ready s t d).2.2.1.mem.log.length ≤ d.mem.log.length + 2 ∧ (K.ready s t d).2.2.1.mem.ahead.length ≤ d.mem.ahead.length + 2 ∧ (K.ready s t d).2.2.1.shifts.length ≤ d.shifts.length + 4 ∧
    (K.step s t d).2.2.1.mem.log.length ≤ d.mem.log.length + 2 ∧ (K.step s t d).2.2.1.mem.ahead.length ≤ d.mem.ahead.length + 2 ∧ (K.step s t d).2.2.1.shifts.length ≤ d.shifts.length + 4
  keep : ∀ s t d, (K.ready s t d).2.2.1.th = d.th ∧ (K.ready s t d).2.2.1.now = d.now ∧ (K.step s t d).2.2.1.th = d.th ∧ (K.step s t d).2.2.1.now = d.now
  look : ∀ {w b kit vs s ts F}, K.At w b kit vs s ts F → ∀ op : Int, ∃ fv, (Instr.lookup 109 kit (.int .i64 op) false).run Try.prog w = .ok fv w ∧
    ((fv = .nilFunc ∧ ∀ mv : Mv, mv.op = op → K.make s mv = none) ∨
     ((∃ f x y, fv = .func f x y) ∧ ∀ (mv : Mv) (th : Nat), mv.op = op → mv.th = th → ts[th]? = some none → RunsV Try.prog fv #[.int .i64 mv.th, mv.v] w fun e w' =>
       (K.make s mv = none ∧ e = .returned .nilIface ∧ Only (fun _ => False) w w') ∨ ∃ t v F', K.make s mv = some t ∧ e = .returned v ∧ K.At w' b kit (vs.set th v) s (ts.set th (some t)) F' ∧ Only (fun _ => False) w w' ∧ ∀ k, F' k → F k ∨ w.heap.size ≤ k))
  ready_run : ∀ {w : World} {base xb db : Nat} {st : MachS} {v : MachV} {vs : List Value} {s : K.S} {ts : List (Option K.T)} {F : Nat → Prop} {ci i : Nat} {t : K.T} {y : Value}, MK K w base xb st v vs s ts F → ts[i]? = some (some t) → vs[i]? = some y → st.On ci i → st.d.Fits → DeskBox w xb db → ¬ v.own xb db → ¬ F db →
    Runs Try.prog y "Ready" #[.pointer (some ⟨db, 0, none⟩)] w (TaskOut K w base xb st v vs ts F i (K.ready s t st.d))
  step_run : ∀ {w : World} {base xb db : Nat} {st : MachS} {v : MachV} {vs : List Value} {s : K.S} {ts : List (Option K.T)} {F : Nat → Prop} {ci i : Nat} {t : K.T} {y : Value}, MK K w base xb st v vs s ts F → ts[i]? = some (some t) → vs[i]? = some y → st.On ci i → st.d.Fits → DeskBox w xb db → ¬ v.own xb db → ¬ F db →
    Runs Try.prog y "Step" #[.pointer (some ⟨db, 0, none⟩)] w (TaskOut K w base xb st v vs ts F i (K.step s t st.d))
end Go.Proofs.Ytjcggokhminmoaa
namespace Go
open Go.RowKit Go.ChangeMaps

/-- every key is a whole number -/
def IntKeys (es : List MapEntry) : Prop := ∀ e ∈ es, ∃ k, e.key = .int .i64 k
def isKey : Value → Int → Bool
  | .int .i64 k, op => k == op
  | _, _ => false
theorem isKey_int (k op : Int) : isKey (.int .i64 k) op = (k == op) := rfl
theorem isKey_eq {v : Value} {op : Int} (h : isKey v op = true) : v = .int .i64 op := by
  unfold isKey at h
  split at h
  · rw [eq_of_beq h]
  · cases h
def intAt : List MapEntry → Int → Nat → Option (Nat × Value)
  | [], _, _ => none
  | e :: es, op, i => if isKey e.key op = true then some (i, e.val) else intAt es op (i + 1)
theorem IntKeys.tail {e : MapEntry} {es : List MapEntry} (h : IntKeys (e :: es)) : IntKeys es := fun x hx => h x (List.mem_cons_of_mem _ hx)
theorem findNow_int {es : List MapEntry} (h : IntKeys es) (op : Int) (i : Nat) : Instr.findNow (.int .i64) (.int .i64 op) es i = some (intAt es op i) := by
  induction es generalizing i with
  | nil => rfl
  | cons e es ih =>
    obtain ⟨k, hk⟩ := h e (List.mem_cons_self ..)
    simp only [Instr.findNow, Instr.sameNow, hk, intAt, if_true, isKey_int]
    by_cases e1 : op = k
    · subst e1; simp
    · have e2 : ¬ k = op := fun x => e1 x.symm
      simp only [beq_eq_false_iff_ne.2 e1, beq_eq_false_iff_ne.2 e2, Bool.false_eq_true, if_false]
      exact ih h.tail _
theorem intAt_some {es : List MapEntry} {op : Int} {j i : Nat} {y : Value} (h : intAt es op j = some (i, y)) : j ≤ i ∧ i < j + es.length ∧ ∃ e, es[i - j]? = some e ∧ e.key = .int .i64 op := by
  induction es generalizing j with
  | nil => cases h
  | cons e es ih =>
    unfold intAt at h
    split at h
    · rename_i hk
      cases h
      exact ⟨Nat.le_refl _, by simp, e, by simp, isKey_eq hk⟩
    · obtain ⟨h1, h2, e', h3, h4⟩ := ih h
      refine ⟨by omega, by simp only [List.length_cons]; omega, e', ?_, h4⟩
      rw [show i - j = (i - (j + 1)) + 1 by omega, List.getElem?_cons_succ]
      exact h3
/-- where it stands does not matter -/
theorem intAt_val (es : List MapEntry) (op : Int) (i j : Nat) : (intAt es op i).map (·.2) = (intAt es op j).map (·.2) := by
  induction es generalizing i j with
  | nil => rfl
  | cons e es ih =>
    unfold intAt
    split
    · rfl
    · exact ih _ _
theorem intAt_modify {es : List MapEntry} {op : Int} {j i : Nat} {y : Value} (v : Value) (h : intAt es op j = some (i, y)) (op' : Int) (m : Nat) :
    (intAt (es.modify (i - j) fun e => { e with key := .int .i64 op, val := v }) op' m).map (·.2) = if op' = op then some v else (intAt es op' m).map (·.2) := by
  induction es generalizing j m with
  | nil => cases h
  | cons e es ih =>
    unfold intAt at h
    split at h
    · rename_i hk
      cases h
      rw [Nat.sub_self, List.modify_zero_cons]
      simp only [intAt, isKey_int, isKey_eq hk]
      by_cases e1 : op' = op
      · subst e1; simp
      · have e2 : ¬ op = op' := fun x => e1 x.symm
        simp [e1, e2]
    · rename_i hk
      have hlt := (intAt_some h).1
      rw [show i - j = (i - (j + 1)) + 1 by omega, List.modify_succ_cons]
      unfold intAt
      split
      · rename_i hk2
        have e1 : ¬ op' = op := fun x => hk (by rw [← x]; exact hk2)
        rw [if_neg e1]
      · exact ih h _
theorem intAt_push {es : List MapEntry} {op : Int} {j : Nat} (v : Value) (c : Nat) (h : intAt es op j = none) (op' : Int) (m : Nat) :
    (intAt (es ++ [⟨.int .i64 op, v, c⟩]) op' m).map (·.2) = if op' = op then some v else (intAt es op' m).map (·.2) := by
  induction es generalizing j m with
  | nil =>
    simp only [List.nil_append, intAt, isKey_int]
    by_cases e1 : op' = op
    · subst e1; simp
    · have e2 : ¬ op = op' := fun x => e1 x.symm
      simp [e1, e2]
  | cons e es ih =>
    unfold intAt at h
    split at h
    · cases h
    · rename_i hk
      rw [List.cons_append]
      unfold intAt
      split
      · rename_i hk2
        have e1 : ¬ op' = op := fun x => hk (by rw [← x]; exact hk2)
        rw [if_neg e1]
      · exact ih h _

/-- what a map with such keys reads as -/
def Reads (es : Array MapEntry) (g : Int → Option Value) : Prop := IntKeys es.toList ∧ ∀ op, (intAt es.toList op 0).map (·.2) = g op
def upd (g : Int → Option Value) (op : Int) (v : Value) : Int → Option Value := fun k => if k = op then some v else g k
theorem Reads.empty : Reads #[] (fun _ => none) := ⟨(fun _ h => nomatch h), fun _ => rfl⟩
theorem Reads.now {es : Array MapEntry} {g : Int → Option Value} (h : Reads es g) (op : Int) : ∃ r, Instr.findNow (.int .i64) (.int .i64 op) es.toList 0 = some r ∧ r.map (·.2) = g op := ⟨_, findNow_int h.1 op 0, h.2 op⟩
theorem Reads.push {es : Array MapEntry} {g : Int → Option Value} (h : Reads es g) {op : Int} (v : Value) (c : Nat) (hn : Instr.findNow (.int .i64) (.int .i64 op) es.toList 0 = some none) : Reads (es.push ⟨.int .i64 op, v, c⟩) (upd g op v) := by
  rw [findNow_int h.1] at hn
  refine ⟨fun e he => ?_, fun k => ?_⟩
  · rw [Array.toList_push, List.mem_append] at he
    rcases he with he | he
    · exact h.1 e he
    · simp only [List.mem_singleton] at he
      subst he
      exact ⟨op, rfl⟩
  · rw [Array.toList_push, intAt_push v c (Option.some.inj hn) k 0, h.2 k]
    rfl
theorem Reads.set {es : Array MapEntry} {g : Int → Option Value} (h : Reads es g) {op : Int} (v : Value) {i : Nat} {y : Value} (hn : Instr.findNow (.int .i64) (.int .i64 op) es.toList 0 = some (some (i, y))) :
    Reads (es.modify i fun e => { e with key := .int .i64 op, val := v }) (upd g op v) := by
  rw [findNow_int h.1] at hn
  refine ⟨fun e he => ?_, fun k => ?_⟩
  · rw [Array.toList_modify] at he
    obtain ⟨n, hn2⟩ := List.getElem?_of_mem he
    rw [List.getElem?_modify] at hn2
    cases h0 : es.toList[n]? with
    | none => rw [h0] at hn2; cases hn2
    | some e0 =>
      rw [h0] at hn2
      simp only [Option.map_eq_map, Option.map_some, Option.some.injEq] at hn2
      subst hn2
      split
      · exact ⟨op, rfl⟩
      · exact h.1 e0 (List.mem_of_getElem? h0)
  · have := intAt_modify v (Option.some.inj hn) k 0
    rw [Nat.sub_zero] at this
    rw [Array.toList_modify, this, h.2 k]
    rfl

theorem run_setObj_any {P : Program} {w : World} {kb : Nat} {es : Array MapEntry} {clk : Nat} (hb : w.heap[kb]? = some (.map es clk)) (o : Obj) : (setObj kb o).run P w = .ok () (setBlock w kb o) := by
  simp [setObj, Sem.run, hb, setBlock]
theorem setBlock_at {w : World} {r : Nat} {o o' : Obj} (h : w.heap[r]? = some o) : (setBlock w r o').heap[r]? = some o' := by
  have := (Array.getElem?_eq_some_iff.1 h).1
  simp [setBlock, this]
theorem setBlock_ne {w : World} {r i : Nat} {o' : Obj} (h : i ≠ r) : (setBlock w r o').heap[i]? = w.heap[i]? := by
  simp [setBlock, Ne.symm h]
theorem setBlock_size {w : World} {r : Nat} {o' : Obj} : (setBlock w r o').heap.size = w.heap.size := by simp [setBlock]
theorem Only.setBlock {F : Nat → Prop} {a w : World} (h : Only F a w) {r : Nat} (hr : F r ∨ a.heap.size ≤ r) (o : Obj) : Only F a (ChangeMaps.setBlock w r o) :=
  ⟨h.os, h.tape, h.output, by rw [setBlock_size]; exact h.size, fun k hk hn => by
    rw [setBlock_ne (fun e => by subst e; exact hr.elim hn (fun x => by omega))]
    exact h.block k hk hn⟩
end Go
namespace Go
open Go.RowKit
theorem heap_alloc_at {W : World} {o : Obj} {k : Nat} (h : W.heap.size = k) : (W.alloc o).heap[k]? = some o := by subst h; exact heap_alloc_new W o
theorem load_len (m : MemS) (th : Int) (a : Nat) : (m.load th a).log.length = m.log.length + 1 ∧ (m.load th a).ahead.length = m.ahead.length + 1 := by simp [MemS.load, MemS.note]
theorem swap_len (m : MemS) (th : Int) (a : Nat) (o x : Int) : (m.swap th a o x).log.length = m.log.length + 1 ∧ (m.swap th a o x).ahead.length = m.ahead.length + 1 := by
  unfold MemS.swap
  split <;> simp [MemS.note]
theorem dload_len (d : DeskS) (a : Int) : (d.load a).mem.log.length ≤ d.mem.log.length + 1 ∧ (d.load a).mem.ahead.length ≤ d.mem.ahead.length + 1 ∧ (d.load a).shifts = d.shifts ∧ (d.load a).th = d.th ∧ (d.load a).now = d.now := by
  unfold DeskS.load
  split
  · have := load_len d.mem d.th a.toNat
    exact ⟨by simp [this.1], by simp [this.2], rfl, rfl, rfl⟩
  · exact ⟨by omega, by omega, rfl, rfl, rfl⟩
theorem dswap_len (d : DeskS) (a o x : Int) : (d.swap a o x).mem.log.length ≤ d.mem.log.length + 1 ∧ (d.swap a o x).mem.ahead.length ≤ d.mem.ahead.length + 1 ∧ (d.swap a o x).shifts = d.shifts ∧ (d.swap a o x).th = d.th ∧ (d.swap a o x).now = d.now := by
  unfold DeskS.swap
  split
  · have := swap_len d.mem d.th a.toNat o x
    exact ⟨by simp [this.1], by simp [this.2], rfl, rfl, rfl⟩
  · exact ⟨by omega, by omega, rfl, rfl, rfl⟩
end Go
namespace Go.Proofs.Ytjcggokhminmoaa
open Go.ChangeShapes Go.WideShapes Go.ChangeAt Go.RowKit
theorem zeroMaker (w : World) : (zeroValue 128).run Try.prog w = .ok .nilFunc w := by kernel_rfl
theorem checkOp (e : Bool) (op : Int) (w : World) : (Instr.checkKey e 10000 45 (.int .i64 op)).run Try.prog w = .ok () w := by kernel_rfl
theorem findOp {es : List MapEntry} {op : Int} {r : Option (Nat × Value)} (hf : Instr.findNow (.int .i64) (.int .i64 op) es 0 = some r) (w : World) : (Instr.findKey 45 (.int .i64 op) es).run Try.prog w = .ok r w := by
  simp only [Instr.findKey, Sem.run_bind, run_underlying Try.underlying45, Result.andThen_ok, hf, Sem.run_pure]
theorem getMap {w : World} {kb : Nat} {es : Array MapEntry} {clk : Nat} (hb : w.heap[kb]? = some (.map es clk)) : (getObj kb).run Try.prog w = .ok (.map es clk) w := by
  simp [getObj, Sem.run, hb]
theorem setMap {W : World} {es : Array MapEntry} {clk : Nat} (o : Obj) : (setObj W.heap.size o).run Try.prog (W.alloc (.map es clk)) = .ok () (W.alloc o) := by
  have hb : (W.alloc (.map es clk)).heap[W.heap.size]? = some (.map es clk) := heap_alloc_new W _
  have e : (W.heap.push (.map es clk)).setIfInBounds W.heap.size o = W.heap.push o := by
    apply Array.ext_getElem?
    intro i
    simp only [Array.getElem?_setIfInBounds, Array.getElem?_push, Array.size_push]
    by_cases hi : i = W.heap.size
    · subst hi; simp
    · rw [if_neg (Ne.symm hi), if_neg hi, if_neg hi]
  simp only [setObj, Sem.run, hb]
  show Result.ok () { W with heap := (W.heap.push (.map es clk)).setIfInBounds W.heap.size o } = Result.ok () { W with heap := W.heap.push o }
  rw [e]
theorem own_lookup {w : World} {kb : Nat} {es : Array MapEntry} {clk : Nat} (hb : w.heap[kb]? = some (.map es clk)) (op : Int) {r : Option (Nat × Value)} (hf : Instr.findNow (.int .i64) (.int .i64 op) es.toList 0 = some r) :
    (Instr.lookup 109 (.map (some kb)) (.int .i64 op) false).run Try.prog w = .ok ((r.map (·.2)).getD .nilFunc) w := by
  simp only [Instr.lookup, Sem.run_bind, run_underlying Try.underlying109, Result.andThen_ok, getMap hb, Sem.run_pure, checkOp, findOp hf]
  cases r with
  | none => simp only [Sem.run_bind, zeroMaker, Result.andThen_ok, Sem.run_pure]; rfl
  | some x => obtain ⟨i, y⟩ := x; rfl
theorem own_insert {W : World} {es : Array MapEntry} {clk : Nat} (op : Int) (v : Value) (hf : Instr.findNow (.int .i64) (.int .i64 op) es.toList 0 = some none) :
    (Instr.mapUpdate 109 (.map (some W.heap.size)) (.int .i64 op) v).run Try.prog (W.alloc (.map es clk)) = .ok () (W.alloc (.map (es.push ⟨.int .i64 op, v, clk⟩) (clk + 1))) := by
  simp only [Instr.mapUpdate, Sem.run_bind, run_underlying Try.underlying109, Result.andThen_ok, getMap (heap_alloc_new W (.map es clk)), checkOp, findOp hf, setMap]
theorem wpList_insert {ops : Array Oper} {rest : List Oper} {o : Oper} {a : Act} {Q : Exit → Act → World → Prop} (hgd : o.guard = none) (m k x : Operand) (ho : o.op = .insert 109 m k x)
    (W w : World) (es : Array MapEntry) (clk : Nat) (hw : w = W.alloc (.map es clk)) (op : Int) (v : Value) (hm : a.eval m = .map (some W.heap.size)) (hk : a.eval k = .int .i64 op) (hx : a.eval x = v)
    (hf : Instr.findNow (.int .i64) (.int .i64 op) es.toList 0 = some none) (h : wpList Try.prog ops Q rest (a.put o.dst undef) (W.alloc (.map (es.push ⟨.int .i64 op, v, clk⟩) (clk + 1)))) : wpList Try.prog ops Q (o :: rest) a w := by
  subst hw
  refine wpList_plain hgd fun K hK => ?_
  unfold Oper.wp execOp
  simp only [ho, hm, hk, hx, Sem.run_bind, own_insert op v hf, Result.andThen_ok, Sem.run_pure]
  exact hK _ _ h

end Go.Proofs.Ytjcggokhminmoaa
namespace Go.Proofs.Ytjcggokhminmoaa
open Go.ChangeShapes Go.WideShapes Go.ChangeAt Go.RowKit

theorem wpList_store_new {P : Program} {ops : Array Oper} {rest : List Oper} {o : Oper} {a : Act} {w : World} {Q : Exit → Act → World → Prop} (hgd : o.guard = none) (ty : TypeId) (x y : Operand) (ho : o.op = .store ty x y)
    (cells old : Array Value) (hx : a.eval x = .pointer (some ⟨w.heap.size, 0, none⟩)) (hy : a.eval y = .agg cells)
    (t : TypeId) (hi : (P.info? ty).map (·.size) = some cells.size)
    (hold : old.size = cells.size) (h1 : cells.all (·.oneCell') = true)
    (h : wpList P ops Q rest (a.put o.dst undef) (w.alloc (.cells cells t))) : wpList P ops Q (o :: rest) a (w.alloc (.cells old t)) :=
  wpList_store_row hgd ty x y ho w.heap.size cells hx hy t old (heap_alloc_last w _) hi hold h1 (by rw [World.setRow_alloc_new]; exact h)

theorem wpList_load_new {P : Program} {ops : Array Oper} {rest : List Oper} {o : Oper} {a : Act} {w : World} {Q : Exit → Act → World → Prop} (hgd : o.guard = none) (ty : TypeId) (x : Operand) (ho : o.op = .load ty x)
    (cells : Array Value) (hx : a.eval x = .pointer (some ⟨w.heap.size, 0, none⟩))
    (t : TypeId) (d : TypeDesc) (hu : P.underlying ty = some d) (hd : (match d with | .struct _ | .array _ _ => true | _ => false) = true) (hi : (P.info? ty).map (·.size) = some cells.size)
    (h : wpList P ops Q rest (a.put o.dst (.agg cells)) (w.alloc (.cells cells t))) : wpList P ops Q (o :: rest) a (w.alloc (.cells cells t)) :=
  wpList_load_row hgd ty x ho w.heap.size hx t cells (0, 0) d (heap_alloc_last w _) hu hd hi h

/-- guards: the next operation is a store (a load) of that type -/
theorem at_store (ty : TypeId) {P : Program} {ops : Array Oper} {rest : List Oper} {a : Act} {w : World} {Q : Exit → Act → World → Prop} {d : Option Tmp} {x y : Operand} {t : TypeId} {p : String} {af : Array Edge}
    (h : wpList P ops Q ({ dst := d, op := .store ty x y, type := t, pos := p, after := af, guard := none } :: rest) a w) : wpList P ops Q ({ dst := d, op := .store ty x y, type := t, pos := p, after := af, guard := none } :: rest) a w := h
theorem at_load (ty : TypeId) {P : Program} {ops : Array Oper} {rest : List Oper} {a : Act} {w : World} {Q : Exit → Act → World → Prop} {d : Option Tmp} {x : Operand} {t : TypeId} {p : String} {af : Array Edge}
    (h : wpList P ops Q ({ dst := d, op := .load ty x, type := t, pos := p, after := af, guard := none } :: rest) a w) : wpList P ops Q ({ dst := d, op := .load ty x, type := t, pos := p, after := af, guard := none } :: rest) a w := h

def nth7 (a0 a1 a2 a3 a4 a5 a6 : Int) (k : Nat) : Int := ([a0, a1, a2, a3, a4, a5, a6] : List Int).getD k 0
def limLo (k : Nat) : Int := ([1, 1, 3, 1, 0, 1, 1] : List Int).getD k 0
def limHi (k : Nat) : Int := ([16, 16, 8, 1024, 64, 1024, 64] : List Int).getD k 0
def okUpto (v : Nat → Int) (k : Nat) : Prop := ∀ j, j < k → limLo j ≤ v j ∧ v j ≤ limHi j
/-- a configuration that may be -/
def okCfg (a0 a1 a2 a3 a4 a5 a6 : Int) : Bool :=
  decide (1 ≤ a0) && decide (a0 ≤ 16) && decide (1 ≤ a1) && decide (a1 ≤ 16) && decide (3 ≤ a2) && decide (a2 ≤ 8) && decide (1 ≤ a3) && decide (a3 ≤ 1024) &&
    decide (0 ≤ a4) && decide (a4 ≤ 64) && decide (1 ≤ a5) && decide (a5 ≤ 1024) && decide (1 ≤ a6) && decide (a6 ≤ 64)

/-- the error of a configuration -/
def cfgErr (a0 a1 a2 a3 a4 a5 a6 : Int) : Int := if okCfg a0 a1 a2 a3 a4 a5 a6 then 0 else 1

theorem okUpto_succ {v : Nat → Int} {k : Nat} (h : okUpto v k) (h1 : limLo k ≤ v k) (h2 : v k ≤ limHi k) : okUpto v (k + 1) := by
  intro j hj
  by_cases e : j = k
  · subst e; exact ⟨h1, h2⟩
  · exact h j (by omega)

theorem okUpto_seven {a0 a1 a2 a3 a4 a5 a6 : Int} (h : okUpto (nth7 a0 a1 a2 a3 a4 a5 a6) 7) : okCfg a0 a1 a2 a3 a4 a5 a6 = true := by
  have h0 := h 0 (by omega); have h1 := h 1 (by omega); have h2 := h 2 (by omega); have h3 := h 3 (by omega)
  have h4 := h 4 (by omega); have h5 := h 5 (by omega); have h6 := h 6 (by omega)
  simp [nth7, limLo, limHi] at h0 h1 h2 h3 h4 h5 h6
  simp [okCfg]; omega

theorem okUpto_bad {a0 a1 a2 a3 a4 a5 a6 : Int} {k : Nat} (hk : k < 7) (h : nth7 a0 a1 a2 a3 a4 a5 a6 k < limLo k ∨ limHi k < nth7 a0 a1 a2 a3 a4 a5 a6 k) : okCfg a0 a1 a2 a3 a4 a5 a6 = false := by
  rw [← Bool.not_eq_true]
  intro hok
  simp [okCfg] at hok
  rcases (by omega : k = 0 ∨ k = 1 ∨ k = 2 ∨ k = 3 ∨ k = 4 ∨ k = 5 ∨ k = 6) with rfl | rfl | rfl | rfl | rfl | rfl | rfl <;> simp [nth7, limLo, limHi] at h <;> omega

theorem row0 (a0 a1 a2 a3 a4 a5 a6 : Int) (w : World) : (Instr.index 137 (.agg #[.int .i64 a0, .int .i64 1, .int .i64 16, .int .i64 a1, .int .i64 1, .int .i64 16, .int .i64 a2, .int .i64 3, .int .i64 8, .int .i64 a3, .int .i64 1, .int .i64 1024, .int .i64 a4, .int .i64 0, .int .i64 64, .int .i64 a5, .int .i64 1, .int .i64 1024, .int .i64 a6, .int .i64 1, .int .i64 64]) (.int .i64 0)).run Try.prog w = .ok (.agg #[.int .i64 a0, .int .i64 1, .int .i64 16]) w := by kernel_rfl
theorem row1 (a0 a1 a2 a3 a4 a5 a6 : Int) (w : World) : (Instr.index 137 (.agg #[.int .i64 a0, .int .i64 1, .int .i64 16, .int .i64 a1, .int .i64 1, .int .i64 16, .int .i64 a2, .int .i64 3, .int .i64 8, .int .i64 a3, .int .i64 1, .int .i64 1024, .int .i64 a4, .int .i64 0, .int .i64 64, .int .i64 a5, .int .i64 1, .int .i64 1024, .int .i64 a6, .int .i64 1, .int .i64 64]) (.int .i64 1)).run Try.prog w = .ok (.agg #[.int .i64 a1, .int .i64 1, .int .i64 16]) w := by kernel_rfl
theorem row2 (a0 a1 a2 a3 a4 a5 a6 : Int) (w : World) : (Instr.index 137 (.agg #[.int .i64 a0, .int .i64 1, .int .i64 16, .int .i64 a1, .int .i64 1, .int .i64 16, .int .i64 a2, .int .i64 3, .int .i64 8, .int .i64 a3, .int .i64 1, .int .i64 1024, .int .i64 a4, .int .i64 0, .int .i64 64, .int .i64 a5, .int .i64 1, .int .i64 1024, .int .i64 a6, .int .i64 1, .int .i64 64]) (.int .i64 2)).run Try.prog w = .ok (.agg #[.int .i64 a2, .int .i64 3, .int .i64 8]) w := by kernel_rfl
theorem row3 (a0 a1 a2 a3 a4 a5 a6 : Int) (w : World) : (Instr.index 137 (.agg #[.int .i64 a0, .int .i64 1, .int .i64 16, .int .i64 a1, .int .i64 1, .int .i64 16, .int .i64 a2, .int .i64 3, .int .i64 8, .int .i64 a3, .int .i64 1, .int .i64 1024, .int .i64 a4, .int .i64 0, .int .i64 64, .int .i64 a5, .int .i64 1, .int .i64 1024, .int .i64 a6, .int .i64 1, .int .i64 64]) (.int .i64 3)).run Try.prog w = .ok (.agg #[.int .i64 a3, .int .i64 1, .int .i64 1024]) w := by kernel_rfl
theorem row4 (a0 a1 a2 a3 a4 a5 a6 : Int) (w : World) : (Instr.index 137 (.agg #[.int .i64 a0, .int .i64 1, .int .i64 16, .int .i64 a1, .int .i64 1, .int .i64 16, .int .i64 a2, .int .i64 3, .int .i64 8, .int .i64 a3, .int .i64 1, .int .i64 1024, .int .i64 a4, .int .i64 0, .int .i64 64, .int .i64 a5, .int .i64 1, .int .i64 1024, .int .i64 a6, .int .i64 1, .int .i64 64]) (.int .i64 4)).run Try.prog w = .ok (.agg #[.int .i64 a4, .int .i64 0, .int .i64 64]) w := by kernel_rfl
theorem row5 (a0 a1 a2 a3 a4 a5 a6 : Int) (w : World) : (Instr.index 137 (.agg #[.int .i64 a0, .int .i64 1, .int .i64 16, .int .i64 a1, .int .i64 1, .int .i64 16, .int .i64 a2, .int .i64 3, .int .i64 8, .int .i64 a3, .int .i64 1, .int .i64 1024, .int .i64 a4, .int .i64 0, .int .i64 64, .int .i64 a5, .int .i64 1, .int .i64 1024, .int .i64 a6, .int .i64 1, .int .i64 64]) (.int .i64 5)).run Try.prog w = .ok (.agg #[.int .i64 a5, .int .i64 1, .int .i64 1024]) w := by kernel_rfl
theorem row6 (a0 a1 a2 a3 a4 a5 a6 : Int) (w : World) : (Instr.index 137 (.agg #[.int .i64 a0, .int .i64 1, .int .i64 16, .int .i64 a1, .int .i64 1, .int .i64 16, .int .i64 a2, .int .i64 3, .int .i64 8, .int .i64 a3, .int .i64 1, .int .i64 1024, .int .i64 a4, .int .i64 0, .int .i64 64, .int .i64 a5, .int .i64 1, .int .i64 1024, .int .i64 a6, .int .i64 1, .int .i64 64]) (.int .i64 6)).run Try.prog w = .ok (.agg #[.int .i64 a6, .int .i64 1, .int .i64 64]) w := by kernel_rfl

theorem rowAt (a0 a1 a2 a3 a4 a5 a6 : Int) (k : Nat) (hk : k < 7) (w : World) : (Instr.index 137 (.agg #[.int .i64 a0, .int .i64 1, .int .i64 16, .int .i64 a1, .int .i64 1, .int .i64 16, .int .i64 a2, .int .i64 3, .int .i64 8, .int .i64 a3, .int .i64 1, .int .i64 1024, .int .i64 a4, .int .i64 0, .int .i64 64, .int .i64 a5, .int .i64 1, .int .i64 1024, .int .i64 a6, .int .i64 1, .int .i64 64]) (.int .i64 (k : Int))).run Try.prog w =
    .ok (.agg #[.int .i64 (nth7 a0 a1 a2 a3 a4 a5 a6 k), .int .i64 (limLo k), .int .i64 (limHi k)]) w := by
  rcases (by omega : k = 0 ∨ k = 1 ∨ k = 2 ∨ k = 3 ∨ k = 4 ∨ k = 5 ∨ k = 6) with rfl | rfl | rfl | rfl | rfl | rfl | rfl
  · exact row0 a0 a1 a2 a3 a4 a5 a6 w
  · exact row1 a0 a1 a2 a3 a4 a5 a6 w
  · exact row2 a0 a1 a2 a3 a4 a5 a6 w
  · exact row3 a0 a1 a2 a3 a4 a5 a6 w
  · exact row4 a0 a1 a2 a3 a4 a5 a6 w
  · exact row5 a0 a1 a2 a3 a4 a5 a6 w
  · exact row6 a0 a1 a2 a3 a4 a5 a6 w

theorem info73 : (Try.prog.info? 137).map (·.size) = some 21 := by kernel_rfl

theorem check_any (a0 a1 a2 a3 a4 a5 a6 : Int) (w : World) : Calls Try.prog 31 #[.agg #[.int .i64 a0, .int .i64 a1, .int .i64 a2, .int .i64 a3, .int .i64 a4, .int .i64 a5, .int .i64 a6]] w fun e w' =>
    e = .returned (.int .i64 (cfgErr a0 a1 a2 a3 a4 a5 a6)) ∧ Below w.heap.size w w' := by
  go_enter Try.func31, Try.ntmps31
  go_wp2_with (first
    | ((with_reducible refine at_store 137 ?_); refine wpList_store_new rfl 137 (.tmp 3) (.tmp 27) rfl #[.int .i64 a0, .int .i64 1, .int .i64 16, .int .i64 a1, .int .i64 1, .int .i64 16, .int .i64 a2, .int .i64 3, .int .i64 8, .int .i64 a3, .int .i64 1, .int .i64 1024, .int .i64 a4, .int .i64 0, .int .i64 64, .int .i64 a5, .int .i64 1, .int .i64 1024, .int .i64 a6, .int .i64 1, .int .i64 64] _ (by rw [World.size_alloc]; rfl) rfl 137 info73 rfl (by simp [Value.oneCell']) ?_)
    | ((with_reducible refine at_load 137 ?_); refine wpList_load_new rfl 137 (.tmp 3) rfl _ (by rw [World.size_alloc]; rfl) 137 _ Try.underlying137 rfl info73 ?_))
  go_loopw [29] (fun i wr => ∃ k : Nat, k ≤ 7 ∧ i = .int .i64 k ∧ okUpto (nth7 a0 a1 a2 a3 a4 a5 a6) k ∧ Below w.heap.size w wr) (fun i _ => 7 - (intOf i).toNat)
  case atStart => exact ⟨0, by omega, rfl, fun j hj => by omega, ((Below.refl _ _).alloc (Nat.le_refl _) _).alloc (by simp) _⟩
  case round =>
    obtain ⟨k, hk, rfl, hok, hb⟩ := hrel
    have HOK := Lib.hid hok; clear hok
    have HB := Lib.hid hb; clear hb
    by_cases hlt : k < 7
    · have hrow := rowAt a0 a1 a2 a3 a4 a5 a6 k hlt
      go_wp2
      · rename_i h
        go_ret
        exact ⟨ret_int (by simp [cfgErr, okUpto_bad hlt h]), (HB.out.alloc HB.out.size _)⟩
      · rename_i h
        go_round
        case rel => exact ⟨k + 1, by omega, by go_num, okUpto_succ HOK.out h.1 h.2, (HB.out.alloc HB.out.size _)⟩
        case measure => simp [intOf]; omega
      · rename_i h
        go_ret
        exact ⟨ret_int (by simp [cfgErr, okUpto_bad hlt (Or.inl h)]), (HB.out.alloc HB.out.size _)⟩
    · go_wp2
      go_ret
      obtain rfl : k = 7 := by omega
      exact ⟨ret_int (by simp [cfgErr, okUpto_seven HOK.out]), HB.out⟩

end Go.Proofs.Ytjcggokhminmoaa
namespace Go.Proofs.Ytjcggokhminmoaa
open Go.ChangeShapes Go.WideShapes Go.ChangeAt Go.RowKit

def manyI (a1 a2 a5 a6 : Int) (r : Int) : Int :=
  if r = 7 then a6 else if r = 8 then a1 else if r = 9 then a1 * a2 else if 10 ≤ r ∧ r ≤ 13 then a5 else 1
def baseF (a1 a2 a5 a6 : Int) : Nat → Int
  | 0 => 0
  | n + 1 => baseF a1 a2 a5 a6 n + manyI a1 a2 a5 a6 (n + 1)

theorem ok_bounds {a0 a1 a2 a3 a4 a5 a6 : Int} (h : okCfg a0 a1 a2 a3 a4 a5 a6 = true) :
    (1 ≤ a0 ∧ a0 ≤ 16) ∧ (1 ≤ a1 ∧ a1 ≤ 16) ∧ (3 ≤ a2 ∧ a2 ≤ 8) ∧ (1 ≤ a3 ∧ a3 ≤ 1024) ∧ (0 ≤ a4 ∧ a4 ≤ 64) ∧ (1 ≤ a5 ∧ a5 ≤ 1024) ∧ (1 ≤ a6 ∧ a6 ≤ 64) ∧ (3 ≤ a1 * a2 ∧ a1 * a2 ≤ 128) := by
  simp [okCfg] at h
  have h1 : 1 ≤ a1 := by omega
  have h2 : a1 ≤ 16 := by omega
  have h3 : 3 ≤ a2 := by omega
  have h4 : a2 ≤ 8 := by omega
  have m1 : 1 * 3 ≤ a1 * a2 := Int.mul_le_mul h1 h3 (by omega) (by omega)
  have m2 : a1 * a2 ≤ 16 * 8 := Int.mul_le_mul h2 h4 (by omega) (by omega)
  omega

theorem manyI_bd {a1 a2 a5 a6 : Int} (h1 : 1 ≤ a1 ∧ a1 ≤ 16) (h5 : 1 ≤ a5 ∧ a5 ≤ 1024) (h6 : 1 ≤ a6 ∧ a6 ≤ 64) (hm : 3 ≤ a1 * a2 ∧ a1 * a2 ≤ 128) (r : Int) :
    1 ≤ manyI a1 a2 a5 a6 r ∧ manyI a1 a2 a5 a6 r ≤ 1024 := by
  unfold manyI
  split
  · omega
  · split
    · omega
    · split
      · omega
      · split <;> omega

theorem baseF_bd {a1 a2 a5 a6 : Int} (h1 : 1 ≤ a1 ∧ a1 ≤ 16) (h5 : 1 ≤ a5 ∧ a5 ≤ 1024) (h6 : 1 ≤ a6 ∧ a6 ≤ 64) (hm : 3 ≤ a1 * a2 ∧ a1 * a2 ≤ 128) (n : Nat) :
    (n : Int) ≤ baseF a1 a2 a5 a6 n ∧ baseF a1 a2 a5 a6 n ≤ 1024 * n := by
  induction n with
  | zero => simp [baseF]
  | succ n ih =>
    have := manyI_bd h1 h5 h6 hm (n + 1)
    simp only [baseF]
    omega

theorem many_any (a0 a1 a2 a3 a4 a5 a6 r : Int) (hm : 3 ≤ a1 * a2 ∧ a1 * a2 ≤ 128) (w : World) : Calls Try.prog 73 #[.agg #[.int .i64 a0, .int .i64 a1, .int .i64 a2, .int .i64 a3, .int .i64 a4, .int .i64 a5, .int .i64 a6], .int .i64 r] w fun e w' =>
    e = .returned (.int .i64 (manyI a1 a2 a5 a6 r)) ∧ Below w.heap.size w w' := by
  have hm1 := hm.1
  have hm2 := hm.2
  clear hm
  by_cases h : r = 7 ∨ r = 8 ∨ r = 9 ∨ r = 10 ∨ r = 11 ∨ r = 12 ∨ r = 13
  · rcases h with rfl | rfl | rfl | rfl | rfl | rfl | rfl
    all_goals
      go_enter Try.func73, Try.ntmps73
      go_wp2
      go_ret
      exact ⟨ret_int (by simp [manyI]), by repeat (first | exact Below.refl _ _ | apply Below.more1 | apply Below.alloc1)⟩
  · have hg : r < 7 ∨ 13 < r := by omega
    have hr : manyI a1 a2 a5 a6 r = 1 := by
      unfold manyI
      rw [if_neg (by omega), if_neg (by omega), if_neg (by omega), if_neg (by omega)]
    clear h
    rw [hr]
    clear hr
    rcases hg with h | h
    all_goals
      go_enter Try.func73, Try.ntmps73
      go_wp2
      go_ret
      exact ⟨rfl, by repeat (first | exact Below.refl _ _ | apply Below.more1 | apply Below.alloc1)⟩

theorem rmany_any (a0 a1 a2 a3 a4 a5 a6 r : Int) (hm : 3 ≤ a1 * a2 ∧ a1 * a2 ≤ 128) (w : World) : Calls Try.prog 71 #[.agg #[.int .i64 a0, .int .i64 a1, .int .i64 a2, .int .i64 a3, .int .i64 a4, .int .i64 a5, .int .i64 a6], .int .i64 r] w fun e w' =>
    e = .returned (.int .i64 (manyI a1 a2 a5 a6 r)) ∧ Below w.heap.size w w' := by
  have hm1 := hm.1
  have hm2 := hm.2
  clear hm
  by_cases h : r = 7 ∨ r = 8 ∨ r = 9 ∨ r = 10 ∨ r = 11 ∨ r = 12 ∨ r = 13
  · rcases h with rfl | rfl | rfl | rfl | rfl | rfl | rfl
    all_goals
      go_enter Try.func71, Try.ntmps71
      go_wp2
      go_ret
      exact ⟨ret_int (by simp [manyI]), by repeat (first | exact Below.refl _ _ | apply Below.more1 | apply Below.alloc1)⟩
  · have hg : r < 7 ∨ 13 < r := by omega
    have hr : manyI a1 a2 a5 a6 r = 1 := by
      unfold manyI
      rw [if_neg (by omega), if_neg (by omega), if_neg (by omega), if_neg (by omega)]
    clear h
    rw [hr]
    clear hr
    rcases hg with h | h
    all_goals
      go_enter Try.func71, Try.ntmps71
      go_wp2
      go_ret
      exact ⟨rfl, by repeat (first | exact Below.refl _ _ | apply Below.more1 | apply Below.alloc1)⟩

end Go.Proofs.Ytjcggokhminmoaa
namespace Go.Proofs.Ytjcggokhminmoaa
open Go.ChangeShapes Go.WideShapes Go.ChangeAt Go.RowKit

theorem size_no (a0 a1 a2 a3 a4 a5 a6 : Int) (h : okCfg a0 a1 a2 a3 a4 a5 a6 = false) (w : World) : Calls Try.prog 58 #[.agg #[.int .i64 a0, .int .i64 a1, .int .i64 a2, .int .i64 a3, .int .i64 a4, .int .i64 a5, .int .i64 a6]] w fun e w' =>
    e = .returned (.tuple #[.int .i64 0, .int .i64 1]) ∧ Below w.heap.size w w' := by
  have e2 : cfgErr a0 a1 a2 a3 a4 a5 a6 = 1 := by unfold cfgErr; rw [h]; rfl
  go_enter Try.func58, Try.ntmps58
  go_wp2_with (go_at_call 31; refine (check_any _ _ _ _ _ _ _ _).mono ?_; rintro e w1 ⟨rfl, hb1⟩; obtain ⟨os, d, rfl⟩ := hb1.more; clear hb1)
  go_ret2
  exact ⟨rfl, by repeat (first | exact Below.refl _ _ | apply Below.more1 | apply Below.alloc1)⟩

theorem size_ok (a0 a1 a2 a3 a4 a5 a6 : Int) (h : okCfg a0 a1 a2 a3 a4 a5 a6 = true) (w : World) : Calls Try.prog 58 #[.agg #[.int .i64 a0, .int .i64 a1, .int .i64 a2, .int .i64 a3, .int .i64 a4, .int .i64 a5, .int .i64 a6]] w fun e w' =>
    e = .returned (.tuple #[.int .i64 (baseF a1 a2 a5 a6 13), .int .i64 0]) ∧ Below w.heap.size w w' := by
  have e2 : cfgErr a0 a1 a2 a3 a4 a5 a6 = 0 := by unfold cfgErr; rw [h]; rfl
  obtain ⟨b0, b1, b2, b3, b4, b5, b6, bm⟩ := ok_bounds h
  go_enter Try.func58, Try.ntmps58
  go_wp2_with (go_at_call 31; refine (check_any _ _ _ _ _ _ _ _).mono ?_; rintro e w1 ⟨rfl, hb1⟩; obtain ⟨os, d, rfl⟩ := hb1.more; clear hb1)
  go_loopw [5, 6] (fun n r wr => ∃ k : Nat, k ≤ 13 ∧ n = .int .i64 (baseF a1 a2 a5 a6 k) ∧ r = .int .i64 ((k : Int) + 1) ∧ ∃ os d, wr = (w.alloc (.cells #[.int .i64 a0, .int .i64 a1, .int .i64 a2, .int .i64 a3, .int .i64 a4, .int .i64 a5, .int .i64 a6] 23)).more os d) (fun _ r _ => 14 - (intOf r).toNat)
  case atStart => exact ⟨0, by omega, rfl, rfl, os, d, rfl⟩
  case round =>
    obtain ⟨k, hk, rfl, rfl, os1, d1, rfl⟩ := hrel
    have hb := baseF_bd b1 b5 b6 bm k
    have hb' := manyI_bd b1 b5 b6 bm ((k : Int) + 1)
    by_cases hlt : k < 13
    · go_wp2_with (go_at_call 73; refine (many_any _ _ _ _ _ _ _ _ bm _).mono ?_; rintro e w1 ⟨rfl, hb1⟩; obtain ⟨os, d, rfl⟩ := hb1.more; clear hb1)
      go_roundw
      case rel => exact ⟨k + 1, by omega, by rw [baseF], by go_num, RowKit.Below.more (by repeat (first | exact Below.refl _ _ | apply Below.more1 | apply Below.alloc1))⟩
      case measure => simp [intOf]; omega
    · obtain rfl : k = 13 := by omega
      go_wp2
      go_ret2
      exact ⟨rfl, by repeat (first | exact Below.refl _ _ | apply Below.more1 | apply Below.alloc1)⟩

theorem base_nat (a0 a1 a2 a3 a4 a5 a6 : Int) (h : okCfg a0 a1 a2 a3 a4 a5 a6 = true) (n : Nat) (hn : n ≤ 13) (w : World) : Calls Try.prog 53 #[.agg #[.int .i64 a0, .int .i64 a1, .int .i64 a2, .int .i64 a3, .int .i64 a4, .int .i64 a5, .int .i64 a6], .int .i64 ((n : Int) + 1)] w fun e w' =>
    e = .returned (.int .i64 (baseF a1 a2 a5 a6 n)) ∧ Below w.heap.size w w' := by
  obtain ⟨b0, b1, b2, b3, b4, b5, b6, bm⟩ := ok_bounds h
  go_enter Try.func53, Try.ntmps53
  go_wp2
  go_loopw [5, 6] (fun s r wr => ∃ k : Nat, k ≤ n ∧ s = .int .i64 (baseF a1 a2 a5 a6 k) ∧ r = .int .i64 ((k : Int) + 1) ∧ ∃ os d, wr = (w.alloc (.cells #[.int .i64 a0, .int .i64 a1, .int .i64 a2, .int .i64 a3, .int .i64 a4, .int .i64 a5, .int .i64 a6] 23)).more os d) (fun _ r _ => 14 - (intOf r).toNat)
  case atStart => exact ⟨0, by omega, rfl, rfl, RowKit.Below.more (Below.refl _ _)⟩
  case round =>
    obtain ⟨k, hk, rfl, rfl, os1, d1, rfl⟩ := hrel
    have hb := baseF_bd b1 b5 b6 bm k
    have hb' := manyI_bd b1 b5 b6 bm ((k : Int) + 1)
    by_cases hlt : k < n
    · go_wp2_with (go_at_call 71; refine (rmany_any _ _ _ _ _ _ _ _ bm _).mono ?_; rintro e w1 ⟨rfl, hb1⟩; obtain ⟨os, d, rfl⟩ := hb1.more; clear hb1)
      go_roundw
      case rel => exact ⟨k + 1, by omega, by rw [baseF], by go_num, RowKit.Below.more (by repeat (first | exact Below.refl _ _ | apply Below.more1 | apply Below.alloc1))⟩
      case measure => simp [intOf]; omega
    · obtain rfl : k = n := by omega
      go_wp2
      go_ret
      exact ⟨rfl, by repeat (first | exact Below.refl _ _ | apply Below.more1 | apply Below.alloc1)⟩

theorem base_any (a0 a1 a2 a3 a4 a5 a6 : Int) (h : okCfg a0 a1 a2 a3 a4 a5 a6 = true) (r : Int) (h1 : 1 ≤ r) (h2 : r ≤ 14) (w : World) : Calls Try.prog 53 #[.agg #[.int .i64 a0, .int .i64 a1, .int .i64 a2, .int .i64 a3, .int .i64 a4, .int .i64 a5, .int .i64 a6], .int .i64 r] w fun e w' =>
    e = .returned (.int .i64 (baseF a1 a2 a5 a6 (r - 1).toNat)) ∧ Below w.heap.size w w' := by
  obtain ⟨n, rfl⟩ : ∃ n : Nat, r = (n : Int) + 1 := ⟨(r - 1).toNat, by omega⟩
  rw [show ((n : Int) + 1 - 1).toNat = n by omega]
  exact base_nat a0 a1 a2 a3 a4 a5 a6 h n (by omega) w

theorem base_13 (a0 a1 a2 a3 a4 a5 a6 : Int) (h : okCfg a0 a1 a2 a3 a4 a5 a6 = true) (w : World) : Calls Try.prog 53 #[.agg #[.int .i64 a0, .int .i64 a1, .int .i64 a2, .int .i64 a3, .int .i64 a4, .int .i64 a5, .int .i64 a6], .int .i64 13] w fun e w' =>
    e = .returned (.int .i64 (baseF a1 a2 a5 a6 12)) ∧ Below w.heap.size w w' := base_any a0 a1 a2 a3 a4 a5 a6 h 13 (by omega) (by omega) w

theorem rsize_any (a0 a1 a2 a3 a4 a5 a6 : Int) (h : okCfg a0 a1 a2 a3 a4 a5 a6 = true) (w : World) : Calls Try.prog 50 #[.agg #[.int .i64 a0, .int .i64 a1, .int .i64 a2, .int .i64 a3, .int .i64 a4, .int .i64 a5, .int .i64 a6]] w fun e w' =>
    e = .returned (.int .i64 (baseF a1 a2 a5 a6 13)) ∧ Below w.heap.size w w' := by
  obtain ⟨b0, b1, b2, b3, b4, b5, b6, bm⟩ := ok_bounds h
  have hb := baseF_bd b1 b5 b6 bm 12
  have e13 : IntKind.i64.wrap (baseF a1 a2 a5 a6 12 + a5) = baseF a1 a2 a5 a6 13 := by
    rw [IntWalk.i64_in _ (by omega)]
    simp [baseF, manyI]
  have E := Lib.hid e13; clear e13
  go_enter Try.func50, Try.ntmps50
  go_wp2
  go_region_with (go_at_call 53; refine (base_13 _ _ _ _ _ _ _ h _).mono ?_; rintro e w1 ⟨rfl, hb1⟩; obtain ⟨os, d, rfl⟩ := hb1.more; clear hb1)
  all_goals
    go_wp2
    go_ret
    exact ⟨ret_int E.out, by repeat (first | exact Below.refl _ _ | apply Below.drew | apply Below.more1 | apply Below.alloc1)⟩

end Go.Proofs.Ytjcggokhminmoaa
