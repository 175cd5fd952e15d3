/-
The machine in a step: how a step begins, what it writes, how it ends.
Calls by name of method and of function values; what a kit's tasks are (Kits).
The machine in a step, and its kit's tasks: what stays from method to method (InStep).
machine.Machine: step.
The machine between steps: a call begins (a seat is laid, a call is put behind the list).
-/
import Derived.Test.YtbhbpfpggfcpgaaQMchM
import Derived.Test.YtbhbpfpggfcpgaaQMchE
namespace Go
open Go.RowKit

def MachS.withCall (st : MachS) (ci : Nat) (f : Cal → Cal) : MachS := { st with calls := st.calls.modify ci f }
def MachS.withSeat (st : MachS) (si : Nat) (f : Seat → Seat) : MachS := { st with seats := st.seats.modify si f }
section
variable {w : World} {base xb : Nat} {st : MachS} {v : MachV} {ci si g : Nat}
theorem MachS.On.withCall (O : st.On ci si) (f : Cal → Cal) : (st.withCall ci f).On ci si := ⟨O.on, by simpa [MachS.withCall] using O.c, O.s⟩
theorem MachS.On.withSeat (O : st.On ci si) (f : Seat → Seat) : (st.withSeat si f).On ci si := ⟨O.on, O.c, by simpa [MachS.withSeat] using O.s⟩

theorem MachAt.call_cell (H : MachAt w base xb st v) (O : st.On ci si) (hg : v.vca.rowBlock = some g) {j : Nat} (hj : j < 9) (f : Cal → Cal) (u : Value)
    (hf : ∀ c p, ({ f c with pt := p } : Cal).cells = ({ c with pt := p } : Cal).cells.set j u) : MachAt (w.setCell ⟨g, ci * 9 + j, none⟩ u) base xb (st.withCall ci f) v := by
  have hc := O.c
  refine H.put_call (st' := st.withCall ci f) hg (j := ci * 9 + j) (u := u) (by omega) ⟨rfl, rfl, rfl, rfl, rfl, rfl, rfl, rfl, by simp [MachS.withCall]⟩ ?_
  have hc' : ci < st.callsNow.length := by rw [st.callsNow_len]; exact hc
  rw [cals_set st.callsNow ci j hc' hj { f (st.calls[ci]) with pt := st.d.pt } u (by rw [O.call hc']; exact hf _ _)]
  congr 1
  rw [O.calls, (O.withCall f).calls]
  show _ = (st.calls.modify ci f).modify ci _
  apply List.ext_getElem?
  intro i
  simp only [List.getElem?_set, List.getElem?_modify, List.length_modify]
  by_cases e : ci = i
  · subst e; simp [hc]; rfl
  · simp [e]
theorem MachAt.seat_cell (H : MachAt w base xb st v) (O : st.On ci si) (hg : v.vse.rowBlock = some g) {j : Nat} (hj : j < 5) (f : Seat → Seat) (u : Value)
    (hf : ∀ c p q, ({ f c with ak := p, av := q } : Seat).cells = ({ c with ak := p, av := q } : Seat).cells.set j u) : MachAt (w.setCell ⟨g, si * 5 + j, none⟩ u) base xb (st.withSeat si f) v := by
  have hc := O.s
  refine H.put_seat (st' := st.withSeat si f) hg (j := si * 5 + j) (u := u) (by omega) ⟨rfl, rfl, rfl, rfl, rfl, rfl, rfl, rfl, by simp [MachS.withSeat]⟩ ?_
  have hc' : si < st.seatsNow.length := by rw [st.seatsNow_len]; exact hc
  rw [seatC_set st.seatsNow si j hc' hj { f (st.seats[si]) with ak := st.d.ak, av := st.d.av } u (by rw [O.seat hc']; exact hf _ _ _)]
  congr 1
  rw [O.seatsE, (O.withSeat f).seatsE]
  show _ = (st.seats.modify si f).modify si _
  apply List.ext_getElem?
  intro i
  simp only [List.getElem?_set, List.getElem?_modify, List.length_modify]
  by_cases e : si = i
  · subst e; simp [hc]; exact ⟨rfl, rfl⟩
  · simp [e]

/-- the desk as it lies before a task when a step begins (the memory's number is set behind it) -/
def DeskS.fresh (d : DeskS) (th now : Int) (c : Cal) (s : Seat) : DeskS := { d with used := false, th := th, now := now, pt := c.pt, ak := s.ak, av := s.av }

theorem modify_same {α : Type} (l : List α) (i : Nat) (f : α → α) (h : ∀ (hi : i < l.length), f l[i] = l[i]) : l.modify i f = l := by
  apply List.ext_getElem?
  intro j
  simp only [List.getElem?_modify]
  by_cases e : i = j
  · subst e
    by_cases hi : i < l.length
    · simp [List.getElem?_eq_getElem hi, h hi]
    · simp [List.getElem?_eq_none (Nat.le_of_not_lt hi)]
  · simp [e]

theorem MachAt.begin (H : MachAt w base xb st v) (hon : st.on = none) (hc : ci < st.calls.length) (hs : si < st.seats.length) (th now : Int) {g2 : Nat} (hg : v.vse.rowBlock = some g) (hg2 : v.vca.rowBlock = some g2) :
    MachAt (((((w.setCell ⟨xb, 1, none⟩ (.int .i64 th)).setCell ⟨xb, 2, none⟩ (.int .i64 now)).setCell ⟨xb, 5, none⟩ (.bool false)).setCell ⟨xb, 3, none⟩ (.pointer (some ⟨g2, ci * 9, none⟩))).setCell ⟨xb, 4, none⟩ (.pointer (some ⟨g, si * 5 + 3, none⟩))) base xb
      { st with d := st.d.fresh th now st.calls[ci] st.seats[si], on := some (ci, si) } v := by
  have e1 : st.callsNow = st.calls := by unfold MachS.callsNow; rw [hon]
  have e2 : st.seatsNow = st.seats := by unfold MachS.seatsNow; rw [hon]
  have e3 : ({ st with d := st.d.fresh th now st.calls[ci] st.seats[si], on := some (ci, si) } : MachS).callsNow = st.calls := by
    unfold MachS.callsNow DeskS.fresh
    exact modify_same _ _ _ (fun _ => rfl)
  have e4 : ({ st with d := st.d.fresh th now st.calls[ci] st.seats[si], on := some (ci, si) } : MachS).seatsNow = st.seats := by
    unfold MachS.seatsNow DeskS.fresh
    exact modify_same _ _ _ (fun _ => rfl)
  have hb : (((((w.setCell ⟨xb, 1, none⟩ (.int .i64 th)).setCell ⟨xb, 2, none⟩ (.int .i64 now)).setCell ⟨xb, 5, none⟩ (.bool false)).setCell ⟨xb, 3, none⟩ (.pointer (some ⟨g2, ci * 9, none⟩))).setCell ⟨xb, 4, none⟩ (.pointer (some ⟨g, si * 5 + 3, none⟩))).heap[xb]? =
      some (.cells #[.pointer (some ⟨v.mb, 0, none⟩), .int .i64 th, .int .i64 now, .pointer (some ⟨g2, ci * 9, none⟩), .pointer (some ⟨g, si * 5 + 3, none⟩), .bool false, v.vsh, v.kit, v.vse, .int .i64 st.moves, v.vca] 100) := by
    simp [World.setCell, Array.getElem?_modify, H.blk]
  have ho : ∀ k, k ≠ xb → (((((w.setCell ⟨xb, 1, none⟩ (.int .i64 th)).setCell ⟨xb, 2, none⟩ (.int .i64 now)).setCell ⟨xb, 5, none⟩ (.bool false)).setCell ⟨xb, 3, none⟩ (.pointer (some ⟨g2, ci * 9, none⟩))).setCell ⟨xb, 4, none⟩ (.pointer (some ⟨g, si * 5 + 3, none⟩))).heap[k]? = w.heap[k]? := by
    intro k hk
    simp [World.setCell, Array.getElem?_modify, Ne.symm hk]
  refine ⟨?_, H.ge, ?_, ?_, ?_, ?_, H.cx, H.cm, H.cs, H.ce, H.cc⟩
  · rw [hb]
    unfold MachS.callC MachS.toldC
    simp only [ptrIn_eq hg, ptrIn_eq hg2]
    rfl
  · exact H.mem.of_block fun k hk => ho k (fun e => H.nm (e ▸ hk))
  · exact H.rsh.of_block fun k hk => ho k (H.ns k hk)
  · rw [e4]; have := H.rse.of_block (w' := (((((w.setCell ⟨xb, 1, none⟩ (.int .i64 th)).setCell ⟨xb, 2, none⟩ (.int .i64 now)).setCell ⟨xb, 5, none⟩ (.bool false)).setCell ⟨xb, 3, none⟩ (.pointer (some ⟨g2, ci * 9, none⟩))).setCell ⟨xb, 4, none⟩ (.pointer (some ⟨g, si * 5 + 3, none⟩)))) fun k hk => ho k (H.ne k hk)
    rw [e2] at this; exact this
  · rw [e3]; have := H.rca.of_block (w' := (((((w.setCell ⟨xb, 1, none⟩ (.int .i64 th)).setCell ⟨xb, 2, none⟩ (.int .i64 now)).setCell ⟨xb, 5, none⟩ (.bool false)).setCell ⟨xb, 3, none⟩ (.pointer (some ⟨g2, ci * 9, none⟩))).setCell ⟨xb, 4, none⟩ (.pointer (some ⟨g, si * 5 + 3, none⟩)))) fun k hk => ho k (H.nc k hk)
    rw [e1] at this; exact this

/-- the step is over: what was told stays with the call and the seat -/
def MachS.rest (st : MachS) : MachS := { st with on := none, calls := st.callsNow, seats := st.seatsNow }
theorem MachAt.rest (H : MachAt w base xb st v) : MachAt ((w.setCell ⟨xb, 3, none⟩ (.pointer none)).setCell ⟨xb, 4, none⟩ (.pointer none)) base xb st.rest v := by
  have hb : ((w.setCell ⟨xb, 3, none⟩ (.pointer none)).setCell ⟨xb, 4, none⟩ (.pointer none)).heap[xb]? =
      some (.cells #[.pointer (some ⟨v.mb, 0, none⟩), .int .i64 st.d.th, .int .i64 st.d.now, .pointer none, .pointer none, .bool st.d.used, v.vsh, v.kit, v.vse, .int .i64 st.moves, v.vca] 100) := by
    simp [World.setCell, Array.getElem?_modify, H.blk]
  have ho : ∀ k, k ≠ xb → ((w.setCell ⟨xb, 3, none⟩ (.pointer none)).setCell ⟨xb, 4, none⟩ (.pointer none)).heap[k]? = w.heap[k]? := by
    intro k hk
    simp [World.setCell, Array.getElem?_modify, Ne.symm hk]
  refine ⟨hb, H.ge, ?_, ?_, ?_, ?_, H.cx, H.cm, H.cs, H.ce, H.cc⟩
  · exact H.mem.of_block fun k hk => ho k (fun e => H.nm (e ▸ hk))
  · exact H.rsh.of_block fun k hk => ho k (H.ns k hk)
  · have := H.rse.of_block (w' := ((w.setCell ⟨xb, 3, none⟩ (.pointer none)).setCell ⟨xb, 4, none⟩ (.pointer none))) fun k hk => ho k (H.ne k hk)
    rw [← st.seatsNow_len] at this
    exact this
  · have := H.rca.of_block (w' := ((w.setCell ⟨xb, 3, none⟩ (.pointer none)).setCell ⟨xb, 4, none⟩ (.pointer none))) fun k hk => ho k (H.nc k hk)
    rw [← st.callsNow_len] at this
    exact this
end

/-- the cells that a step reads and writes -/
theorem MachAt.stepFacts {w : World} {base xb : Nat} {st : MachS} {v : MachV} {ci si g g2 : Nat} (H : MachAt w base xb st v) (O : st.On ci si) (hg : v.vse.rowBlock = some g) (hg2 : v.vca.rowBlock = some g2) {se : Seat} {ca : Cal} (hse : st.seats[si]? = some se) (hca : st.calls[ci]? = some ca) :
    (w.cell? ⟨g, si * 5, none⟩ = some se.task ∧ w.cell? ⟨g, si * 5 + 1, none⟩ = some (.bool se.ready) ∧ w.cell? ⟨g, si * 5 + 2, none⟩ = some (.int .i64 se.last) ∧
      w.cell? ⟨g, si * 5 + 3, none⟩ = some (.int .i64 st.d.ak) ∧ w.cell? ⟨g, si * 5 + 4, none⟩ = some (.int .i64 st.d.av) ∧ (∀ j, w.frozen? ⟨g, j, none⟩ = false) ∧ g < w.heap.size) ∧
    (w.cell? ⟨g2, ci * 9 + 5, none⟩ = some (.int .i64 ca.en) ∧ w.cell? ⟨g2, ci * 9 + 7, none⟩ = some (.int .i64 ca.ak) ∧ w.cell? ⟨g2, ci * 9 + 8, none⟩ = some (.int .i64 ca.av) ∧
      (∀ j, w.frozen? ⟨g2, j, none⟩ = false) ∧ g2 < w.heap.size) ∧
    (w.cell? ⟨xb, 10, none⟩ = some v.vca ∧ w.cell? ⟨xb, 3, none⟩ = some (.pointer (some ⟨g2, ci * 9, none⟩)) ∧ w.cell? ⟨xb, 4, none⟩ = some (.pointer (some ⟨g, si * 5 + 3, none⟩)) ∧ (∀ j, w.frozen? ⟨xb, j, none⟩ = false) ∧ xb < w.heap.size) ∧
    g ≠ xb ∧ g2 ≠ xb ∧ g ≠ g2 := by
  obtain ⟨ga, cap, e, hcap, hrb, hglt, hgx, gz, gc⟩ := H.seats_form O.s
  obtain ⟨gb, cap2, e2, hcap2, hrb2, hglt2, hgx2, gz2, gc2⟩ := H.calls_form O.c
  obtain rfl : g = ga := by rw [hg] at hrb; exact Option.some.inj hrb
  obtain rfl : g2 = gb := by rw [hg2] at hrb2; exact Option.some.inj hrb2
  obtain ⟨c0, c1, c2, c3, c4, c5, c6, c7, c8, c9, c10, z, lt⟩ := H.head
  rw [O.seat (by rw [MachS.seatsNow_len]; exact O.s)] at gc
  rw [O.call (by rw [MachS.callsNow_len]; exact O.c)] at gc2
  have e3 : st.callC v = .pointer (some ⟨g2, ci * 9, none⟩) := by unfold MachS.callC; rw [O.on]; exact ptrIn_eq hg2
  have e4 : st.toldC v = .pointer (some ⟨g, si * 5 + 3, none⟩) := by unfold MachS.toldC; rw [O.on]; exact ptrIn_eq hg
  rw [e3] at c3
  rw [e4] at c4
  rw [show st.seats[si]'O.s = se from (List.getElem?_eq_some_iff.1 hse).2] at gc
  rw [show st.calls[ci]'O.c = ca from (List.getElem?_eq_some_iff.1 hca).2] at gc2
  refine ⟨⟨gc 0 (by decide), gc 1 (by decide), gc 2 (by decide), gc 3 (by decide), gc 4 (by decide), gz, hglt⟩, ⟨gc2 5 (by decide), gc2 7 (by decide), gc2 8 (by decide), gz2, hglt2⟩, ⟨c10, c3, c4, z, lt⟩, hgx, hgx2, ?_⟩
  intro e
  have h1 := H.ce _ hg
  have h2 := H.cc _ hg2
  rw [e, h2] at h1
  cases h1
/-- the machine behind a step -/
def MachS.stepped (st : MachS) (ci si : Nat) (now : Int) (over : Bool) : MachS :=
  if over then ((((st.withCall ci fun c => { c with en := now }).withCall ci fun c => { c with ak := st.d.ak }).withCall ci fun c => { c with av := st.d.av }).withSeat si fun c => { c with task := .nilIface }).rest else st.rest
end Go
namespace Go
open Go.RowKit

/-- a call of a method of an interface value -/
def Runs (P : Program) (v : Value) (name : String) (args : Array Value) (w : World) (R : Ending → World → Prop) : Prop :=
  ∃ f rv, (∀ xs w0, (callMethod v name xs).run P w0 = .ok (.enter f (#[rv] ++ xs)) w0) ∧ Calls P f (#[rv] ++ args) w R
/-- a call of a function value -/
def RunsV (P : Program) (fv : Value) (args : Array Value) (w : World) (R : Ending → World → Prop) : Prop :=
  ∃ f as', (∀ w0, (do let d ← Deferred.ofValue fv args; invoke d.target d.args : Sem Next).run P w0 = .ok (.enter f as') w0) ∧ Calls P f as' w R

theorem Runs.mono {P : Program} {v : Value} {name : String} {args : Array Value} {w : World} {R R' : Ending → World → Prop} (h : Runs P v name args w R) (k : ∀ e w', R e w' → R' e w') : Runs P v name args w R' := by
  obtain ⟨f, rv, h1, h2⟩ := h
  exact ⟨f, rv, h1, h2.mono k⟩
theorem RunsV.mono {P : Program} {v : Value} {args : Array Value} {w : World} {R R' : Ending → World → Prop} (h : RunsV P v args w R) (k : ∀ e w', R e w' → R' e w') : RunsV P v args w R' := by
  obtain ⟨f, rv, h1, h2⟩ := h
  exact ⟨f, rv, h1, h2.mono k⟩

section
variable {P : Program} {ops : Array Oper} {rest : List Oper} {o : Oper} {a : Act} {Q : Exit → Act → World → Prop} {w : World}
theorem wpList_invoke (hgd : o.guard = none) (recv x : Operand) (name : String) (ty : Array TypeId) (ho : o.op = .call { callee := .invoke recv name, args := #[x], argTypes := ty })
    (v u : Value) (hv : a.eval recv = v) (hu : a.eval x = u) (R : Ending → World → Prop) (h : Runs P v name #[u] w R) (hk : ∀ e w', R e w' → ∃ y, e = .returned y ∧ wpList P ops Q rest (a.put o.dst y) w') : wpList P ops Q (o :: rest) a w := by
  refine wpList_plain hgd fun K hK => ?_
  obtain ⟨f, rv, h1, h2⟩ := h
  unfold Oper.wp execOp
  simp only [ho, resolve, Sem.run_bind, Sem.run_pure, Result.andThen_ok, hv, List.map_toArray, List.map_cons, List.map_nil, hu, invoke]
  have e1 : (#[v] ++ #[u] : Array Value)[0]? = some v := rfl
  have e2 : (#[v] ++ #[u] : Array Value).extract 1 (#[v] ++ #[u] : Array Value).size = #[u] := rfl
  simp only [e1, e2, h1]
  refine h2.mono fun e w' hr => ?_
  obtain ⟨y, rfl, hy⟩ := hk e w' hr
  exact hK _ _ hy
theorem wpList_value (hgd : o.guard = none) (fo x y : Operand) (ty : Array TypeId) (ho : o.op = .call { callee := .value fo, args := #[x, y], argTypes := ty })
    (fv u1 u2 : Value) (hf : a.eval fo = fv) (hu1 : a.eval x = u1) (hu2 : a.eval y = u2) (R : Ending → World → Prop) (h : RunsV P fv #[u1, u2] w R) (hk : ∀ e w', R e w' → ∃ z, e = .returned z ∧ wpList P ops Q rest (a.put o.dst z) w') : wpList P ops Q (o :: rest) a w := by
  refine wpList_plain hgd fun K hK => ?_
  obtain ⟨f, as', h1, h2⟩ := h
  unfold Oper.wp execOp
  have h3 := h1 w
  simp only [ho, resolve, hf, List.map_toArray, List.map_cons, List.map_nil, hu1, hu2]
  rw [h3]
  refine h2.mono fun e w' hr => ?_
  obtain ⟨z, rfl, hy⟩ := hk e w' hr
  exact hK _ _ hy
end

structure Mv where
  th : Int
  op : Int
  arg : Int
  data : Int
deriving DecidableEq, Inhabited
def Mv.v (m : Mv) : Value := .agg #[.int .i64 m.th, .int .i64 m.op, .int .i64 m.arg, .int .i64 m.data]
def Mv.cells (m : Mv) : List Value := [.int .i64 m.th, .int .i64 m.op, .int .i64 m.arg, .int .i64 m.data]

/-- a kit: its tasks, and what they share -/
structure Kits where
  T : Type
  S : Type
  At : World → Nat → Value → List Value → S → List (Option T) → (Nat → Prop) → Prop
  make : S → Mv → Option T
  ready : S → T → DeskS → S × T × DeskS × Bool
  step : S → T → DeskS → S × T × DeskS × Bool
/-- the desk before a task's first method in a step -/
def DeskS.first (d : DeskS) (th now : Int) (c : Cal) (s : Seat) : DeskS := { (d.fresh th now c s) with mem := { d.mem with move := now } }
/-- Ready, if it is the first step -/
def Kits.r1 (K : Kits) (rdy : Bool) (s : K.S) (t : K.T) (d : DeskS) : K.S × K.T × DeskS × Bool := if rdy then (s, t, d, false) else K.ready s t d
/-- and Step, if it is not over -/
def Kits.r2 (K : Kits) (r : K.S × K.T × DeskS × Bool) : K.S × K.T × DeskS × Bool := if r.2.2.2 then r else K.step r.1 r.2.1 r.2.2.1
theorem r1_true (K : Kits) (s : K.S) (t : K.T) (d : DeskS) : K.r1 true s t d = (s, t, d, false) := rfl
theorem r1_false (K : Kits) (s : K.S) (t : K.T) (d : DeskS) : K.r1 false s t d = K.ready s t d := rfl
end Go
namespace Go.Proofs.Ytbhbpfpggfcpgaa
open Go.ChangeShapes Go.WideShapes Go.ChangeAt Go.RowKit

/-- the machine at xb and what its kit holds -/
structure MK (K : Kits) (w : World) (base xb : Nat) (st : MachS) (v : MachV) (vs : List Value) (s : K.S) (ts : List (Option K.T)) (F : Nat → Prop) : Prop where
  m : MachAt w base xb st v
  k : K.At w base v.kit vs s ts F
  sep : ∀ k, F k → ¬ v.own xb k
  tasks : st.seats.map Seat.task = vs
  len : ts.length = vs.length

/-- what a task's method leaves -/
def TaskOut (K : Kits) (w : World) (base xb : Nat) (st : MachS) (v : MachV) (vs : List Value) (ts : List (Option K.T)) (F : Nat → Prop) (i : Nat) (r : K.S × K.T × DeskS × Bool) (e : Ending) (w' : World) : Prop :=
  e = .returned (.bool r.2.2.2) ∧ ∃ v' F', MK K w' base xb { st with d := r.2.2.1 } v' vs r.1 (ts.set i (some r.2.1)) F' ∧ Only (fun k => v.own xb k ∨ F k) w w' ∧
    (∀ k, v'.own xb k → v.own xb k ∨ w.heap.size ≤ k) ∧ (∀ k, F' k → F k ∨ w.heap.size ≤ k) ∧ v'.vse = v.vse ∧ v'.vca = v.vca ∧ v'.mb = v.mb ∧ v'.kit = v.kit

structure KitsOk (K : Kits) : Prop where
  loc : ∀ {w w' b kit vs s ts F}, K.At w b kit vs s ts F → (∀ k, F k → w'.heap[k]? = w.heap[k]?) → K.At w' b kit vs s ts F
  lt : ∀ {w b kit vs s ts F}, K.At w b kit vs s ts F → ∀ k, F k → b ≤ k ∧ k < w.heap.size
  idle : ∀ {w b kit vs s ts F}, K.At w b kit vs s ts F → ∀ i : Nat, ts[i]? = some none → vs[i]? = some Value.nilIface
  busy : ∀ {w b kit vs s ts F}, K.At w b kit vs s ts F → ∀ (i : Nat) t, ts[i]? = some (some t) → ∃ ty x, vs[i]? = some (Value.iface ty x)
  drop : ∀ {w b kit vs s ts F}, K.At w b kit vs s ts F → ∀ i : Nat, K.At w b kit (vs.set i .nilIface) s (ts.set i none) F
  few : ∀ s t d, (K.ready s t d).2.2.1.mem.log.length ≤ d.mem.log.length + 2 ∧ (K.ready s t d).2.2.1.mem.ahead.length ≤ d.mem.ahead.length + 2 ∧ (K.ready s t d).2.2.1.shifts.length ≤ d.shifts.length + 4 ∧
    (K.step s t d).2.2.1.mem.log.length ≤ d.mem.log.length + 2 ∧ (K.step s t d).2.2.1.mem.ahead.length ≤ d.mem.ahead.length + 2 ∧ (K.step s t d).2.2.1.shifts.length ≤ d.shifts.length + 4
  keep : ∀ s t d, (K.ready s t d).2.2.1.th = d.th ∧ (K.ready s t d).2.2.1.now = d.now ∧ (K.step s t d).2.2.1.th = d.th ∧ (K.step s t d).2.2.1.now = d.now
  look : ∀ {w b kit vs s ts F}, K.At w b kit vs s ts F → ∀ op : Int, ∃ fv, (Instr.lookup 30 kit (.int .i64 op) false).run Try.prog w = .ok fv w ∧
    ((fv = .nilFunc ∧ ∀ mv : Mv, mv.op = op → K.make s mv = none) ∨
     ((∃ f x y, fv = .func f x y) ∧ ∀ (mv : Mv) (th : Nat), mv.op = op → mv.th = th → ts[th]? = some none → RunsV Try.prog fv #[.int .i64 mv.th, mv.v] w fun e w' =>
       (K.make s mv = none ∧ e = .returned .nilIface ∧ Only (fun _ => False) w w') ∨ ∃ t v F', K.make s mv = some t ∧ e = .returned v ∧ K.At w' b kit (vs.set th v) s (ts.set th (some t)) F' ∧ Only (fun _ => False) w w' ∧ ∀ k, F' k → F k ∨ w.heap.size ≤ k))
  ready_run : ∀ {w : World} {base xb db : Nat} {st : MachS} {v : MachV} {vs : List Value} {s : K.S} {ts : List (Option K.T)} {F : Nat → Prop} {ci i : Nat} {t : K.T} {y : Value}, MK K w base xb st v vs s ts F → ts[i]? = some (some t) → vs[i]? = some y → st.On ci i → st.d.Fits → DeskBox w xb db → ¬ v.own xb db → ¬ F db →
    Runs Try.prog y "Ready" #[.pointer (some ⟨db, 0, none⟩)] w (TaskOut K w base xb st v vs ts F i (K.ready s t st.d))
  step_run : ∀ {w : World} {base xb db : Nat} {st : MachS} {v : MachV} {vs : List Value} {s : K.S} {ts : List (Option K.T)} {F : Nat → Prop} {ci i : Nat} {t : K.T} {y : Value}, MK K w base xb st v vs s ts F → ts[i]? = some (some t) → vs[i]? = some y → st.On ci i → st.d.Fits → DeskBox w xb db → ¬ v.own xb db → ¬ F db →
    Runs Try.prog y "Step" #[.pointer (some ⟨db, 0, none⟩)] w (TaskOut K w base xb st v vs ts F i (K.step s t st.d))
end Go.Proofs.Ytbhbpfpggfcpgaa
namespace Go.Proofs.Ytbhbpfpggfcpgaa
open Go.ChangeShapes Go.WideShapes Go.ChangeAt Go.RowKit

/-- in a step: behind w0, with the desk at db -/
def InStep (K : Kits) (w0 : World) (base xb : Nat) (v0 : MachV) (vs : List Value) (F0 : Nat → Prop) (db ci si : Nat) (st : MachS) (s : K.S) (ts : List (Option K.T)) (w : World) : Prop :=
  ∃ v F, MK K w base xb st v vs s ts F ∧ Only (fun k => v0.own xb k ∨ F0 k) w0 w ∧ (∀ k, v.own xb k → v0.own xb k ∨ w0.heap.size ≤ k) ∧ (∀ k, F k → F0 k ∨ w0.heap.size ≤ k) ∧
    v.vse = v0.vse ∧ v.vca = v0.vca ∧ v.mb = v0.mb ∧ v.kit = v0.kit ∧ DeskBox w xb db ∧ ¬ v.own xb db ∧ ¬ F db ∧ w0.heap.size ≤ db ∧ st.On ci si

section
variable {K : Kits} {w0 w w1 : World} {base xb : Nat} {v0 : MachV} {vs : List Value} {F0 : Nat → Prop} {db ci si : Nat} {st : MachS} {s : K.S} {ts : List (Option K.T)}

theorem InStep.on (h : InStep K w0 base xb v0 vs F0 db ci si st s ts w) : st.On ci si := by
  obtain ⟨v, F, h1, h2, h3, h4, e1, e2, e3, e4, hd, n1, n2, hz, O⟩ := h
  exact O
theorem InStep.facts {g g2 : Nat} (h : InStep K w0 base xb v0 vs F0 db ci si st s ts w) (hg : v0.vse.rowBlock = some g) (hg2 : v0.vca.rowBlock = some g2) {se : Seat} {ca : Cal} (hse : st.seats[si]? = some se) (hca : st.calls[ci]? = some ca) :
    (w.cell? ⟨g, si * 5, none⟩ = some se.task ∧ w.cell? ⟨g, si * 5 + 1, none⟩ = some (.bool se.ready) ∧ w.cell? ⟨g, si * 5 + 2, none⟩ = some (.int .i64 se.last) ∧
      w.cell? ⟨g, si * 5 + 3, none⟩ = some (.int .i64 st.d.ak) ∧ w.cell? ⟨g, si * 5 + 4, none⟩ = some (.int .i64 st.d.av) ∧ (∀ j, w.frozen? ⟨g, j, none⟩ = false) ∧ g < w.heap.size) ∧
    (w.cell? ⟨g2, ci * 9 + 5, none⟩ = some (.int .i64 ca.en) ∧ w.cell? ⟨g2, ci * 9 + 7, none⟩ = some (.int .i64 ca.ak) ∧ w.cell? ⟨g2, ci * 9 + 8, none⟩ = some (.int .i64 ca.av) ∧
      (∀ j, w.frozen? ⟨g2, j, none⟩ = false) ∧ g2 < w.heap.size) ∧
    (w.cell? ⟨xb, 10, none⟩ = some v0.vca ∧ w.cell? ⟨xb, 3, none⟩ = some (.pointer (some ⟨g2, ci * 9, none⟩)) ∧ w.cell? ⟨xb, 4, none⟩ = some (.pointer (some ⟨g, si * 5 + 3, none⟩)) ∧ (∀ j, w.frozen? ⟨xb, j, none⟩ = false) ∧ xb < w.heap.size) ∧
    g ≠ xb ∧ g2 ≠ xb ∧ g ≠ g2 := by
  obtain ⟨v, F, h1, h2, h3, h4, e1, e2, e3, e4, hd, n1, n2, hz, O⟩ := h
  have := h1.m.stepFacts O (by rw [e1]; exact hg) (by rw [e2]; exact hg2) hse hca
  rw [e2] at this
  exact this

/-- a task's method -/
theorem InStep.task {v : MachV} {F : Nat → Prop} {r : K.S × K.T × DeskS × Bool} {e : Ending} (_h1 : MK K w base xb st v vs s ts F) (h2 : Only (fun k => v0.own xb k ∨ F0 k) w0 w) (h3 : ∀ k, v.own xb k → v0.own xb k ∨ w0.heap.size ≤ k) (h4 : ∀ k, F k → F0 k ∨ w0.heap.size ≤ k)
    (e1 : v.vse = v0.vse) (e2 : v.vca = v0.vca) (e3 : v.mb = v0.mb) (e4 : v.kit = v0.kit) (hd : DeskBox w xb db) (n1 : ¬ v.own xb db) (n2 : ¬ F db) (hz : w0.heap.size ≤ db) (O : st.On ci si)
    (hT : TaskOut K w base xb st v vs ts F si r e w1) : e = .returned (.bool r.2.2.2) ∧ InStep K w0 base xb v0 vs F0 db ci si { st with d := r.2.2.1 } r.1 (ts.set si (some r.2.1)) w1 := by
  obtain ⟨rfl, v', F', k1, k2, k3, k4, f1, f2, f3, f4⟩ := hT
  have hdl := hd.facts.2.2
  refine ⟨rfl, v', F', k1, h2.trans k2 ?_, ?_, ?_, f1.trans e1, f2.trans e2, f3.trans e3, f4.trans e4, hd.only k2 (fun x => x.elim n1 n2), ?_, ?_, hz, ⟨O.on, O.c, O.s⟩⟩
  · rintro k (hk | hk)
    · rcases h3 k hk with h | h
      · exact .inl (.inl h)
      · exact .inr h
    · rcases h4 k hk with h | h
      · exact .inl (.inr h)
      · exact .inr h
  · intro k hk
    rcases k3 k hk with h | h
    · exact h3 k h
    · have := h2.size; exact .inr (by omega)
  · intro k hk
    rcases k4 k hk with h | h
    · exact h4 k h
    · have := h2.size; exact .inr (by omega)
  · intro hk
    rcases k3 _ hk with h | h
    · exact n1 h
    · omega
  · intro hk
    rcases k4 _ hk with h | h
    · exact n2 h
    · omega

theorem InStep.run_ready (hK : KitsOk K) (h : InStep K w0 base xb v0 vs F0 db ci si st s ts w) {t : K.T} (ht : ts[si]? = some (some t)) (hf : st.d.Fits) {se : Seat} (hse : st.seats[si]? = some se) :
    Runs Try.prog se.task "Ready" #[.pointer (some ⟨db, 0, none⟩)] w fun e w' => e = .returned (.bool (K.ready s t st.d).2.2.2) ∧
      InStep K w0 base xb v0 vs F0 db ci si { st with d := (K.ready s t st.d).2.2.1 } (K.ready s t st.d).1 (ts.set si (some (K.ready s t st.d).2.1)) w' := by
  obtain ⟨v, F, h1, h2, h3, h4, e1, e2, e3, e4, hd, n1, n2, hz, O⟩ := h
  have hy : vs[si]? = some se.task := by rw [← h1.tasks, List.getElem?_map, hse]; rfl
  exact (hK.ready_run h1 ht hy O hf hd n1 n2).mono fun e w' hT => InStep.task h1 h2 h3 h4 e1 e2 e3 e4 hd n1 n2 hz O hT
theorem InStep.run_step (hK : KitsOk K) (h : InStep K w0 base xb v0 vs F0 db ci si st s ts w) {t : K.T} (ht : ts[si]? = some (some t)) (hf : st.d.Fits) {se : Seat} (hse : st.seats[si]? = some se) :
    Runs Try.prog se.task "Step" #[.pointer (some ⟨db, 0, none⟩)] w fun e w' => e = .returned (.bool (K.step s t st.d).2.2.2) ∧
      InStep K w0 base xb v0 vs F0 db ci si { st with d := (K.step s t st.d).2.2.1 } (K.step s t st.d).1 (ts.set si (some (K.step s t st.d).2.1)) w' := by
  obtain ⟨v, F, h1, h2, h3, h4, e1, e2, e3, e4, hd, n1, n2, hz, O⟩ := h
  have hy : vs[si]? = some se.task := by rw [← h1.tasks, List.getElem?_map, hse]; rfl
  exact (hK.step_run h1 ht hy O hf hd n1 n2).mono fun e w' hT => InStep.task h1 h2 h3 h4 e1 e2 e3 e4 hd n1 n2 hz O hT

/-- a cell of the machine's is written -/
theorem InStep.put {st' : MachS} {vs' : List Value} {ts' : List (Option K.T)} {p : Addr} {u : Value} (hK : KitsOk K) (h : InStep K w0 base xb v0 vs F0 db ci si st s ts w) (hp : ∀ v : MachV, v.vse = v0.vse → v.vca = v0.vca → v.own xb p.block) (hO : st'.On ci si)
    (hM : ∀ v, MachAt w base xb st v → v.vse = v0.vse → v.vca = v0.vca → MachAt (w.setCell p u) base xb st' v) (hts : st'.seats.map Seat.task = vs') (hA : ∀ (v : MachV) F, K.At w base v.kit vs s ts F → K.At w base v.kit vs' s ts' F) (hl : ts'.length = vs'.length) :
    InStep K w0 base xb v0 vs' F0 db ci si st' s ts' (w.setCell p u) := by
  obtain ⟨v, F, h1, h2, h3, h4, e1, e2, e3, e4, hd, n1, n2, hz, O⟩ := h
  have hpo := hp v e1 e2
  have hpd : db ≠ p.block := fun e => n1 (e ▸ hpo)
  refine ⟨v, F, ⟨hM v h1.m e1 e2, hK.loc (hA v F h1.k) (fun k hk => Below.heap_setCell _ _ _ _ (fun e => h1.sep k hk (e ▸ hpo))), h1.sep, hts, hl⟩, h2.set ?_ _, h3, h4, e1, e2, e3, e4, hd.of_block (Below.heap_setCell _ _ _ _ hpd), n1, n2, hz, hO⟩
  rcases h3 _ hpo with h | h
  · exact .inl (.inl h)
  · exact .inr h
theorem InStep.drew (hK : KitsOk K) (h : InStep K w0 base xb v0 vs F0 db ci si st s ts w) : InStep K w0 base xb v0 vs F0 db ci si st s ts w.drew := by
  obtain ⟨v, F, h1, h2, h3, h4, e1, e2, e3, e4, hd, n1, n2, hz, O⟩ := h
  exact ⟨v, F, ⟨h1.m.drew, hK.loc h1.k (fun _ _ => rfl), h1.sep, h1.tasks, h1.len⟩, h2.drew, h3, h4, e1, e2, e3, e4, hd, n1, n2, hz, O⟩
end

/-- behind the memory's Now and the desk's making -/
theorem InStep.begin {K : Kits} (hK : KitsOk K) {w w5 w1 : World} {base xb ci si : Nat} {st st0 : MachS} {v : MachV} {vs : List Value} {s : K.S} {ts : List (Option K.T)} {F : Nat → Prop} (H : MK K w base xb st v vs s ts F) (now : Int)
    (h5 : MachAt w5 base xb st0 v) (ho5 : Only (v.own xb) w w5) (hm : MemAt w1 base v.mb { st0.d.mem with move := now } v.mv) (ho : Only (v.mv.own v.mb) w5 w1) (hs : st0.seats = st.seats) (O : st0.On ci si) :
    (∃ v1, MachAt w1 base xb { st0 with d := { st0.d with mem := { st0.d.mem with move := now } } } v1 ∧ v1.vse = v.vse ∧ v1.vca = v.vca) ∧
    InStep K w base xb v vs F w1.heap.size ci si { st0 with d := { st0.d with mem := { st0.d.mem with move := now } } } s ts (w1.alloc (.cells #[.pointer (some ⟨xb, 0, none⟩)] 104)) := by
  obtain ⟨v1, k1, k2, k3, f1, f2, f3, f4⟩ := h5.mem_out (ms := { st0.d.mem with move := now }) ⟨v.mv, hm, ho, fun k hk => .inl hk⟩
  have hall := ho5.trans k2 (fun _ hk => .inl hk)
  have hsz := hall.size
  have hlt := k1.lt
  have hFl := hK.lt H.k
  have hown : ∀ k, v1.own xb k → v.own xb k ∨ w.heap.size ≤ k := fun k hk => by
    rcases k3 k hk with h | h
    · exact .inl h
    · have := ho5.size; exact .inr (by omega)
  refine ⟨⟨v1, k1, f1, f2⟩, v1, F, ⟨k1.alloc _, ?_, ?_, ?_, H.len⟩, ?_, hown, fun k hk => .inl hk, f1, f2, f3, f4, ?_, ?_, ?_, hsz, ⟨O.on, O.c, O.s⟩⟩
  · rw [f4]
    exact hK.loc H.k fun k hk => by rw [Below.heap_alloc _ _ _ (by have := (hFl k hk).2; omega)]; exact hall.block k (hFl k hk).2 (H.sep k hk)
  · intro k hk h
    rcases hown k h with h | h
    · exact H.sep k hk h
    · have := (hFl k hk).2; omega
  · rw [← H.tasks]; exact congrArg _ hs
  · exact (hall.mono fun k _ hk => .inl hk).alloc _
  · exact heap_alloc_new w1 _
  · intro hk
    have := (hlt _ hk).2
    omega
  · intro hk
    have := (hFl _ hk).2
    omega

/-- what a step leaves -/
def StepDone (K : Kits) (w0 : World) (base xb : Nat) (v0 : MachV) (F0 : Nat → Prop) (st : MachS) (vs : List Value) (s : K.S) (ts : List (Option K.T)) (w : World) : Prop :=
  ∃ v F, MK K w base xb st v vs s ts F ∧ Only (fun k => v0.own xb k ∨ F0 k) w0 w ∧ (∀ k, v.own xb k → v0.own xb k ∨ w0.heap.size ≤ k) ∧ (∀ k, F k → F0 k ∨ w0.heap.size ≤ k) ∧ v.mb = v0.mb ∧ v.kit = v0.kit

section
variable {K : Kits} {w0 w w1 : World} {base xb : Nat} {v0 : MachV} {vs : List Value} {F0 : Nat → Prop} {db ci si : Nat} {st : MachS} {s : K.S} {ts : List (Option K.T)}
theorem InStep.call (hK : KitsOk K) {g2 : Nat} (hg2 : v0.vca.rowBlock = some g2) (h : InStep K w0 base xb v0 vs F0 db ci si st s ts w) {j : Nat} (hj : j < 9) (f : Cal → Cal) (u : Value)
    (hf : ∀ c p, ({ f c with pt := p } : Cal).cells = ({ c with pt := p } : Cal).cells.set j u) : InStep K w0 base xb v0 vs F0 db ci si (st.withCall ci f) s ts (w.setCell ⟨g2, ci * 9 + j, none⟩ u) :=
  h.put hK (fun v _ e2 => .inr (.inr (.inr (.inr (by rw [e2]; exact hg2))))) (h.on.withCall _) (fun v hv _ e2 => hv.call_cell h.on (by rw [e2]; exact hg2) hj f u hf)
    (by obtain ⟨v, F, h1, _⟩ := h; exact h1.tasks) (fun _ _ h => h) (by obtain ⟨v, F, h1, _⟩ := h; exact h1.len)
theorem InStep.seat (hK : KitsOk K) {g : Nat} (hg : v0.vse.rowBlock = some g) (h : InStep K w0 base xb v0 vs F0 db ci si st s ts w) {j : Nat} (hj : j < 5) (f : Seat → Seat) (u : Value)
    (hf : ∀ c p q, ({ f c with ak := p, av := q } : Seat).cells = ({ c with ak := p, av := q } : Seat).cells.set j u) (ht : ∀ c, (f c).task = c.task) : InStep K w0 base xb v0 vs F0 db ci si (st.withSeat si f) s ts (w.setCell ⟨g, si * 5 + j, none⟩ u) :=
  h.put hK (fun v e1 _ => .inr (.inr (.inr (.inl (by rw [e1]; exact hg))))) (h.on.withSeat _) (fun v hv e1 _ => hv.seat_cell h.on (by rw [e1]; exact hg) hj f u hf)
    (by
      obtain ⟨v, F, h1, _⟩ := h
      rw [← h1.tasks]
      show (st.seats.modify si f).map Seat.task = _
      apply List.ext_getElem?
      intro i
      simp only [List.getElem?_map, List.getElem?_modify]
      split
      · cases st.seats[i]? <;> simp [ht]
      · simp) (fun _ _ h => h) (by obtain ⟨v, F, h1, _⟩ := h; exact h1.len)
/-- the task is gone -/
theorem InStep.gone (hK : KitsOk K) {g : Nat} (hg : v0.vse.rowBlock = some g) (h : InStep K w0 base xb v0 vs F0 db ci si st s ts w) : InStep K w0 base xb v0 (vs.set si .nilIface) F0 db ci si (st.withSeat si fun c => { c with task := .nilIface }) s (ts.set si none) (w.setCell ⟨g, si * 5 + 0, none⟩ .nilIface) :=
  h.put hK (fun v e1 _ => .inr (.inr (.inr (.inl (by rw [e1]; exact hg))))) (h.on.withSeat _) (fun v hv e1 _ => hv.seat_cell h.on (by rw [e1]; exact hg) (by decide) _ _ (fun _ _ _ => rfl))
    (by
      obtain ⟨v, F, h1, _⟩ := h
      rw [← h1.tasks]
      show (st.seats.modify si _).map Seat.task = _
      apply List.ext_getElem?
      intro i
      simp only [List.getElem?_map, List.getElem?_modify, List.getElem?_set, List.length_map]
      by_cases e : si = i
      · subst e
        by_cases hl : si < st.seats.length
        · simp [hl]
        · simp [hl]
      · simp [e]) (fun _ _ h => hK.drop h si) (by obtain ⟨v, F, h1, _⟩ := h; simpa using h1.len)
theorem InStep.done (hK : KitsOk K) (h : InStep K w0 base xb v0 vs F0 db ci si st s ts w) : StepDone K w0 base xb v0 F0 st.rest vs s ts ((w.setCell ⟨xb, 3, none⟩ (.pointer none)).setCell ⟨xb, 4, none⟩ (.pointer none)) := by
  obtain ⟨v, F, h1, h2, h3, h4, e1, e2, e3, e4, hd, n1, n2, hz, O⟩ := h
  have hx : v0.own xb xb := .inl rfl
  refine ⟨v, F, ⟨h1.m.rest, hK.loc h1.k (fun k hk => ?_), h1.sep, ?_, h1.len⟩, (h2.set (.inl (.inl hx)) _).set (.inl (.inl hx)) _, h3, h4, e3, e4⟩
  · have : k ≠ xb := fun e => h1.sep k hk (.inl e)
    simp [World.setCell, Array.getElem?_modify, Ne.symm this]
  · rw [← h1.tasks]
    show st.seatsNow.map Seat.task = _
    rw [O.seatsE]
    apply List.ext_getElem?
    intro i
    simp only [List.getElem?_map, List.getElem?_modify]
    split
    · cases st.seats[i]? <;> simp
    · simp
theorem StepDone.drew (hK : KitsOk K) (h : StepDone K w0 base xb v0 F0 st vs s ts w) : StepDone K w0 base xb v0 F0 st vs s ts w.drew := by
  obtain ⟨v, F, h1, h2, h3, h4, e⟩ := h
  exact ⟨v, F, ⟨h1.m.drew, hK.loc h1.k (fun _ _ => rfl), h1.sep, h1.tasks, h1.len⟩, h2.drew, h3, h4, e⟩
end

end Go.Proofs.Ytbhbpfpggfcpgaa
namespace Go.Proofs.Ytbhbpfpggfcpgaa
open Go.ChangeShapes Go.WideShapes Go.ChangeAt Go.RowKit

set_option maxRecDepth 100000 in
set_option maxHeartbeats 2000000 in
theorem step_any {K : Kits} (hK : KitsOk K) {w : World} {base xb : Nat} {st : MachS} {v : MachV} {vs : List Value} {s : K.S} {ts : List (Option K.T)} {F : Nat → Prop} (H : MK K w base xb st v vs s ts F)
    (hon : st.on = none) (th ci : Nat) (hth : th < st.seats.length) (hci : ci < st.calls.length) (se : Seat) (hse : st.seats[th]? = some se) (ca : Cal) (hca : st.calls[ci]? = some ca) (hlast : se.last = ci) (t : K.T) (ht : ts[th]? = some (some t)) (now : Int)
    (hf1 : st.d.mem.log.length ≤ 2000000000000) (hf2 : st.d.mem.ahead.length ≤ 2000000000000) (hf3 : st.d.shifts.length ≤ 2000000000000) :
    Calls Try.prog 53 #[.pointer (some ⟨xb, 0, none⟩), .int .i64 (th : Int), .int .i64 now] w fun e w' => e = .returned (.tuple #[]) ∧
      StepDone K w base xb v F (({ st with d := (K.r2 (K.r1 se.ready s t (st.d.first th now ca se))).2.2.1, on := some (ci, th), seats := st.seats.modify th fun x => { x with ready := true } } : MachS).stepped ci th now (K.r2 (K.r1 se.ready s t (st.d.first th now ca se))).2.2.2)
        (if (K.r2 (K.r1 se.ready s t (st.d.first th now ca se))).2.2.2 then vs.set th .nilIface else vs) (K.r2 (K.r1 se.ready s t (st.d.first th now ca se))).1
        (if (K.r2 (K.r1 se.ready s t (st.d.first th now ca se))).2.2.2 then ts.set th none else ts.set th (some (K.r2 (K.r1 se.ready s t (st.d.first th now ca se))).2.1)) w' := by
  obtain ⟨c0, c1, c2, c3, c4, c5, c6, c7, c8, c9, c10, z, lt⟩ := H.m.head
  obtain ⟨g, cap, e, hcap, hrb, hglt, hgx, gz, gc⟩ := H.m.seats_form hth
  obtain ⟨g2, cap2, e2, hcap2, hrb2, hglt2, hgx2, gz2, gc2⟩ := H.m.calls_form hci
  have hgg : g ≠ g2 := fun e => by have h1 := H.m.ce _ hrb; have h2 := H.m.cc _ hrb2; rw [e, h2] at h1; cases h1
  have hs2 := gc 2 (by decide)
  have esn : st.seatsNow = st.seats := by unfold MachS.seatsNow; rw [hon]
  simp only [esn] at hs2
  replace hs2 : w.cell? ⟨g, th * 5 + 2, none⟩ = some (.int .i64 (ci : Int)) := by rw [hs2, (List.getElem?_eq_some_iff.1 hse).2]; simp [Seat.cells, hlast]
  obtain ⟨st1, HE⟩ : ∃ st1, Hid (st1 = { st with d := { (st.d.fresh th now st.calls[ci] st.seats[th]) with mem := { st.d.mem with move := now } }, on := some (ci, th) }) := ⟨_, Lib.hid rfl⟩
  have HB := Lib.hid ((H.m.begin hon hci hth th now hrb hrb2).drew)
  have HBO := Lib.hid (show Only (v.own xb) w (((((w.setCell ⟨xb, 1, none⟩ (.int .i64 th)).setCell ⟨xb, 2, none⟩ (.int .i64 now)).setCell ⟨xb, 5, none⟩ (.bool false)).setCell ⟨xb, 3, none⟩ (.pointer (some ⟨g2, ci * 9, none⟩))).setCell ⟨xb, 4, none⟩ (.pointer (some ⟨g, th * 5 + 3, none⟩))).drew from
    ((((((Only.refl _ _).set (.inl (.inl rfl)) _).set (.inl (.inl rfl)) _).set (.inl (.inl rfl)) _).set (.inl (.inl rfl)) _).set (.inl (.inl rfl)) _).drew)
  have HH := Lib.hid H
  have HR := Lib.hid hrb
  have HR2 := Lib.hid hrb2
  have HT := Lib.hid ht
  have Hth := Lib.hid hth
  have Hci := Lib.hid hci
  have EV := Lib.hid e2
  rw [e] at c8
  rw [e2] at c10
  have HSE := Lib.hid hse
  have HCA := Lib.hid hca
  clear gc gc2 e e2 c6 c7 c9 esn hrb hrb2 ht
  have HE1 : Hid (st1.d = st.d.first th now ca se) := Lib.hid (by rw [HE.out]; unfold DeskS.first; rw [(List.getElem?_eq_some_iff.1 hse).2, (List.getElem?_eq_some_iff.1 hca).2])
  obtain ⟨rdy, hrdy⟩ : ∃ r, Hid (se.ready = r) := ⟨_, Lib.hid rfl⟩
  obtain ⟨R, hR⟩ : ∃ R, Hid (K.r2 (K.r1 se.ready s t (st.d.first th now ca se)) = R) := ⟨_, Lib.hid rfl⟩
  rw [hR.out]
  go_enter Try.func53, Try.ntmps53
  go_upto_region 3 with (fail)
  go_region
  go_wp2_with (go_at_call 68; fail)
  refine (now_mem HB.out.mem now).mono ?_
  rintro e w1 ⟨rfl, hm, ho⟩
  have HI0 := InStep.begin hK HH.out now HB.out HBO.out hm ho rfl ⟨rfl, Hci.out, Hth.out⟩
  replace HI0 : (∃ v1, MachAt w1 base xb st1 v1 ∧ v1.vse = v.vse ∧ v1.vca = v.vca) ∧ InStep K w base xb v vs F w1.heap.size ci th st1 s ts (w1.alloc (.cells #[.pointer (some ⟨xb, 0, none⟩)] 104)) := by rw [HE.out]; exact HI0
  obtain ⟨⟨v1, hv1, ev1, ev2⟩, hI⟩ := HI0
  have HI := Lib.hid hI
  obtain ⟨⟨s0, s1, s2, s3, s4, sz, slt⟩, ⟨k5, k7, k8, kz, klt⟩, ⟨x10, x3, x4, xz, xlt⟩, n1, n2, n3⟩ := hv1.stepFacts hI.on (by rw [ev1]; exact HR.out) (by rw [ev2]; exact HR2.out) (se := se) (ca := ca) (by rw [HE.out]; exact hse) (by rw [HE.out]; exact hca)
  clear hm ho hI hv1 ev1 ev2 c0 c1 c2 c3 c4 c5 c8 c10 hs2 lt z hglt gz gz2 hglt2 s2 s3 s4 k5 k7 k8 x10 x3 x4
  rw [hrdy.out] at s1
  go_upto_if 61 with (fail)
  have HF1 := Lib.hid (show st1.d.Fits by rw [HE.out]; exact ⟨by show st.d.mem.log.length ≤ _; omega, by show st.d.mem.ahead.length ≤ _; omega, by show st.d.shifts.length ≤ _; omega⟩)
  have HSE1 := Lib.hid (show st1.seats[th]? = some se by rw [HE.out]; exact HSE.out)
  have HCA1 := Lib.hid (show st1.calls[ci]? = some ca by rw [HE.out]; exact HCA.out)
  obtain ⟨ty, tx, hty⟩ := hK.busy H.k th t HT.out
  have hset : Hid (se.task = .iface ty tx) := by
    refine Lib.hid ?_
    have : vs[th]? = some se.task := by rw [← H.tasks, List.getElem?_map, HSE.out]; rfl
    rw [hty] at this
    exact (Option.some.inj this).symm
  rw [hset.out] at s0
  clear hty hse hca
  go_cut [9] (fun over wx => over = .bool (K.r1 rdy s t st1.d).2.2.2 ∧ InStep K w base xb v vs F w1.heap.size ci th { (st1.withSeat th fun x => { x with ready := true }) with d := (K.r1 rdy s t st1.d).2.2.1 } (K.r1 rdy s t st1.d).1 (ts.set th (some (K.r1 rdy s t st1.d).2.1)) wx)
  case first =>
    cases rdy with
    | true =>
      go_wp2
      go_meet
      have e1 : (st1.withSeat th fun x => { x with ready := true }) = st1 := by
        unfold MachS.withSeat
        rw [modify_same st1.seats th _ (fun hi => by rw [(List.getElem?_eq_some_iff.1 HSE1.out).2, ← show se.ready = true from hrdy.out])]
      have e2 : ts.set th (some t) = ts := by
        apply List.ext_getElem?
        intro j
        rw [List.getElem?_set]
        split
        · subst_vars; rw [HT.out]; simp [(List.getElem?_eq_some_iff.1 HT.out).1]
        · rfl
      exact ⟨rfl, by rw [r1_true, e1]; simp only [e2]; exact HI.out⟩
    | false =>
      have HI2 := Lib.hid (HI.out.seat hK HR.out (j := 1) (by decide) (fun x => { x with ready := true }) (.bool true) (fun _ _ _ => rfl) (fun _ => rfl))
      have e1 : (w1.alloc (.cells #[.pointer (some ⟨xb, 0, none⟩)] 104)).setCell ⟨g, th * 5 + 1, none⟩ (.bool true) = (w1.setCell ⟨g, th * 5 + 1, none⟩ (.bool true)).alloc (.cells #[.pointer (some ⟨xb, 0, none⟩)] 104) := by
        rw [World.setCell_alloc_ite, if_neg (by omega)]
      rw [e1] at HI2
      have HRun := HI2.out.run_ready hK HT.out HF1.out (se := { se with ready := true }) (by show (st1.seats.modify th _)[th]? = _; rw [List.getElem?_modify, HSE1.out]; simp)
      rw [show ({ se with ready := true } : Seat).task = .iface ty tx from hset.out] at HRun
      have HRun' := Lib.hid HRun
      clear HRun e1
      go_wp2_with (refine wpList_invoke rfl _ _ _ _ rfl (.iface ty tx) (.pointer (some ⟨w1.heap.size, 0, none⟩)) rfl rfl _ HRun'.out ?_; rintro e w' ⟨rfl, hI⟩; refine ⟨_, rfl, ?_⟩; have HI3 := Lib.hid hI; clear hI)
      go_meet
      exact ⟨rfl, HI3.out⟩
  case rest =>
    clear s0 s1 sz slt kz klt xz xlt
    obtain ⟨rfl, hI⟩ := hcut
    obtain ⟨r, hr⟩ : ∃ r, Hid (K.r1 rdy s t st1.d = r) := ⟨_, Lib.hid rfl⟩
    rw [hr.out] at hI ⊢
    obtain ⟨s', t', d', o'⟩ := r
    simp only at hI
    obtain ⟨st2, HE2⟩ : ∃ st2, Hid (st2 = { (st1.withSeat th fun x => { x with ready := true }) with d := d' }) := ⟨_, Lib.hid rfl⟩
    rw [← HE2.out] at hI
    have HI1 := Lib.hid hI
    have HSE2 : Hid (st2.seats[th]? = some { se with ready := true }) := Lib.hid (by
      rw [HE2.out]
      show (st1.seats.modify th _)[th]? = _
      rw [List.getElem?_modify, HSE1.out]
      simp)
    have HCA2 : Hid (st2.calls[ci]? = some ca) := Lib.hid (by rw [HE2.out]; exact HCA1.out)
    have HF2 : Hid st2.d.Fits := Lib.hid (by
      rw [HE2.out]
      have hd0 : (K.r1 rdy s t st1.d).2.2.1 = d' := by rw [hr.out]
      have hfw := hK.few s t st1.d
      have hl1 : st1.d.mem.log.length = st.d.mem.log.length := by rw [HE.out]
      have hl2 : st1.d.mem.ahead.length = st.d.mem.ahead.length := by rw [HE.out]
      have hl3 : st1.d.shifts.length = st.d.shifts.length := by rw [HE.out]; rfl
      show d'.Fits
      rw [← hd0]
      cases rdy with
      | true => exact HF1.out
      | false =>
        rw [r1_false]
        refine ⟨?_, ?_, ?_⟩ <;> omega)
    have HT2 : Hid ((ts.set th (some t'))[th]? = some (some t')) := Lib.hid (by rw [List.getElem?_set]; simp [(List.getElem?_eq_some_iff.1 HT.out).1])
    obtain ⟨⟨s0, s1, s2, s3, s4, sz, slt⟩, ⟨k5, k7, k8, kz, klt⟩, ⟨x10, x3, x4, xz, xlt⟩, _⟩ := hI.facts HR.out HR2.out HSE2.out HCA2.out
    simp only [hset.out] at s0
    clear hI s1 s2 s3 s4 k5 k7 k8 x10 x3 x4
    go_upto_if 72 with (fail)
    go_cut [9] (fun over wx => over = .bool (K.r2 (s', t', d', o')).2.2.2 ∧ InStep K w base xb v vs F w1.heap.size ci th { st2 with d := (K.r2 (s', t', d', o')).2.2.1 } (K.r2 (s', t', d', o')).1 ((ts.set th (some t')).set th (some (K.r2 (s', t', d', o')).2.1)) wx)
    case first =>
      cases o' with
      | true =>
        go_wp2
        go_meet
        have e2 : (ts.set th (some t')).set th (some t') = ts.set th (some t') := by simp
        refine ⟨rfl, ?_⟩
        rw [show K.r2 (s', t', d', true) = (s', t', d', true) from rfl, e2, show ({ st2 with d := d' } : MachS) = st2 by rw [HE2.out]]
        exact HI1.out
      | false =>
        have HRun := HI1.out.run_step hK HT2.out HF2.out HSE2.out
        rw [show ({ se with ready := true } : Seat).task = .iface ty tx from hset.out] at HRun
        have HRun' := Lib.hid HRun
        clear HRun
        go_wp2_with (refine wpList_invoke rfl _ _ _ _ rfl (.iface ty tx) (.pointer (some ⟨w1.heap.size, 0, none⟩)) rfl rfl _ HRun'.out ?_; rintro e w' ⟨rfl, hI⟩; refine ⟨_, rfl, ?_⟩; have HI3 := Lib.hid hI; clear hI)
        go_meet
        rw [show K.r2 (s', t', d', false) = K.step s' t' d' from rfl]
        have ed : st2.d = d' := by rw [HE2.out]
        rw [ed] at HI3
        exact ⟨by rw [ed], HI3.out⟩
    case rest =>
      clear s0 sz slt kz klt xz xlt
      obtain ⟨rfl, hI⟩ := hcut
      obtain ⟨r, hr2⟩ : ∃ r, Hid (K.r2 (s', t', d', o') = r) := ⟨_, Lib.hid rfl⟩
      rw [hr2.out] at hI ⊢
      obtain ⟨s3, t3, d3, o3⟩ := r
      simp only [List.set_set] at hI
      obtain ⟨st3, HE3⟩ : ∃ st3, Hid (st3 = { st2 with d := d3 }) := ⟨_, Lib.hid rfl⟩
      rw [← HE3.out] at hI
      have HI2 := Lib.hid hI
      have HSE3 : Hid (st3.seats[th]? = some { se with ready := true }) := Lib.hid (by rw [HE3.out]; exact HSE2.out)
      have HCA3 : Hid (st3.calls[ci]? = some ca) := Lib.hid (by rw [HE3.out]; exact HCA2.out)
      obtain ⟨⟨s0, s1, s2, s3', s4, sz, slt⟩, ⟨k5, k7, k8, kz, klt⟩, ⟨x10, x3, x4, xz, xlt⟩, _⟩ := hI.facts HR.out HR2.out HSE3.out HCA3.out
      simp only [hset.out] at s0
      rw [show ({ se with ready := true } : Seat).last = ci from hlast] at s2
      rw [EV.out] at x10
      have hRR : R = (s3, t3, d3, o3) := by rw [← hR.out, ← HE1.out, hrdy.out, hr.out, hr2.out]
      subst hRR
      have hst3 : st3 = ({ st with d := d3, on := some (ci, th), seats := st.seats.modify th fun x => { x with ready := true } } : MachS) := by
        rw [HE3.out, HE2.out, HE.out]; rfl
      cases o3 with
      | true =>
        go_wp2
        go_region
        go_wp2
        go_region
        go_wp2
        go_end0
        refine ⟨rfl, ?_⟩
        rw [← hst3]
        have ed : st3.d = d3 := by rw [HE3.out]
        have D1 := HI2.out.call hK HR2.out (j := 5) (by decide) (fun c => { c with en := now }) (.int .i64 now) (fun _ _ => rfl)
        have D2 := D1.call hK HR2.out (j := 7) (by decide) (fun c => { c with ak := st3.d.ak }) (.int .i64 st3.d.ak) (fun _ _ => rfl)
        have D3 := D2.call hK HR2.out (j := 8) (by decide) (fun c => { c with av := st3.d.av }) (.int .i64 st3.d.av) (fun _ _ => rfl)
        have D4 := (((D3.gone hK HR.out).done hK).drew hK).drew hK
        rw [← ed]
        rw [List.set_set] at D4
        exact D4
      | false =>
        go_wp2
        go_end0
        refine ⟨rfl, ?_⟩
        rw [← hst3]
        exact HI2.out.done hK
end Go.Proofs.Ytbhbpfpggfcpgaa
namespace Go
open Go.RowKit
section
variable {w w1 : World} {base xb : Nat} {st : MachS} {v : MachV} {ci si g : Nat}
theorem MachAt.seat_cell0 (H : MachAt w base xb st v) (hon : st.on = none) (hs : si < st.seats.length) (hg : v.vse.rowBlock = some g) {j : Nat} (hj : j < 5) (f : Seat → Seat) (u : Value)
    (hf : ∀ c, (f c).cells = c.cells.set j u) : MachAt (w.setCell ⟨g, si * 5 + j, none⟩ u) base xb (st.withSeat si f) v := by
  have e1 : st.seatsNow = st.seats := by unfold MachS.seatsNow; rw [hon]
  have e2 : (st.withSeat si f).seatsNow = st.seats.modify si f := by unfold MachS.seatsNow MachS.withSeat; simp only [hon]
  refine H.put_seat (st' := st.withSeat si f) hg (j := si * 5 + j) (u := u) (by omega) ⟨rfl, rfl, rfl, rfl, rfl, rfl, rfl, rfl, by simp [MachS.withSeat]⟩ ?_
  rw [e1, e2, seatC_set st.seats si j hs hj (f st.seats[si]) u (hf _)]
  congr 1
  apply List.ext_getElem?
  intro i
  simp only [List.getElem?_set, List.getElem?_modify]
  by_cases e : si = i
  · subst e; simp [hs]
  · simp [e]
theorem withSeat_on (st : MachS) (si : Nat) (f : Seat → Seat) : (st.withSeat si f).on = st.on := rfl
theorem withSeat_len (st : MachS) (si : Nat) (f : Seat → Seat) : (st.withSeat si f).seats.length = st.seats.length := by simp [MachS.withSeat]

/-- a seat is laid anew -/
theorem MachAt.seat_whole (H : MachAt w base xb st v) (hon : st.on = none) (hs : si < st.seats.length) (hg : v.vse.rowBlock = some g) (x : Seat) :
    MachAt (((((w.setCell ⟨g, si * 5, none⟩ x.task).setCell ⟨g, si * 5 + 1, none⟩ (.bool x.ready)).setCell ⟨g, si * 5 + 2, none⟩ (.int .i64 x.last)).setCell ⟨g, si * 5 + 3, none⟩ (.int .i64 x.ak)).setCell ⟨g, si * 5 + 4, none⟩ (.int .i64 x.av)) base xb { st with seats := st.seats.set si x } v := by
  have h1 := H.seat_cell0 hon hs hg (j := 0) (by decide) (fun c => { c with task := x.task }) x.task (fun _ => rfl)
  have h2 := h1.seat_cell0 hon (by rw [withSeat_len]; exact hs) hg (j := 1) (by decide) (fun c => { c with ready := x.ready }) (.bool x.ready) (fun _ => rfl)
  have h3 := h2.seat_cell0 hon (by rw [withSeat_len, withSeat_len]; exact hs) hg (j := 2) (by decide) (fun c => { c with last := x.last }) (.int .i64 x.last) (fun _ => rfl)
  have h4 := h3.seat_cell0 hon (by rw [withSeat_len, withSeat_len, withSeat_len]; exact hs) hg (j := 3) (by decide) (fun c => { c with ak := x.ak }) (.int .i64 x.ak) (fun _ => rfl)
  have h5 := h4.seat_cell0 hon (by rw [withSeat_len, withSeat_len, withSeat_len, withSeat_len]; exact hs) hg (j := 4) (by decide) (fun c => { c with av := x.av }) (.int .i64 x.av) (fun _ => rfl)
  have e : (((((st.withSeat si fun c => { c with task := x.task }).withSeat si fun c => { c with ready := x.ready }).withSeat si fun c => { c with last := x.last }).withSeat si fun c => { c with ak := x.ak }).withSeat si fun c => { c with av := x.av }) = { st with seats := st.seats.set si x } := by
    unfold MachS.withSeat
    congr 1
    apply List.ext_getElem?
    intro i
    simp only [List.getElem?_set, List.getElem?_modify]
    by_cases e : si = i
    · subst e; simp [hs]
    · simp [e]
  rw [e] at h5
  exact h5

/-- calls = append(calls, x) -/
theorem MachAt.app_call (H : MachAt w base xb st v) (hon : st.on = none) {v' : Value} {x : Cal} (hown : w1.RowV base 63 9 v' (st.calls.length + 1) (cals st.calls ++ x.cells)) (ho : RowOut w w1 v.vca v' st.calls.length 1) :
    MachOut w base xb v { st with calls := st.calls ++ [x] } (w1.setCell ⟨xb, 10, none⟩ v') := by
  have hn : ∀ k, v'.rowBlock = some k → v.vca.rowBlock = some k ∨ k = w.heap.size := fun k hk => ho.news hk
  have hlt := H.lt
  have hx := hlt xb (.inl rfl)
  have hc2 : ∀ k, v.col k ≠ 4 → v.vca.rowBlock ≠ some k := fun k hk e => hk (H.cc k e)
  have e2 : ({ st with calls := st.calls ++ [x] } : MachS).callsNow = st.calls ++ [x] := by unfold MachS.callsNow; simp only [hon]
  have e3 : ({ st with calls := st.calls ++ [x] } : MachS).seatsNow = st.seatsNow := by unfold MachS.seatsNow; simp only [hon]
  have hblk : w1.heap[xb]? = some (.cells #[.pointer (some ⟨v.mb, 0, none⟩), .int .i64 st.d.th, .int .i64 st.d.now, st.callC v, st.toldC v, .bool st.d.used, v.vsh, v.kit, v.vse, .int .i64 st.moves, v.vca] 100) := by
    rw [ho.block hx.2 (hc2 _ (by rw [H.cx]; decide))]; exact H.blk
  have hne : ∀ k, v'.rowBlock = some k → k ≠ xb := fun k hk e => by
    rcases hn k hk with h1 | h1
    · exact H.nc k h1 e
    · omega
  refine ⟨{ v with vca := v', col := fun k => if w.heap.size ≤ k then 4 else v.col k }, ⟨?_, H.ge, ?_, ?_, ?_, ?_, ?_, ?_, ?_, ?_, ?_⟩, ?_, ?_, rfl, rfl⟩
  · simp [World.setCell, Array.getElem?_modify, hblk]
    unfold MachS.callC MachS.toldC
    simp only [hon]
    exact ⟨trivial, trivial⟩
  · exact (ho.mem H.mem (fun k hk => hc2 k (by rw [H.cm k hk]; decide))).set_other H.nm _
  · exact (ho.kept H.rsh (fun k hk => hc2 k (by rw [H.cs k hk]; decide))).set H.ns _
  · rw [e3]; exact (ho.kept H.rse (fun k hk => hc2 k (by rw [H.ce k hk]; decide))).set H.ne _
  · rw [e2, cals_snoc, List.length_append]
    exact hown.set hne _
  · show (if _ then _ else _) = _
    rw [if_neg (by omega)]; exact H.cx
  · intro k e
    show (if _ then _ else _) = _
    rw [if_neg (by have := (H.mem.lt k e).2; omega)]; exact H.cm k e
  · intro k e
    show (if _ then _ else _) = _
    rw [if_neg (by have := (H.rsh.lt k e).2; omega)]; exact H.cs k e
  · intro k e
    show (if _ then _ else _) = _
    rw [if_neg (by have := (H.rse.lt k e).2; omega)]; exact H.ce k e
  · intro k e
    show (if _ then _ else _) = _
    split
    · rfl
    · rcases hn k e with h1 | h1
      · exact H.cc k h1
      · omega
  · exact (Only.out ho (fun k hk => .inr (.inr (.inr (.inr hk))))).set (.inl (.inl rfl)) _
  · rintro k (e | e | e | e | e)
    · exact .inl (.inl e)
    · exact .inl (.inr (.inl e))
    · exact .inl (.inr (.inr (.inl e)))
    · exact .inl (.inr (.inr (.inr (.inl e))))
    · rcases hn k e with h1 | h1
      · exact .inl (.inr (.inr (.inr (.inr h1))))
      · exact .inr (by omega)

/-- one more move -/
theorem MachAt.count (H : MachAt w base xb st v) (n : Int) : MachAt (w.setCell ⟨xb, 9, none⟩ (.int .i64 n)) base xb { st with moves := n } v :=
  H.put0 rfl rfl rfl (by unfold MachS.seatsNow; cases st.on <;> rfl) (by unfold MachS.callsNow; cases st.on <;> rfl)
end
end Go
namespace Go.Proofs.Ytbhbpfpggfcpgaa
open Go.ChangeShapes Go.WideShapes Go.ChangeAt Go.RowKit
section
variable {K : Kits} {w w1 : World} {base xb : Nat} {st : MachS} {v : MachV} {vs : List Value} {s : K.S} {ts : List (Option K.T)} {F : Nat → Prop}
theorem MK.count (hK : KitsOk K) (H : MK K w base xb st v vs s ts F) (n : Int) : MK K (w.setCell ⟨xb, 9, none⟩ (.int .i64 n)) base xb { st with moves := n } v vs s ts F :=
  ⟨H.m.count n, hK.loc H.k fun k hk => Below.heap_setCell _ _ _ _ (fun e => H.sep k hk (.inl e)), H.sep, H.tasks, H.len⟩
theorem MK.alloc (hK : KitsOk K) (H : MK K w base xb st v vs s ts F) (o : Obj) : MK K (w.alloc o) base xb st v vs s ts F :=
  ⟨H.m.alloc o, hK.loc H.k fun k hk => Below.heap_alloc _ _ _ (hK.lt H.k k hk).2, H.sep, H.tasks, H.len⟩
theorem MK.drew (hK : KitsOk K) (H : MK K w base xb st v vs s ts F) : MK K w.drew base xb st v vs s ts F :=
  ⟨H.m.drew, hK.loc H.k fun _ _ => rfl, H.sep, H.tasks, H.len⟩
end
end Go.Proofs.Ytbhbpfpggfcpgaa
