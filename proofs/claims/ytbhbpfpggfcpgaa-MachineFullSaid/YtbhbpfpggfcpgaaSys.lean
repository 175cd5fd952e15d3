/-
Calls by name of method and of function values; what a kit's tasks are (Kits).
-/
import Derived.Test.YtbhbpfpggfcpgaaMchE
import Derived.Test.YtbhbpfpggfcpgaaMchS
namespace Go
open Go.RowKit

/-- a call of a method of an interface value -/
def Runs (P : Program) (v : Value) (name : String) (args : Array Value) (w : World) (R : Ending → World → Prop) : Prop :=
  ∃ f rv, (∀ xs w0, (callMethod v name xs).run P w0 = .ok (.enter f (#[rv] ++ xs)) w0) ∧ Calls P f (#[rv] ++ args) w R
/-- a call of a function value -/
def RunsV (P : Program) (fv : Value) (args : Array Value) (w : World) (R : Ending → World → Prop) : Prop :=
  ∃ f as', (∀ w0, (do let d ← Deferred.ofValue fv args; invoke d.target d.args : Sem Next).run P w0 = .ok (.enter f as') w0) ∧ Calls P f as' w R

theorem Runs.mono {P : Program} {v : Value} {name : String} {args : Array Value} {w : World} {R R' : Ending → World → Prop} (h : Runs P v name args w R) (k : ∀ e w', R e w' → R' e w') : Runs P v name args w R' := by
  obtain ⟨f, rv, h1, h2⟩ := h
  exact ⟨f, rv, h1, h2.mono k⟩
theorem RunsV.mono {P : Program} {v : Value} {args : Array Value} {w : World} {R R' : Ending → World → Prop} (h : RunsV P v args w R) (k : ∀ e w', R e w' → R' e w') : RunsV P v args w R' := by
  obtain ⟨f, rv, h1, h2⟩ := h
  exact ⟨f, rv, h1, h2.mono k⟩

section
variable {P : Program} {ops : Array Oper} {rest : List Oper} {o : Oper} {a : Act} {Q : Exit → Act → World → Prop} {w : World}
theorem wpList_invoke (hgd : o.guard = none) (recv x : Operand) (name : String) (ty : Array TypeId) (ho : o.op = .call { callee := .invoke recv name, args := #[x], argTypes := ty })
    (v u : Value) (hv : a.eval recv = v) (hu : a.eval x = u) (R : Ending → World → Prop) (h : Runs P v name #[u] w R) (hk : ∀ e w', R e w' → ∃ y, e = .returned y ∧ wpList P ops Q rest (a.put o.dst y) w') : wpList P ops Q (o :: rest) a w := by
  refine wpList_plain hgd fun K hK => ?_
  obtain ⟨f, rv, h1, h2⟩ := h
  unfold Oper.wp execOp
  simp only [ho, resolve, Sem.run_bind, Sem.run_pure, Result.andThen_ok, hv, List.map_toArray, List.map_cons, List.map_nil, hu, invoke]
  have e1 : (#[v] ++ #[u] : Array Value)[0]? = some v := rfl
  have e2 : (#[v] ++ #[u] : Array Value).extract 1 (#[v] ++ #[u] : Array Value).size = #[u] := rfl
  simp only [e1, e2, h1]
  refine h2.mono fun e w' hr => ?_
  obtain ⟨y, rfl, hy⟩ := hk e w' hr
  exact hK _ _ hy
theorem wpList_value (hgd : o.guard = none) (fo x y : Operand) (ty : Array TypeId) (ho : o.op = .call { callee := .value fo, args := #[x, y], argTypes := ty })
    (fv u1 u2 : Value) (hf : a.eval fo = fv) (hu1 : a.eval x = u1) (hu2 : a.eval y = u2) (R : Ending → World → Prop) (h : RunsV P fv #[u1, u2] w R) (hk : ∀ e w', R e w' → ∃ z, e = .returned z ∧ wpList P ops Q rest (a.put o.dst z) w') : wpList P ops Q (o :: rest) a w := by
  refine wpList_plain hgd fun K hK => ?_
  obtain ⟨f, as', h1, h2⟩ := h
  unfold Oper.wp execOp
  have h3 := h1 w
  simp only [ho, resolve, hf, List.map_toArray, List.map_cons, List.map_nil, hu1, hu2]
  rw [h3]
  refine h2.mono fun e w' hr => ?_
  obtain ⟨z, rfl, hy⟩ := hk e w' hr
  exact hK _ _ hy
end

structure Mv where
  th : Int
  op : Int
  arg : Int
  data : Int
deriving DecidableEq, Inhabited
def Mv.v (m : Mv) : Value := .agg #[.int .i64 m.th, .int .i64 m.op, .int .i64 m.arg, .int .i64 m.data]
def Mv.cells (m : Mv) : List Value := [.int .i64 m.th, .int .i64 m.op, .int .i64 m.arg, .int .i64 m.data]

/-- a kit: its tasks, and what they share -/
structure Kits where
  T : Type
  S : Type
  At : World → Nat → Value → List Value → S → List (Option T) → (Nat → Prop) → Prop
  make : S → Mv → Option T
  ready : S → T → DeskS → S × T × DeskS × Bool
  step : S → T → DeskS → S × T × DeskS × Bool
/-- the desk before a task's first method in a step -/
def DeskS.first (d : DeskS) (th now : Int) (c : Cal) (s : Seat) : DeskS := { (d.fresh th now c s) with mem := { d.mem with move := now } }
/-- Ready, if it is the first step -/
def Kits.r1 (K : Kits) (rdy : Bool) (s : K.S) (t : K.T) (d : DeskS) : K.S × K.T × DeskS × Bool := if rdy then (s, t, d, false) else K.ready s t d
/-- and Step, if it is not over -/
def Kits.r2 (K : Kits) (r : K.S × K.T × DeskS × Bool) : K.S × K.T × DeskS × Bool := if r.2.2.2 then r else K.step r.1 r.2.1 r.2.2.1
theorem r1_true (K : Kits) (s : K.S) (t : K.T) (d : DeskS) : K.r1 true s t d = (s, t, d, false) := rfl
theorem r1_false (K : Kits) (s : K.S) (t : K.T) (d : DeskS) : K.r1 false s t d = K.ready s t d := rfl
end Go
namespace Go.Proofs.Ytbhbpfpggfcpgaa
open Go.ChangeShapes Go.WideShapes Go.ChangeAt Go.RowKit

/-- the machine at xb and what its kit holds -/
structure MK (K : Kits) (w : World) (base xb : Nat) (st : MachS) (v : MachV) (vs : List Value) (s : K.S) (ts : List (Option K.T)) (F : Nat → Prop) : Prop where
  m : MachAt w base xb st v
  k : K.At w base v.kit vs s ts F
  sep : ∀ k, F k → ¬ v.own xb k
  tasks : st.seats.map Seat.task = vs
  len : ts.length = vs.length

/-- what a task's method leaves -/
def TaskOut (K : Kits) (w : World) (base xb : Nat) (st : MachS) (v : MachV) (vs : List Value) (ts : List (Option K.T)) (F : Nat → Prop) (i : Nat) (r : K.S × K.T × DeskS × Bool) (e : Ending) (w' : World) : Prop :=
  e = .returned (.bool r.2.2.2) ∧ ∃ v' F', MK K w' base xb { st with d := r.2.2.1 } v' vs r.1 (ts.set i (some r.2.1)) F' ∧ Only (fun k => v.own xb k ∨ F k) w w' ∧
    (∀ k, v'.own xb k → v.own xb k ∨ w.heap.size ≤ k) ∧ (∀ k, F' k → F k ∨ w.heap.size ≤ k) ∧ v'.vse = v.vse ∧ v'.vca = v.vca ∧ v'.mb = v.mb ∧ v'.kit = v.kit

structure KitsOk (K : Kits) : Prop where
  loc : ∀ {w w' b kit vs s ts F}, K.At w b kit vs s ts F → (∀ k, F k → w'.heap[k]? = w.heap[k]?) → K.At w' b kit vs s ts F
  lt : ∀ {w b kit vs s ts F}, K.At w b kit vs s ts F → ∀ k, F k → b ≤ k ∧ k < w.heap.size
  idle : ∀ {w b kit vs s ts F}, K.At w b kit vs s ts F → ∀ i : Nat, ts[i]? = some none → vs[i]? = some Value.nilIface
  busy : ∀ {w b kit vs s ts F}, K.At w b kit vs s ts F → ∀ (i : Nat) t, ts[i]? = some (some t) → ∃ ty x, vs[i]? = some (Value.iface ty x)
  drop : ∀ {w b kit vs s ts F}, K.At w b kit vs s ts F → ∀ i : Nat, K.At w b kit (vs.set i .nilIface) s (ts.set i none) F
  few : ∀ s t d, (K.ready s t d).2.2.1.mem.log.length ≤ d.mem.log.length + 2 ∧ (K.ready s t d).2.2.1.mem.ahead.length ≤ d.mem.ahead.length + 2 ∧ (K.ready s t d).2.2.1.shifts.length ≤ d.shifts.length + 4 ∧
    (K.step s t d).2.2.1.mem.log.length ≤ d.mem.log.length + 2 ∧ (K.step s t d).2.2.1.mem.ahead.length ≤ d.mem.ahead.length + 2 ∧ (K.step s t d).2.2.1.shifts.length ≤ d.shifts.length + 4
  keep : ∀ s t d, (K.ready s t d).2.2.1.th = d.th ∧ (K.ready s t d).2.2.1.now = d.now ∧ (K.step s t d).2.2.1.th = d.th ∧ (K.step s t d).2.2.1.now = d.now
  look : ∀ {w b kit vs s ts F}, K.At w b kit vs s ts F → ∀ op : Int, ∃ fv, (Instr.lookup 30 kit (.int .i64 op) false).run Try.prog w = .ok fv w ∧
    ((fv = .nilFunc ∧ ∀ mv : Mv, mv.op = op → K.make s mv = none) ∨
     ((∃ f x y, fv = .func f x y) ∧ ∀ (mv : Mv) (th : Nat), mv.op = op → mv.th = th → ts[th]? = some none → RunsV Try.prog fv #[.int .i64 mv.th, mv.v] w fun e w' =>
       (K.make s mv = none ∧ e = .returned .nilIface ∧ Only (fun _ => False) w w') ∨ ∃ t v F', K.make s mv = some t ∧ e = .returned v ∧ K.At w' b kit (vs.set th v) s (ts.set th (some t)) F' ∧ Only (fun _ => False) w w' ∧ ∀ k, F' k → F k ∨ w.heap.size ≤ k))
  ready_run : ∀ {w : World} {base xb db : Nat} {st : MachS} {v : MachV} {vs : List Value} {s : K.S} {ts : List (Option K.T)} {F : Nat → Prop} {ci i : Nat} {t : K.T} {y : Value}, MK K w base xb st v vs s ts F → ts[i]? = some (some t) → vs[i]? = some y → st.On ci i → st.d.Fits → DeskBox w xb db → ¬ v.own xb db → ¬ F db →
    Runs Try.prog y "Ready" #[.pointer (some ⟨db, 0, none⟩)] w (TaskOut K w base xb st v vs ts F i (K.ready s t st.d))
  step_run : ∀ {w : World} {base xb db : Nat} {st : MachS} {v : MachV} {vs : List Value} {s : K.S} {ts : List (Option K.T)} {F : Nat → Prop} {ci i : Nat} {t : K.T} {y : Value}, MK K w base xb st v vs s ts F → ts[i]? = some (some t) → vs[i]? = some y → st.On ci i → st.d.Fits → DeskBox w xb db → ¬ v.own xb db → ¬ F db →
    Runs Try.prog y "Step" #[.pointer (some ⟨db, 0, none⟩)] w (TaskOut K w base xb st v vs ts F i (K.step s t st.d))
end Go.Proofs.Ytbhbpfpggfcpgaa
