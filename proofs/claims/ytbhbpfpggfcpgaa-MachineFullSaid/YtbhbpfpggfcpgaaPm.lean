/-
The machine as plain data (PM): what a move makes of it; where it lies (PMAt); machine.Move, Busy, Moves, Call.
-/
import Derived.Test.YtbhbpfpggfcpgaaMoveB
namespace Go
open Go.RowKit

structure PSeat (T : Type) where
  task : Option T
  ready : Bool
  last : Int
  ak : Int
  av : Int
structure PM (K : Kits) where
  words : List Int
  log : List Acc
  ahead : List Int
  shifts : List Shf
  seats : List (PSeat K.T)
  moves : Nat
  calls : List Cal
  s : K.S

section
variable {K : Kits}
def PM.desk (p : PM K) (i : Nat) (se : PSeat K.T) (ca : Cal) : DeskS := ⟨⟨p.words, p.log, p.ahead, p.moves⟩, p.shifts, false, i, p.moves, ca.pt, se.ak, se.av⟩
def PM.res (p : PM K) (i : Nat) (se : PSeat K.T) (ca : Cal) (t : K.T) : K.S × K.T × DeskS × Bool := K.r2 (K.r1 se.ready p.s t (p.desk i se ca))
def PM.step (p : PM K) (i : Nat) (se : PSeat K.T) (t : K.T) : PM K :=
  let ca := p.calls.getD se.last.toNat default
  let r := p.res i se ca t
  { words := r.2.2.1.mem.words, log := r.2.2.1.mem.log, ahead := r.2.2.1.mem.ahead, shifts := r.2.2.1.shifts,
    seats := p.seats.set i ⟨if r.2.2.2 then none else some r.2.1, true, se.last, r.2.2.1.ak, r.2.2.1.av⟩, moves := p.moves + 1,
    calls := p.calls.set se.last.toNat (if r.2.2.2 then { ca with pt := r.2.2.1.pt, en := p.moves, ak := r.2.2.1.ak, av := r.2.2.1.av } else { ca with pt := r.2.2.1.pt }), s := r.1 }
def PM.begin (p : PM K) (i : Nat) (mv : Mv) (t : K.T) : PM K :=
  { p with moves := p.moves + 1, seats := p.seats.set i ⟨some t, false, p.calls.length, 1, 0⟩, calls := p.calls ++ [⟨mv.th, mv.op, mv.arg, mv.data, p.moves, -1, -1, 0, 0⟩] }
def PM.skip (p : PM K) : PM K := { p with moves := p.moves + 1 }
def PM.move (p : PM K) (mv : Mv) : PM K × Bool :=
  if 65536 ≤ p.moves then (p, false)
  else if mv.th < 0 then (p.skip, false)
  else match p.seats[mv.th.toNat]? with
    | none => (p.skip, false)
    | some se => match se.task with
      | some t => if mv.op = 0 then (p.step mv.th.toNat se t, true) else (p.skip, false)
      | none => if mv.op = 0 then (p.skip, false) else match K.make p.s mv with
        | none => (p.skip, false)
        | some t => (p.begin mv.th.toNat mv t, true)

/-- what always holds of a machine -/
structure PM.Good (p : PM K) : Prop where
  few : p.seats.length ≤ 1000
  pos : 0 < p.seats.length
  top : p.moves ≤ 65536
  log : p.log.length ≤ 4 * p.moves
  ahead : p.ahead.length ≤ 4 * p.moves
  shifts : p.shifts.length ≤ 8 * p.moves
  calls : p.calls.length ≤ p.moves
  last : ∀ (i : Nat) (se : PSeat K.T), p.seats[i]? = some se → -1 ≤ se.last ∧ se.last < p.calls.length
  busy : ∀ (i : Nat) (se : PSeat K.T) t, p.seats[i]? = some se → se.task = some t → 0 ≤ se.last

theorem PM.Good.skip {p : PM K} (h : p.Good) (ht : p.moves < 65536) : p.skip.Good :=
  ⟨h.few, h.pos, by show p.moves + 1 ≤ _; omega, by have := h.log; show p.log.length ≤ 4 * (p.moves + 1); omega, by have := h.ahead; show p.ahead.length ≤ 4 * (p.moves + 1); omega, by have := h.shifts; show p.shifts.length ≤ 8 * (p.moves + 1); omega,
    by have := h.calls; show p.calls.length ≤ p.moves + 1; omega, h.last, h.busy⟩

/-- the machine's heap state and the plain one -/
structure PMRel (st : MachS) (p : PM K) : Prop where
  words : st.d.mem.words = p.words
  log : st.d.mem.log = p.log
  ahead : st.d.mem.ahead = p.ahead
  shifts : st.d.shifts = p.shifts
  moves : st.moves = (p.moves : Int)
  calls : st.calls = p.calls
  on : st.on = none
  seats : st.seats.map (fun x => (x.ready, x.last, x.ak, x.av)) = p.seats.map (fun x => (x.ready, x.last, x.ak, x.av))

theorem PMRel.len {st : MachS} {p : PM K} (h : PMRel st p) : st.seats.length = p.seats.length := by have := congrArg List.length h.seats; simpa using this
theorem PMRel.seat {st : MachS} {p : PM K} (h : PMRel st p) {i : Nat} {se : PSeat K.T} (hs : p.seats[i]? = some se) : ∃ y, st.seats[i]? = some ⟨y, se.ready, se.last, se.ak, se.av⟩ := by
  have h1 := congrArg (fun l => l[i]?) h.seats
  simp only [List.getElem?_map, hs, Option.map_some] at h1
  cases h2 : st.seats[i]? with
  | none => rw [h2] at h1; cases h1
  | some x =>
    rw [h2] at h1
    simp only [Option.map_some, Option.some.injEq, Prod.mk.injEq] at h1
    obtain ⟨a, b, c, d⟩ := h1
    exact ⟨x.task, by cases x; simp_all⟩
theorem PMRel.desk {st : MachS} {p : PM K} (h : PMRel st p) (i : Nat) (y : Value) (se : PSeat K.T) (ca : Cal) : st.d.first i p.moves ca ⟨y, se.ready, se.last, se.ak, se.av⟩ = p.desk i se ca := by
  unfold DeskS.first DeskS.fresh PM.desk
  rw [← h.words, ← h.log, ← h.ahead, ← h.shifts]

theorem ext_set {α β : Type} {f : α → β} {l : List α} {m : List β} {i : Nat} {g : α → α} {y : β} (h : l.map f = m) (hy : ∀ x, l[i]? = some x → f (g x) = y) : (l.modify i g).map f = m.set i y := by
  subst h
  apply List.ext_getElem?
  intro j
  simp only [List.getElem?_map, List.getElem?_modify, List.getElem?_set, List.length_map]
  by_cases e : i = j
  · subst e
    cases hx : l[i]? with
    | none =>
      have := List.getElem?_eq_none_iff.1 hx
      simp; omega
    | some x =>
      have := (List.getElem?_eq_some_iff.1 hx).1
      simp [this, hy x hx]
  · simp [e]

theorem getD_of {α : Type} {l : List α} {i : Nat} {x d : α} (h : l[i]? = some x) : l.getD i d = x := by simp [List.getD, h]

theorem PMRel.stepped {st : MachS} {p : PM K} (h : PMRel st p) {n ci : Nat} {se : PSeat K.T} {ca : Cal} {t : K.T} (hse : p.seats[n]? = some se) (hca : p.calls[ci]? = some ca) (hl : se.last = ci) :
    PMRel (({ st with d := (p.res n se ca t).2.2.1, on := some (ci, n), seats := st.seats.modify n fun x => { x with ready := true }, moves := st.moves + 1 } : MachS).stepped ci n p.moves (p.res n se ca t).2.2.2) (p.step n se t) := by
  have hcg : p.calls.getD se.last.toNat default = ca := by rw [hl]; exact getD_of (by simpa using hca)
  obtain ⟨y, hy⟩ := h.seat hse
  have hcc := h.calls
  simp only [PM.step, hcg]
  generalize p.res n se ca t = r
  obtain ⟨rs, rt, rd, ro⟩ := r
  have hmv : st.moves + 1 = ((p.moves + 1 : Nat) : Int) := by rw [h.moves]; rfl
  have hlt : se.last.toNat = ci := by rw [hl]; simp
  have hs3 : ∀ (g : Seat → Seat) (y' : Bool × Int × Int × Int), (∀ x : Seat, x.last = se.last → (fun x : Seat => (x.ready, x.last, x.ak, x.av)) (g x) = y') → (st.seats.modify n g).map (fun x => (x.ready, x.last, x.ak, x.av)) = (p.seats.map (fun x => (x.ready, x.last, x.ak, x.av))).set n y' := by
    intro g y' hg
    refine ext_set h.seats (fun x hx => hg x ?_)
    rw [hy] at hx
    cases hx
    rfl
  cases ro with
  | false =>
    refine ⟨rfl, rfl, rfl, rfl, hmv, ?_, rfl, ?_⟩
    · show (st.calls.modify ci _) = p.calls.set _ _
      rw [hcc, hlt]
      have := ext_set (f := id) (l := p.calls) (m := p.calls) (i := ci) (g := fun c => { c with pt := rd.pt }) (y := { ca with pt := rd.pt }) (by simp) (fun x hx => by rw [hca] at hx; cases hx; rfl)
      rw [List.map_id] at this
      exact this
    · show ((st.seats.modify n _).modify n _).map _ = _
      rw [List.modify_modify_eq]
      rw [List.map_set]
      exact hs3 _ _ (fun x hx => by show (true, x.last, rd.ak, rd.av) = (true, se.last, rd.ak, rd.av); rw [hx])
  | true =>
    refine ⟨rfl, rfl, rfl, rfl, hmv, ?_, rfl, ?_⟩
    · show ((((st.calls.modify ci _).modify ci _).modify ci _).modify ci _) = p.calls.set _ _
      rw [hcc, hlt, List.modify_modify_eq, List.modify_modify_eq, List.modify_modify_eq]
      have := ext_set (f := id) (l := p.calls) (m := p.calls) (i := ci) (g := fun c => { c with pt := rd.pt, en := p.moves, ak := rd.ak, av := rd.av }) (y := { ca with pt := rd.pt, en := p.moves, ak := rd.ak, av := rd.av }) (by simp) (fun x hx => by rw [hca] at hx; cases hx; rfl)
      rw [List.map_id] at this
      exact this
    · show (((st.seats.modify n _).modify n _).modify n _).map _ = _
      rw [List.modify_modify_eq, List.modify_modify_eq]
      rw [List.map_set]
      exact hs3 _ _ (fun x hx => by show (true, x.last, rd.ak, rd.av) = (true, se.last, rd.ak, rd.av); rw [hx])
end
end Go
