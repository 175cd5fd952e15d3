/-
The machine as plain data (PM): what a move makes of it; where it lies (PMAt); machine.Move, Busy, Moves, Call.
Where a plain machine lies (PMAt); machine.Move at it.
slices.Clone at []api.Access; memory.Log and what its iterator gives.
slices.Clone at []api.Call and []api.Shift.
machine.Machine: Run: what is made on the way (RunAcc), and what holds while the log is ranged over (RunI). Plain.
machine.Machine: Run: what holds while the log is ranged over (RunI). Plain.
-/
import Derived.Test.YtjcggokhminmoaaQMoveB
import Derived.Test.YtjcggokhminmoaaQMemB
import Derived.RangeFuncNested
import Derived.RangeFuncBound
import Derived.RangeFuncCalls
import Derived.RangeFuncLeaves
import Derived.Shelf.Abstract
import Derived.Shelf.RegionOpen
import Derived.OwnWalkIn
import Derived.TacticsInMore
import Derived.LoopNIn
import Derived.LoopIn
import Derived.Maps.OwnIn
namespace Go
open Go.RowKit

structure PSeat (T : Type) where
  task : Option T
  ready : Bool
  last : Int
  ak : Int
  av : Int
structure PM (K : Kits) where
  words : List Int
  log : List Acc
  ahead : List Int
  shifts : List Shf
  seats : List (PSeat K.T)
  moves : Nat
  calls : List Cal
  s : K.S

section
variable {K : Kits}
def PM.desk (p : PM K) (i : Nat) (se : PSeat K.T) (ca : Cal) : DeskS := ⟨⟨p.words, p.log, p.ahead, p.moves⟩, p.shifts, false, i, p.moves, ca.pt, se.ak, se.av⟩
def PM.res (p : PM K) (i : Nat) (se : PSeat K.T) (ca : Cal) (t : K.T) : K.S × K.T × DeskS × Bool := K.r2 (K.r1 se.ready p.s t (p.desk i se ca))
def PM.step (p : PM K) (i : Nat) (se : PSeat K.T) (t : K.T) : PM K :=
  let ca := p.calls.getD se.last.toNat default
  let r := p.res i se ca t
  { words := r.2.2.1.mem.words, log := r.2.2.1.mem.log, ahead := r.2.2.1.mem.ahead, shifts := r.2.2.1.shifts,
    seats := p.seats.set i ⟨if r.2.2.2 then none else some r.2.1, true, se.last, r.2.2.1.ak, r.2.2.1.av⟩, moves := p.moves + 1,
    calls := p.calls.set se.last.toNat (if r.2.2.2 then { ca with pt := r.2.2.1.pt, en := p.moves, ak := r.2.2.1.ak, av := r.2.2.1.av } else { ca with pt := r.2.2.1.pt }), s := r.1 }
def PM.begin (p : PM K) (i : Nat) (mv : Mv) (t : K.T) : PM K :=
  { p with moves := p.moves + 1, seats := p.seats.set i ⟨some t, false, p.calls.length, 1, 0⟩, calls := p.calls ++ [⟨mv.th, mv.op, mv.arg, mv.data, p.moves, -1, -1, 0, 0⟩] }
def PM.skip (p : PM K) : PM K := { p with moves := p.moves + 1 }
def PM.move (p : PM K) (mv : Mv) : PM K × Bool :=
  if 65536 ≤ p.moves then (p, false)
  else if mv.th < 0 then (p.skip, false)
  else match p.seats[mv.th.toNat]? with
    | none => (p.skip, false)
    | some se => match se.task with
      | some t => if mv.op = 0 then (p.step mv.th.toNat se t, true) else (p.skip, false)
      | none => if mv.op = 0 then (p.skip, false) else match K.make p.s mv with
        | none => (p.skip, false)
        | some t => (p.begin mv.th.toNat mv t, true)

/-- what always holds of a machine -/
structure PM.Good (p : PM K) : Prop where
  few : p.seats.length ≤ 1000
  pos : 0 < p.seats.length
  top : p.moves ≤ 65536
  log : p.log.length ≤ 4 * p.moves
  ahead : p.ahead.length ≤ 4 * p.moves
  shifts : p.shifts.length ≤ 8 * p.moves
  calls : p.calls.length ≤ p.moves
  last : ∀ (i : Nat) (se : PSeat K.T), p.seats[i]? = some se → -1 ≤ se.last ∧ se.last < p.calls.length
  busy : ∀ (i : Nat) (se : PSeat K.T) t, p.seats[i]? = some se → se.task = some t → 0 ≤ se.last

theorem PM.Good.skip {p : PM K} (h : p.Good) (ht : p.moves < 65536) : p.skip.Good :=
  ⟨h.few, h.pos, by show p.moves + 1 ≤ _; omega, by have := h.log; show p.log.length ≤ 4 * (p.moves + 1); omega, by have := h.ahead; show p.ahead.length ≤ 4 * (p.moves + 1); omega, by have := h.shifts; show p.shifts.length ≤ 8 * (p.moves + 1); omega,
    by have := h.calls; show p.calls.length ≤ p.moves + 1; omega, h.last, h.busy⟩

/-- the machine's heap state and the plain one -/
structure PMRel (st : MachS) (p : PM K) : Prop where
  words : st.d.mem.words = p.words
  log : st.d.mem.log = p.log
  ahead : st.d.mem.ahead = p.ahead
  shifts : st.d.shifts = p.shifts
  moves : st.moves = (p.moves : Int)
  calls : st.calls = p.calls
  on : st.on = none
  seats : st.seats.map (fun x => (x.ready, x.last, x.ak, x.av)) = p.seats.map (fun x => (x.ready, x.last, x.ak, x.av))

theorem PMRel.len {st : MachS} {p : PM K} (h : PMRel st p) : st.seats.length = p.seats.length := by have := congrArg List.length h.seats; simpa using this
theorem PMRel.seat {st : MachS} {p : PM K} (h : PMRel st p) {i : Nat} {se : PSeat K.T} (hs : p.seats[i]? = some se) : ∃ y, st.seats[i]? = some ⟨y, se.ready, se.last, se.ak, se.av⟩ := by
  have h1 := congrArg (fun l => l[i]?) h.seats
  simp only [List.getElem?_map, hs, Option.map_some] at h1
  cases h2 : st.seats[i]? with
  | none => rw [h2] at h1; cases h1
  | some x =>
    rw [h2] at h1
    simp only [Option.map_some, Option.some.injEq, Prod.mk.injEq] at h1
    obtain ⟨a, b, c, d⟩ := h1
    exact ⟨x.task, by cases x; simp_all⟩
theorem PMRel.desk {st : MachS} {p : PM K} (h : PMRel st p) (i : Nat) (y : Value) (se : PSeat K.T) (ca : Cal) : st.d.first i p.moves ca ⟨y, se.ready, se.last, se.ak, se.av⟩ = p.desk i se ca := by
  unfold DeskS.first DeskS.fresh PM.desk
  rw [← h.words, ← h.log, ← h.ahead, ← h.shifts]

theorem ext_set {α β : Type} {f : α → β} {l : List α} {m : List β} {i : Nat} {g : α → α} {y : β} (h : l.map f = m) (hy : ∀ x, l[i]? = some x → f (g x) = y) : (l.modify i g).map f = m.set i y := by
  subst h
  apply List.ext_getElem?
  intro j
  simp only [List.getElem?_map, List.getElem?_modify, List.getElem?_set, List.length_map]
  by_cases e : i = j
  · subst e
    cases hx : l[i]? with
    | none =>
      have := List.getElem?_eq_none_iff.1 hx
      simp; omega
    | some x =>
      have := (List.getElem?_eq_some_iff.1 hx).1
      simp [this, hy x hx]
  · simp [e]

theorem getD_of {α : Type} {l : List α} {i : Nat} {x d : α} (h : l[i]? = some x) : l.getD i d = x := by simp [List.getD, h]

theorem PMRel.stepped {st : MachS} {p : PM K} (h : PMRel st p) {n ci : Nat} {se : PSeat K.T} {ca : Cal} {t : K.T} (hse : p.seats[n]? = some se) (hca : p.calls[ci]? = some ca) (hl : se.last = ci) :
    PMRel (({ st with d := (p.res n se ca t).2.2.1, on := some (ci, n), seats := st.seats.modify n fun x => { x with ready := true }, moves := st.moves + 1 } : MachS).stepped ci n p.moves (p.res n se ca t).2.2.2) (p.step n se t) := by
  have hcg : p.calls.getD se.last.toNat default = ca := by rw [hl]; exact getD_of (by simpa using hca)
  obtain ⟨y, hy⟩ := h.seat hse
  have hcc := h.calls
  simp only [PM.step, hcg]
  generalize p.res n se ca t = r
  obtain ⟨rs, rt, rd, ro⟩ := r
  have hmv : st.moves + 1 = ((p.moves + 1 : Nat) : Int) := by rw [h.moves]; rfl
  have hlt : se.last.toNat = ci := by rw [hl]; simp
  have hs3 : ∀ (g : Seat → Seat) (y' : Bool × Int × Int × Int), (∀ x : Seat, x.last = se.last → (fun x : Seat => (x.ready, x.last, x.ak, x.av)) (g x) = y') → (st.seats.modify n g).map (fun x => (x.ready, x.last, x.ak, x.av)) = (p.seats.map (fun x => (x.ready, x.last, x.ak, x.av))).set n y' := by
    intro g y' hg
    refine ext_set h.seats (fun x hx => hg x ?_)
    rw [hy] at hx
    cases hx
    rfl
  cases ro with
  | false =>
    refine ⟨rfl, rfl, rfl, rfl, hmv, ?_, rfl, ?_⟩
    · show (st.calls.modify ci _) = p.calls.set _ _
      rw [hcc, hlt]
      have := ext_set (f := id) (l := p.calls) (m := p.calls) (i := ci) (g := fun c => { c with pt := rd.pt }) (y := { ca with pt := rd.pt }) (by simp) (fun x hx => by rw [hca] at hx; cases hx; rfl)
      rw [List.map_id] at this
      exact this
    · show ((st.seats.modify n _).modify n _).map _ = _
      rw [List.modify_modify_eq]
      rw [List.map_set]
      exact hs3 _ _ (fun x hx => by show (true, x.last, rd.ak, rd.av) = (true, se.last, rd.ak, rd.av); rw [hx])
  | true =>
    refine ⟨rfl, rfl, rfl, rfl, hmv, ?_, rfl, ?_⟩
    · show ((((st.calls.modify ci _).modify ci _).modify ci _).modify ci _) = p.calls.set _ _
      rw [hcc, hlt, List.modify_modify_eq, List.modify_modify_eq, List.modify_modify_eq]
      have := ext_set (f := id) (l := p.calls) (m := p.calls) (i := ci) (g := fun c => { c with pt := rd.pt, en := p.moves, ak := rd.ak, av := rd.av }) (y := { ca with pt := rd.pt, en := p.moves, ak := rd.ak, av := rd.av }) (by simp) (fun x hx => by rw [hca] at hx; cases hx; rfl)
      rw [List.map_id] at this
      exact this
    · show (((st.seats.modify n _).modify n _).modify n _).map _ = _
      rw [List.modify_modify_eq, List.modify_modify_eq]
      rw [List.map_set]
      exact hs3 _ _ (fun x hx => by show (true, x.last, rd.ak, rd.av) = (true, se.last, rd.ak, rd.av); rw [hx])
end
end Go
namespace Go.Proofs.Ytjcggokhminmoaa
open Go.ChangeShapes Go.WideShapes Go.ChangeAt Go.RowKit

def PMAt (K : Kits) (w : World) (base xb : Nat) (p : PM K) (kit : Value) (F : Nat → Prop) : Prop :=
  ∃ st v vs Fk, MK K w base xb st v vs p.s (p.seats.map (·.task)) Fk ∧ PMRel st p ∧ v.kit = kit ∧ F = fun k => v.own xb k ∨ Fk k

section
variable {K : Kits} {w w' : World} {base xb : Nat} {p : PM K} {kit : Value} {F : Nat → Prop}
theorem PMAt.lt (hK : KitsOk K) (h : PMAt K w base xb p kit F) : ∀ k, F k → base ≤ k ∧ k < w.heap.size := by
  obtain ⟨st, v, vs, Fk, h1, h2, h3, rfl⟩ := h
  rintro k (hk | hk)
  · exact h1.m.lt k hk
  · exact hK.lt h1.k k hk
theorem PMAt.of_block (hK : KitsOk K) (h : PMAt K w base xb p kit F) (hb : ∀ k, F k → w'.heap[k]? = w.heap[k]?) : PMAt K w' base xb p kit F := by
  obtain ⟨st, v, vs, Fk, h1, h2, h3, rfl⟩ := h
  exact ⟨st, v, vs, Fk, ⟨h1.m.of_block fun k hk => hb k (.inl hk), hK.loc h1.k fun k hk => hb k (.inr hk), h1.sep, h1.tasks, h1.len⟩, h2, h3, rfl⟩
theorem PMAt.only (hK : KitsOk K) {G : Nat → Prop} (h : PMAt K w base xb p kit F) (ho : Only G w w') (hG : ∀ k, F k → ¬ G k) : PMAt K w' base xb p kit F :=
  h.of_block hK fun k hk => ho.block k (h.lt hK k hk).2 (hG k hk)
theorem PMAt.below (hK : KitsOk K) (h : PMAt K w base xb p kit F) (hb : Below w.heap.size w w') : PMAt K w' base xb p kit F := h.of_block hK fun k hk => hb.block k (h.lt hK k hk).2

/-- the seat's task in the heap -/
theorem StepDone.pm {w0 : World} {v0 : MachV} {F0 : Nat → Prop} {st : MachS} {vs : List Value} {s : K.S} {ts : List (Option K.T)} (h : StepDone K w0 base xb v0 F0 st vs s ts w) {q : PM K} (hs : q.s = s) (ht : q.seats.map (·.task) = ts) (hr : PMRel st q) :
    ∃ F', PMAt K w base xb q v0.kit F' ∧ Only (fun k => v0.own xb k ∨ F0 k) w0 w ∧ ∀ k, F' k → (v0.own xb k ∨ F0 k) ∨ w0.heap.size ≤ k := by
  obtain ⟨v, F, h1, h2, h3, h4, e1, e2⟩ := h
  subst hs
  subst ht
  refine ⟨_, ⟨st, v, vs, F, h1, hr, e2, rfl⟩, h2, ?_⟩
  rintro k (hk | hk)
  · rcases h3 k hk with h | h
    · exact .inl (.inl h)
    · exact .inr h
  · rcases h4 k hk with h | h
    · exact .inl (.inr h)
    · exact .inr h

/-- what a move answers and leaves -/
def MoveOut (K : Kits) (w : World) (base xb : Nat) (p : PM K) (kit : Value) (F : Nat → Prop) (mv : Mv) (e : Ending) (w' : World) : Prop :=
  e = .returned (.bool (p.move mv).2) ∧ ∃ F', PMAt K w' base xb (p.move mv).1 kit F' ∧ Only F w w' ∧ ∀ k, F' k → F k ∨ w.heap.size ≤ k

theorem PMRel.skip {st : MachS} {p : PM K} (h : PMRel st p) : PMRel { st with moves := st.moves + 1 } p.skip :=
  ⟨h.words, h.log, h.ahead, h.shifts, by show st.moves + 1 = _; rw [h.moves]; rfl, h.calls, h.on, h.seats⟩

theorem pm_move (hK : KitsOk K) (hG : p.Good) (h : PMAt K w base xb p kit F) (mv : Mv) : Calls Try.prog 21 #[.pointer (some ⟨xb, 0, none⟩), mv.v] w (MoveOut K w base xb p kit F mv) := by
  obtain ⟨st, v, vs, Fk, H, R, rfl, rfl⟩ := h
  have hlen := R.len
  have hfew := hG.few
  have hpos := hG.pos
  have hmv := R.moves
  have hcalls := congrArg List.length R.calls
  have h1 := hG.log
  have h2 := hG.ahead
  have h3 := hG.shifts
  have h4 := hG.calls
  have htop := hG.top
  have e1 := congrArg List.length R.log
  have e2 := congrArg List.length R.ahead
  have e3 := congrArg List.length R.shifts
  unfold MoveOut
  by_cases hf : 65536 ≤ p.moves
  · have hm : p.move mv = (p, false) := by unfold PM.move; rw [if_pos hf]
    rw [hm]
    exact (move_full hK H mv (by omega) (by omega)).mono fun e w' ⟨he, hd⟩ => ⟨he, hd.pm rfl rfl R⟩
  · by_cases ht0 : mv.th < 0
    · have hm : p.move mv = (p.skip, false) := by unfold PM.move; rw [if_neg hf, if_pos ht0]
      rw [hm]
      exact (move_none hK H mv (by omega) (by omega) (by omega) (by omega) (.inl ht0)).mono fun e w' ⟨he, hd⟩ => ⟨he, hd.pm rfl rfl (PMRel.skip R)⟩
    · obtain ⟨n, hn⟩ : ∃ n : Nat, mv.th = n := ⟨mv.th.toNat, by omega⟩
      have hnn : mv.th.toNat = n := by omega
      cases hse : p.seats[n]? with
      | none =>
        have hge := List.getElem?_eq_none_iff.1 hse
        have hm : p.move mv = (p.skip, false) := by unfold PM.move; rw [if_neg hf, if_neg ht0, hnn, hse]
        rw [hm]
        exact (move_none hK H mv (by omega) (by omega) (by omega) (by omega) (.inr (by omega))).mono fun e w' ⟨he, hd⟩ => ⟨he, hd.pm rfl rfl (PMRel.skip R)⟩
      | some se =>
        have hlt := (List.getElem?_eq_some_iff.1 hse).1
        cases hta : se.task with
        | some t =>
          have hi : (p.seats.map (·.task))[n]? = some (some t) := by rw [List.getElem?_map, hse, Option.map_some, hta]
          by_cases hop : mv.op = 0
          · have hm : p.move mv = (p.step n se t, true) := by unfold PM.move; simp only [if_neg hf, if_neg ht0, hnn, hse, hta, if_pos hop]
            rw [hm]
            have hl := (hG.last n se hse).2
            have hl0 := hG.busy n se t hse hta
            obtain ⟨ci, hci⟩ : ∃ ci : Nat, se.last = ci := ⟨se.last.toNat, by omega⟩
            have hcl : ci < p.calls.length := by omega
            obtain ⟨ca, hca⟩ : ∃ ca, p.calls[ci]? = some ca := ⟨_, List.getElem?_eq_getElem hcl⟩
            obtain ⟨y, hy⟩ := R.seat hse
            have hca' : st.calls[ci]? = some ca := by rw [R.calls]; exact hca
            refine (move_step hK H mv n ci (by omega) (by omega) (by omega) (by omega) hn hop t hi R.on _ hy ca hca' hci (by omega) (by omega) (by omega)).mono fun e w' ⟨he, hd⟩ => ⟨he, ?_⟩
            unfold StepRes at hd
            rw [hmv, R.desk] at hd
            have hcg : p.calls.getD se.last.toNat default = ca := by rw [hci]; exact getD_of (by simpa using hca)
            have hst := R.stepped (t := t) hse hca hci
            rw [hmv] at hst
            refine StepDone.pm hd ?_ ?_ hst
            · simp only [PM.step, hcg]; rfl
            · simp only [PM.step, hcg, List.map_set]
              show List.set _ n (if (p.res n se ca t).2.2.2 = true then none else some (p.res n se ca t).2.1) = _
              show _ = (if (p.res n se ca t).2.2.2 = true then List.set _ n none else List.set _ n (some (p.res n se ca t).2.1))
              split <;> rfl
          · have hm : p.move mv = (p.skip, false) := by unfold PM.move; simp only [if_neg hf, if_neg ht0, hnn, hse, hta, if_neg hop]
            rw [hm]
            exact (move_busy hK H mv n (by omega) (by omega) (by omega) (by omega) hn hop t hi R.on).mono fun e w' ⟨he, hd⟩ => ⟨he, hd.pm rfl rfl (PMRel.skip R)⟩
        | none =>
          have hi : (p.seats.map (·.task))[n]? = some none := by rw [List.getElem?_map, hse, Option.map_some, hta]
          by_cases hop : mv.op = 0
          · have hm : p.move mv = (p.skip, false) := by unfold PM.move; simp only [if_neg hf, if_neg ht0, hnn, hse, hta, if_pos hop]
            rw [hm]
            exact (move_idle hK H mv n (by omega) (by omega) (by omega) (by omega) hn hop hi R.on).mono fun e w' ⟨he, hd⟩ => ⟨he, hd.pm rfl rfl (PMRel.skip R)⟩
          · refine (move_begin hK H mv n (by omega) (by omega) (by omega) (by omega) hn hop hi R.on (by omega)).mono fun e w' hb => ?_
            rcases hb with ⟨hno, he, hd⟩ | ⟨t, y, hmk, he, hd⟩
            · have hm : p.move mv = (p.skip, false) := by unfold PM.move; simp only [if_neg hf, if_neg ht0, hnn, hse, hta, if_neg hop, hno]
              rw [hm]
              exact ⟨he, hd.pm rfl rfl (PMRel.skip R)⟩
            · have hm : p.move mv = (p.begin n mv t, true) := by unfold PM.move; simp only [if_neg hf, if_neg ht0, hnn, hse, hta, if_neg hop, hmk]
              rw [hm]
              refine ⟨he, hd.pm rfl ?_ ?_⟩
              · simp only [PM.begin, List.map_set]
              · refine ⟨R.words, R.log, R.ahead, R.shifts, by show st.moves + 1 = _; rw [hmv]; rfl, ?_, R.on, ?_⟩
                · show st.calls ++ [_] = p.calls ++ [_]
                  rw [R.calls, hmv]
                · show (st.seats.set n _).map _ = (p.seats.set n _).map _
                  rw [List.map_set, List.map_set, R.seats]
                  show List.set _ n (false, (st.calls.length : Int), 1, 0) = List.set _ n (false, (p.calls.length : Int), 1, 0)
                  rw [R.calls]
end
end Go.Proofs.Ytjcggokhminmoaa
namespace Go.Proofs.Ytjcggokhminmoaa
open Go.ChangeShapes Go.WideShapes Go.ChangeAt Go.RowKit Go.Shelf

attribute [local go_sem] Oper.semAt_some

set_option maxRecDepth 100000 in
theorem clone_acc {w : World} {vx : Value} {l : List Acc} (hs : w.Src 7 vx l.length (accs l)) (hn : l.length ≤ 3000000000000) : Calls Try.prog 70 #[vx] w (Cloned w 56 7 l.length (accs l)) := by
  obtain ⟨i0, hi, hz0, hz1, hz2⟩ := info_parts infoAcc
  have HI := Lib.hid hi
  have HZ0 := Lib.hid hz0
  have HZ1 := Lib.hid hz1
  have HZ2 := Lib.hid hz2
  clear hi hz0 hz1 hz2
  have HS := Lib.hid hs
  rcases hs.2 with ⟨rfl, h0⟩ | ⟨ad, c, rfl, hc, _⟩
  · obtain rfl : l = [] := List.eq_nil_of_length_eq_zero h0
    have hq := fun w => Lib.run_eql_slice_nil (P := Try.prog) w 38 56 none 0 0 0 0 Try.underlying38
    clear hs HS
    go_enter Try.func70, Try.ntmps70
    go_wp2
    go_ret
    exact ⟨none, 0, rfl, Nat.le_refl _, by omega, World.RowV_none _ _ _ _ _, Only.refl _ _⟩
  · have hq := fun w => Lib.run_eql_slice_nil (P := Try.prog) w 38 56 (some ad) l.length c 0 0 Try.underlying38
    have S1 := Lib.hid (accs_one l)
    have S2 := Lib.hid (show 0 + l.length ≤ maxLen by unfold maxLen; omega)
    have S3 := Lib.hid (show ((0 + l.length) + (0 + l.length) / 4 + 192) * 56 ≤ 281474976710656 by omega)
    clear hs
    go_enter Try.func70, Try.ntmps70
    go_wp2_with (at_builtin; refine wpList_append_row _ rfl _ _ 38 rfl w.heap.size 56 i0 _ 7 56 Try.underlying38 HI.out HZ0.out HZ1.out HZ2.out rfl (.slice (some ⟨w.heap.size, 0, none⟩) 0 0) 0 [] rfl (World.RowV_none _ _ _ _ _) _ l.length (accs l) rfl (HS.out.alloc _) S1.out S2.out S3.out (by simp) ?_; intro v' w1 hown hout; obtain ⟨o', c', rfl, hn', hm'⟩ := hown.form; have H1 := Lib.hid hown; have H2 := Lib.hid hout; clear hown hout; unfold maxLen at hm')
    go_ret
    exact ⟨o', c', rfl, by omega, by omega, by simpa using H1.out, Only.trans ((Only.refl _ _).alloc _) (Only.out (F := fun _ => False) H2.out (by simp [Value.rowBlock])) (fun _ h => h.elim)⟩


theorem log_any (p : Option Addr) (from_ : Int) (w : World) : Calls Try.prog 49 #[.pointer p, .int .i64 from_] w fun e w' =>
    e = .returned (.func (.func 69) #[] #[.pointer (some ⟨w.heap.size, 0, none⟩), .pointer (some ⟨w.heap.size + 1, 0, none⟩)]) ∧ w' = (w.alloc (.cells #[.pointer p] 113)).alloc (.cells #[.int .i64 from_] 3) := by
  go_enter Try.func49, Try.ntmps49
  go_wp2
  go_ret
  exact ⟨rfl, rfl⟩

/-- what a round of a loop over the log keeps: it may write what Foot tells, and what is new -/
structure LogKp (Foot : World → Nat → Prop) (A B : World) : Prop where
  size : A.heap.size ≤ B.heap.size
  block : ∀ k o, A.heap[k]? = some o → o.isCells = true → ¬ Foot A k → B.heap[k]? = some o
  foot : ∀ k, Foot B k → Foot A k ∨ A.heap.size ≤ k
theorem LogKp.trans {Foot : World → Nat → Prop} {A B C : World} (h : LogKp Foot A B) (k : LogKp Foot B C) : LogKp Foot A C :=
  ⟨Nat.le_trans h.size k.size, fun i o ho hc hn => k.block i o (h.block i o ho hc hn) hc (fun hf => by
      rcases h.foot i hf with h1 | h1
      · exact hn h1
      · have := (Array.getElem?_eq_some_iff.1 ho).1; omega),
    fun i hi => by
      rcases k.foot i hi with h1 | h1
      · exact h.foot i h1
      · exact .inr (Nat.le_trans h.size h1)⟩

instance : Inhabited Acc := ⟨⟨0, 0, 0, 0, 0, 0, 0⟩⟩
/-- the entries from s up to k -/
def items (log : List Acc) (s k : Nat) : List (Nat × Acc) := (List.range' s (k - s)).map fun i => (i, log.getD i default)
theorem items_len (log : List Acc) (s k : Nat) : (items log s k).length = k - s := by simp [items]
theorem items_snoc (log : List Acc) (s k : Nat) (h : s ≤ k) : items log s (k + 1) = items log s k ++ [(k, log.getD k default)] := by
  unfold items
  rw [show k + 1 - s = (k - s) + 1 by omega, List.range'_concat, List.map_append]
  simp only [List.map_cons, List.map_nil]
  rw [show s + 1 * (k - s) = k by omega]
theorem items_none (log : List Acc) (s k : Nat) (h : k ≤ s) : items log s k = [] := by
  unfold items
  rw [show k - s = 0 by omega]
  rfl
theorem items_prefix (log : List Acc) (s k n : Nat) (h : k ≤ n) : items log s k <+: items log s n := by
  by_cases hs : s ≤ k
  · unfold items
    rw [show n - s = (k - s) + (n - k) by omega, ← List.range'_append_1, List.map_append]
    exact List.prefix_append _ _
  · rw [items_none log s k (by omega)]
    exact List.nil_prefix
def encItem (x : Nat × Acc) : Array Value := #[.int .i64 (x.1 : Int), .agg #[.int .i64 x.2.mv, .int .i64 x.2.th, .int .i64 x.2.kd, .int .i64 x.2.ad, .int .u64 x.2.old, .int .u64 x.2.nw, .int .u64 x.2.saw]]

theorem accs_get (l : List Acc) : ∀ (i j : Nat), i < l.length → j < 7 → (accs l)[i * 7 + j]? = (l.getD i default).cells[j]? := by
  induction l with
  | nil => intro i j h; simp at h
  | cons a l ih =>
    intro i j hi hj
    have e : accs (a :: l) = a.cells ++ accs l := by simp [accs]
    rw [e]
    cases i with
    | zero =>
      rw [List.getElem?_append_left (by simp [Acc.cells]; omega)]
      simp
    | succ i =>
      rw [List.getElem?_append_right (by simp [Acc.cells]; omega)]
      have : (i + 1) * 7 + j - a.cells.length = i * 7 + j := by simp [Acc.cells]; omega
      rw [this, ih i j (by simpa using hi) hj]
      simp

set_option maxRecDepth 100000 in
set_option maxHeartbeats 1000000 in
/-- what the iterator of a memory's log does -/
theorem log1_in {w : World} {base mb : Nat} {st : MemS} {v : MemV} (h : MemAt w base mb st v) (hl : st.log.length ≤ 3000000000000) (Bm Bf : Nat) (s : Nat) (fr : Int) (hs : (fr = (s : Int)) ∨ (fr < 0 ∧ s = 0)) (n : Nat) (hn : 1 ≤ n)
    (Foot : World → Nat → Prop) (hF : ∀ W, Below w.heap.size w W → ∀ k, Foot W k → k < w.heap.size)
    (hBm : w.cell? ⟨Bm, 0, none⟩ = some (.pointer (some ⟨mb, 0, none⟩))) (hBf : w.cell? ⟨Bf, 0, none⟩ = some (.int .i64 fr))
    (l : Nat) (J Jx : List (Nat × Acc) → World → Prop) (W : World) (hW : Below w.heap.size w W) (hJ : AbidesFrom W.heap.size J)
    (hY : ∀ pre x W1, J pre W1 → pre.length < st.log.length → YieldAt Fence.wide (n - 1) Try.prog l (encItem x) W1 fun e W' =>
      (e = .returned (.bool true) ∧ J (pre ++ [x]) W' ∧ LogKp Foot W1 W') ∨ (e = .returned (.bool false) ∧ Jx (pre ++ [x]) W')) (h0 : J [] W) :
    CallsIn Fence.wide n Try.prog 69 #[.func (.yield l) #[] #[], .pointer (some ⟨Bm, 0, none⟩), .pointer (some ⟨Bf, 0, none⟩)] W fun e W' => (∃ v, e = .returned v) ∧
      ((∃ xs, xs = items st.log s st.log.length ∧ J xs W') ∨ (∃ pre, pre <+: items st.log s st.log.length ∧ Jx pre W')) := by
  have lBm := World.block_lt_of_cell? w _ hBm
  have lBf := World.block_lt_of_cell? w _ hBf
  have hBm' : W.cell? ⟨Bm, 0, none⟩ = some (.pointer (some ⟨mb, 0, none⟩)) := (hW.cell (p := ⟨Bm, 0, none⟩) lBm).trans hBm
  have hBf' : W.cell? ⟨Bf, 0, none⟩ = some (.int .i64 fr) := (hW.cell (p := ⟨Bf, 0, none⟩) lBf).trans hBf
  have hM : MemAt W base mb st v := h.of_block fun k hk => hW.block k (h.lt k hk).2
  obtain ⟨c0, c1, c2, c3, z, lt⟩ := hM.head
  have HC := Lib.hid (clone_acc hM.rl.src hl)
  obtain ⟨ow, cw, ol, cl, oa, ca, rfl, l1, l2, l3, m1, m2, m3⟩ := hM.slices
  clear h hM hBm hBf
  have hx : ∀ w1 : World, Only (fun _ => False) W w1 → w1.cell? ⟨Bf, 0, none⟩ = some (.int .i64 fr) := fun w1 ho => (ho.cellAt (p := ⟨Bf, 0, none⟩) (Nat.lt_of_lt_of_le lBf hW.size) (fun x => x)).trans hBf'
  have HX := Lib.hid hx
  have HW := Lib.hid hW
  have HJ := Lib.hid hJ
  have HY := Lib.hid hY
  have HF := Lib.hid hF
  have H0 := Lib.hid h0
  clear hx hW hJ hY hF h0 hBf'
  have hs' : (fr = (s : Int) ∧ 0 < s) ∨ (fr = 0 ∧ s = 0) ∨ (fr < 0 ∧ s = 0) := by omega
  clear hs
  have hs'' : (fr = (s : Int) ∧ 0 < s ∧ Hid (s = s)) ∨ (fr = 0 ∧ 0 ≤ s ∧ Hid (s = 0)) ∨ (fr < 0 ∧ 0 ≤ s ∧ Hid (s = 0)) := by
    rcases hs' with ⟨h1, h2⟩ | ⟨h1, h2⟩ | ⟨h1, h2⟩
    · exact .inl ⟨h1, h2, Lib.hid rfl⟩
    · exact .inr (.inl ⟨h1, Nat.zero_le _, Lib.hid h2⟩)
    · exact .inr (.inr ⟨h1, Nat.zero_le _, Lib.hid h2⟩)
  clear hs'
  rcases hs'' with ⟨rfl, hs0, hs1⟩ | ⟨rfl, hs0, hs1⟩ | ⟨hfr, hs0, hs1⟩
  all_goals
    refine callsIn_of_wp Try.func69 rfl trivial ?_ rfl
    simp only [Try.ntmps69, List.size_toArray, List.length_cons, List.length_nil, Nat.reduceAdd, Nat.reduceSub, Array.replicate_succ, Array.replicate_zero, List.push_toArray, List.append_toArray, List.nil_append, List.cons_append]
    gi_wp2_with (refine ⟨trivial, ?_⟩; gi_at_call 70; refine (callsIn_wide.2 HC.out).mono ?_; rintro e w1 ⟨o', c', rfl, hn', hm', hr, ho⟩; have hBf1 := HX.out w1 ho; have HR := Lib.hid hr; have HO := Lib.hid ho; clear hr ho)
    have hg : W.grownBy w1 none := ⟨HO.out.os, HO.out.tape, HO.out.output, HO.out.size, fun k hk _ => HO.out.block k hk (fun x => x)⟩
    have HJ1 := Lib.hid (HJ.out [] W w1 none H0.out hg (fun r e => by cases e))
    have HC1 : Hid (∀ C, (Value.slice o' st.log.length c').rowBlock = some C → ¬ Foot w1 C) := fun C hC hf => by
      have h1 := HF.out w1 (HW.out.trans ((Only.below HO.out (fun _ h => h.elim) (Nat.le_refl _)).mono HW.out.size)) C hf
      have h2 := (HR.out.lt C hC).1
      have := HW.out.size
      omega
    clear hg hBf1 hBm' c0 c1 c2 c3 z lt HX H0
    gi_loopw [5] (fun p wr => ∃ k : Nat, p = .int .i64 (k : Int) ∧ s ≤ k ∧ Hid (k ≤ st.log.length ∨ k = s) ∧ Hid (J (items st.log s k) wr) ∧ Hid (wr.RowV W.heap.size 56 7 (.slice o' st.log.length c') st.log.length (accs st.log)) ∧ Hid (∀ C, (Value.slice o' st.log.length c').rowBlock = some C → ¬ Foot wr C))
      (fun p _ => st.log.length - (intOf p).toNat)
    case atStart =>
      refine ⟨s, ?_, Nat.le_refl _, Lib.hid (.inr rfl), by rw [items_none _ _ _ (Nat.le_refl _)]; exact HJ1, HR, HC1⟩
      first
      | rfl
      | (rw [hs1.out]; rfl)
    case round =>
      obtain ⟨k, rfl, hk, hks, hJk, hRk, hCk⟩ := hrel
      by_cases hlt : k < st.log.length
      · obtain ⟨C, cap, e, h1, h2, h3, h4, h5, h6⟩ := hRk.out.some_form (by omega)
        cases e
        have hc0 := h6 (k * 7 + 0) _ (accs_get st.log k 0 hlt (by omega))
        have hc1 := h6 (k * 7 + 1) _ (accs_get st.log k 1 hlt (by omega))
        have hc2 := h6 (k * 7 + 2) _ (accs_get st.log k 2 hlt (by omega))
        have hc3 := h6 (k * 7 + 3) _ (accs_get st.log k 3 hlt (by omega))
        have hc4 := h6 (k * 7 + 4) _ (accs_get st.log k 4 hlt (by omega))
        have hc5 := h6 (k * 7 + 5) _ (accs_get st.log k 5 hlt (by omega))
        have hc6 := h6 (k * 7 + 6) _ (accs_get st.log k 6 hlt (by omega))
        have hsn := Lib.hid (items_snoc st.log s k hk)
        obtain ⟨fn, tmps, assign, body, hy, hR⟩ := HY.out (items st.log s k) (k, st.log.getD k default) wr hJk.out (by rw [items_len]; omega)
        simp only [encItem] at hy
        generalize st.log.getD k default = x at *
        simp only [Nat.add_zero] at hc0
        clear h5 h6
        gi_wp2
        refine hR.mono ?_
        rintro e W3 (⟨rfl, hJ3, hk3⟩ | ⟨rfl, hJx3⟩)
        · gi_wp2
          go_roundw
          case rel =>
            refine ⟨k + 1, by go_num, by omega, Lib.hid (.inl (by omega)), by rw [hsn.out]; exact hJ3, ?_, ?_⟩
            · refine hRk.out.of_block fun i hi => ?_
              have hi' : i = C := by rw [h4] at hi; cases hi; rfl
              subst hi'
              rcases hRk.out.2 with ⟨o, _, h0'⟩ | ⟨g', cap', cur, e', _, hgg, _⟩
              · omega
              · cases e'
                rw [hgg]
                exact hk3.block _ _ hgg rfl (hCk.out _ h4)
            · intro i hi hf
              have hi' : i = C := by rw [h4] at hi; cases hi; rfl
              subst hi'
              rcases hk3.foot _ hf with h5 | h5
              · exact hCk.out _ h4 h5
              · omega
          case measure => simp [intOf]; omega
        · gi_wp2
          refine bodyPost_ret (results_none rfl _ _ _) rfl ?_
          exact ⟨⟨_, rfl⟩, .inr ⟨_, by rw [← hsn.out]; exact items_prefix _ _ _ _ (by omega), hJx3⟩⟩
      · gi_wp2
        go_end0
        refine ⟨⟨_, rfl⟩, .inl ⟨items st.log s k, ?_, hJk.out⟩⟩
        rcases hks.out with h1 | h1
        · rw [show k = st.log.length by omega]
        · rw [items_none _ _ _ (by omega), items_none _ _ _ (by omega)]

/-- what memory.Log hands back gives the log, from an entry on -/
theorem log_stops {w : World} {base mb : Nat} {st : MemS} {v : MemV} (h : MemAt w base mb st v) (hl : st.log.length ≤ 3000000000000) (Bm Bf : Nat) (s : Nat) (fr : Int) (hs : (fr = (s : Int)) ∨ (fr < 0 ∧ s = 0)) (n : Nat) (hn : 1 ≤ n)
    (Foot : World → Nat → Prop) (hF : ∀ W, Below w.heap.size w W → ∀ k, Foot W k → k < w.heap.size)
    (hBm : w.cell? ⟨Bm, 0, none⟩ = some (.pointer (some ⟨mb, 0, none⟩))) (hBf : w.cell? ⟨Bf, 0, none⟩ = some (.int .i64 fr)) :
    SeqStopsK Fence.wide n Try.prog 69 #[.pointer (some ⟨Bm, 0, none⟩), .pointer (some ⟨Bf, 0, none⟩)] encItem (LogKp Foot) (fun xs => xs = items st.log s st.log.length) (fun pre => pre <+: items st.log s st.log.length) st.log.length w :=
  fun l J Jx W hW hJ _ hY h0 => log1_in h hl Bm Bf s fr hs n hn Foot hF hBm hBf l J Jx W hW hJ hY h0
end Go.Proofs.Ytjcggokhminmoaa
namespace Go.Proofs.Ytjcggokhminmoaa
open Go.ChangeShapes Go.WideShapes Go.ChangeAt Go.RowKit

set_option maxRecDepth 100000 in
theorem clone_cal {w : World} {vx : Value} {l : List Cal} (hs : w.Src 9 vx l.length (cals l)) (hn : l.length ≤ 3000000000000) : Calls Try.prog 46 #[vx] w (Cloned w 50 9 l.length (cals l)) := by
  obtain ⟨i0, hi, hz0, hz1, hz2⟩ := info_parts infoCall
  have HI := Lib.hid hi
  have HZ0 := Lib.hid hz0
  have HZ1 := Lib.hid hz1
  have HZ2 := Lib.hid hz2
  clear hi hz0 hz1 hz2
  have HS := Lib.hid hs
  rcases hs.2 with ⟨rfl, h0⟩ | ⟨ad, c, rfl, hc, _⟩
  · obtain rfl : l = [] := List.eq_nil_of_length_eq_zero h0
    have hq := fun w => Lib.run_eql_slice_nil (P := Try.prog) w 37 50 none 0 0 0 0 Try.underlying37
    clear hs HS
    go_enter Try.func46, Try.ntmps46
    go_wp2
    go_ret
    exact ⟨none, 0, rfl, Nat.le_refl _, by omega, World.RowV_none _ _ _ _ _, Only.refl _ _⟩
  · have hq := fun w => Lib.run_eql_slice_nil (P := Try.prog) w 37 50 (some ad) l.length c 0 0 Try.underlying37
    have S1 := Lib.hid (cals_one l)
    have S2 := Lib.hid (show 0 + l.length ≤ maxLen by unfold maxLen; omega)
    have S3 := Lib.hid (show ((0 + l.length) + (0 + l.length) / 4 + 192) * 72 ≤ 281474976710656 by omega)
    clear hs
    go_enter Try.func46, Try.ntmps46
    go_wp2_with (at_builtin; refine wpList_append_row _ rfl _ _ 37 rfl w.heap.size 50 i0 _ 9 72 Try.underlying37 HI.out HZ0.out HZ1.out HZ2.out rfl (.slice (some ⟨w.heap.size, 0, none⟩) 0 0) 0 [] rfl (World.RowV_none _ _ _ _ _) _ l.length (cals l) rfl (HS.out.alloc _) S1.out S2.out S3.out (by simp) ?_; intro v' w1 hown hout; obtain ⟨o', c', rfl, hn', hm'⟩ := hown.form; have H1 := Lib.hid hown; have H2 := Lib.hid hout; clear hown hout; unfold maxLen at hm')
    go_ret
    exact ⟨o', c', rfl, by omega, by omega, by simpa using H1.out, Only.trans ((Only.refl _ _).alloc _) (Only.out (F := fun _ => False) H2.out (by simp [Value.rowBlock])) (fun _ h => h.elim)⟩


set_option maxRecDepth 100000 in
theorem clone_shf {w : World} {vx : Value} {l : List Shf} (hs : w.Src 5 vx l.length (shfs l)) (hn : l.length ≤ 3000000000000) : Calls Try.prog 47 #[vx] w (Cloned w 68 5 l.length (shfs l)) := by
  obtain ⟨i0, hi, hz0, hz1, hz2⟩ := info_parts infoShift
  have HI := Lib.hid hi
  have HZ0 := Lib.hid hz0
  have HZ1 := Lib.hid hz1
  have HZ2 := Lib.hid hz2
  clear hi hz0 hz1 hz2
  have HS := Lib.hid hs
  rcases hs.2 with ⟨rfl, h0⟩ | ⟨ad, c, rfl, hc, _⟩
  · obtain rfl : l = [] := List.eq_nil_of_length_eq_zero h0
    have hq := fun w => Lib.run_eql_slice_nil (P := Try.prog) w 39 68 none 0 0 0 0 Try.underlying39
    clear hs HS
    go_enter Try.func47, Try.ntmps47
    go_wp2
    go_ret
    exact ⟨none, 0, rfl, Nat.le_refl _, by omega, World.RowV_none _ _ _ _ _, Only.refl _ _⟩
  · have hq := fun w => Lib.run_eql_slice_nil (P := Try.prog) w 39 68 (some ad) l.length c 0 0 Try.underlying39
    have S1 := Lib.hid (shfs_one l)
    have S2 := Lib.hid (show 0 + l.length ≤ maxLen by unfold maxLen; omega)
    have S3 := Lib.hid (show ((0 + l.length) + (0 + l.length) / 4 + 192) * 40 ≤ 281474976710656 by omega)
    clear hs
    go_enter Try.func47, Try.ntmps47
    go_wp2_with (at_builtin; refine wpList_append_row _ rfl _ _ 39 rfl w.heap.size 68 i0 _ 5 40 Try.underlying39 HI.out HZ0.out HZ1.out HZ2.out rfl (.slice (some ⟨w.heap.size, 0, none⟩) 0 0) 0 [] rfl (World.RowV_none _ _ _ _ _) _ l.length (shfs l) rfl (HS.out.alloc _) S1.out S2.out S3.out (by simp) ?_; intro v' w1 hown hout; obtain ⟨o', c', rfl, hn', hm'⟩ := hown.form; have H1 := Lib.hid hown; have H2 := Lib.hid hout; clear hown hout; unfold maxLen at hm')
    go_ret
    exact ⟨o', c', rfl, by omega, by omega, by simpa using H1.out, Only.trans ((Only.refl _ _).alloc _) (Only.out (F := fun _ => False) H2.out (by simp [Value.rowBlock])) (fun _ h => h.elim)⟩

end Go.Proofs.Ytjcggokhminmoaa
namespace Go.Proofs.Ytjcggokhminmoaa
open Go.ChangeShapes Go.WideShapes Go.ChangeAt Go.RowKit Go.Shelf

def apart (a b : Option Value) : Prop := ∀ u v k, a = some u → b = some v → u.rowBlock = some k → v.rowBlock ≠ some k
/-- the clones made so far, and the run's own block -/
structure RunAcc (w : World) (cl : List Cal) (sl : List Shf) (wl : List Int) (W : World) (a b c : Option Value) (d : Option Nat) : Prop where
  on : Only (fun _ => False) w W
  ra : ∀ v, a = some v → W.RowV w.heap.size 50 9 v cl.length (cals cl)
  rb : ∀ v, b = some v → W.RowV w.heap.size 68 5 v sl.length (shfs sl)
  rc : ∀ v, c = some v → W.RowV w.heap.size 52 1 v wl.length (u64s wl)
  ab : apart a b
  ac : apart a c
  bc : apart b c
  bx : ∀ k, d = some k → W.heap[k]? = some (.cells #[.slice none 0 0, .slice none 0 0, .slice none 0 0, .slice none 0 0] 42) ∧ w.heap.size ≤ k ∧ (∀ v, a = some v → v.rowBlock ≠ some k) ∧ (∀ v, b = some v → v.rowBlock ≠ some k) ∧ (∀ v, c = some v → v.rowBlock ≠ some k)

section
variable {w W W' : World} {cl : List Cal} {sl : List Shf} {wl : List Int} {a b c : Option Value} {d : Option Nat}
theorem RunAcc.of (ho : Only (fun _ => False) w W) : RunAcc w cl sl wl W none none none none :=
  ⟨ho, fun _ h => (by cases h), fun _ h => (by cases h), fun _ h => (by cases h), fun _ _ _ h => (by cases h), fun _ _ _ h => (by cases h), fun _ _ _ h => (by cases h), fun _ h => (by cases h)⟩
theorem RunAcc.keep (h : RunAcc w cl sl wl W a b c d) (ho : Only (fun _ => False) W W') : RunAcc w cl sl wl W' a b c d := by
  have hk : ∀ k, k < W.heap.size → W'.heap[k]? = W.heap[k]? := fun k hl => ho.block k hl (fun x => x)
  refine ⟨h.on.trans ho (fun _ x => x.elim), fun v hv => (h.ra v hv).of_block fun k e => hk k ((h.ra v hv).lt k e).2, fun v hv => (h.rb v hv).of_block fun k e => hk k ((h.rb v hv).lt k e).2, fun v hv => (h.rc v hv).of_block fun k e => hk k ((h.rc v hv).lt k e).2, h.ab, h.ac, h.bc, fun k hd => ?_⟩
  obtain ⟨h1, h2⟩ := h.bx k hd
  exact ⟨by rw [hk k (Array.getElem?_eq_some_iff.1 h1).1]; exact h1, h2⟩
theorem RunAcc.drew (h : RunAcc w cl sl wl W a b c d) : RunAcc w cl sl wl W.drew a b c d := h.keep ((Only.refl _ _).drew)
theorem RunAcc.allocRun (h : RunAcc w cl sl wl W a b c none) : RunAcc w cl sl wl (W.alloc (.cells #[.slice none 0 0, .slice none 0 0, .slice none 0 0, .slice none 0 0] 42)) a b c (some W.heap.size) := by
  obtain ⟨h1, h2, h3, h4, h5, h6, h7, _⟩ := h.keep ((Only.refl _ W).alloc (.cells #[.slice none 0 0, .slice none 0 0, .slice none 0 0, .slice none 0 0] 42))
  refine ⟨h1, h2, h3, h4, h5, h6, h7, fun k hk => ?_⟩
  cases hk
  exact ⟨heap_alloc_new W _, h.on.size, fun v hv e => by have := ((h.ra v hv).lt _ e).2; omega, fun v hv e => by have := ((h.rb v hv).lt _ e).2; omega, fun v hv e => by have := ((h.rc v hv).lt _ e).2; omega⟩
theorem RunAcc.setA (h : RunAcc w cl sl wl W none b c d) {v : Value} (hr : W'.RowV W.heap.size 50 9 v cl.length (cals cl)) (ho : Only (fun _ => False) W W') : RunAcc w cl sl wl W' (some v) b c d := by
  obtain ⟨h1, h2, h3, h4, h5, h6, h7, h8⟩ := h.keep ho
  refine ⟨h1, fun u hu => by cases hu; exact hr.base_mono h.on.size, h3, h4, fun u u' k hu hu' e e' => ?_, fun u u' k hu hu' e e' => ?_, h7, fun k hk => ⟨(h8 k hk).1, (h8 k hk).2.1, fun u hu e => ?_, (h8 k hk).2.2.2.1, (h8 k hk).2.2.2.2⟩⟩
  · cases hu; have := (hr.lt k e).1; have := ((h.rb u' hu').lt k e').2; omega
  · cases hu; have := (hr.lt k e).1; have := ((h.rc u' hu').lt k e').2; omega
  · cases hu; have := (hr.lt k e).1; have := (Array.getElem?_eq_some_iff.1 (h.bx k hk).1).1; omega
theorem RunAcc.setB (h : RunAcc w cl sl wl W a none c d) {v : Value} (hr : W'.RowV W.heap.size 68 5 v sl.length (shfs sl)) (ho : Only (fun _ => False) W W') : RunAcc w cl sl wl W' a (some v) c d := by
  obtain ⟨h1, h2, h3, h4, h5, h6, h7, h8⟩ := h.keep ho
  refine ⟨h1, h2, fun u hu => by cases hu; exact hr.base_mono h.on.size, h4, fun u u' k hu hu' e e' => ?_, h6, fun u u' k hu hu' e e' => ?_, fun k hk => ⟨(h8 k hk).1, (h8 k hk).2.1, (h8 k hk).2.2.1, fun u hu e => ?_, (h8 k hk).2.2.2.2⟩⟩
  · cases hu'; have := (hr.lt k e').1; have := ((h.ra u hu).lt k e).2; omega
  · cases hu; have := (hr.lt k e).1; have := ((h.rc u' hu').lt k e').2; omega
  · cases hu; have := (hr.lt k e).1; have := (Array.getElem?_eq_some_iff.1 (h.bx k hk).1).1; omega
theorem RunAcc.setC (h : RunAcc w cl sl wl W a b none d) {v : Value} (hr : W'.RowV W.heap.size 52 1 v wl.length (u64s wl)) (ho : Only (fun _ => False) W W') : RunAcc w cl sl wl W' a b (some v) d := by
  obtain ⟨h1, h2, h3, h4, h5, h6, h7, h8⟩ := h.keep ho
  refine ⟨h1, h2, h3, fun u hu => by cases hu; exact hr.base_mono h.on.size, h5, fun u u' k hu hu' e e' => ?_, fun u u' k hu hu' e e' => ?_, fun k hk => ⟨(h8 k hk).1, (h8 k hk).2.1, (h8 k hk).2.2.1, (h8 k hk).2.2.2.1, fun u hu e => ?_⟩⟩
  · cases hu'; have := (hr.lt k e').1; have := ((h.ra u hu).lt k e).2; omega
  · cases hu'; have := (hr.lt k e').1; have := ((h.rb u hu).lt k e).2; omega
  · cases hu; have := (hr.lt k e).1; have := (Array.getElem?_eq_some_iff.1 (h.bx k hk).1).1; omega
end

/-- the run's block with its clones, ahead of the loop -/
structure RunSet (w : World) (cl : List Cal) (sl : List Shf) (wl : List Int) (W : World) (rb : Nat) (va vb vc vt : Value) : Prop where
  on : Only (fun _ => False) w W
  bx : W.heap[rb]? = some (.cells #[va, vt, vb, vc] 42)
  ge : w.heap.size ≤ rb
  wa : W.RowV w.heap.size 50 9 va cl.length (cals cl)
  wb : W.RowV w.heap.size 68 5 vb sl.length (shfs sl)
  wc : W.RowV w.heap.size 52 1 vc wl.length (u64s wl)
  xa : va.rowBlock ≠ some rb
  xb : vb.rowBlock ≠ some rb
  xc : vc.rowBlock ≠ some rb
  ab : ∀ k, va.rowBlock = some k → vb.rowBlock ≠ some k
  ac : ∀ k, va.rowBlock = some k → vc.rowBlock ≠ some k
  bc : ∀ k, vb.rowBlock = some k → vc.rowBlock ≠ some k

section
variable {w W : World} {cl : List Cal} {sl : List Shf} {wl : List Int} {va vb vc : Value}
theorem RunAcc.last (h : RunAcc w cl sl wl W (some va) (some vb) (some vc) none) : RunSet w cl sl wl (W.alloc (.cells #[va, .slice none 0 0, vb, vc] 42)) W.heap.size va vb vc (.slice none 0 0) :=
  ⟨h.on.alloc _, heap_alloc_new W _, h.on.size, (h.ra _ rfl).alloc _, (h.rb _ rfl).alloc _, (h.rc _ rfl).alloc _, fun e => by have := ((h.ra _ rfl).lt _ e).2; omega, fun e => by have := ((h.rb _ rfl).lt _ e).2; omega, fun e => by have := ((h.rc _ rfl).lt _ e).2; omega,
    fun k e => h.ab _ _ k rfl rfl e, fun k e => h.ac _ _ k rfl rfl e, fun k e => h.bc _ _ k rfl rfl e⟩
theorem RunAcc.store {k : Nat} (h : RunAcc w cl sl wl W (some va) (some vb) (some vc) (some k)) :
    RunSet w cl sl wl ((((W.setCell ⟨k, 0, none⟩ va).setCell ⟨k, 1, none⟩ (.slice none 0 0)).setCell ⟨k, 2, none⟩ vb).setCell ⟨k, 3, none⟩ vc) k va vb vc (.slice none 0 0) := by
  obtain ⟨h1, h2, h3, h4, h5⟩ := h.bx k rfl
  have hr : ∀ {e s n : Nat} {u : Value} {xs : List Value}, W.RowV w.heap.size e s u n xs → u.rowBlock ≠ some k → ((((W.setCell ⟨k, 0, none⟩ va).setCell ⟨k, 1, none⟩ (.slice none 0 0)).setCell ⟨k, 2, none⟩ vb).setCell ⟨k, 3, none⟩ vc).RowV w.heap.size e s u n xs := by
    intro e s n u xs hu hn
    have hne : ∀ j, u.rowBlock = some j → j ≠ k := fun j hj e => hn (by rw [hj, e])
    exact (((hu.set hne _).set hne _).set hne _).set hne _
  refine ⟨(((h.on.set (.inr h2) _).set (.inr h2) _).set (.inr h2) _).set (.inr h2) _, ?_, h2, hr (h.ra _ rfl) (h3 _ rfl), hr (h.rb _ rfl) (h4 _ rfl), hr (h.rc _ rfl) (h5 _ rfl), h3 _ rfl, h4 _ rfl, h5 _ rfl, fun j e => h.ab _ _ j rfl rfl e, fun j e => h.ac _ _ j rfl rfl e, fun j e => h.bc _ _ j rfl rfl e⟩
  simp [World.setCell, Array.getElem?_modify, h1]
theorem RunAcc.facts {k : Nat} {a b c : Option Value} {d : Option Nat} (h : RunAcc w cl sl wl W a b c d) (hd : d = some k) : W.cell? ⟨k, 0, none⟩ = some (.slice none 0 0) ∧ W.cell? ⟨k, 1, none⟩ = some (.slice none 0 0) ∧ W.cell? ⟨k, 2, none⟩ = some (.slice none 0 0) ∧ W.cell? ⟨k, 3, none⟩ = some (.slice none 0 0) ∧ (∀ j, W.frozen? ⟨k, j, none⟩ = false) ∧ k < W.heap.size := by
  have h1 := (h.bx k hd).1
  exact ⟨by simp [World.cell?, h1], by simp [World.cell?, h1], by simp [World.cell?, h1], by simp [World.cell?, h1], fun j => by simp [World.frozen?, h1], (Array.getElem?_eq_some_iff.1 h1).1⟩
end
end Go.Proofs.Ytjcggokhminmoaa
namespace Go.Proofs.Ytjcggokhminmoaa
open Go.ChangeShapes Go.WideShapes Go.ChangeAt Go.RowKit Go.Shelf

/-- the run's block and the row in it -/
def RunFoot (rb : Nat) (W : World) (k : Nat) : Prop := k = rb ∨ ∃ v, W.cell? ⟨rb, 1, none⟩ = some v ∧ v.rowBlock = some k
def ents (pre : List (Nat × Acc)) : List Value := accs (pre.map (·.2))
theorem ents_snoc (pre : List (Nat × Acc)) (x : Nat × Acc) : ents (pre ++ [x]) = ents pre ++ x.2.cells := by simp [ents, accs]

structure RunIV (W0 : World) (rb : Nat) (va vb vc : Value) (pre : List (Nat × Acc)) (vt : Value) (W : World) : Prop where
  bx : W.heap[rb]? = some (.cells #[va, vt, vb, vc] 42 (0, 0))
  rt : W.RowV W0.heap.size 56 7 vt pre.length (ents pre)
  on : Only (fun k => k = rb) W0 W
  lt : rb < W0.heap.size
def RunI (W0 : World) (rb : Nat) (va vb vc : Value) (pre : List (Nat × Acc)) (W : World) : Prop := ∃ vt, RunIV W0 rb va vb vc pre vt W

section
variable {W0 W : World} {rb : Nat} {va vb vc vt : Value} {pre : List (Nat × Acc)}
theorem rowCells {w : World} {H e s n : Nat} {v : Value} {xs : List Value} (hv : w.RowV H e s v n xs) {k : Nat} {o : Obj} (ho : w.heap[k]? = some o) (hc : o.isCells = false) : v.rowBlock ≠ some k := by
  intro hvk
  rcases hv.2 with ⟨oo, rfl, _⟩ | ⟨g, cap, cur, rfl, _, hgg, _, hcap, _⟩
  · cases oo <;> simp [Value.rowBlock] at hvk
  · simp [Value.rowBlock, Nat.ne_of_gt hcap] at hvk
    subst hvk
    rw [hgg] at ho
    cases ho
    cases hc
theorem RunIV.of_grown {W' : World} {row : Option Nat} (h : RunIV W0 rb va vb vc pre vt W) (hg : W.grownBy W' row) (hr : ∀ r, row = some r → W0.heap.size ≤ r ∧ ∃ o : Obj, W.heap[r]? = some o ∧ o.isCells = false) : RunIV W0 rb va vb vc pre vt W' := by
  have hlt := h.lt
  have hs := h.on.size
  refine ⟨?_, ?_, ⟨hg.os.trans h.on.os, hg.tape.trans h.on.tape, hg.output.trans h.on.output, Nat.le_trans hs hg.size, fun k hk hn => ?_⟩, h.lt⟩
  · rw [hg.block rb (by omega) (fun e => by have := (hr rb e.symm).1; omega)]
    exact h.bx
  · refine h.rt.of_block fun k hk => hg.block k (h.rt.lt k hk).2 (fun he => ?_)
    obtain ⟨_, o, ho, hc⟩ := hr k he.symm
    exact rowCells h.rt ho hc hk
  · rw [hg.block k (by omega) (fun e => by have := (hr k e.symm).1; omega)]
    exact h.on.block k hk hn
theorem RunI.ownFrom : OwnFrom W0.heap.size (RunI W0 rb va vb vc) := fun _pre _W _W' _row ⟨vt, h⟩ hg hr => ⟨vt, h.of_grown hg hr⟩

theorem RunIV.cell (h : RunIV W0 rb va vb vc pre vt W) : W.cell? ⟨rb, 1, none⟩ = some vt := by simp [World.cell?, h.bx]
theorem RunIV.facts (h : RunIV W0 rb va vb vc pre vt W) : W.cell? ⟨rb, 0, none⟩ = some va ∧ W.cell? ⟨rb, 1, none⟩ = some vt ∧ W.cell? ⟨rb, 2, none⟩ = some vb ∧ W.cell? ⟨rb, 3, none⟩ = some vc ∧ (∀ j, W.frozen? ⟨rb, j, none⟩ = false) ∧ rb < W.heap.size :=
  ⟨by simp [World.cell?, h.bx], h.cell, by simp [World.cell?, h.bx], by simp [World.cell?, h.bx], fun j => by simp [World.frozen?, h.bx], (Array.getElem?_eq_some_iff.1 h.bx).1⟩

theorem RunIV.step (h : RunIV W0 rb va vb vc pre vt W) (x : Nat × Acc) {w1 : World} {vt' : Value} {o1 : Obj}
    (hown : w1.RowV W0.heap.size 56 7 vt' (pre.length + 1) (ents pre ++ x.2.cells)) (ho : RowOut (W.alloc o1) w1 vt vt' pre.length 1) :
    RunIV W0 rb va vb vc (pre ++ [x]) vt' (w1.setCell ⟨rb, 1, none⟩ vt') ∧ LogKp (RunFoot rb) W (w1.setCell ⟨rb, 1, none⟩ vt') ∧ KeepsFrom W0.heap.size W (w1.setCell ⟨rb, 1, none⟩ vt') := by
  have hlt := h.lt
  have hs := h.on.size
  have s1 := ho.size
  have e1 : (W.alloc o1).heap.size = W.heap.size + 1 := by simp
  rw [e1] at s1
  have hvt := h.rt.lt
  have nn : ∀ k, vt'.rowBlock = some k → vt.rowBlock = some k ∨ k = W.heap.size + 1 := fun k hk => by have := ho.news hk; rwa [e1] at this
  have hfar : ∀ k, k < W.heap.size → k ≠ rb → vt.rowBlock ≠ some k → (w1.setCell ⟨rb, 1, none⟩ vt').heap[k]? = W.heap[k]? := by
    intro k hk k1 k2
    rw [Below.heap_setCell _ _ _ _ k1, ho.block (by rw [e1]; omega) k2, Below.heap_alloc _ _ _ hk]
  have hb1 : w1.heap[rb]? = some (.cells #[va, vt, vb, vc] 42 (0, 0)) := by
    rw [ho.block (by rw [e1]; omega) (fun e => by have := (hvt rb e).1; omega), Below.heap_alloc _ _ _ (by omega)]
    exact h.bx
  have hbE : (w1.setCell ⟨rb, 1, none⟩ vt').heap[rb]? = some (.cells #[va, vt', vb, vc] 42 (0, 0)) := by
    simp [World.setCell, Array.getElem?_modify, hb1]
  have hos : w1.os = W.os ∧ w1.tape = W.tape ∧ w1.output = W.output := by
    rcases ho with ⟨_, _, _, hg⟩ | ⟨_, _, hg⟩ <;> exact ⟨hg.os, hg.tape, hg.output⟩
  refine ⟨⟨hbE, ?_, ⟨hos.1.trans h.on.os, hos.2.1.trans h.on.tape, hos.2.2.trans h.on.output, by simp [World.setCell]; omega, fun k hk hn => ?_⟩, h.lt⟩, ⟨?_, ?_, ?_⟩, ⟨?_, ?_⟩⟩
  · rw [ents_snoc, List.length_append]
    exact hown.set (fun k hk e => by have := (hown.lt k hk).1; have e' : k = rb := e; omega) _
  · rw [hfar k (by omega) hn (fun e => by have := (hvt k e).1; omega)]
    exact h.on.block k hk hn
  · simp [World.setCell]; omega
  · intro k o ho' hc hn
    have hk := (Array.getElem?_eq_some_iff.1 ho').1
    rw [hfar k hk (fun e => hn (.inl e)) (fun e => hn (.inr ⟨vt, h.cell, e⟩))]
    exact ho'
  · rintro k (hk | ⟨u, hu, hk⟩)
    · exact .inl (.inl hk)
    · have : (w1.setCell ⟨rb, 1, none⟩ vt').cell? ⟨rb, 1, none⟩ = some vt' := by simp [World.cell?, hbE]
      rw [this] at hu
      cases hu
      rcases nn k hk with h3 | h3
      · exact .inl (.inr ⟨vt, h.cell, h3⟩)
      · exact .inr (by omega)
  · simp [World.setCell]; omega
  · intro k o hk ho' hc
    have hl := (Array.getElem?_eq_some_iff.1 ho').1
    rw [hfar k hl (by omega) (rowCells h.rt ho' hc)]
    exact ho'
end

theorem LogKp.alloc1 {rb : Nat} {W : World} (hn : rb < W.heap.size) (o : Obj) : LogKp (RunFoot rb) W (W.alloc o) := by
  have c : (W.alloc o).cell? ⟨rb, 1, none⟩ = W.cell? ⟨rb, 1, none⟩ := World.cell?_of_block (Below.heap_alloc _ _ _ hn)
  refine ⟨by simp, fun k o' ho _ _ => by rw [Below.heap_alloc _ _ _ (Array.getElem?_eq_some_iff.1 ho).1]; exact ho, fun k hk => .inl ?_⟩
  rcases hk with hk | ⟨v, hv, hk⟩
  · exact .inl hk
  · exact .inr ⟨v, by rw [← c]; exact hv, hk⟩
theorem LogKp.putObj1 {rb l : Nat} {W : World} (hn : rb ≠ l) (o o' : Obj) (ho : W.heap[l]? = some o) (hc : o.isCells = false) : LogKp (RunFoot rb) W (W.putObj l o') := by
  have c : (W.putObj l o').cell? ⟨rb, 1, none⟩ = W.cell? ⟨rb, 1, none⟩ := World.cell?_of_block (World.putObj_heap_other hn)
  refine ⟨by simp, fun k o2 h2 h3 _ => ?_, fun k hk => .inl ?_⟩
  · have hk : k ≠ l := fun e => by subst e; rw [ho] at h2; cases h2; rw [hc] at h3; cases h3
    rw [World.putObj_heap_other hk]
    exact h2
  · rcases hk with hk | ⟨v, hv, hk⟩
    · exact .inl hk
    · exact .inr ⟨v, by rw [← c]; exact hv, hk⟩
theorem grown_drew_put (W : World) (D : Nat) (o : Obj) : W.grownBy (W.drew.putObj D o) (some D) := by
  have h := grownBy_putObj' W.drew D o
  exact ⟨h.os, h.tape, h.output, h.size, h.block⟩
theorem boxA {w : World} {b : Nat} {a0 a1 a2 a3 a4 a5 a6 : Value} {t : TypeId} (h : w.heap[b]? = some (.cells #[a0, a1, a2, a3, a4, a5, a6] t (0, 0))) : w.cell? ⟨b, 0, none⟩ = some a0 ∧ w.cell? ⟨b, 1, none⟩ = some a1 ∧ w.cell? ⟨b, 2, none⟩ = some a2 ∧ w.cell? ⟨b, 3, none⟩ = some a3 ∧
    w.cell? ⟨b, 4, none⟩ = some a4 ∧ w.cell? ⟨b, 5, none⟩ = some a5 ∧ w.cell? ⟨b, 6, none⟩ = some a6 :=
  ⟨by simp [World.cell?, h], by simp [World.cell?, h], by simp [World.cell?, h], by simp [World.cell?, h], by simp [World.cell?, h], by simp [World.cell?, h], by simp [World.cell?, h]⟩

/-- the entries of a whole log -/
theorem items_all (log : List Acc) : (items log 0 log.length).map (·.2) = log := by
  unfold items
  simp only [Nat.sub_zero, List.map_map]
  apply List.ext_getElem?
  intro i
  simp only [List.getElem?_map]
  by_cases h : i < log.length
  · simp [h, List.getD]
  · simp [h]

/-- a run as data -/
structure RunS where
  calls : List Cal
  trace : List Acc
  shifts : List Shf
  words : List Int
structure RunVs where
  va : Value
  vt : Value
  vb : Value
  vc : Value
def RunVs.v (x : RunVs) : Value := .agg #[x.va, x.vt, x.vb, x.vc]
def RunVs.own (x : RunVs) (k : Nat) : Prop := x.va.rowBlock = some k ∨ x.vt.rowBlock = some k ∨ x.vb.rowBlock = some k ∨ x.vc.rowBlock = some k
/-- the rows of a run, each for itself -/
structure RunAt (w : World) (base : Nat) (x : RunVs) (r : RunS) : Prop where
  wa : w.RowV base 50 9 x.va r.calls.length (cals r.calls)
  wt : w.RowV base 56 7 x.vt r.trace.length (accs r.trace)
  wb : w.RowV base 68 5 x.vb r.shifts.length (shfs r.shifts)
  wc : w.RowV base 52 1 x.vc r.words.length (u64s r.words)
  at' : ∀ k, x.va.rowBlock = some k → x.vt.rowBlock ≠ some k
  ab : ∀ k, x.va.rowBlock = some k → x.vb.rowBlock ≠ some k
  ac : ∀ k, x.va.rowBlock = some k → x.vc.rowBlock ≠ some k
  tb : ∀ k, x.vt.rowBlock = some k → x.vb.rowBlock ≠ some k
  tc : ∀ k, x.vt.rowBlock = some k → x.vc.rowBlock ≠ some k
  bc : ∀ k, x.vb.rowBlock = some k → x.vc.rowBlock ≠ some k
theorem RunAt.lt {w : World} {base : Nat} {x : RunVs} {r : RunS} (h : RunAt w base x r) : ∀ k, x.own k → base ≤ k ∧ k < w.heap.size := by
  rintro k (e | e | e | e)
  · exact h.wa.lt k e
  · exact h.wt.lt k e
  · exact h.wb.lt k e
  · exact h.wc.lt k e
theorem RunAt.of_block {w w' : World} {base : Nat} {x : RunVs} {r : RunS} (h : RunAt w base x r) (hb : ∀ k, x.own k → w'.heap[k]? = w.heap[k]?) : RunAt w' base x r :=
  ⟨h.wa.of_block fun k hk => hb k (.inl hk), h.wt.of_block fun k hk => hb k (.inr (.inl hk)), h.wb.of_block fun k hk => hb k (.inr (.inr (.inl hk))), h.wc.of_block fun k hk => hb k (.inr (.inr (.inr hk))), h.at', h.ab, h.ac, h.tb, h.tc, h.bc⟩
theorem RunAt.base_mono {w : World} {base b' : Nat} {x : RunVs} {r : RunS} (h : RunAt w base x r) (hb : b' ≤ base) : RunAt w b' x r :=
  ⟨h.wa.base_mono hb, h.wt.base_mono hb, h.wb.base_mono hb, h.wc.base_mono hb, h.at', h.ab, h.ac, h.tb, h.tc, h.bc⟩
theorem RunAt.ne_row {W : World} {base : Nat} {x : RunVs} {r : RunS} (h : RunAt W base x r) {D : Nat} {o : Obj} (ho : W.heap[D]? = some o) (hc : o.isCells = false) : ¬ x.own D := by
  rintro (e | e | e | e)
  · exact rowCells h.wa ho hc e
  · exact rowCells h.wt ho hc e
  · exact rowCells h.wb ho hc e
  · exact rowCells h.wc ho hc e
theorem RunAt.left {w W W' : World} {base : Nat} {x : RunVs} {r : RunS} (h : RunAt W base x r) (hb : w.heap.size < base) (ho : Only (fun _ => False) w W) {D : Nat} (hD : W.heap[D]? = some (.deferred (some []))) (hDw : w.heap.size ≤ D)
    (hk : ∀ k, k ≠ w.heap.size → k ≠ D → W'.heap[k]? = W.heap[k]?) (hos : W'.os = W.os) (hta : W'.tape = W.tape) (hou : W'.output = W.output) (hsz : W.heap.size ≤ W'.heap.size) :
    RunAt W' w.heap.size x r ∧ Only (fun _ => False) w W' := by
  have hs := ho.size
  refine ⟨(h.of_block fun k hk' => hk k (by have := (h.lt k hk').1; omega) (fun e => by subst e; exact h.ne_row hD rfl hk')).base_mono (by omega), ⟨hos.trans ho.os, hta.trans ho.tape, hou.trans ho.output, by omega, fun k hl _ => ?_⟩⟩
  rw [hk k (by omega) (by omega), ho.block k hl (fun x => x)]
/-- what a call answers that makes a run -/
def RunRes (w : World) (r : RunS) (e : Ending) (w' : World) : Prop := ∃ x : RunVs, e = .returned x.v ∧ RunAt w' w.heap.size x r ∧ Only (fun _ => False) w w'

theorem RunSet.run {w W0 W : World} {cl : List Cal} {sl : List Shf} {wl : List Int} {rb : Nat} {va vb vc vt v0 : Value} {log : List Acc} {xs : List (Nat × Acc)} (hs : RunSet w cl sl wl W0 rb va vb vc v0) {W1 : World} (h1 : Below W0.heap.size W0 W1) (h : RunIV W1 rb va vb vc xs vt W) (hx : xs = items log 0 log.length) :
    RunAt W w.heap.size ⟨va, vt, vb, vc⟩ ⟨cl, log, sl, wl⟩ ∧ Only (fun _ => False) w W := by
  have hk : ∀ k, k < W0.heap.size → k ≠ rb → W.heap[k]? = W0.heap[k]? := fun k hk hn => by
    rw [h.on.block k (by have := h1.size; omega) hn, h1.block k hk]
  have hrow : ∀ {e s n : Nat} {v : Value} {xs : List Value}, W0.RowV w.heap.size e s v n xs → v.rowBlock ≠ some rb → W.RowV w.heap.size e s v n xs := fun hv hn =>
    hv.of_block fun k hk' => hk k (hv.lt k hk').2 (fun e => hn (by rw [hk', e]))
  have hne : ∀ {e s n : Nat} {v : Value} {xs : List Value}, W0.RowV w.heap.size e s v n xs → ∀ k, v.rowBlock = some k → vt.rowBlock ≠ some k := fun hv k hk' e => by
    have := (hv.lt k hk').2; have := (h.rt.lt k e).1; have := h1.size; omega
  have hlen : xs.length = log.length := by rw [hx, items_len]; omega
  refine ⟨⟨hrow hs.wa hs.xa, ?_, hrow hs.wb hs.xb, hrow hs.wc hs.xc, hne hs.wa, hs.ab, hs.ac, fun k e1 e2 => hne hs.wb k e2 e1, fun k e1 e2 => hne hs.wc k e2 e1, hs.bc⟩, ?_⟩
  · have := h.rt
    rw [hlen] at this
    unfold ents at this
    rw [hx, items_all] at this
    exact this.base_mono (by have := hs.on.size; have := h1.size; omega)
  · exact (hs.on.trans (⟨h1.os, h1.tape, h1.output, h1.size, fun k hk _ => h1.block k hk⟩ : Only (fun _ => False) W0 W1) (fun _ x => False.elim x)).trans h.on (fun i hi => .inr (by subst hi; exact hs.ge))

theorem wpListIn_append_row {F : Fence} {nF : Nat} {P : Program} (w : World) {ops : Array Oper} {rest : List Oper} {o : Oper} {a : Act} {Q : Exit → Act → World → Prop} (hgd : o.guard = none) (s x : Operand) (t : TypeId)
    (ho : o.op = .call { callee := .builtin .append, args := #[s, x], argTypes := #[t, t] })
    (base : Nat) (e : TypeId) (i : TypeInfo) (z : Value) (size bytes : Nat) (ht : P.underlying t = some (.slice e)) (hi : P.info? e = some i) (hz : i.zero = some z)
    (hsize : i.size = size) (hby : i.bytes = bytes) (hzs : z.cells.size = size)
    (v : Value) (n : Nat) (xs : List Value) (hs : a.eval s = v) (hown : w.RowV base e size v n xs)
    (vx : Value) (m : Nat) (news : List Value) (hx : a.eval x = vx) (hsrc : w.Src size vx m news) (h1 : ∀ u ∈ news, u.oneCell' = true)
    (h63 : n + m ≤ maxLen) (hbytes : ((n + m) + (n + m) / 4 + 192) * bytes ≤ 281474976710656) (hbase : base ≤ w.heap.size)
    (h : ∀ v' w', w'.RowV base e size v' (n + m) (xs ++ news) → RowOut w w' v v' n m → wpListIn F nF P ops Q rest (a.put o.dst v') w') :
    wpListIn F nF P ops Q (o :: rest) a w := by
  refine wpListIn_plain hgd fun K hK => ?_
  obtain ⟨v', w', hr, h2, h3⟩ := run_append_src (P := P) w base t o.type e i z size bytes ht hi hz hsize hby hzs v n xs hown vx m news hsrc h1 h63 hbytes hbase
  unfold Oper.wpIn
  refine ⟨by simp [Oper.about, ho, resolve, Target.leads, Sem.run_pure], ?_⟩
  rw [Oper.semAt_plain F _ _ (by rw [ho]; intro c hc'; cases hc')]
  simp [execOp, ho, resolve, invoke, builtin, hs, hx, hr, Result.andThen]
  exact hK _ _ (h v' w' h2 h3)

end Go.Proofs.Ytjcggokhminmoaa
