/-
The machine in a step: how a step begins, what it writes, how it ends.
-/
import Derived.Test.YtbhbpfpggfcpgaaMchM
namespace Go
open Go.RowKit

def MachS.withCall (st : MachS) (ci : Nat) (f : Cal → Cal) : MachS := { st with calls := st.calls.modify ci f }
def MachS.withSeat (st : MachS) (si : Nat) (f : Seat → Seat) : MachS := { st with seats := st.seats.modify si f }
section
variable {w : World} {base xb : Nat} {st : MachS} {v : MachV} {ci si g : Nat}
theorem MachS.On.withCall (O : st.On ci si) (f : Cal → Cal) : (st.withCall ci f).On ci si := ⟨O.on, by simpa [MachS.withCall] using O.c, O.s⟩
theorem MachS.On.withSeat (O : st.On ci si) (f : Seat → Seat) : (st.withSeat si f).On ci si := ⟨O.on, O.c, by simpa [MachS.withSeat] using O.s⟩

theorem MachAt.call_cell (H : MachAt w base xb st v) (O : st.On ci si) (hg : v.vca.rowBlock = some g) {j : Nat} (hj : j < 9) (f : Cal → Cal) (u : Value)
    (hf : ∀ c p, ({ f c with pt := p } : Cal).cells = ({ c with pt := p } : Cal).cells.set j u) : MachAt (w.setCell ⟨g, ci * 9 + j, none⟩ u) base xb (st.withCall ci f) v := by
  have hc := O.c
  refine H.put_call (st' := st.withCall ci f) hg (j := ci * 9 + j) (u := u) (by omega) ⟨rfl, rfl, rfl, rfl, rfl, rfl, rfl, rfl, by simp [MachS.withCall]⟩ ?_
  have hc' : ci < st.callsNow.length := by rw [st.callsNow_len]; exact hc
  rw [cals_set st.callsNow ci j hc' hj { f (st.calls[ci]) with pt := st.d.pt } u (by rw [O.call hc']; exact hf _ _)]
  congr 1
  rw [O.calls, (O.withCall f).calls]
  show _ = (st.calls.modify ci f).modify ci _
  apply List.ext_getElem?
  intro i
  simp only [List.getElem?_set, List.getElem?_modify, List.length_modify]
  by_cases e : ci = i
  · subst e; simp [hc]; rfl
  · simp [e]
theorem MachAt.seat_cell (H : MachAt w base xb st v) (O : st.On ci si) (hg : v.vse.rowBlock = some g) {j : Nat} (hj : j < 5) (f : Seat → Seat) (u : Value)
    (hf : ∀ c p q, ({ f c with ak := p, av := q } : Seat).cells = ({ c with ak := p, av := q } : Seat).cells.set j u) : MachAt (w.setCell ⟨g, si * 5 + j, none⟩ u) base xb (st.withSeat si f) v := by
  have hc := O.s
  refine H.put_seat (st' := st.withSeat si f) hg (j := si * 5 + j) (u := u) (by omega) ⟨rfl, rfl, rfl, rfl, rfl, rfl, rfl, rfl, by simp [MachS.withSeat]⟩ ?_
  have hc' : si < st.seatsNow.length := by rw [st.seatsNow_len]; exact hc
  rw [seatC_set st.seatsNow si j hc' hj { f (st.seats[si]) with ak := st.d.ak, av := st.d.av } u (by rw [O.seat hc']; exact hf _ _ _)]
  congr 1
  rw [O.seatsE, (O.withSeat f).seatsE]
  show _ = (st.seats.modify si f).modify si _
  apply List.ext_getElem?
  intro i
  simp only [List.getElem?_set, List.getElem?_modify, List.length_modify]
  by_cases e : si = i
  · subst e; simp [hc]; exact ⟨rfl, rfl⟩
  · simp [e]

/-- the desk as it lies before a task when a step begins (the memory's number is set behind it) -/
def DeskS.fresh (d : DeskS) (th now : Int) (c : Cal) (s : Seat) : DeskS := { d with used := false, th := th, now := now, pt := c.pt, ak := s.ak, av := s.av }

theorem modify_same {α : Type} (l : List α) (i : Nat) (f : α → α) (h : ∀ (hi : i < l.length), f l[i] = l[i]) : l.modify i f = l := by
  apply List.ext_getElem?
  intro j
  simp only [List.getElem?_modify]
  by_cases e : i = j
  · subst e
    by_cases hi : i < l.length
    · simp [List.getElem?_eq_getElem hi, h hi]
    · simp [List.getElem?_eq_none (Nat.le_of_not_lt hi)]
  · simp [e]

theorem MachAt.begin (H : MachAt w base xb st v) (hon : st.on = none) (hc : ci < st.calls.length) (hs : si < st.seats.length) (th now : Int) {g2 : Nat} (hg : v.vse.rowBlock = some g) (hg2 : v.vca.rowBlock = some g2) :
    MachAt (((((w.setCell ⟨xb, 1, none⟩ (.int .i64 th)).setCell ⟨xb, 2, none⟩ (.int .i64 now)).setCell ⟨xb, 5, none⟩ (.bool false)).setCell ⟨xb, 3, none⟩ (.pointer (some ⟨g2, ci * 9, none⟩))).setCell ⟨xb, 4, none⟩ (.pointer (some ⟨g, si * 5 + 3, none⟩))) base xb
      { st with d := st.d.fresh th now st.calls[ci] st.seats[si], on := some (ci, si) } v := by
  have e1 : st.callsNow = st.calls := by unfold MachS.callsNow; rw [hon]
  have e2 : st.seatsNow = st.seats := by unfold MachS.seatsNow; rw [hon]
  have e3 : ({ st with d := st.d.fresh th now st.calls[ci] st.seats[si], on := some (ci, si) } : MachS).callsNow = st.calls := by
    unfold MachS.callsNow DeskS.fresh
    exact modify_same _ _ _ (fun _ => rfl)
  have e4 : ({ st with d := st.d.fresh th now st.calls[ci] st.seats[si], on := some (ci, si) } : MachS).seatsNow = st.seats := by
    unfold MachS.seatsNow DeskS.fresh
    exact modify_same _ _ _ (fun _ => rfl)
  have hb : (((((w.setCell ⟨xb, 1, none⟩ (.int .i64 th)).setCell ⟨xb, 2, none⟩ (.int .i64 now)).setCell ⟨xb, 5, none⟩ (.bool false)).setCell ⟨xb, 3, none⟩ (.pointer (some ⟨g2, ci * 9, none⟩))).setCell ⟨xb, 4, none⟩ (.pointer (some ⟨g, si * 5 + 3, none⟩))).heap[xb]? =
      some (.cells #[.pointer (some ⟨v.mb, 0, none⟩), .int .i64 th, .int .i64 now, .pointer (some ⟨g2, ci * 9, none⟩), .pointer (some ⟨g, si * 5 + 3, none⟩), .bool false, v.vsh, v.kit, v.vse, .int .i64 st.moves, v.vca] 100) := by
    simp [World.setCell, Array.getElem?_modify, H.blk]
  have ho : ∀ k, k ≠ xb → (((((w.setCell ⟨xb, 1, none⟩ (.int .i64 th)).setCell ⟨xb, 2, none⟩ (.int .i64 now)).setCell ⟨xb, 5, none⟩ (.bool false)).setCell ⟨xb, 3, none⟩ (.pointer (some ⟨g2, ci * 9, none⟩))).setCell ⟨xb, 4, none⟩ (.pointer (some ⟨g, si * 5 + 3, none⟩))).heap[k]? = w.heap[k]? := by
    intro k hk
    simp [World.setCell, Array.getElem?_modify, Ne.symm hk]
  refine ⟨?_, H.ge, ?_, ?_, ?_, ?_, H.cx, H.cm, H.cs, H.ce, H.cc⟩
  · rw [hb]
    unfold MachS.callC MachS.toldC
    simp only [ptrIn_eq hg, ptrIn_eq hg2]
    rfl
  · exact H.mem.of_block fun k hk => ho k (fun e => H.nm (e ▸ hk))
  · exact H.rsh.of_block fun k hk => ho k (H.ns k hk)
  · rw [e4]; have := H.rse.of_block (w' := (((((w.setCell ⟨xb, 1, none⟩ (.int .i64 th)).setCell ⟨xb, 2, none⟩ (.int .i64 now)).setCell ⟨xb, 5, none⟩ (.bool false)).setCell ⟨xb, 3, none⟩ (.pointer (some ⟨g2, ci * 9, none⟩))).setCell ⟨xb, 4, none⟩ (.pointer (some ⟨g, si * 5 + 3, none⟩)))) fun k hk => ho k (H.ne k hk)
    rw [e2] at this; exact this
  · rw [e3]; have := H.rca.of_block (w' := (((((w.setCell ⟨xb, 1, none⟩ (.int .i64 th)).setCell ⟨xb, 2, none⟩ (.int .i64 now)).setCell ⟨xb, 5, none⟩ (.bool false)).setCell ⟨xb, 3, none⟩ (.pointer (some ⟨g2, ci * 9, none⟩))).setCell ⟨xb, 4, none⟩ (.pointer (some ⟨g, si * 5 + 3, none⟩)))) fun k hk => ho k (H.nc k hk)
    rw [e1] at this; exact this

/-- the step is over: what was told stays with the call and the seat -/
def MachS.rest (st : MachS) : MachS := { st with on := none, calls := st.callsNow, seats := st.seatsNow }
theorem MachAt.rest (H : MachAt w base xb st v) : MachAt ((w.setCell ⟨xb, 3, none⟩ (.pointer none)).setCell ⟨xb, 4, none⟩ (.pointer none)) base xb st.rest v := by
  have hb : ((w.setCell ⟨xb, 3, none⟩ (.pointer none)).setCell ⟨xb, 4, none⟩ (.pointer none)).heap[xb]? =
      some (.cells #[.pointer (some ⟨v.mb, 0, none⟩), .int .i64 st.d.th, .int .i64 st.d.now, .pointer none, .pointer none, .bool st.d.used, v.vsh, v.kit, v.vse, .int .i64 st.moves, v.vca] 100) := by
    simp [World.setCell, Array.getElem?_modify, H.blk]
  have ho : ∀ k, k ≠ xb → ((w.setCell ⟨xb, 3, none⟩ (.pointer none)).setCell ⟨xb, 4, none⟩ (.pointer none)).heap[k]? = w.heap[k]? := by
    intro k hk
    simp [World.setCell, Array.getElem?_modify, Ne.symm hk]
  refine ⟨hb, H.ge, ?_, ?_, ?_, ?_, H.cx, H.cm, H.cs, H.ce, H.cc⟩
  · exact H.mem.of_block fun k hk => ho k (fun e => H.nm (e ▸ hk))
  · exact H.rsh.of_block fun k hk => ho k (H.ns k hk)
  · have := H.rse.of_block (w' := ((w.setCell ⟨xb, 3, none⟩ (.pointer none)).setCell ⟨xb, 4, none⟩ (.pointer none))) fun k hk => ho k (H.ne k hk)
    rw [← st.seatsNow_len] at this
    exact this
  · have := H.rca.of_block (w' := ((w.setCell ⟨xb, 3, none⟩ (.pointer none)).setCell ⟨xb, 4, none⟩ (.pointer none))) fun k hk => ho k (H.nc k hk)
    rw [← st.callsNow_len] at this
    exact this
end

/-- the cells that a step reads and writes -/
theorem MachAt.stepFacts {w : World} {base xb : Nat} {st : MachS} {v : MachV} {ci si g g2 : Nat} (H : MachAt w base xb st v) (O : st.On ci si) (hg : v.vse.rowBlock = some g) (hg2 : v.vca.rowBlock = some g2) {se : Seat} {ca : Cal} (hse : st.seats[si]? = some se) (hca : st.calls[ci]? = some ca) :
    (w.cell? ⟨g, si * 5, none⟩ = some se.task ∧ w.cell? ⟨g, si * 5 + 1, none⟩ = some (.bool se.ready) ∧ w.cell? ⟨g, si * 5 + 2, none⟩ = some (.int .i64 se.last) ∧
      w.cell? ⟨g, si * 5 + 3, none⟩ = some (.int .i64 st.d.ak) ∧ w.cell? ⟨g, si * 5 + 4, none⟩ = some (.int .i64 st.d.av) ∧ (∀ j, w.frozen? ⟨g, j, none⟩ = false) ∧ g < w.heap.size) ∧
    (w.cell? ⟨g2, ci * 9 + 5, none⟩ = some (.int .i64 ca.en) ∧ w.cell? ⟨g2, ci * 9 + 7, none⟩ = some (.int .i64 ca.ak) ∧ w.cell? ⟨g2, ci * 9 + 8, none⟩ = some (.int .i64 ca.av) ∧
      (∀ j, w.frozen? ⟨g2, j, none⟩ = false) ∧ g2 < w.heap.size) ∧
    (w.cell? ⟨xb, 10, none⟩ = some v.vca ∧ w.cell? ⟨xb, 3, none⟩ = some (.pointer (some ⟨g2, ci * 9, none⟩)) ∧ w.cell? ⟨xb, 4, none⟩ = some (.pointer (some ⟨g, si * 5 + 3, none⟩)) ∧ (∀ j, w.frozen? ⟨xb, j, none⟩ = false) ∧ xb < w.heap.size) ∧
    g ≠ xb ∧ g2 ≠ xb ∧ g ≠ g2 := by
  obtain ⟨ga, cap, e, hcap, hrb, hglt, hgx, gz, gc⟩ := H.seats_form O.s
  obtain ⟨gb, cap2, e2, hcap2, hrb2, hglt2, hgx2, gz2, gc2⟩ := H.calls_form O.c
  obtain rfl : g = ga := by rw [hg] at hrb; exact Option.some.inj hrb
  obtain rfl : g2 = gb := by rw [hg2] at hrb2; exact Option.some.inj hrb2
  obtain ⟨c0, c1, c2, c3, c4, c5, c6, c7, c8, c9, c10, z, lt⟩ := H.head
  rw [O.seat (by rw [MachS.seatsNow_len]; exact O.s)] at gc
  rw [O.call (by rw [MachS.callsNow_len]; exact O.c)] at gc2
  have e3 : st.callC v = .pointer (some ⟨g2, ci * 9, none⟩) := by unfold MachS.callC; rw [O.on]; exact ptrIn_eq hg2
  have e4 : st.toldC v = .pointer (some ⟨g, si * 5 + 3, none⟩) := by unfold MachS.toldC; rw [O.on]; exact ptrIn_eq hg
  rw [e3] at c3
  rw [e4] at c4
  rw [show st.seats[si]'O.s = se from (List.getElem?_eq_some_iff.1 hse).2] at gc
  rw [show st.calls[ci]'O.c = ca from (List.getElem?_eq_some_iff.1 hca).2] at gc2
  refine ⟨⟨gc 0 (by decide), gc 1 (by decide), gc 2 (by decide), gc 3 (by decide), gc 4 (by decide), gz, hglt⟩, ⟨gc2 5 (by decide), gc2 7 (by decide), gc2 8 (by decide), gz2, hglt2⟩, ⟨c10, c3, c4, z, lt⟩, hgx, hgx2, ?_⟩
  intro e
  have h1 := H.ce _ hg
  have h2 := H.cc _ hg2
  rw [e, h2] at h1
  cases h1
/-- the machine behind a step -/
def MachS.stepped (st : MachS) (ci si : Nat) (now : Int) (over : Bool) : MachS :=
  if over then ((((st.withCall ci fun c => { c with en := now }).withCall ci fun c => { c with ak := st.d.ak }).withCall ci fun c => { c with av := st.d.av }).withSeat si fun c => { c with task := .nilIface }).rest else st.rest
end Go
