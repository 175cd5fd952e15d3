/-
The machine in a step: the call and the seat of the step; a cell of the calls', or of the seats' row is written.
-/
import Derived.Test.YtbhbpfpggfcpgaaMch
namespace Go
open Go.RowKit

/-- in a step -/
structure MachS.On (st : MachS) (ci si : Nat) : Prop where
  on : st.on = some (ci, si)
  c : ci < st.calls.length
  s : si < st.seats.length

theorem MachS.On.calls {st : MachS} {ci si : Nat} (h : st.On ci si) : st.callsNow = st.calls.modify ci fun c => { c with pt := st.d.pt } := by unfold MachS.callsNow; rw [h.on]
theorem MachS.On.seatsE {st : MachS} {ci si : Nat} (h : st.On ci si) : st.seatsNow = st.seats.modify si fun s => { s with ak := st.d.ak, av := st.d.av } := by unfold MachS.seatsNow; rw [h.on]
theorem MachS.On.call {st : MachS} {ci si : Nat} (h : st.On ci si) (hc : ci < st.callsNow.length) : st.callsNow[ci] = { st.calls[ci]'h.c with pt := st.d.pt } := by
  simp only [h.calls]
  simp
theorem MachS.On.seat {st : MachS} {ci si : Nat} (h : st.On ci si) (hc : si < st.seatsNow.length) : st.seatsNow[si] = { st.seats[si]'h.s with ak := st.d.ak, av := st.d.av } := by
  simp only [h.seatsE]
  simp

/-- the desk turns in point alone -/
theorem point_calls {st : MachS} {ci si : Nat} (h : st.On ci si) (m : Int) : (cals st.callsNow).set (ci * 9 + 6) (.int .i64 m) = cals ({ st with d := { st.d with pt := m } } : MachS).callsNow := by
  have hc : ci < st.callsNow.length := by rw [st.callsNow_len]; exact h.c
  rw [cals_set st.callsNow ci 6 hc (by decide) { st.calls[ci]'h.c with pt := m } (.int .i64 m) (by rw [h.call hc]; rfl)]
  congr 1
  rw [h.calls, MachS.On.calls (st := { st with d := { st.d with pt := m } }) ⟨h.on, h.c, h.s⟩]
  apply List.ext_getElem?
  intro i
  simp only [List.getElem?_set, List.getElem?_modify, List.length_modify]
  by_cases e : ci = i
  · subst e; simp [h.c]
  · simp [e]
theorem MachAt.put_call {w : World} {base xb : Nat} {st : MachS} {v : MachV} (H : MachAt w base xb st v) {st' : MachS} {g j : Nat} {u : Value} (hg : v.vca.rowBlock = some g) (hj : j < st.calls.length * 9)
    (hd : st'.d.th = st.d.th ∧ st'.d.now = st.d.now ∧ st'.on = st.on ∧ st'.d.used = st.d.used ∧ st'.moves = st.moves ∧ st'.d.mem = st.d.mem ∧ st'.d.shifts = st.d.shifts ∧ st'.seatsNow = st.seatsNow ∧ st'.calls.length = st.calls.length)
    (hc : (cals st.callsNow).set j u = cals st'.callsNow) : MachAt (w.setCell ⟨g, j, none⟩ u) base xb st' v := by
  obtain ⟨e1, e2, e3, e4, e5, e6, e7, e8, e9⟩ := hd
  have hgx : g ≠ xb := H.nc g hg
  have col : ∀ k, v.col k ≠ 4 → k ≠ g := fun k hk e => hk (e ▸ H.cc g hg)
  have e10 : st'.seats.length = st.seats.length := by rw [← st'.seatsNow_len, e8, st.seatsNow_len]
  refine ⟨?_, H.ge, ?_, ?_, ?_, ?_, H.cx, H.cm, H.cs, H.ce, H.cc⟩
  · rw [Below.heap_setCell _ _ _ _ (show xb ≠ g from Ne.symm hgx), H.blk]
    unfold MachS.callC MachS.toldC
    rw [e1, e2, e3, e4, e5]
  · rw [e6]; exact H.mem.set_other (fun e => col _ (by rw [H.cm _ e]; decide) rfl) _
  · rw [e7]; exact H.rsh.set (fun k hk => col k (by rw [H.cs k hk]; decide)) _
  · rw [e8, e10]; exact H.rse.set (fun k hk => col k (by rw [H.ce k hk]; decide)) _
  · rw [e9, ← hc]; exact H.rca.put hg j hj u
theorem MachAt.put_seat {w : World} {base xb : Nat} {st : MachS} {v : MachV} (H : MachAt w base xb st v) {st' : MachS} {g j : Nat} {u : Value} (hg : v.vse.rowBlock = some g) (hj : j < st.seats.length * 5)
    (hd : st'.d.th = st.d.th ∧ st'.d.now = st.d.now ∧ st'.on = st.on ∧ st'.d.used = st.d.used ∧ st'.moves = st.moves ∧ st'.d.mem = st.d.mem ∧ st'.d.shifts = st.d.shifts ∧ st'.callsNow = st.callsNow ∧ st'.seats.length = st.seats.length)
    (hc : (seatC st.seatsNow).set j u = seatC st'.seatsNow) : MachAt (w.setCell ⟨g, j, none⟩ u) base xb st' v := by
  obtain ⟨e1, e2, e3, e4, e5, e6, e7, e8, e9⟩ := hd
  have hgx : g ≠ xb := H.ne g hg
  have col : ∀ k, v.col k ≠ 3 → k ≠ g := fun k hk e => hk (e ▸ H.ce g hg)
  have e10 : st'.calls.length = st.calls.length := by rw [← st'.callsNow_len, e8, st.callsNow_len]
  refine ⟨?_, H.ge, ?_, ?_, ?_, ?_, H.cx, H.cm, H.cs, H.ce, H.cc⟩
  · rw [Below.heap_setCell _ _ _ _ (show xb ≠ g from Ne.symm hgx), H.blk]
    unfold MachS.callC MachS.toldC
    rw [e1, e2, e3, e4, e5]
  · rw [e6]; exact H.mem.set_other (fun e => col _ (by rw [H.cm _ e]; decide) rfl) _
  · rw [e7]; exact H.rsh.set (fun k hk => col k (by rw [H.cs k hk]; decide)) _
  · rw [e9, ← hc]; exact H.rse.put hg j hj u
  · rw [e8, e10]; exact H.rca.set (fun k hk => col k (by rw [H.cc k hk]; decide)) _

/-- the block of the calls -/
theorem MachAt.calls_form {w : World} {base xb : Nat} {st : MachS} {v : MachV} (H : MachAt w base xb st v) {ci : Nat} (hc : ci < st.calls.length) : ∃ g cap, v.vca = .slice (some ⟨g, 0, none⟩) st.calls.length cap ∧ st.calls.length ≤ cap ∧ v.vca.rowBlock = some g ∧ g < w.heap.size ∧ g ≠ xb ∧
    (∀ j, w.frozen? ⟨g, j, none⟩ = false) ∧ ∀ j, j < 9 → w.cell? ⟨g, ci * 9 + j, none⟩ = (st.callsNow[ci]'(by rw [st.callsNow_len]; exact hc)).cells[j]? := by
  obtain ⟨g, cap, e, h1, h2, h3, h4, h5, h6⟩ := H.rca.some_form (by omega)
  refine ⟨g, cap, e, h1, h4, h3, H.nc g h4, h5, fun j hj => ?_⟩
  have := cals_get st.callsNow ci j (by rw [st.callsNow_len]; exact hc) hj
  rw [← this]
  have hl : ci * 9 + j < (cals st.callsNow).length := by rw [cals_len, st.callsNow_len]; omega
  rw [h6 (ci * 9 + j) _ (List.getElem?_eq_getElem hl), List.getElem?_eq_getElem hl]
theorem MachAt.seats_form {w : World} {base xb : Nat} {st : MachS} {v : MachV} (H : MachAt w base xb st v) {si : Nat} (hs : si < st.seats.length) : ∃ g cap, v.vse = .slice (some ⟨g, 0, none⟩) st.seats.length cap ∧ st.seats.length ≤ cap ∧ v.vse.rowBlock = some g ∧ g < w.heap.size ∧ g ≠ xb ∧
    (∀ j, w.frozen? ⟨g, j, none⟩ = false) ∧ ∀ j, j < 5 → w.cell? ⟨g, si * 5 + j, none⟩ = (st.seatsNow[si]'(by rw [st.seatsNow_len]; exact hs)).cells[j]? := by
  obtain ⟨g, cap, e, h1, h2, h3, h4, h5, h6⟩ := H.rse.some_form (by omega)
  refine ⟨g, cap, e, h1, h4, h3, H.ne g h4, h5, fun j hj => ?_⟩
  have := seatC_get st.seatsNow si j (by rw [st.seatsNow_len]; exact hs) hj
  rw [← this]
  have hl : si * 5 + j < (seatC st.seatsNow).length := by rw [seatC_len, st.seatsNow_len]; omega
  rw [h6 (si * 5 + j) _ (List.getElem?_eq_getElem hl), List.getElem?_eq_getElem hl]

theorem ptrIn_eq {v : Value} {g o : Nat} (h : v.rowBlock = some g) : ptrIn v o = .pointer (some ⟨g, o, none⟩) := by unfold ptrIn; rw [h]

theorem MachAt.told {w : World} {base xb : Nat} {st : MachS} {v : MachV} (H : MachAt w base xb st v) {ci si g : Nat} (hg : v.vse.rowBlock = some g) (O : st.On ci si) (k a : Int) :
    MachAt ((w.setCell ⟨g, si * 5 + 3, none⟩ (.int .i64 k)).setCell ⟨g, si * 5 + 4, none⟩ (.int .i64 a)) base xb { st with d := { st.d with ak := k, av := a } } v := by
  have hs := O.s
  have h1 := H.put_seat (st' := { st with d := { st.d with ak := k } }) hg (j := si * 5 + 3) (u := .int .i64 k) (by omega) ⟨rfl, rfl, rfl, rfl, rfl, rfl, rfl, by unfold MachS.callsNow; rfl, rfl⟩
    (by
      have hc : si < st.seatsNow.length := by rw [st.seatsNow_len]; exact O.s
      rw [seatC_set st.seatsNow si 3 hc (by decide) { st.seats[si]'O.s with ak := k, av := st.d.av } (.int .i64 k) (by rw [O.seat hc]; rfl)]
      congr 1
      rw [O.seatsE, MachS.On.seatsE (st := { st with d := { st.d with ak := k } }) ⟨O.on, O.c, O.s⟩]
      apply List.ext_getElem?
      intro i
      simp only [List.getElem?_set, List.getElem?_modify, List.length_modify]
      by_cases e : si = i
      · subst e; simp [O.s]
      · simp [e])
  have O1 : MachS.On { st with d := { st.d with ak := k } } ci si := ⟨O.on, O.c, O.s⟩
  exact h1.put_seat (st' := { st with d := { st.d with ak := k, av := a } }) hg (j := si * 5 + 4) (u := .int .i64 a) (by show _ < st.seats.length * 5; omega) ⟨rfl, rfl, rfl, rfl, rfl, rfl, rfl, by unfold MachS.callsNow; rfl, rfl⟩
    (by
      have hc : si < ({ st with d := { st.d with ak := k } } : MachS).seatsNow.length := by rw [MachS.seatsNow_len]; exact O.s
      rw [seatC_set _ si 4 hc (by decide) { st.seats[si]'O.s with ak := k, av := a } (.int .i64 a) (by rw [O1.seat hc]; rfl)]
      congr 1
      rw [O1.seatsE, MachS.On.seatsE (st := { st with d := { st.d with ak := k, av := a } }) ⟨O.on, O.c, O.s⟩]
      apply List.ext_getElem?
      intro i
      simp only [List.getElem?_set, List.getElem?_modify, List.length_modify]
      by_cases e : si = i
      · subst e; simp [O.s]
      · simp [e])
theorem RowOut.kept {w w1 : World} {u u' : Value} {n m : Nat} (ho : RowOut w w1 u u' n m) {base e size l : Nat} {z : Value} {xs : List Value} (h : w.RowV base e size z l xs) (hne : ∀ k, z.rowBlock = some k → u.rowBlock ≠ some k) : w1.RowV base e size z l xs := h.out ho hne
theorem RowOut.mem {w w1 : World} {u u' : Value} {n m : Nat} (ho : RowOut w w1 u u' n m) {base mb : Nat} {st : MemS} {v : MemV} (h : MemAt w base mb st v) (hne : ∀ k, v.own mb k → u.rowBlock ≠ some k) : MemAt w1 base mb st v :=
  h.of_block fun k hk => ho.block (h.lt k hk).2 (hne k hk)

/-- shifts = append(shifts, x) -/
theorem MachAt.app_shift {w w1 : World} {base xb : Nat} {st : MachS} {v : MachV} (H : MachAt w base xb st v) {v' : Value} {x : Shf} (hown : w1.RowV base 132 5 v' (st.d.shifts.length + 1) (shfs st.d.shifts ++ x.cells)) (ho : RowOut w w1 v.vsh v' st.d.shifts.length 1) :
    DeskOut w base xb v { st with d := { st.d with shifts := st.d.shifts ++ [x] } } (w1.setCell ⟨xb, 6, none⟩ v') := by
  have hn : ∀ k, v'.rowBlock = some k → v.vsh.rowBlock = some k ∨ k = w.heap.size := fun k hk => ho.news hk
  have hlt := H.lt
  have hx := hlt xb (.inl rfl)
  have hc2 : ∀ k, v.col k ≠ 2 → v.vsh.rowBlock ≠ some k := fun k hk e => hk (H.cs k e)
  have hblk : w1.heap[xb]? = some (.cells #[.pointer (some ⟨v.mb, 0, none⟩), .int .i64 st.d.th, .int .i64 st.d.now, st.callC v, st.toldC v, .bool st.d.used, v.vsh, v.kit, v.vse, .int .i64 st.moves, v.vca] 100) := by
    rw [ho.block hx.2 (hc2 _ (by rw [H.cx]; decide))]; exact H.blk
  have hne : ∀ k, v'.rowBlock = some k → k ≠ xb := fun k hk e => by
    rcases hn k hk with h1 | h1
    · exact H.ns k h1 e
    · omega
  refine ⟨{ v with vsh := v', col := fun k => if w.heap.size ≤ k then 2 else v.col k }, ⟨?_, H.ge, ?_, ?_, ?_, ?_, ?_, ?_, ?_, ?_, ?_⟩, ?_, ?_, rfl, rfl, rfl, rfl⟩
  · simp [World.setCell, Array.getElem?_modify, hblk]; exact ⟨rfl, rfl⟩
  · exact (ho.mem H.mem (fun k hk => hc2 k (by rw [H.cm k hk]; decide))).set_other H.nm _
  · rw [shfs_snoc, List.length_append]
    exact hown.set hne _
  · exact (ho.kept H.rse (fun k hk => hc2 k (by rw [H.ce k hk]; decide))).set H.ne _
  · exact (ho.kept H.rca (fun k hk => hc2 k (by rw [H.cc k hk]; decide))).set H.nc _
  · show (if _ then _ else _) = _
    rw [if_neg (by omega)]; exact H.cx
  · intro k e
    show (if _ then _ else _) = _
    rw [if_neg (by have := (H.mem.lt k e).2; omega)]; exact H.cm k e
  · intro k e
    show (if _ then _ else _) = _
    split
    · rfl
    · rcases hn k e with h1 | h1
      · exact H.cs k h1
      · omega
  · intro k e
    show (if _ then _ else _) = _
    rw [if_neg (by have := (H.rse.lt k e).2; omega)]; exact H.ce k e
  · intro k e
    show (if _ then _ else _) = _
    rw [if_neg (by have := (H.rca.lt k e).2; omega)]; exact H.cc k e
  · exact (Only.out ho (fun k hk => .inr (.inr (.inl hk)))).set (.inl (.inl rfl)) _
  · rintro k (e | e | e | e | e)
    · exact .inl (.inl e)
    · exact .inl (.inr (.inl e))
    · rcases hn k e with h1 | h1
      · exact .inl (.inr (.inr (.inl h1)))
      · exact .inr (by omega)
    · exact .inl (.inr (.inr (.inr (.inl e))))
    · exact .inl (.inr (.inr (.inr (.inr e))))
theorem RowOut.mhead {w w1 : World} {base xb : Nat} {st : MachS} {v : MachV} {u' : Value} {n m : Nat} (ho : RowOut w w1 v.vsh u' n m) (H : MachAt w base xb st v) : w1.cell? ⟨xb, 0, none⟩ = some (.pointer (some ⟨v.mb, 0, none⟩)) ∧ w1.cell? ⟨xb, 1, none⟩ = some (.int .i64 st.d.th) ∧ w1.cell? ⟨xb, 2, none⟩ = some (.int .i64 st.d.now) ∧
    w1.cell? ⟨xb, 6, none⟩ = some v.vsh ∧ (∀ j, w1.frozen? ⟨xb, j, none⟩ = false) ∧ xb < w1.heap.size := by
  have hb := ho.block (H.lt xb (.inl rfl)).2 (fun e => H.ns xb e rfl)
  obtain ⟨c0, c1, c2, c3, c4, c5, c6, c7, c8, c9, c10, z, lt⟩ := H.head
  exact ⟨(World.cell?_of_block hb).trans c0, (World.cell?_of_block hb).trans c1, (World.cell?_of_block hb).trans c2, (World.cell?_of_block hb).trans c6, fun j => (World.frozen?_of_block hb).trans (z j), Nat.lt_of_lt_of_le lt ho.size⟩
end Go
