/-
The machine in a step: the call and the seat of the step; a cell of the calls', or of the seats' row is written.
A region that draws its order and holds reads and steps that write (as Mix), and whose last operation waits for all the others: that one may turn what was read.
-/
import Derived.Test.YtjcggokhminmoaaQMix
namespace Go
open Go.RowKit

/-- in a step -/
structure MachS.On (st : MachS) (ci si : Nat) : Prop where
  on : st.on = some (ci, si)
  c : ci < st.calls.length
  s : si < st.seats.length

theorem MachS.On.calls {st : MachS} {ci si : Nat} (h : st.On ci si) : st.callsNow = st.calls.modify ci fun c => { c with pt := st.d.pt } := by unfold MachS.callsNow; rw [h.on]
theorem MachS.On.seatsE {st : MachS} {ci si : Nat} (h : st.On ci si) : st.seatsNow = st.seats.modify si fun s => { s with ak := st.d.ak, av := st.d.av } := by unfold MachS.seatsNow; rw [h.on]
theorem MachS.On.call {st : MachS} {ci si : Nat} (h : st.On ci si) (hc : ci < st.callsNow.length) : st.callsNow[ci] = { st.calls[ci]'h.c with pt := st.d.pt } := by
  simp only [h.calls]
  simp
theorem MachS.On.seat {st : MachS} {ci si : Nat} (h : st.On ci si) (hc : si < st.seatsNow.length) : st.seatsNow[si] = { st.seats[si]'h.s with ak := st.d.ak, av := st.d.av } := by
  simp only [h.seatsE]
  simp

/-- the desk turns in point alone -/
theorem point_calls {st : MachS} {ci si : Nat} (h : st.On ci si) (m : Int) : (cals st.callsNow).set (ci * 9 + 6) (.int .i64 m) = cals ({ st with d := { st.d with pt := m } } : MachS).callsNow := by
  have hc : ci < st.callsNow.length := by rw [st.callsNow_len]; exact h.c
  rw [cals_set st.callsNow ci 6 hc (by decide) { st.calls[ci]'h.c with pt := m } (.int .i64 m) (by rw [h.call hc]; rfl)]
  congr 1
  rw [h.calls, MachS.On.calls (st := { st with d := { st.d with pt := m } }) ⟨h.on, h.c, h.s⟩]
  apply List.ext_getElem?
  intro i
  simp only [List.getElem?_set, List.getElem?_modify, List.length_modify]
  by_cases e : ci = i
  · subst e; simp [h.c]
  · simp [e]
theorem MachAt.put_call {w : World} {base xb : Nat} {st : MachS} {v : MachV} (H : MachAt w base xb st v) {st' : MachS} {g j : Nat} {u : Value} (hg : v.vca.rowBlock = some g) (hj : j < st.calls.length * 9)
    (hd : st'.d.th = st.d.th ∧ st'.d.now = st.d.now ∧ st'.on = st.on ∧ st'.d.used = st.d.used ∧ st'.moves = st.moves ∧ st'.d.mem = st.d.mem ∧ st'.d.shifts = st.d.shifts ∧ st'.seatsNow = st.seatsNow ∧ st'.calls.length = st.calls.length)
    (hc : (cals st.callsNow).set j u = cals st'.callsNow) : MachAt (w.setCell ⟨g, j, none⟩ u) base xb st' v := by
  obtain ⟨e1, e2, e3, e4, e5, e6, e7, e8, e9⟩ := hd
  have hgx : g ≠ xb := H.nc g hg
  have col : ∀ k, v.col k ≠ 4 → k ≠ g := fun k hk e => hk (e ▸ H.cc g hg)
  have e10 : st'.seats.length = st.seats.length := by rw [← st'.seatsNow_len, e8, st.seatsNow_len]
  refine ⟨?_, H.ge, ?_, ?_, ?_, ?_, H.cx, H.cm, H.cs, H.ce, H.cc⟩
  · rw [Below.heap_setCell _ _ _ _ (show xb ≠ g from Ne.symm hgx), H.blk]
    unfold MachS.callC MachS.toldC
    rw [e1, e2, e3, e4, e5]
  · rw [e6]; exact H.mem.set_other (fun e => col _ (by rw [H.cm _ e]; decide) rfl) _
  · rw [e7]; exact H.rsh.set (fun k hk => col k (by rw [H.cs k hk]; decide)) _
  · rw [e8, e10]; exact H.rse.set (fun k hk => col k (by rw [H.ce k hk]; decide)) _
  · rw [e9, ← hc]; exact H.rca.put hg j hj u
theorem MachAt.put_seat {w : World} {base xb : Nat} {st : MachS} {v : MachV} (H : MachAt w base xb st v) {st' : MachS} {g j : Nat} {u : Value} (hg : v.vse.rowBlock = some g) (hj : j < st.seats.length * 5)
    (hd : st'.d.th = st.d.th ∧ st'.d.now = st.d.now ∧ st'.on = st.on ∧ st'.d.used = st.d.used ∧ st'.moves = st.moves ∧ st'.d.mem = st.d.mem ∧ st'.d.shifts = st.d.shifts ∧ st'.callsNow = st.callsNow ∧ st'.seats.length = st.seats.length)
    (hc : (seatC st.seatsNow).set j u = seatC st'.seatsNow) : MachAt (w.setCell ⟨g, j, none⟩ u) base xb st' v := by
  obtain ⟨e1, e2, e3, e4, e5, e6, e7, e8, e9⟩ := hd
  have hgx : g ≠ xb := H.ne g hg
  have col : ∀ k, v.col k ≠ 3 → k ≠ g := fun k hk e => hk (e ▸ H.ce g hg)
  have e10 : st'.calls.length = st.calls.length := by rw [← st'.callsNow_len, e8, st.callsNow_len]
  refine ⟨?_, H.ge, ?_, ?_, ?_, ?_, H.cx, H.cm, H.cs, H.ce, H.cc⟩
  · rw [Below.heap_setCell _ _ _ _ (show xb ≠ g from Ne.symm hgx), H.blk]
    unfold MachS.callC MachS.toldC
    rw [e1, e2, e3, e4, e5]
  · rw [e6]; exact H.mem.set_other (fun e => col _ (by rw [H.cm _ e]; decide) rfl) _
  · rw [e7]; exact H.rsh.set (fun k hk => col k (by rw [H.cs k hk]; decide)) _
  · rw [e9, ← hc]; exact H.rse.put hg j hj u
  · rw [e8, e10]; exact H.rca.set (fun k hk => col k (by rw [H.cc k hk]; decide)) _

/-- the block of the calls -/
theorem MachAt.calls_form {w : World} {base xb : Nat} {st : MachS} {v : MachV} (H : MachAt w base xb st v) {ci : Nat} (hc : ci < st.calls.length) : ∃ g cap, v.vca = .slice (some ⟨g, 0, none⟩) st.calls.length cap ∧ st.calls.length ≤ cap ∧ v.vca.rowBlock = some g ∧ g < w.heap.size ∧ g ≠ xb ∧
    (∀ j, w.frozen? ⟨g, j, none⟩ = false) ∧ ∀ j, j < 9 → w.cell? ⟨g, ci * 9 + j, none⟩ = (st.callsNow[ci]'(by rw [st.callsNow_len]; exact hc)).cells[j]? := by
  obtain ⟨g, cap, e, h1, h2, h3, h4, h5, h6⟩ := H.rca.some_form (by omega)
  refine ⟨g, cap, e, h1, h4, h3, H.nc g h4, h5, fun j hj => ?_⟩
  have := cals_get st.callsNow ci j (by rw [st.callsNow_len]; exact hc) hj
  rw [← this]
  have hl : ci * 9 + j < (cals st.callsNow).length := by rw [cals_len, st.callsNow_len]; omega
  rw [h6 (ci * 9 + j) _ (List.getElem?_eq_getElem hl), List.getElem?_eq_getElem hl]
theorem MachAt.seats_form {w : World} {base xb : Nat} {st : MachS} {v : MachV} (H : MachAt w base xb st v) {si : Nat} (hs : si < st.seats.length) : ∃ g cap, v.vse = .slice (some ⟨g, 0, none⟩) st.seats.length cap ∧ st.seats.length ≤ cap ∧ v.vse.rowBlock = some g ∧ g < w.heap.size ∧ g ≠ xb ∧
    (∀ j, w.frozen? ⟨g, j, none⟩ = false) ∧ ∀ j, j < 5 → w.cell? ⟨g, si * 5 + j, none⟩ = (st.seatsNow[si]'(by rw [st.seatsNow_len]; exact hs)).cells[j]? := by
  obtain ⟨g, cap, e, h1, h2, h3, h4, h5, h6⟩ := H.rse.some_form (by omega)
  refine ⟨g, cap, e, h1, h4, h3, H.ne g h4, h5, fun j hj => ?_⟩
  have := seatC_get st.seatsNow si j (by rw [st.seatsNow_len]; exact hs) hj
  rw [← this]
  have hl : si * 5 + j < (seatC st.seatsNow).length := by rw [seatC_len, st.seatsNow_len]; omega
  rw [h6 (si * 5 + j) _ (List.getElem?_eq_getElem hl), List.getElem?_eq_getElem hl]

theorem ptrIn_eq {v : Value} {g o : Nat} (h : v.rowBlock = some g) : ptrIn v o = .pointer (some ⟨g, o, none⟩) := by unfold ptrIn; rw [h]

theorem MachAt.told {w : World} {base xb : Nat} {st : MachS} {v : MachV} (H : MachAt w base xb st v) {ci si g : Nat} (hg : v.vse.rowBlock = some g) (O : st.On ci si) (k a : Int) :
    MachAt ((w.setCell ⟨g, si * 5 + 3, none⟩ (.int .i64 k)).setCell ⟨g, si * 5 + 4, none⟩ (.int .i64 a)) base xb { st with d := { st.d with ak := k, av := a } } v := by
  have hs := O.s
  have h1 := H.put_seat (st' := { st with d := { st.d with ak := k } }) hg (j := si * 5 + 3) (u := .int .i64 k) (by omega) ⟨rfl, rfl, rfl, rfl, rfl, rfl, rfl, by unfold MachS.callsNow; rfl, rfl⟩
    (by
      have hc : si < st.seatsNow.length := by rw [st.seatsNow_len]; exact O.s
      rw [seatC_set st.seatsNow si 3 hc (by decide) { st.seats[si]'O.s with ak := k, av := st.d.av } (.int .i64 k) (by rw [O.seat hc]; rfl)]
      congr 1
      rw [O.seatsE, MachS.On.seatsE (st := { st with d := { st.d with ak := k } }) ⟨O.on, O.c, O.s⟩]
      apply List.ext_getElem?
      intro i
      simp only [List.getElem?_set, List.getElem?_modify, List.length_modify]
      by_cases e : si = i
      · subst e; simp [O.s]
      · simp [e])
  have O1 : MachS.On { st with d := { st.d with ak := k } } ci si := ⟨O.on, O.c, O.s⟩
  exact h1.put_seat (st' := { st with d := { st.d with ak := k, av := a } }) hg (j := si * 5 + 4) (u := .int .i64 a) (by show _ < st.seats.length * 5; omega) ⟨rfl, rfl, rfl, rfl, rfl, rfl, rfl, by unfold MachS.callsNow; rfl, rfl⟩
    (by
      have hc : si < ({ st with d := { st.d with ak := k } } : MachS).seatsNow.length := by rw [MachS.seatsNow_len]; exact O.s
      rw [seatC_set _ si 4 hc (by decide) { st.seats[si]'O.s with ak := k, av := a } (.int .i64 a) (by rw [O1.seat hc]; rfl)]
      congr 1
      rw [O1.seatsE, MachS.On.seatsE (st := { st with d := { st.d with ak := k, av := a } }) ⟨O.on, O.c, O.s⟩]
      apply List.ext_getElem?
      intro i
      simp only [List.getElem?_set, List.getElem?_modify, List.length_modify]
      by_cases e : si = i
      · subst e; simp [O.s]
      · simp [e])
theorem RowOut.kept {w w1 : World} {u u' : Value} {n m : Nat} (ho : RowOut w w1 u u' n m) {base e size l : Nat} {z : Value} {xs : List Value} (h : w.RowV base e size z l xs) (hne : ∀ k, z.rowBlock = some k → u.rowBlock ≠ some k) : w1.RowV base e size z l xs := h.out ho hne
theorem RowOut.mem {w w1 : World} {u u' : Value} {n m : Nat} (ho : RowOut w w1 u u' n m) {base mb : Nat} {st : MemS} {v : MemV} (h : MemAt w base mb st v) (hne : ∀ k, v.own mb k → u.rowBlock ≠ some k) : MemAt w1 base mb st v :=
  h.of_block fun k hk => ho.block (h.lt k hk).2 (hne k hk)

/-- shifts = append(shifts, x) -/
theorem MachAt.app_shift {w w1 : World} {base xb : Nat} {st : MachS} {v : MachV} (H : MachAt w base xb st v) {v' : Value} {x : Shf} (hown : w1.RowV base 68 5 v' (st.d.shifts.length + 1) (shfs st.d.shifts ++ x.cells)) (ho : RowOut w w1 v.vsh v' st.d.shifts.length 1) :
    DeskOut w base xb v { st with d := { st.d with shifts := st.d.shifts ++ [x] } } (w1.setCell ⟨xb, 6, none⟩ v') := by
  have hn : ∀ k, v'.rowBlock = some k → v.vsh.rowBlock = some k ∨ k = w.heap.size := fun k hk => ho.news hk
  have hlt := H.lt
  have hx := hlt xb (.inl rfl)
  have hc2 : ∀ k, v.col k ≠ 2 → v.vsh.rowBlock ≠ some k := fun k hk e => hk (H.cs k e)
  have hblk : w1.heap[xb]? = some (.cells #[.pointer (some ⟨v.mb, 0, none⟩), .int .i64 st.d.th, .int .i64 st.d.now, st.callC v, st.toldC v, .bool st.d.used, v.vsh, v.kit, v.vse, .int .i64 st.moves, v.vca] 120) := by
    rw [ho.block hx.2 (hc2 _ (by rw [H.cx]; decide))]; exact H.blk
  have hne : ∀ k, v'.rowBlock = some k → k ≠ xb := fun k hk e => by
    rcases hn k hk with h1 | h1
    · exact H.ns k h1 e
    · omega
  refine ⟨{ v with vsh := v', col := fun k => if w.heap.size ≤ k then 2 else v.col k }, ⟨?_, H.ge, ?_, ?_, ?_, ?_, ?_, ?_, ?_, ?_, ?_⟩, ?_, ?_, rfl, rfl, rfl, rfl⟩
  · simp [World.setCell, Array.getElem?_modify, hblk]; exact ⟨rfl, rfl⟩
  · exact (ho.mem H.mem (fun k hk => hc2 k (by rw [H.cm k hk]; decide))).set_other H.nm _
  · rw [shfs_snoc, List.length_append]
    exact hown.set hne _
  · exact (ho.kept H.rse (fun k hk => hc2 k (by rw [H.ce k hk]; decide))).set H.ne _
  · exact (ho.kept H.rca (fun k hk => hc2 k (by rw [H.cc k hk]; decide))).set H.nc _
  · show (if _ then _ else _) = _
    rw [if_neg (by omega)]; exact H.cx
  · intro k e
    show (if _ then _ else _) = _
    rw [if_neg (by have := (H.mem.lt k e).2; omega)]; exact H.cm k e
  · intro k e
    show (if _ then _ else _) = _
    split
    · rfl
    · rcases hn k e with h1 | h1
      · exact H.cs k h1
      · omega
  · intro k e
    show (if _ then _ else _) = _
    rw [if_neg (by have := (H.rse.lt k e).2; omega)]; exact H.ce k e
  · intro k e
    show (if _ then _ else _) = _
    rw [if_neg (by have := (H.rca.lt k e).2; omega)]; exact H.cc k e
  · exact (Only.out ho (fun k hk => .inr (.inr (.inl hk)))).set (.inl (.inl rfl)) _
  · rintro k (e | e | e | e | e)
    · exact .inl (.inl e)
    · exact .inl (.inr (.inl e))
    · rcases hn k e with h1 | h1
      · exact .inl (.inr (.inr (.inl h1)))
      · exact .inr (by omega)
    · exact .inl (.inr (.inr (.inr (.inl e))))
    · exact .inl (.inr (.inr (.inr (.inr e))))
theorem RowOut.mhead {w w1 : World} {base xb : Nat} {st : MachS} {v : MachV} {u' : Value} {n m : Nat} (ho : RowOut w w1 v.vsh u' n m) (H : MachAt w base xb st v) : w1.cell? ⟨xb, 0, none⟩ = some (.pointer (some ⟨v.mb, 0, none⟩)) ∧ w1.cell? ⟨xb, 1, none⟩ = some (.int .i64 st.d.th) ∧ w1.cell? ⟨xb, 2, none⟩ = some (.int .i64 st.d.now) ∧
    w1.cell? ⟨xb, 6, none⟩ = some v.vsh ∧ (∀ j, w1.frozen? ⟨xb, j, none⟩ = false) ∧ xb < w1.heap.size := by
  have hb := ho.block (H.lt xb (.inl rfl)).2 (fun e => H.ns xb e rfl)
  obtain ⟨c0, c1, c2, c3, c4, c5, c6, c7, c8, c9, c10, z, lt⟩ := H.head
  exact ⟨(World.cell?_of_block hb).trans c0, (World.cell?_of_block hb).trans c1, (World.cell?_of_block hb).trans c2, (World.cell?_of_block hb).trans c6, fun j => (World.frozen?_of_block hb).trans (z j), Nat.lt_of_lt_of_le lt ho.size⟩
end Go
namespace Go
open Go.RowKit

section
variable {P : Program} {ops : Array Oper} {md : Region.Mode} {C : World → Prop} {ns : List Nat}

/-- the last operation waits for each of the others -/
def Region.lastB (md : Region.Mode) (ops : Array Oper) : Bool := decide (0 < ops.size) && (List.range (ops.size - 1)).all fun j => Region.reaches md ops ops.size (ops.size - 1) j

theorem wpAny_of_mix_last {Q : Exit → Act → World → Prop} {K : Act → World → Prop} (hB : Region.mixB md ops ns = true) (hL : Region.lastB md ops = true)
    (hQ : ∀ a w, C w → K a w → wpOp P ops Q (ops.size - 1) (fun a' w' => Q .normal a' w') a w) :
    ∀ (l : List Nat) (listed : Array Bool) (a : Act) (w : World), l.Pairwise (· < ·) → (∀ i, i ∈ l ↔ i < ops.size - 1 ∧ listed.getD i true = false) → listed.getD (ops.size - 1) true = false → MixInv md ops listed → C w →
      wpMix P ops C ns K l a w → wpAny P md ops Q (l.length + 1) listed a w := by
  simp only [Region.lastB, Bool.and_eq_true, decide_eq_true_eq, List.all_eq_true, List.mem_range] at hL
  obtain ⟨hpos, hL⟩ := hL
  simp only [Region.mixB, Bool.and_eq_true, List.all_eq_true, List.mem_range] at hB
  obtain ⟨hsel, hB⟩ := hB
  have hsel := Region.noSelect_spec hsel
  have main : ∀ (n : Nat) (l : List Nat), l.length = n → ∀ (listed : Array Bool) (a : Act) (w : World), l.Pairwise (· < ·) → (∀ i, i ∈ l ↔ i < ops.size - 1 ∧ listed.getD i true = false) → listed.getD (ops.size - 1) true = false → MixInv md ops listed → C w →
      wpMix P ops C ns K l a w → wpAny P md ops Q (n + 1) listed a w := by
    intro n
    induction n with
    | zero =>
      intro l hl listed a w hs hm hlast inv hw h
      obtain rfl : l = [] := List.eq_nil_of_length_eq_zero hl
      have hall : ∀ j, j < ops.size - 1 → listed.getD j false = true := by
        intro j hj
        rcases hc : listed.getD j false with _ | _
        · have := (hm j).2 ⟨hj, getD_in (by rw [inv.size]; omega) hc⟩
          cases this
        · rfl
      obtain ⟨o, ho⟩ : ∃ o, ops[ops.size - 1]? = some o := ⟨ops[ops.size - 1], by simp⟩
      have hr : ops.size - 1 ∈ Region.ready md ops listed := by
        refine mem_ready.2 ⟨hlast, o, ho, fun e he hb => ?_⟩
        have h1 := (hB (ops.size - 1) (by omega)).2
        rw [ho] at h1
        have h2 := Array.all_eq_true'.1 h1 e he
        simp only [hb, Bool.not_true, Bool.false_or, decide_eq_true_eq] at h2
        exact hall _ h2
      refine ⟨fun he => (by rw [he] at hr; cases hr), fun i hi => ?_⟩
      have hi' : i = ops.size - 1 := by
        obtain ⟨hiun, oi, hoi, _⟩ := mem_ready.1 hi
        have := (Array.getElem?_eq_some_iff.1 hoi).1
        by_cases hlt : i < ops.size - 1
        · have := hall i hlt
          rw [getD_both hiun] at this
          cases this
        · omega
      subst hi'
      refine wpOp_mono (fun a' w' hq => ⟨?_, hq⟩) (hQ a w hw h)
      refine List.eq_nil_iff_forall_not_mem.2 fun i hi => ?_
      obtain ⟨h1, o, ho, _⟩ := mem_ready.1 hi
      have hlt := (Array.getElem?_eq_some_iff.1 ho).1
      by_cases hij : ops.size - 1 = i
      · subst hij
        rw [Array.getD_eq_getD_getElem?, Array.getElem?_setIfInBounds_self_of_lt (by rw [inv.size]; exact hlt)] at h1
        cases h1
      · rw [getD_set_ne true hij] at h1
        have := hall i (by omega)
        rw [getD_both h1] at this
        cases this
    | succ n ih =>
      intro l hl listed a w hs hm hlast inv hw h
      refine ⟨fun hr => ?_, fun i hi => ?_⟩
      · cases l with
        | nil => cases hl
        | cons i l =>
          exfalso
          have hi := (hm i).1 (by simp)
          have : i ∈ Region.ready md ops listed := by
            obtain ⟨o, ho⟩ : ∃ o, ops[i]? = some o := ⟨ops[i]'(by omega), Array.getElem?_eq_getElem (by omega)⟩
            refine mem_ready.2 ⟨hi.2, o, ho, fun e he hb => ?_⟩
            have h1 := (hB i (by omega)).2
            rw [ho] at h1
            have h2 := Array.all_eq_true'.1 h1 e he
            simp only [hb, Bool.not_true, Bool.false_or, decide_eq_true_eq] at h2
            rcases hc : listed.getD e.on false with _ | _
            · exfalso
              have h3 := (hm e.on).2 ⟨by omega, getD_in (by rw [inv.size]; omega) hc⟩
              have h4 := List.pairwise_cons.1 hs
              rcases List.mem_cons.1 h3 with h5 | h5
              · omega
              · have := h4.1 _ h5
                omega
            · rfl
          rw [hr] at this
          cases this
      · obtain ⟨hiun, oi, hoi, _⟩ := mem_ready.1 hi
        have hil : i < ops.size := (Array.getElem?_eq_some_iff.1 hoi).1
        have hil' : i < ops.size - 1 := by
          by_cases hlt : i < ops.size - 1
          · exact hlt
          · exfalso
            obtain rfl : i = ops.size - 1 := by omega
            cases l with
            | nil => cases hl
            | cons j l =>
              have hj := (hm j).1 (by simp)
              have := inv.reach_ready hi _ _ (hL j hj.1)
              rw [getD_both hj.2] at this
              cases this
        obtain ⟨l1, l2, rfl⟩ := List.append_of_mem ((hm i).2 ⟨hil', hiun⟩)
        obtain ⟨p1, p2, p3⟩ := List.pairwise_append.1 hs
        have hpair : ∀ j ∈ l1, pairOk ops ns j i := by
          intro j hj
          have hji : j < i := p3 j hj i (by simp)
          have hjun := ((hm j).1 (by simp [hj])).2
          rcases Bool.or_eq_true _ _ ▸ (hB i hil).1 j hji with h1 | h1
          · have := inv.reach_ready hi _ _ h1
            rw [getD_both hjun] at this
            cases this
          · obtain ⟨oj, hoj⟩ : ∃ o, ops[j]? = some o := ⟨ops[j], by simp [Nat.lt_trans hji hil]⟩
            rw [hoj, hoi] at h1
            simp only [Bool.and_eq_true, Bool.not_eq_true', Bool.and_eq_false_iff] at h1
            refine ⟨oj, oi, hoj, hoi, h1.1.1, h1.1.2, fun hx => ?_⟩
            rcases h1.2 with h2 | h2
            · rw [hx.1] at h2; cases h2
            · rw [hx.2] at h2; cases h2
        have hst := wpMix_swap hsel l1 a w hpair hw h
        have hrest : ∀ a' w', C w' → wpMix P ops C ns K (l1 ++ l2) a' w' → wpAny P md ops Q (n + 1) (listed.setIfInBounds i true) a' w' := by
          intro a' w' hc hk
          refine ih (l1 ++ l2) (by simp at hl ⊢; omega) _ a' w' ?_ (fun j => ?_) (by rw [getD_set_ne true (by omega)]; exact hlast) (inv.set hi) hc hk
          · exact List.pairwise_append.2 ⟨p1, (List.pairwise_cons.1 p2).2, fun x hx y hy => p3 x hx y (by simp [hy])⟩
          · have hm' := hm j
            by_cases hji : i = j
            · subst hji
              constructor
              · intro hx
                rcases List.mem_append.1 hx with hx | hx
                · have := p3 i hx i (by simp); omega
                · have := (List.pairwise_cons.1 p2).1 i hx; omega
              · rintro ⟨_, hx⟩
                rw [Array.getD_eq_getD_getElem?, Array.getElem?_setIfInBounds_self_of_lt (by rw [inv.size]; exact hil)] at hx
                cases hx
            · rw [getD_set_ne true hji]
              constructor
              · intro hx
                refine hm'.1 ?_
                rcases List.mem_append.1 hx with hx | hx
                · simp [hx]
                · simp [hx]
              · intro hx
                rcases List.mem_append.1 (hm'.2 hx) with hx | hx
                · simp [hx]
                · rcases List.mem_cons.1 hx with hx | hx
                  · exact absurd hx.symm hji
                  · simp [hx]
        by_cases hmi : ns.contains i = true
        · have h1 := wpOp_mono (fun a' w' hh => hrest a' w' hh.1 hh.2) ((mixStep_move hmi).1 hst)
          unfold wpOp at h1 ⊢
          simp only [hoi] at h1 ⊢
          by_cases hwt : Region.wanted oi (yielded ops a.tmps) = true
          · simp only [hwt, if_true, not_letsOut_noExit, and_false, or_false] at h1 ⊢
            refine .inl ?_
            unfold Oper.wp at *
            generalize (execOp a.eval oi).run P w = r at *
            cases r with
            | ok n w' =>
              cases n <;> simp only [Oper.upon] at h1 ⊢
              case enter f args =>
                refine Calls.mono h1 (fun e w'' he => ?_)
                cases e with
                | returned v => exact he
                | panicked c => exact False.elim he
                | outgrown => exact absurd he not_letsOut_noExit
              all_goals exact h1
            | halt x w' => cases x <;> simp only [Oper.upon] at h1; exact False.elim h1
          · simp only [hwt] at h1 ⊢
            exact h1
        · obtain ⟨o, v, ho, hy, hk⟩ := (mixStep_read hmi).1 hst
          rw [hoi] at ho
          cases ho
          have hk := hrest _ w hw hk
          unfold wpOp
          simp only [hoi]
          rcases hy with ⟨h1, h2⟩ | ⟨h1, rfl⟩
          · simp only [h1, if_true]
            refine .inl ?_
            unfold Oper.wp
            rcases h2 w hw with h3 | ⟨h3, e3⟩
            · rw [h3]; exact hk
            · rw [h3]; subst e3; exact hk
          · simp only [h1, Bool.false_eq_true, if_false]
            exact hk
  intro l listed a w
  exact main l.length l rfl listed a w

theorem wpOp_of_list_one {Q : Exit → Act → World → Prop} {i : Nat} {o : Oper} (h0 : ops[i]? = some o) {a : Act} {w : World} (h : wpList P ops Q [o] a w) : wpOp P ops Q i (fun a' w' => Q .normal a' w') a w := by
  unfold wpOp
  simp only [h0]
  exact h

theorem wp_region_steps_last {id : Nat} {Q : Exit → Act → World → Prop} {a : Act} {w : World} {l : List Oper} (C : World → Prop) (gs : List Nat) (n : Nat) (hm : P.follows .mixedOrders = true)
    (hB : (Region.mixB .any l.toArray (stepsAt 0 (cutSteps gs (l.take n)).1) && stepsB (cutSteps gs (l.take n)).1 (cutSteps gs (l.take n)).2 && Region.lastB .any l.toArray && decide (l.length = n + 1)) = true)
    (hc : C w.drew) (h : wpSteps P l.toArray C (fun a' w' => wpList P l.toArray Q (l.drop n) a' w') (cutSteps gs (l.take n)).2 (cutSteps gs (l.take n)).1 a w.drew) : (Code.region id l.toArray true).wp P Q a w := by
  simp only [Bool.and_eq_true, decide_eq_true_eq] at hB
  obtain ⟨⟨⟨hB, hS⟩, hLast⟩, hL⟩ := hB
  have hflat : ∀ (gs : List Nat) (l : List Oper), flatSteps (cutSteps gs l).1 (cutSteps gs l).2 = l := by
    intro gs
    induction gs with
    | nil => intro l; rfl
    | cons g gs ih =>
      intro l
      simp only [cutSteps]
      cases hd : l.drop g with
      | nil => rfl
      | cons o rest =>
        simp only [flatSteps, ih rest]
        rw [← hd]
        exact List.take_append_drop g l
  have hsel := hB
  simp only [Region.mixB, Bool.and_eq_true] at hsel
  have hsel := Region.noSelect_spec hsel.1
  simp only [stepsB, Bool.and_eq_true, List.all_eq_true] at hS
  refine wp_region_any hm ?_
  have hlen : (l.take n).length = n := by simp; omega
  have h1 := wpMix_of_steps (ns := stepsAt 0 (cutSteps gs (l.take n)).1) hsel (cutSteps gs (l.take n)).1 0 a w.drew (fun j hj => by
    rw [hflat gs (l.take n)] at hj ⊢
    rw [hlen] at hj
    simp [hj]) (fun i _ => by simp) (fun s hs o ho => hS.1 s hs o ho) hS.2 h
  rw [hflat, hlen] at h1
  have hsz : l.toArray.size - 1 = n := by simp; omega
  obtain ⟨o, ho⟩ : ∃ o, l.drop n = [o] := by
    have : (l.drop n).length = 1 := by simp; omega
    exact List.length_eq_one_iff.1 this
  have hon : l.toArray[n]? = some o := by
    have : l[n]? = (l.drop n)[0]? := by simp
    rw [List.getElem?_toArray, this, ho]; rfl
  have h2 := wpAny_of_mix_last (md := .any) (Q := Q) hB hLast (fun a w _ hk => by
      rw [hsz]
      rw [ho] at hk
      exact wpOp_of_list_one hon hk) _ (Array.replicate l.toArray.size false) a w.drew List.pairwise_lt_range' (fun i => by
      rw [hsz]
      simp only [List.mem_range']
      constructor
      · rintro ⟨j, hj, rfl⟩
        refine ⟨by omega, getD_in (by simp; omega) (getD_replicate_false _ _)⟩
      · rintro ⟨hi, _⟩
        exact ⟨i, hi, by omega⟩) (by rw [hsz]; exact getD_in (by simp; omega) (getD_replicate_false _ _)) ⟨by simp, fun j oj _ hl => (by rw [getD_replicate_false] at hl; cases hl)⟩ hc h1
  rw [List.length_range', show n + 1 = l.toArray.size by simp; omega] at h2
  exact h2
end
end Go
