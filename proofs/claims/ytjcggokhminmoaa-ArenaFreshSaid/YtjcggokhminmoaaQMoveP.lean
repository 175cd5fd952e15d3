/-
The machine between steps: a call begins (a seat is laid, a call is put behind the list).
-/
import Derived.Test.YtjcggokhminmoaaQArU
namespace Go
open Go.RowKit
section
variable {w w1 : World} {base xb : Nat} {st : MachS} {v : MachV} {ci si g : Nat}
theorem MachAt.seat_cell0 (H : MachAt w base xb st v) (hon : st.on = none) (hs : si < st.seats.length) (hg : v.vse.rowBlock = some g) {j : Nat} (hj : j < 5) (f : Seat → Seat) (u : Value)
    (hf : ∀ c, (f c).cells = c.cells.set j u) : MachAt (w.setCell ⟨g, si * 5 + j, none⟩ u) base xb (st.withSeat si f) v := by
  have e1 : st.seatsNow = st.seats := by unfold MachS.seatsNow; rw [hon]
  have e2 : (st.withSeat si f).seatsNow = st.seats.modify si f := by unfold MachS.seatsNow MachS.withSeat; simp only [hon]
  refine H.put_seat (st' := st.withSeat si f) hg (j := si * 5 + j) (u := u) (by omega) ⟨rfl, rfl, rfl, rfl, rfl, rfl, rfl, rfl, by simp [MachS.withSeat]⟩ ?_
  rw [e1, e2, seatC_set st.seats si j hs hj (f st.seats[si]) u (hf _)]
  congr 1
  apply List.ext_getElem?
  intro i
  simp only [List.getElem?_set, List.getElem?_modify]
  by_cases e : si = i
  · subst e; simp [hs]
  · simp [e]
theorem withSeat_on (st : MachS) (si : Nat) (f : Seat → Seat) : (st.withSeat si f).on = st.on := rfl
theorem withSeat_len (st : MachS) (si : Nat) (f : Seat → Seat) : (st.withSeat si f).seats.length = st.seats.length := by simp [MachS.withSeat]

/-- a seat is laid anew -/
theorem MachAt.seat_whole (H : MachAt w base xb st v) (hon : st.on = none) (hs : si < st.seats.length) (hg : v.vse.rowBlock = some g) (x : Seat) :
    MachAt (((((w.setCell ⟨g, si * 5, none⟩ x.task).setCell ⟨g, si * 5 + 1, none⟩ (.bool x.ready)).setCell ⟨g, si * 5 + 2, none⟩ (.int .i64 x.last)).setCell ⟨g, si * 5 + 3, none⟩ (.int .i64 x.ak)).setCell ⟨g, si * 5 + 4, none⟩ (.int .i64 x.av)) base xb { st with seats := st.seats.set si x } v := by
  have h1 := H.seat_cell0 hon hs hg (j := 0) (by decide) (fun c => { c with task := x.task }) x.task (fun _ => rfl)
  have h2 := h1.seat_cell0 hon (by rw [withSeat_len]; exact hs) hg (j := 1) (by decide) (fun c => { c with ready := x.ready }) (.bool x.ready) (fun _ => rfl)
  have h3 := h2.seat_cell0 hon (by rw [withSeat_len, withSeat_len]; exact hs) hg (j := 2) (by decide) (fun c => { c with last := x.last }) (.int .i64 x.last) (fun _ => rfl)
  have h4 := h3.seat_cell0 hon (by rw [withSeat_len, withSeat_len, withSeat_len]; exact hs) hg (j := 3) (by decide) (fun c => { c with ak := x.ak }) (.int .i64 x.ak) (fun _ => rfl)
  have h5 := h4.seat_cell0 hon (by rw [withSeat_len, withSeat_len, withSeat_len, withSeat_len]; exact hs) hg (j := 4) (by decide) (fun c => { c with av := x.av }) (.int .i64 x.av) (fun _ => rfl)
  have e : (((((st.withSeat si fun c => { c with task := x.task }).withSeat si fun c => { c with ready := x.ready }).withSeat si fun c => { c with last := x.last }).withSeat si fun c => { c with ak := x.ak }).withSeat si fun c => { c with av := x.av }) = { st with seats := st.seats.set si x } := by
    unfold MachS.withSeat
    congr 1
    apply List.ext_getElem?
    intro i
    simp only [List.getElem?_set, List.getElem?_modify]
    by_cases e : si = i
    · subst e; simp [hs]
    · simp [e]
  rw [e] at h5
  exact h5

/-- calls = append(calls, x) -/
theorem MachAt.app_call (H : MachAt w base xb st v) (hon : st.on = none) {v' : Value} {x : Cal} (hown : w1.RowV base 50 9 v' (st.calls.length + 1) (cals st.calls ++ x.cells)) (ho : RowOut w w1 v.vca v' st.calls.length 1) :
    MachOut w base xb v { st with calls := st.calls ++ [x] } (w1.setCell ⟨xb, 10, none⟩ v') := by
  have hn : ∀ k, v'.rowBlock = some k → v.vca.rowBlock = some k ∨ k = w.heap.size := fun k hk => ho.news hk
  have hlt := H.lt
  have hx := hlt xb (.inl rfl)
  have hc2 : ∀ k, v.col k ≠ 4 → v.vca.rowBlock ≠ some k := fun k hk e => hk (H.cc k e)
  have e2 : ({ st with calls := st.calls ++ [x] } : MachS).callsNow = st.calls ++ [x] := by unfold MachS.callsNow; simp only [hon]
  have e3 : ({ st with calls := st.calls ++ [x] } : MachS).seatsNow = st.seatsNow := by unfold MachS.seatsNow; simp only [hon]
  have hblk : w1.heap[xb]? = some (.cells #[.pointer (some ⟨v.mb, 0, none⟩), .int .i64 st.d.th, .int .i64 st.d.now, st.callC v, st.toldC v, .bool st.d.used, v.vsh, v.kit, v.vse, .int .i64 st.moves, v.vca] 120) := by
    rw [ho.block hx.2 (hc2 _ (by rw [H.cx]; decide))]; exact H.blk
  have hne : ∀ k, v'.rowBlock = some k → k ≠ xb := fun k hk e => by
    rcases hn k hk with h1 | h1
    · exact H.nc k h1 e
    · omega
  refine ⟨{ v with vca := v', col := fun k => if w.heap.size ≤ k then 4 else v.col k }, ⟨?_, H.ge, ?_, ?_, ?_, ?_, ?_, ?_, ?_, ?_, ?_⟩, ?_, ?_, rfl, rfl⟩
  · simp [World.setCell, Array.getElem?_modify, hblk]
    unfold MachS.callC MachS.toldC
    simp only [hon]
    exact ⟨trivial, trivial⟩
  · exact (ho.mem H.mem (fun k hk => hc2 k (by rw [H.cm k hk]; decide))).set_other H.nm _
  · exact (ho.kept H.rsh (fun k hk => hc2 k (by rw [H.cs k hk]; decide))).set H.ns _
  · rw [e3]; exact (ho.kept H.rse (fun k hk => hc2 k (by rw [H.ce k hk]; decide))).set H.ne _
  · rw [e2, cals_snoc, List.length_append]
    exact hown.set hne _
  · show (if _ then _ else _) = _
    rw [if_neg (by omega)]; exact H.cx
  · intro k e
    show (if _ then _ else _) = _
    rw [if_neg (by have := (H.mem.lt k e).2; omega)]; exact H.cm k e
  · intro k e
    show (if _ then _ else _) = _
    rw [if_neg (by have := (H.rsh.lt k e).2; omega)]; exact H.cs k e
  · intro k e
    show (if _ then _ else _) = _
    rw [if_neg (by have := (H.rse.lt k e).2; omega)]; exact H.ce k e
  · intro k e
    show (if _ then _ else _) = _
    split
    · rfl
    · rcases hn k e with h1 | h1
      · exact H.cc k h1
      · omega
  · exact (Only.out ho (fun k hk => .inr (.inr (.inr (.inr hk))))).set (.inl (.inl rfl)) _
  · rintro k (e | e | e | e | e)
    · exact .inl (.inl e)
    · exact .inl (.inr (.inl e))
    · exact .inl (.inr (.inr (.inl e)))
    · exact .inl (.inr (.inr (.inr (.inl e))))
    · rcases hn k e with h1 | h1
      · exact .inl (.inr (.inr (.inr (.inr h1))))
      · exact .inr (by omega)

/-- one more move -/
theorem MachAt.count (H : MachAt w base xb st v) (n : Int) : MachAt (w.setCell ⟨xb, 9, none⟩ (.int .i64 n)) base xb { st with moves := n } v :=
  H.put0 rfl rfl rfl (by unfold MachS.seatsNow; cases st.on <;> rfl) (by unfold MachS.callsNow; cases st.on <;> rfl)
end
end Go
namespace Go.Proofs.Ytjcggokhminmoaa
open Go.ChangeShapes Go.WideShapes Go.ChangeAt Go.RowKit
section
variable {K : Kits} {w w1 : World} {base xb : Nat} {st : MachS} {v : MachV} {vs : List Value} {s : K.S} {ts : List (Option K.T)} {F : Nat → Prop}
theorem MK.count (hK : KitsOk K) (H : MK K w base xb st v vs s ts F) (n : Int) : MK K (w.setCell ⟨xb, 9, none⟩ (.int .i64 n)) base xb { st with moves := n } v vs s ts F :=
  ⟨H.m.count n, hK.loc H.k fun k hk => Below.heap_setCell _ _ _ _ (fun e => H.sep k hk (.inl e)), H.sep, H.tasks, H.len⟩
theorem MK.alloc (hK : KitsOk K) (H : MK K w base xb st v vs s ts F) (o : Obj) : MK K (w.alloc o) base xb st v vs s ts F :=
  ⟨H.m.alloc o, hK.loc H.k fun k hk => Below.heap_alloc _ _ _ (hK.lt H.k k hk).2, H.sep, H.tasks, H.len⟩
theorem MK.drew (hK : KitsOk K) (H : MK K w base xb st v vs s ts F) : MK K w.drew base xb st v vs s ts F :=
  ⟨H.m.drew, hK.loc H.k fun _ _ => rfl, H.sep, H.tasks, H.len⟩
end
end Go.Proofs.Ytjcggokhminmoaa
