/-
machine.Machine: Busy and Call.
-/
import Derived.Test.YtjcggokhminmoaaQPm
import Derived.Test.YtjcggokhminmoaaQOs
namespace Go
open Go.RowKit
open Go.Proofs.Ytjcggokhminmoaa
def Cal.zero : Cal := ⟨0, 0, 0, 0, 0, 0, 0, 0, 0⟩
def Cal.v (c : Cal) : Value := .agg #[.int .i64 c.th, .int .i64 c.op, .int .i64 c.arg, .int .i64 c.data, .int .i64 c.beg, .int .i64 c.en, .int .i64 c.pt, .int .i64 c.ak, .int .i64 c.av]
def PM.busyB {K : Kits} (p : PM K) (t : Int) : Bool := if t < 0 then false else match p.seats[t.toNat]? with
  | some se => se.task.isSome
  | none => false
def PM.callR {K : Kits} (p : PM K) (t : Int) : Cal × Bool := if t < 0 then (Cal.zero, false) else match p.seats[t.toNat]? with
  | some se => if se.last < 0 then (Cal.zero, false) else (p.calls.getD se.last.toNat default, true)
  | none => (Cal.zero, false)
end Go
namespace Go.Proofs.Ytjcggokhminmoaa
open Go.ChangeShapes Go.WideShapes Go.ChangeAt Go.RowKit Go.Shelf
section
variable {K : Kits} {w : World} {base xb : Nat} {p : PM K} {kit : Value} {F : Nat → Prop}

theorem seatsNow_none {st : MachS} (h : st.on = none) : st.seatsNow = st.seats := by unfold MachS.seatsNow; rw [h]
theorem callsNow_none {st : MachS} (h : st.on = none) : st.callsNow = st.calls := by unfold MachS.callsNow; rw [h]

set_option maxRecDepth 100000 in
set_option maxHeartbeats 1000000 in
theorem busy_at (hK : KitsOk K) (hG : p.Good) (h : PMAt K w base xb p kit F) (t : Int) : Calls Try.prog 25 #[.pointer (some ⟨xb, 0, none⟩), .int .i64 t] w fun e w' => e = .returned (.bool (p.busyB t)) ∧ Below w.heap.size w w' := by
  obtain ⟨st, v, vs, Fk, H, R, rfl, rfl⟩ := h
  have hlen := R.len
  have hpos := hG.pos
  have hfew := hG.few
  have c8 := H.m.head.2.2.2.2.2.2.2.2.1
  have lx := H.m.head.2.2.2.2.2.2.2.2.2.2.2.2
  unfold PM.busyB
  by_cases h0 : t < 0
  · rw [if_pos h0]
    obtain ⟨g, cap, e, hcap, hrb, hglt, hgx, gz, gc⟩ := H.m.seats_form (si := 0) (by omega)
    rw [e] at c8
    have t1 : decide (0 ≤ t) = false := by simp; omega
    clear H gc e R h0 gz
    go_enter Try.func25, Try.ntmps25
    go_wp2
    go_ret
    exact ⟨rfl, (by repeat (first | exact Below.refl _ _ | apply Below.drew | apply Below.more1 | apply Below.alloc1))⟩
  · rw [if_neg h0]
    obtain ⟨i, rfl⟩ : ∃ i : Nat, t = (i : Int) := ⟨t.toNat, by omega⟩
    rw [Int.toNat_natCast]
    cases hse : p.seats[i]? with
    | none =>
      have hge := List.getElem?_eq_none_iff.1 hse
      obtain ⟨g, cap, e, hcap, hrb, hglt, hgx, gz, gc⟩ := H.m.seats_form (si := 0) (by omega)
      rw [e] at c8
      have t1 : decide ((0 : Int) ≤ (i : Int)) = true := by simp
      have t2 : decide ((i : Int) < (st.seats.length : Int)) = false := by simp; omega
      clear H gc e R h0 gz hse
      go_enter Try.func25, Try.ntmps25
      go_wp2
      go_ret
      exact ⟨rfl, (by repeat (first | exact Below.refl _ _ | apply Below.drew | apply Below.more1 | apply Below.alloc1))⟩
    | some se =>
      have hlt := (List.getElem?_eq_some_iff.1 hse).1
      obtain ⟨y, hy⟩ := R.seat hse
      have hil : i < st.seats.length := by omega
      obtain ⟨g, cap, e, hcap, hrb, hglt, hgx, gz, gc⟩ := H.m.seats_form hil
      rw [e] at c8
      have t1 : decide ((0 : Int) ≤ (i : Int)) = true := by simp
      have t2 : decide ((i : Int) < (st.seats.length : Int)) = true := by simp; omega
      have hvy : vs[i]? = some y := by rw [← H.tasks, List.getElem?_map, hy]; rfl
      have g0 : w.cell? ⟨g, i * 5, none⟩ = some y := by
        have := gc 0 (by omega)
        rw [Nat.add_zero] at this
        rw [this]
        simp only [seatsNow_none R.on]
        rw [(List.getElem?_eq_some_iff.1 hy).2]
        rfl
      have hts : (p.seats.map (·.task))[i]? = some se.task := by rw [List.getElem?_map, hse]; rfl
      show Calls _ _ _ _ fun e w' => e = .returned (.bool se.task.isSome) ∧ _
      cases htk : se.task with
      | none =>
        obtain rfl : y = .nilIface := by have := hK.idle H.k i (by rw [hts, htk]); rw [hvy] at this; cases this; rfl
        clear H gc e R h0 gz hse hvy hy hts htk hK hG
        go_enter Try.func25, Try.ntmps25
        go_wp2
        go_ret
        exact ⟨rfl, (by repeat (first | exact Below.refl _ _ | apply Below.drew | apply Below.more1 | apply Below.alloc1))⟩
      | some tk =>
        obtain ⟨ty, x, hx⟩ := hK.busy H.k i tk (by rw [hts, htk])
        obtain rfl : y = .iface ty x := by rw [hvy] at hx; cases hx; rfl
        clear H gc e R h0 gz hse hvy hy hts htk hK hG hx
        go_enter Try.func25, Try.ntmps25
        go_wp2
        go_ret
        exact ⟨rfl, (by repeat (first | exact Below.refl _ _ | apply Below.drew | apply Below.more1 | apply Below.alloc1))⟩

set_option maxRecDepth 100000 in
set_option maxHeartbeats 1000000 in
theorem call_at (hG : p.Good) (h : PMAt K w base xb p kit F) (t : Int) : Calls Try.prog 26 #[.pointer (some ⟨xb, 0, none⟩), .int .i64 t] w fun e w' => e = .returned (.tuple #[(p.callR t).1.v, .bool (p.callR t).2]) ∧ Below w.heap.size w w' := by
  obtain ⟨st, v, vs, Fk, H, R, rfl, rfl⟩ := h
  have hlen := R.len
  have hpos := hG.pos
  have hfew := hG.few
  have c8 := H.m.head.2.2.2.2.2.2.2.2.1
  have c10 := H.m.head.2.2.2.2.2.2.2.2.2.2.1
  have lx := H.m.head.2.2.2.2.2.2.2.2.2.2.2.2
  unfold PM.callR
  by_cases h0 : t < 0
  · rw [if_pos h0]
    obtain ⟨g, cap, e, hcap, hrb, hglt, hgx, gz, gc⟩ := H.m.seats_form (si := 0) (by omega)
    rw [e] at c8
    have t1 : decide (t < 0) = true := by simpa using h0
    unfold Cal.v Cal.zero
    clear H gc e R h0 gz c10
    go_enter Try.func26, Try.ntmps26
    go_wp2
    refine bodyPost_ret (v := .tuple #[.agg #[.int .i64 0, .int .i64 0, .int .i64 0, .int .i64 0, .int .i64 0, .int .i64 0, .int .i64 0, .int .i64 0, .int .i64 0], .bool false]) (by simp [results, Try.results26, go_sem]) rfl ⟨rfl, (by repeat (first | exact Below.refl _ _ | apply Below.drew | apply Below.more1 | apply Below.alloc1 | (refine Below.setCell ?_ (by first | exact Nat.le_refl _ | (simp; done) | (simp; omega)) _)))⟩
  · rw [if_neg h0]
    obtain ⟨i, rfl⟩ : ∃ i : Nat, t = (i : Int) := ⟨t.toNat, by omega⟩
    rw [Int.toNat_natCast]
    have t1 : decide ((i : Int) < 0) = false := by simp
    cases hse : p.seats[i]? with
    | none =>
      have hge := List.getElem?_eq_none_iff.1 hse
      obtain ⟨g, cap, e, hcap, hrb, hglt, hgx, gz, gc⟩ := H.m.seats_form (si := 0) (by omega)
      rw [e] at c8
      have t2 : decide ((st.seats.length : Int) ≤ (i : Int)) = true := by simp; omega
      show Calls _ _ _ _ fun e w' => e = .returned (.tuple #[Cal.zero.v, .bool false]) ∧ _
      unfold Cal.v Cal.zero
      clear H gc e R h0 gz hse c10
      go_enter Try.func26, Try.ntmps26
      go_wp2
      refine bodyPost_ret (v := .tuple #[.agg #[.int .i64 0, .int .i64 0, .int .i64 0, .int .i64 0, .int .i64 0, .int .i64 0, .int .i64 0, .int .i64 0, .int .i64 0], .bool false]) (by simp [results, Try.results26, go_sem]) rfl ⟨rfl, (by repeat (first | exact Below.refl _ _ | apply Below.drew | apply Below.more1 | apply Below.alloc1 | (refine Below.setCell ?_ (by first | exact Nat.le_refl _ | (simp; done) | (simp; omega)) _)))⟩
    | some se =>
      have hlt := (List.getElem?_eq_some_iff.1 hse).1
      obtain ⟨y, hy⟩ := R.seat hse
      have hil : i < st.seats.length := by omega
      obtain ⟨g, cap, e, hcap, hrb, hglt, hgx, gz, gc⟩ := H.m.seats_form hil
      rw [e] at c8
      have t2 : decide ((st.seats.length : Int) ≤ (i : Int)) = false := by simp; omega
      have g2 : w.cell? ⟨g, i * 5 + 2, none⟩ = some (.int .i64 se.last) := by
        rw [gc 2 (by omega)]
        simp only [seatsNow_none R.on]
        rw [(List.getElem?_eq_some_iff.1 hy).2]
        rfl
      show Calls _ _ _ _ fun e w' => e = .returned (.tuple #[(if se.last < 0 then (Cal.zero, false) else (p.calls.getD se.last.toNat default, true)).1.v, .bool (if se.last < 0 then (Cal.zero, false) else (p.calls.getD se.last.toNat default, true)).2]) ∧ _
      by_cases hl : se.last < 0
      · rw [if_pos hl]
        have t3 : decide (se.last < 0) = true := by simpa using hl
        generalize se.last = la at *
        unfold Cal.v Cal.zero
        clear H gc e R h0 gz hse hy c10 hl
        go_enter Try.func26, Try.ntmps26
        go_wp2
        refine bodyPost_ret (v := .tuple #[.agg #[.int .i64 0, .int .i64 0, .int .i64 0, .int .i64 0, .int .i64 0, .int .i64 0, .int .i64 0, .int .i64 0, .int .i64 0], .bool false]) (by simp [results, Try.results26, go_sem]) rfl ⟨rfl, (by repeat (first | exact Below.refl _ _ | apply Below.drew | apply Below.more1 | apply Below.alloc1 | (refine Below.setCell ?_ (by first | exact Nat.le_refl _ | (simp; done) | (simp; omega)) _)))⟩
      · rw [if_neg hl]
        obtain ⟨h5, h6⟩ := hG.last i se hse
        obtain ⟨ci, hci⟩ : ∃ ci : Nat, se.last = (ci : Int) := ⟨se.last.toNat, by omega⟩
        rw [hci] at g2 h6 ⊢
        rw [Int.toNat_natCast]
        have hcl : ci < p.calls.length := by omega
        have hcs : ci < st.calls.length := by rw [R.calls]; exact hcl
        have hcl2 := hG.calls
        have htop := hG.top
        obtain ⟨g2b, cap2, e2, hcap2, hrb2, hglt2, hgx2, gz2, gc2⟩ := H.m.calls_form hcs
        rw [e2] at c10
        have hcd : p.calls.getD ci default = p.calls[ci] := by rw [List.getD_eq_getElem?_getD, List.getElem?_eq_getElem hcl]; rfl
        have gcc : ∀ j, j < 9 → w.cell? ⟨g2b, ci * 9 + j, none⟩ = p.calls[ci].cells[j]? := fun j hj => by
          rw [gc2 j hj]
          simp only [callsNow_none R.on, R.calls]
        have hcsl : st.calls.length = p.calls.length := by rw [R.calls]
        rw [hcd]
        generalize p.calls[ci] = c at *
        obtain ⟨z0, z1, z2, z3, z4, z5, z6, z7, z8⟩ := c
        have y0 := gcc 0 (by omega)
        have y1 := gcc 1 (by omega)
        have y2 := gcc 2 (by omega)
        have y3 := gcc 3 (by omega)
        have y4 := gcc 4 (by omega)
        have y5 := gcc 5 (by omega)
        have y6 := gcc 6 (by omega)
        have y7 := gcc 7 (by omega)
        have y8 := gcc 8 (by omega)
        simp only [Nat.add_zero] at y0
        simp only [Cal.cells, List.getElem?_cons_zero, List.getElem?_cons_succ] at y0 y1 y2 y3 y4 y5 y6 y7 y8
        unfold Cal.v
        have t3 : decide ((ci : Int) < 0) = false := by simp
        clear H gc e R h0 gz hse hy hl gcc gc2 gz2 e2 hcd
        go_enter Try.func26, Try.ntmps26
        go_wp2
        refine wp_region_more_tail 12 (by kernel_rfl) (by kernel_rfl) ?_
        simp only [List.take_succ_cons, List.take_zero, List.drop_succ_cons, List.drop_zero]
        repeat (first | go_big_quiet_skip | (go_big_quiet_want; go_big_quiet_op; first | go_big_quiet_on | (apply Exists.intro; refine ⟨fun _ => ?_, ?_⟩; (focus (fail)); go_big_quiet_on)))
        refine wpQuiet_nil ?_
        intro osq dq
        go_wp2
        refine bodyPost_ret (v := .tuple #[.agg #[.int .i64 z0, .int .i64 z1, .int .i64 z2, .int .i64 z3, .int .i64 z4, .int .i64 z5, .int .i64 z6, .int .i64 z7, .int .i64 z8], .bool true]) (by simp [results, Try.results26, go_sem]) rfl ⟨rfl, (by repeat (first | exact Below.refl _ _ | apply Below.drew | apply Below.more1 | apply Below.alloc1 | (refine Below.setCell ?_ (by first | exact Nat.le_refl _ | (simp; done) | (simp; omega)) _)))⟩
end
end Go.Proofs.Ytjcggokhminmoaa
