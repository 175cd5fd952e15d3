/-
machine.Machine: Move.
-/
import Derived.Test.YtjcggokhminmoaaQStep
import Derived.Test.YtjcggokhminmoaaQMoveP
namespace Go.Proofs.Ytjcggokhminmoaa
open Go.ChangeShapes Go.WideShapes Go.ChangeAt Go.RowKit

section
variable {K : Kits} {w w1 w2 : World} {base xb : Nat} {st : MachS} {v : MachV} {vs : List Value} {s : K.S} {ts : List (Option K.T)} {F : Nat → Prop}
theorem StepDone.of (H : MK K w1 base xb st v vs s ts F) (ho : Only (fun k => v.own xb k ∨ F k) w w1) : StepDone K w base xb v F st vs s ts w1 := ⟨v, F, H, ho, fun _ hk => .inl hk, fun _ hk => .inl hk, rfl, rfl⟩
theorem StepDone.pre (ho : Only (fun k => v.own xb k ∨ F k) w w1) (h : StepDone K w1 base xb v F st vs s ts w2) : StepDone K w base xb v F st vs s ts w2 := by
  obtain ⟨v', F', h1, h2, h3, h4, e⟩ := h
  have := ho.size
  refine ⟨v', F', h1, ho.trans h2 (fun _ hk => .inl hk), fun k hk => ?_, fun k hk => ?_, e⟩
  · rcases h3 k hk with h | h
    · exact .inl h
    · exact .inr (by omega)
  · rcases h4 k hk with h | h
    · exact .inl h
    · exact .inr (by omega)
end

/-- what a step of the thread n leaves -/
def StepRes (K : Kits) (w : World) (base xb : Nat) (v : MachV) (F : Nat → Prop) (st : MachS) (vs : List Value) (s : K.S) (ts : List (Option K.T)) (n ci : Nat) (now : Int) (se : Seat) (ca : Cal) (t : K.T) (w' : World) : Prop :=
  StepDone K w base xb v F (({ st with d := (K.r2 (K.r1 se.ready s t (st.d.first n now ca se))).2.2.1, on := some (ci, n), seats := st.seats.modify n fun x => { x with ready := true } } : MachS).stepped ci n now (K.r2 (K.r1 se.ready s t (st.d.first n now ca se))).2.2.2)
    (if (K.r2 (K.r1 se.ready s t (st.d.first n now ca se))).2.2.2 then vs.set n .nilIface else vs) (K.r2 (K.r1 se.ready s t (st.d.first n now ca se))).1
    (if (K.r2 (K.r1 se.ready s t (st.d.first n now ca se))).2.2.2 then ts.set n none else ts.set n (some (K.r2 (K.r1 se.ready s t (st.d.first n now ca se))).2.1)) w'
theorem StepRes.pre {K : Kits} {w w1 w2 : World} {base xb : Nat} {st : MachS} {v : MachV} {vs : List Value} {s : K.S} {ts : List (Option K.T)} {F : Nat → Prop} {n ci : Nat} {now : Int} {se : Seat} {ca : Cal} {t : K.T}
    (ho : Only (fun k => v.own xb k ∨ F k) w w1) (h : StepRes K w1 base xb v F st vs s ts n ci now se ca t w2) : StepRes K w base xb v F st vs s ts n ci now se ca t w2 := StepDone.pre ho h

/-- the world behind a move's first lines -/
def mvW (w : World) (xb : Nat) (n : Int) (mv : Mv) : World := (w.setCell ⟨xb, 9, none⟩ (.int .i64 (n + 1))).alloc (.cells #[.int .i64 mv.th, .int .i64 mv.op, .int .i64 mv.arg, .int .i64 mv.data] 64)

theorem mvW_only {K : Kits} (_hK : KitsOk K) {w : World} {base xb : Nat} {st : MachS} {v : MachV} {vs : List Value} {s : K.S} {ts : List (Option K.T)} {F : Nat → Prop} (_H : MK K w base xb st v vs s ts F) (mv : Mv) : Only (fun k => v.own xb k ∨ F k) w (mvW w xb st.moves mv) := ((Only.refl _ _).set (.inl (.inl (.inl rfl))) _).alloc _

section
variable {K : Kits} (hK : KitsOk K) {w : World} {base xb : Nat} {st : MachS} {v : MachV} {vs : List Value} {s : K.S} {ts : List (Option K.T)} {F : Nat → Prop} (H : MK K w base xb st v vs s ts F) (mv : Mv)
include hK H
theorem mvW_at : MK K (mvW w xb st.moves mv) base xb { st with moves := st.moves + 1 } v vs s ts F := (H.count hK (st.moves + 1)).alloc hK _

set_option maxRecDepth 100000 in
set_option maxHeartbeats 1000000 in
theorem move_full (hs : 0 < st.seats.length) (hf : 65536 ≤ st.moves) : Calls Try.prog 21 #[.pointer (some ⟨xb, 0, none⟩), mv.v] w fun e w' => e = .returned (.bool false) ∧ StepDone K w base xb v F st vs s ts w' := by
  obtain ⟨c0, c1, c2, c3, c4, c5, c6, c7, c8, c9, c10, z, lt⟩ := H.m.head
  obtain ⟨g, cap, e, hcap, hrb, hglt, hgx, gz, gc⟩ := H.m.seats_form hs
  rw [e] at c8
  have hnz : ((st.seats.length : Int) == 0) = false := by rw [beq_eq_false_iff_ne]; omega
  have HD := Lib.hid (StepDone.of (H.alloc hK (.cells #[.int .i64 mv.th, .int .i64 mv.op, .int .i64 mv.arg, .int .i64 mv.data] 64)) ((Only.refl _ _).alloc _))
  obtain ⟨a0, a1, a2, a3⟩ := mv
  unfold Mv.v
  clear c0 c1 c2 c3 c4 c5 c6 c7 c10 gc e
  go_enter Try.func21, Try.ntmps21
  go_wp2
  go_ret
  exact ⟨rfl, HD.out⟩

set_option maxRecDepth 100000 in
set_option maxHeartbeats 1000000 in
theorem move_none (hs : 0 < st.seats.length) (hs2 : st.seats.length ≤ 1000000) (h0 : 0 ≤ st.moves) (hf : st.moves < 65536) (ht : mv.th < 0 ∨ (st.seats.length : Int) ≤ mv.th) : Calls Try.prog 21 #[.pointer (some ⟨xb, 0, none⟩), mv.v] w fun e w' => e = .returned (.bool false) ∧
    StepDone K w base xb v F { st with moves := st.moves + 1 } vs s ts w' := by
  obtain ⟨c0, c1, c2, c3, c4, c5, c6, c7, c8, c9, c10, z, lt⟩ := H.m.head
  obtain ⟨g, cap, e, hcap, hrb, hglt, hgx, gz, gc⟩ := H.m.seats_form hs
  rw [e] at c8
  have hnz : ((st.seats.length : Int) == 0) = false := by rw [beq_eq_false_iff_ne]; omega
  have HD := Lib.hid (StepDone.of ((mvW_at hK H mv).drew hK) (mvW_only hK H mv).drew)
  obtain ⟨a0, a1, a2, a3⟩ := mv
  unfold Mv.v
  unfold mvW at HD
  simp only at ht
  clear c0 c1 c2 c3 c4 c5 c6 c7 c10 gc e
  rcases ht with ht | ht
  · go_enter Try.func21, Try.ntmps21
    go_wp2
    go_region
    go_wp2
    go_ret
    exact ⟨rfl, HD.out⟩
  · have ht0 : decide (a0 < 0) = false := by simp; omega
    go_enter Try.func21, Try.ntmps21
    go_wp2
    go_region
    go_wp2
    go_ret
    exact ⟨rfl, HD.out⟩

set_option maxRecDepth 100000 in
set_option maxHeartbeats 1000000 in
theorem move_idle (n : Nat) (hn : n < st.seats.length) (_hs2 : st.seats.length ≤ 1000000) (h0 : 0 ≤ st.moves) (hf : st.moves < 65536) (ht : mv.th = n) (hop : mv.op = 0) (hi : ts[n]? = some none) (hon : st.on = none) : Calls Try.prog 21 #[.pointer (some ⟨xb, 0, none⟩), mv.v] w fun e w' => e = .returned (.bool false) ∧
    StepDone K w base xb v F { st with moves := st.moves + 1 } vs s ts w' := by
  obtain ⟨c0, c1, c2, c3, c4, c5, c6, c7, c8, c9, c10, z, lt⟩ := H.m.head
  obtain ⟨g, cap, e, hcap, hrb, hglt, hgx, gz, gc⟩ := H.m.seats_form hn
  rw [e] at c8
  have hnz : ((st.seats.length : Int) == 0) = false := by rw [beq_eq_false_iff_ne]; omega
  have s0 := gc 0 (by decide)
  replace s0 : w.cell? ⟨g, n * 5, none⟩ = some .nilIface := by
    have h1 := hK.idle H.k n hi
    rw [← H.tasks, List.getElem?_map] at h1
    rw [show w.cell? ⟨g, n * 5, none⟩ = _ from s0]
    have e1 : st.seatsNow = st.seats := by unfold MachS.seatsNow; rw [hon]
    simp only [e1]
    simp only [List.getElem?_eq_getElem hn, Option.map_some, Option.some.injEq] at h1
    simp [Seat.cells, h1]
  have HD := Lib.hid (StepDone.of (((mvW_at hK H mv).drew hK).drew hK) (mvW_only hK H mv).drew.drew)
  obtain ⟨a0, a1, a2, a3⟩ := mv
  unfold Mv.v
  unfold mvW at HD
  simp only at ht hop
  subst ht hop
  have hlt : decide ((n : Int) < 0) = false := by simp
  clear c0 c1 c2 c3 c4 c5 c6 c7 c10 gc e hi hon
  go_enter Try.func21, Try.ntmps21
  go_wp2
  go_region
  go_wp2
  go_region
  go_wp2
  go_ret
  exact ⟨rfl, HD.out⟩

set_option maxRecDepth 100000 in
set_option maxHeartbeats 1000000 in
theorem move_busy (n : Nat) (hn : n < st.seats.length) (_hs2 : st.seats.length ≤ 1000000) (h0 : 0 ≤ st.moves) (hf : st.moves < 65536) (ht : mv.th = n) (hop : mv.op ≠ 0) (t : K.T) (hi : ts[n]? = some (some t)) (hon : st.on = none) : Calls Try.prog 21 #[.pointer (some ⟨xb, 0, none⟩), mv.v] w fun e w' => e = .returned (.bool false) ∧
    StepDone K w base xb v F { st with moves := st.moves + 1 } vs s ts w' := by
  obtain ⟨c0, c1, c2, c3, c4, c5, c6, c7, c8, c9, c10, z, lt⟩ := H.m.head
  obtain ⟨g, cap, e, hcap, hrb, hglt, hgx, gz, gc⟩ := H.m.seats_form hn
  rw [e] at c8
  have hnz : ((st.seats.length : Int) == 0) = false := by rw [beq_eq_false_iff_ne]; omega
  have s0 := gc 0 (by decide)
  obtain ⟨ty, tx, hty⟩ := hK.busy H.k n t hi
  replace s0 : w.cell? ⟨g, n * 5, none⟩ = some (.iface ty tx) := by
    rw [← H.tasks, List.getElem?_map] at hty
    rw [show w.cell? ⟨g, n * 5, none⟩ = _ from s0]
    have e1 : st.seatsNow = st.seats := by unfold MachS.seatsNow; rw [hon]
    simp only [e1]
    simp only [List.getElem?_eq_getElem hn, Option.map_some, Option.some.injEq] at hty
    simp [Seat.cells, hty]
  have HD := Lib.hid (StepDone.of (((mvW_at hK H mv).drew hK).drew hK) (mvW_only hK H mv).drew.drew)
  obtain ⟨a0, a1, a2, a3⟩ := mv
  unfold Mv.v
  unfold mvW at HD
  simp only at ht hop
  subst ht
  have hlt : decide ((n : Int) < 0) = false := by simp
  have hop2 : (a1 == 0) = false := by simpa using hop
  clear c0 c1 c2 c3 c4 c5 c6 c7 c10 gc e hi hon hop hty
  go_enter Try.func21, Try.ntmps21
  go_wp2
  go_region
  go_wp2
  go_region
  go_wp2
  go_ret
  exact ⟨rfl, HD.out⟩

set_option maxRecDepth 100000 in
set_option maxHeartbeats 1000000 in
theorem move_step (n ci : Nat) (hn : n < st.seats.length) (_hs2 : st.seats.length ≤ 1000000) (h0 : 0 ≤ st.moves) (hf : st.moves < 65536) (ht : mv.th = n) (hop : mv.op = 0) (t : K.T) (hi : ts[n]? = some (some t)) (hon : st.on = none)
    (se : Seat) (hse : st.seats[n]? = some se) (ca : Cal) (hca : st.calls[ci]? = some ca) (hlast : se.last = ci) (hf1 : st.d.mem.log.length ≤ 2000000000000) (hf2 : st.d.mem.ahead.length ≤ 2000000000000) (hf3 : st.d.shifts.length ≤ 2000000000000) :
    Calls Try.prog 21 #[.pointer (some ⟨xb, 0, none⟩), mv.v] w fun e w' => e = .returned (.bool true) ∧
      StepRes K w base xb v F { st with moves := st.moves + 1 } vs s ts n ci st.moves se ca t w' := by
  obtain ⟨c0, c1, c2, c3, c4, c5, c6, c7, c8, c9, c10, z, lt⟩ := H.m.head
  obtain ⟨g, cap, e, hcap, hrb, hglt, hgx, gz, gc⟩ := H.m.seats_form hn
  rw [e] at c8
  have hnz : ((st.seats.length : Int) == 0) = false := by rw [beq_eq_false_iff_ne]; omega
  have s0 := gc 0 (by decide)
  obtain ⟨ty, tx, hty⟩ := hK.busy H.k n t hi
  replace s0 : w.cell? ⟨g, n * 5, none⟩ = some (.iface ty tx) := by
    rw [← H.tasks, List.getElem?_map] at hty
    rw [show w.cell? ⟨g, n * 5, none⟩ = _ from s0]
    have e1 : st.seatsNow = st.seats := by unfold MachS.seatsNow; rw [hon]
    simp only [e1]
    simp only [List.getElem?_eq_getElem hn, Option.map_some, Option.some.injEq] at hty
    simp [Seat.cells, hty]
  have HS := Lib.hid (show Calls Try.prog 42 #[.pointer (some ⟨xb, 0, none⟩), .int .i64 (n : Int), .int .i64 st.moves] (mvW w xb st.moves mv).drew.drew fun e w' => e = .returned (.tuple #[]) ∧ StepRes K (mvW w xb st.moves mv).drew.drew base xb v F { st with moves := st.moves + 1 } vs s ts n ci st.moves se ca t w' from
    step_any hK (((mvW_at hK H mv).drew hK).drew hK) hon n ci hn (List.getElem?_eq_some_iff.1 hca).1 se hse ca hca hlast t hi st.moves hf1 hf2 hf3)
  have HD := Lib.hid (mvW_only hK H mv).drew.drew
  obtain ⟨a0, a1, a2, a3⟩ := mv
  unfold Mv.v
  unfold mvW at HD HS
  simp only at ht hop
  subst ht hop
  have hlt : decide ((n : Int) < 0) = false := by simp
  clear c0 c1 c2 c3 c4 c5 c6 c7 c10 gc e hi hon hse hca hlast hf1 hf2 hf3 hty
  go_enter Try.func21, Try.ntmps21
  go_wp2
  go_region
  go_wp2
  go_region
  go_wp2_with (go_at_call 42; (with_reducible refine HS.out.mono ?_); rintro e w1 ⟨rfl, hd⟩; have HR := Lib.hid hd; clear hd)
  go_ret
  exact ⟨rfl, HR.out.pre HD.out⟩
end
end Go.Proofs.Ytjcggokhminmoaa
