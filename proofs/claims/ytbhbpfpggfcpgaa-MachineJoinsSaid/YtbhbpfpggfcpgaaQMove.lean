/-
machine.Machine: Move.
machine.Machine: Move, where a call may begin.
The machine as plain data (PM): what a move makes of it; where it lies (PMAt); machine.Move, Busy, Moves, Call.
Where a plain machine lies (PMAt); machine.Move at it.
slices.Clone at []api.Access; memory.Log and what its iterator gives.
-/
import Derived.Test.YtbhbpfpggfcpgaaQMchS
import Derived.Test.YtbhbpfpggfcpgaaQMem
import Derived.RangeFuncNested
import Derived.RangeFuncBound
import Derived.RangeFuncCalls
import Derived.RangeFuncLeaves
import Derived.Shelf.Abstract
import Derived.Shelf.RegionOpen
import Derived.OwnWalkIn
import Derived.TacticsInMore
import Derived.LoopNIn
import Derived.LoopIn
namespace Go.Proofs.Ytbhbpfpggfcpgaa
open Go.ChangeShapes Go.WideShapes Go.ChangeAt Go.RowKit

section
variable {K : Kits} {w w1 w2 : World} {base xb : Nat} {st : MachS} {v : MachV} {vs : List Value} {s : K.S} {ts : List (Option K.T)} {F : Nat → Prop}
theorem StepDone.of (H : MK K w1 base xb st v vs s ts F) (ho : Only (fun k => v.own xb k ∨ F k) w w1) : StepDone K w base xb v F st vs s ts w1 := ⟨v, F, H, ho, fun _ hk => .inl hk, fun _ hk => .inl hk, rfl, rfl⟩
theorem StepDone.pre (ho : Only (fun k => v.own xb k ∨ F k) w w1) (h : StepDone K w1 base xb v F st vs s ts w2) : StepDone K w base xb v F st vs s ts w2 := by
  obtain ⟨v', F', h1, h2, h3, h4, e⟩ := h
  have := ho.size
  refine ⟨v', F', h1, ho.trans h2 (fun _ hk => .inl hk), fun k hk => ?_, fun k hk => ?_, e⟩
  · rcases h3 k hk with h | h
    · exact .inl h
    · exact .inr (by omega)
  · rcases h4 k hk with h | h
    · exact .inl h
    · exact .inr (by omega)
end

/-- what a step of the thread n leaves -/
def StepRes (K : Kits) (w : World) (base xb : Nat) (v : MachV) (F : Nat → Prop) (st : MachS) (vs : List Value) (s : K.S) (ts : List (Option K.T)) (n ci : Nat) (now : Int) (se : Seat) (ca : Cal) (t : K.T) (w' : World) : Prop :=
  StepDone K w base xb v F (({ st with d := (K.r2 (K.r1 se.ready s t (st.d.first n now ca se))).2.2.1, on := some (ci, n), seats := st.seats.modify n fun x => { x with ready := true } } : MachS).stepped ci n now (K.r2 (K.r1 se.ready s t (st.d.first n now ca se))).2.2.2)
    (if (K.r2 (K.r1 se.ready s t (st.d.first n now ca se))).2.2.2 then vs.set n .nilIface else vs) (K.r2 (K.r1 se.ready s t (st.d.first n now ca se))).1
    (if (K.r2 (K.r1 se.ready s t (st.d.first n now ca se))).2.2.2 then ts.set n none else ts.set n (some (K.r2 (K.r1 se.ready s t (st.d.first n now ca se))).2.1)) w'
theorem StepRes.pre {K : Kits} {w w1 w2 : World} {base xb : Nat} {st : MachS} {v : MachV} {vs : List Value} {s : K.S} {ts : List (Option K.T)} {F : Nat → Prop} {n ci : Nat} {now : Int} {se : Seat} {ca : Cal} {t : K.T}
    (ho : Only (fun k => v.own xb k ∨ F k) w w1) (h : StepRes K w1 base xb v F st vs s ts n ci now se ca t w2) : StepRes K w base xb v F st vs s ts n ci now se ca t w2 := StepDone.pre ho h

/-- the world behind a move's first lines -/
def mvW (w : World) (xb : Nat) (n : Int) (mv : Mv) : World := (w.setCell ⟨xb, 9, none⟩ (.int .i64 (n + 1))).alloc (.cells #[.int .i64 mv.th, .int .i64 mv.op, .int .i64 mv.arg, .int .i64 mv.data] 34)

theorem mvW_only {K : Kits} (_hK : KitsOk K) {w : World} {base xb : Nat} {st : MachS} {v : MachV} {vs : List Value} {s : K.S} {ts : List (Option K.T)} {F : Nat → Prop} (_H : MK K w base xb st v vs s ts F) (mv : Mv) : Only (fun k => v.own xb k ∨ F k) w (mvW w xb st.moves mv) := ((Only.refl _ _).set (.inl (.inl (.inl rfl))) _).alloc _

section
variable {K : Kits} (hK : KitsOk K) {w : World} {base xb : Nat} {st : MachS} {v : MachV} {vs : List Value} {s : K.S} {ts : List (Option K.T)} {F : Nat → Prop} (H : MK K w base xb st v vs s ts F) (mv : Mv)
include hK H
theorem mvW_at : MK K (mvW w xb st.moves mv) base xb { st with moves := st.moves + 1 } v vs s ts F := (H.count hK (st.moves + 1)).alloc hK _

set_option maxRecDepth 100000 in
set_option maxHeartbeats 1000000 in
theorem move_full (hs : 0 < st.seats.length) (hf : 65536 ≤ st.moves) : Calls Try.prog 17 #[.pointer (some ⟨xb, 0, none⟩), mv.v] w fun e w' => e = .returned (.bool false) ∧ StepDone K w base xb v F st vs s ts w' := by
  obtain ⟨c0, c1, c2, c3, c4, c5, c6, c7, c8, c9, c10, z, lt⟩ := H.m.head
  obtain ⟨g, cap, e, hcap, hrb, hglt, hgx, gz, gc⟩ := H.m.seats_form hs
  rw [e] at c8
  have hnz : ((st.seats.length : Int) == 0) = false := by rw [beq_eq_false_iff_ne]; omega
  have HD := Lib.hid (StepDone.of (H.alloc hK (.cells #[.int .i64 mv.th, .int .i64 mv.op, .int .i64 mv.arg, .int .i64 mv.data] 34)) ((Only.refl _ _).alloc _))
  obtain ⟨a0, a1, a2, a3⟩ := mv
  unfold Mv.v
  clear c0 c1 c2 c3 c4 c5 c6 c7 c10 gc e
  go_enter Try.func17, Try.ntmps17
  go_wp2
  go_ret
  exact ⟨rfl, HD.out⟩

set_option maxRecDepth 100000 in
set_option maxHeartbeats 1000000 in
theorem move_none (hs : 0 < st.seats.length) (hs2 : st.seats.length ≤ 1000000) (h0 : 0 ≤ st.moves) (hf : st.moves < 65536) (ht : mv.th < 0 ∨ (st.seats.length : Int) ≤ mv.th) : Calls Try.prog 17 #[.pointer (some ⟨xb, 0, none⟩), mv.v] w fun e w' => e = .returned (.bool false) ∧
    StepDone K w base xb v F { st with moves := st.moves + 1 } vs s ts w' := by
  obtain ⟨c0, c1, c2, c3, c4, c5, c6, c7, c8, c9, c10, z, lt⟩ := H.m.head
  obtain ⟨g, cap, e, hcap, hrb, hglt, hgx, gz, gc⟩ := H.m.seats_form hs
  rw [e] at c8
  have hnz : ((st.seats.length : Int) == 0) = false := by rw [beq_eq_false_iff_ne]; omega
  have HD := Lib.hid (StepDone.of ((mvW_at hK H mv).drew hK) (mvW_only hK H mv).drew)
  obtain ⟨a0, a1, a2, a3⟩ := mv
  unfold Mv.v
  unfold mvW at HD
  simp only at ht
  clear c0 c1 c2 c3 c4 c5 c6 c7 c10 gc e
  rcases ht with ht | ht
  · go_enter Try.func17, Try.ntmps17
    go_wp2
    go_region
    go_wp2
    go_ret
    exact ⟨rfl, HD.out⟩
  · have ht0 : decide (a0 < 0) = false := by simp; omega
    go_enter Try.func17, Try.ntmps17
    go_wp2
    go_region
    go_wp2
    go_ret
    exact ⟨rfl, HD.out⟩

set_option maxRecDepth 100000 in
set_option maxHeartbeats 1000000 in
theorem move_idle (n : Nat) (hn : n < st.seats.length) (_hs2 : st.seats.length ≤ 1000000) (h0 : 0 ≤ st.moves) (hf : st.moves < 65536) (ht : mv.th = n) (hop : mv.op = 0) (hi : ts[n]? = some none) (hon : st.on = none) : Calls Try.prog 17 #[.pointer (some ⟨xb, 0, none⟩), mv.v] w fun e w' => e = .returned (.bool false) ∧
    StepDone K w base xb v F { st with moves := st.moves + 1 } vs s ts w' := by
  obtain ⟨c0, c1, c2, c3, c4, c5, c6, c7, c8, c9, c10, z, lt⟩ := H.m.head
  obtain ⟨g, cap, e, hcap, hrb, hglt, hgx, gz, gc⟩ := H.m.seats_form hn
  rw [e] at c8
  have hnz : ((st.seats.length : Int) == 0) = false := by rw [beq_eq_false_iff_ne]; omega
  have s0 := gc 0 (by decide)
  replace s0 : w.cell? ⟨g, n * 5, none⟩ = some .nilIface := by
    have h1 := hK.idle H.k n hi
    rw [← H.tasks, List.getElem?_map] at h1
    rw [show w.cell? ⟨g, n * 5, none⟩ = _ from s0]
    have e1 : st.seatsNow = st.seats := by unfold MachS.seatsNow; rw [hon]
    simp only [e1]
    simp only [List.getElem?_eq_getElem hn, Option.map_some, Option.some.injEq] at h1
    simp [Seat.cells, h1]
  have HD := Lib.hid (StepDone.of (((mvW_at hK H mv).drew hK).drew hK) (mvW_only hK H mv).drew.drew)
  obtain ⟨a0, a1, a2, a3⟩ := mv
  unfold Mv.v
  unfold mvW at HD
  simp only at ht hop
  subst ht hop
  have hlt : decide ((n : Int) < 0) = false := by simp
  clear c0 c1 c2 c3 c4 c5 c6 c7 c10 gc e hi hon
  go_enter Try.func17, Try.ntmps17
  go_wp2
  go_region
  go_wp2
  go_region
  go_wp2
  go_ret
  exact ⟨rfl, HD.out⟩

set_option maxRecDepth 100000 in
set_option maxHeartbeats 1000000 in
theorem move_busy (n : Nat) (hn : n < st.seats.length) (_hs2 : st.seats.length ≤ 1000000) (h0 : 0 ≤ st.moves) (hf : st.moves < 65536) (ht : mv.th = n) (hop : mv.op ≠ 0) (t : K.T) (hi : ts[n]? = some (some t)) (hon : st.on = none) : Calls Try.prog 17 #[.pointer (some ⟨xb, 0, none⟩), mv.v] w fun e w' => e = .returned (.bool false) ∧
    StepDone K w base xb v F { st with moves := st.moves + 1 } vs s ts w' := by
  obtain ⟨c0, c1, c2, c3, c4, c5, c6, c7, c8, c9, c10, z, lt⟩ := H.m.head
  obtain ⟨g, cap, e, hcap, hrb, hglt, hgx, gz, gc⟩ := H.m.seats_form hn
  rw [e] at c8
  have hnz : ((st.seats.length : Int) == 0) = false := by rw [beq_eq_false_iff_ne]; omega
  have s0 := gc 0 (by decide)
  obtain ⟨ty, tx, hty⟩ := hK.busy H.k n t hi
  replace s0 : w.cell? ⟨g, n * 5, none⟩ = some (.iface ty tx) := by
    rw [← H.tasks, List.getElem?_map] at hty
    rw [show w.cell? ⟨g, n * 5, none⟩ = _ from s0]
    have e1 : st.seatsNow = st.seats := by unfold MachS.seatsNow; rw [hon]
    simp only [e1]
    simp only [List.getElem?_eq_getElem hn, Option.map_some, Option.some.injEq] at hty
    simp [Seat.cells, hty]
  have HD := Lib.hid (StepDone.of (((mvW_at hK H mv).drew hK).drew hK) (mvW_only hK H mv).drew.drew)
  obtain ⟨a0, a1, a2, a3⟩ := mv
  unfold Mv.v
  unfold mvW at HD
  simp only at ht hop
  subst ht
  have hlt : decide ((n : Int) < 0) = false := by simp
  have hop2 : (a1 == 0) = false := by simpa using hop
  clear c0 c1 c2 c3 c4 c5 c6 c7 c10 gc e hi hon hop hty
  go_enter Try.func17, Try.ntmps17
  go_wp2
  go_region
  go_wp2
  go_region
  go_wp2
  go_ret
  exact ⟨rfl, HD.out⟩

set_option maxRecDepth 100000 in
set_option maxHeartbeats 1000000 in
theorem move_step (n ci : Nat) (hn : n < st.seats.length) (_hs2 : st.seats.length ≤ 1000000) (h0 : 0 ≤ st.moves) (hf : st.moves < 65536) (ht : mv.th = n) (hop : mv.op = 0) (t : K.T) (hi : ts[n]? = some (some t)) (hon : st.on = none)
    (se : Seat) (hse : st.seats[n]? = some se) (ca : Cal) (hca : st.calls[ci]? = some ca) (hlast : se.last = ci) (hf1 : st.d.mem.log.length ≤ 2000000000000) (hf2 : st.d.mem.ahead.length ≤ 2000000000000) (hf3 : st.d.shifts.length ≤ 2000000000000) :
    Calls Try.prog 17 #[.pointer (some ⟨xb, 0, none⟩), mv.v] w fun e w' => e = .returned (.bool true) ∧
      StepRes K w base xb v F { st with moves := st.moves + 1 } vs s ts n ci st.moves se ca t w' := by
  obtain ⟨c0, c1, c2, c3, c4, c5, c6, c7, c8, c9, c10, z, lt⟩ := H.m.head
  obtain ⟨g, cap, e, hcap, hrb, hglt, hgx, gz, gc⟩ := H.m.seats_form hn
  rw [e] at c8
  have hnz : ((st.seats.length : Int) == 0) = false := by rw [beq_eq_false_iff_ne]; omega
  have s0 := gc 0 (by decide)
  obtain ⟨ty, tx, hty⟩ := hK.busy H.k n t hi
  replace s0 : w.cell? ⟨g, n * 5, none⟩ = some (.iface ty tx) := by
    rw [← H.tasks, List.getElem?_map] at hty
    rw [show w.cell? ⟨g, n * 5, none⟩ = _ from s0]
    have e1 : st.seatsNow = st.seats := by unfold MachS.seatsNow; rw [hon]
    simp only [e1]
    simp only [List.getElem?_eq_getElem hn, Option.map_some, Option.some.injEq] at hty
    simp [Seat.cells, hty]
  have HS := Lib.hid (show Calls Try.prog 53 #[.pointer (some ⟨xb, 0, none⟩), .int .i64 (n : Int), .int .i64 st.moves] (mvW w xb st.moves mv).drew.drew fun e w' => e = .returned (.tuple #[]) ∧ StepRes K (mvW w xb st.moves mv).drew.drew base xb v F { st with moves := st.moves + 1 } vs s ts n ci st.moves se ca t w' from
    step_any hK (((mvW_at hK H mv).drew hK).drew hK) hon n ci hn (List.getElem?_eq_some_iff.1 hca).1 se hse ca hca hlast t hi st.moves hf1 hf2 hf3)
  have HD := Lib.hid (mvW_only hK H mv).drew.drew
  obtain ⟨a0, a1, a2, a3⟩ := mv
  unfold Mv.v
  unfold mvW at HD HS
  simp only at ht hop
  subst ht hop
  have hlt : decide ((n : Int) < 0) = false := by simp
  clear c0 c1 c2 c3 c4 c5 c6 c7 c10 gc e hi hon hse hca hlast hf1 hf2 hf3 hty
  go_enter Try.func17, Try.ntmps17
  go_wp2
  go_region
  go_wp2
  go_region
  go_wp2_with (go_at_call 53; (with_reducible refine HS.out.mono ?_); rintro e w1 ⟨rfl, hd⟩; have HR := Lib.hid hd; clear hd)
  go_ret
  exact ⟨rfl, HR.out.pre HD.out⟩
end
end Go.Proofs.Ytbhbpfpggfcpgaa
namespace Go.Proofs.Ytbhbpfpggfcpgaa
open Go.ChangeShapes Go.WideShapes Go.ChangeAt Go.RowKit

/-- what the beginning of a call leaves -/
def BeginRes (K : Kits) (w : World) (base xb : Nat) (v : MachV) (F : Nat → Prop) (st : MachS) (vs : List Value) (s : K.S) (ts : List (Option K.T)) (n : Nat) (mv : Mv) (e : Ending) (w' : World) : Prop :=
  (K.make s mv = none ∧ e = .returned (.bool false) ∧ StepDone K w base xb v F { st with moves := st.moves + 1 } vs s ts w') ∨
  ∃ t y, K.make s mv = some t ∧ e = .returned (.bool true) ∧ StepDone K w base xb v F { st with moves := st.moves + 1, seats := st.seats.set n ⟨y, false, st.calls.length, 1, 0⟩, calls := st.calls ++ [⟨mv.th, mv.op, mv.arg, mv.data, st.moves, -1, -1, 0, 0⟩] } (vs.set n y) s (ts.set n (some t)) w'

theorem infoCall : (Try.prog.info? 63).map (fun i => (i.zero, i.size, i.bytes)) = some (some (.agg #[.int .i64 0, .int .i64 0, .int .i64 0, .int .i64 0, .int .i64 0, .int .i64 0, .int .i64 0, .int .i64 0, .int .i64 0]), 9, 72) := by kernel_rfl

theorem func_nil (f : Fn) (x y : Array Value) (w : World) : (binOp BinOp.eql 128 (.func f x y) Value.nilFunc).run Try.prog w = .ok (.bool false) w := by
  kernel_rfl

theorem nil_nil (w : World) : (binOp BinOp.eql 128 Value.nilFunc Value.nilFunc).run Try.prog w = .ok (.bool true) w := by
  kernel_rfl
theorem MK.only0 {K : Kits} (hK : KitsOk K) {w w' : World} {base xb : Nat} {st : MachS} {v : MachV} {vs : List Value} {s : K.S} {ts : List (Option K.T)} {F : Nat → Prop} (H : MK K w base xb st v vs s ts F) (ho : Only (fun _ => False) w w') : MK K w' base xb st v vs s ts F :=
  ⟨H.m.only ho (fun _ _ h => h), hK.loc H.k fun k hk => ho.block k (hK.lt H.k k hk).2 (fun h => h), H.sep, H.tasks, H.len⟩

section
variable {K : Kits} (hK : KitsOk K) {w : World} {base xb : Nat} {st : MachS} {v : MachV} {vs : List Value} {s : K.S} {ts : List (Option K.T)} {F : Nat → Prop} (H : MK K w base xb st v vs s ts F) (mv : Mv)
include hK H
set_option maxRecDepth 100000 in
set_option maxHeartbeats 2000000 in
theorem move_begin (n : Nat) (hn : n < st.seats.length) (_hs2 : st.seats.length ≤ 1000000) (h0 : 0 ≤ st.moves) (hf : st.moves < 65536) (ht : mv.th = n) (hop : mv.op ≠ 0) (hi : ts[n]? = some none) (hon : st.on = none) (hcl : st.calls.length ≤ 1000000000) :
    Calls Try.prog 17 #[.pointer (some ⟨xb, 0, none⟩), mv.v] w (BeginRes K w base xb v F st vs s ts n mv) := by
  obtain ⟨c0, c1, c2, c3, c4, c5, c6, c7, c8, c9, c10, z, lt⟩ := H.m.head
  obtain ⟨g, cap, e, hcap, hrb, hglt, hgx, gz, gc⟩ := H.m.seats_form hn
  rw [e] at c8
  have hnz : ((st.seats.length : Int) == 0) = false := by rw [beq_eq_false_iff_ne]; omega
  have s0 := gc 0 (by decide)
  have e1 : st.seatsNow = st.seats := by unfold MachS.seatsNow; rw [hon]
  replace s0 : w.cell? ⟨g, n * 5, none⟩ = some .nilIface := by
    have h1 := hK.idle H.k n hi
    rw [← H.tasks, List.getElem?_map] at h1
    rw [show w.cell? ⟨g, n * 5, none⟩ = _ from s0]
    simp only [e1]
    simp only [List.getElem?_eq_getElem hn, Option.map_some, Option.some.injEq] at h1
    simp [Seat.cells, h1]
  have HM := Lib.hid ((((mvW_at hK H mv).drew hK).drew hK).drew hK)
  have HO := Lib.hid (mvW_only hK H mv).drew.drew.drew
  obtain ⟨fv, hlook, hfv⟩ := hK.look HM.out.k mv.op
  have HF := Lib.hid hfv
  have HIT := Lib.hid hi
  have HON := Lib.hid hon
  have HSE := Lib.hid hrb
  have HN := Lib.hid (show ∀ o : Nat, (mvW w xb st.moves mv).heap.size = o → o = w.heap.size + 1 from fun o ho => by rw [← ho]; simp [mvW])
  obtain ⟨a0, a1, a2, a3⟩ := mv
  unfold Mv.v
  have HW := Lib.hid (show (mvW w xb st.moves ⟨a0, a1, a2, a3⟩).drew.drew.drew = ((w.setCell ⟨xb, 9, none⟩ (.int .i64 (st.moves + 1))).alloc (.cells #[.int .i64 a0, .int .i64 a1, .int .i64 a2, .int .i64 a3] 34)).drew.drew.drew from rfl)
  rw [HW.out] at hlook HM HO hfv
  simp only at ht hop hlook
  subst ht
  have hlt : decide ((n : Int) < 0) = false := by simp
  have hop2 : (a1 == 0) = false := by simpa using hop
  have HNH := Lib.hid hn
  clear c0 c1 c2 c3 c4 c5 c6 c10 gc e hi hon hop e1
  rcases hfv with ⟨rfl, hno⟩ | ⟨⟨f, fx, fy, rfl⟩, hmk⟩
  · have HNO := Lib.hid (hno ⟨n, a1, a2, a3⟩ rfl)
    have HD := Lib.hid (StepDone.of HM.out HO.out)
    clear hno HF
    have hq := nil_nil
    go_enter Try.func17, Try.ntmps17
    go_wp2
    go_region
    go_wp2
    go_region
    go_wp2
    go_region
    go_wp2
    go_ret
    exact .inl ⟨HNO.out, rfl, HD.out⟩
  · have HMK := Lib.hid (hmk ⟨n, a1, a2, a3⟩ n rfl rfl HIT.out)
    have hq := func_nil f fx fy
    clear hmk HF
    go_enter Try.func17, Try.ntmps17
    go_wp2
    go_region
    go_wp2
    go_region
    go_wp2
    go_region
    go_wp2_with (refine wpList_value rfl _ _ _ _ rfl (.func f fx fy) (.int .i64 (n : Int)) (Mv.v ⟨n, a1, a2, a3⟩) rfl rfl rfl _ HMK.out ?_; rintro e w' hr; have HR := Lib.hid hr; clear hr)
    rcases HR.out with ⟨hno, rfl, ho⟩ | ⟨t, y, F', hmk, rfl, hat, ho, hF⟩
    · refine ⟨_, rfl, ?_⟩
      have HD := Lib.hid (StepDone.of (HM.out.only0 hK ho) (HO.out.trans ho (fun _ h => h.elim)))
      have HNO := Lib.hid hno
      clear hno ho HR
      go_wp2
      go_ret
      exact .inl ⟨HNO.out, rfl, HD.out⟩
    · refine ⟨_, rfl, ?_⟩
      have hlv : n < vs.length := by rw [← H.tasks]; simpa using HNH.out
      have hlt2 : n < ts.length := by rw [H.len]; exact hlv
      obtain ⟨ty, tx, hty⟩ := hK.busy hat n t (by rw [List.getElem?_set]; simp [hlt2])
      rw [List.getElem?_set, if_pos rfl, if_pos hlv] at hty
      obtain rfl : y = .iface ty tx := Option.some.inj hty
      have hM1 := HM.out.m.only ho (fun _ _ h => h)
      obtain ⟨d0, d1, d2, d3, d4, d5, d6, d7, d8, d9, d10, dz, dlt⟩ := hM1.head
      obtain ⟨g', cap', e', hcap', hrb', hglt', hgx', gz', gc'⟩ := hM1.seats_form HNH.out
      obtain rfl : g = g' := by rw [HSE.out] at hrb'; exact Option.some.inj hrb'
      obtain ⟨o2, cap2, e2, l2, m2⟩ := hM1.rca.form
      have EV := Lib.hid e2
      rw [e2] at d10
      unfold maxLen at m2
      obtain ⟨x0, q0⟩ : ∃ x, w'.cell? ⟨g, n * 5, none⟩ = some x := ⟨_, gc' 0 (by decide)⟩
      obtain ⟨x1, q1⟩ : ∃ x, w'.cell? ⟨g, n * 5 + 1, none⟩ = some x := ⟨_, gc' 1 (by decide)⟩
      obtain ⟨x2, q2⟩ : ∃ x, w'.cell? ⟨g, n * 5 + 2, none⟩ = some x := ⟨_, gc' 2 (by decide)⟩
      obtain ⟨x3, q3⟩ : ∃ x, w'.cell? ⟨g, n * 5 + 3, none⟩ = some x := ⟨_, gc' 3 (by decide)⟩
      obtain ⟨x4, q4⟩ : ∃ x, w'.cell? ⟨g, n * 5 + 4, none⟩ = some x := ⟨_, gc' 4 (by decide)⟩
      have HM1 := Lib.hid hM1
      have hbox : Hid (w'.heap[w.heap.size]? = some (.cells #[.int .i64 (n : Int), .int .i64 a1, .int .i64 a2, .int .i64 a3] 34)) := by
        refine Lib.hid ?_
        rw [ho.block w.heap.size (by simp) (fun h => h)]
        have := heap_alloc_new (w.setCell ⟨xb, 9, none⟩ (.int .i64 (st.moves + 1))) (.cells #[.int .i64 (n : Int), .int .i64 a1, .int .i64 a2, .int .i64 a3] 34)
        rw [show (w.setCell ⟨xb, 9, none⟩ (.int .i64 (st.moves + 1))).heap.size = w.heap.size by simp] at this
        exact this
      have HAT := Lib.hid hat
      have HO1 := Lib.hid ho
      have HFF := Lib.hid hF
      have HMKE := Lib.hid hmk
      clear e2 hat ho hF hmk hty HR hM1 d0 d1 d2 d3 d4 d5 d6 d7 d8 d9 gc' e' hcap' hrb' hlook HMK
      go_wp2
      refine gen_world ?_
      intro W2 hW2
      have hM2 : MachAt W2 base xb { st with moves := st.moves + 1, seats := st.seats.set n ⟨.iface ty tx, false, st.calls.length, 1, 0⟩ } v := by
        rw [hW2]
        exact HM1.out.seat_whole HON.out HNH.out HSE.out ⟨.iface ty tx, false, st.calls.length, 1, 0⟩
      have ho2 : Only (fun k => v.own xb k ∨ F k) w W2 := by
        rw [hW2]
        have hgo : v.own xb g := .inr (.inr (.inr (.inl HSE.out)))
        exact (((((HO.out.trans HO1.out (fun _ h => h.elim)).set (.inl (.inl hgo)) _).set (.inl (.inl hgo)) _).set (.inl (.inl hgo)) _).set (.inl (.inl hgo)) _).set (.inl (.inl hgo)) _
      have hat2 : K.At W2 base v.kit (vs.set n (.iface ty tx)) s (ts.set n (some t)) F' := by
        refine hK.loc HAT.out fun k hk => ?_
        have hkg : k ≠ g := fun e => by
          rcases HFF.out k hk with h1 | h1
          · exact H.sep k h1 (e ▸ .inr (.inr (.inr (.inl HSE.out))))
          · simp at h1; omega
        rw [hW2]
        simp [World.setCell, Array.getElem?_modify, Ne.symm hkg]
      have hb2 : W2.heap[w.heap.size]? = some (.cells #[.int .i64 (n : Int), .int .i64 a1, .int .i64 a2, .int .i64 a3] 34) := by
        rw [hW2, ← hbox.out]
        have hkg : g ≠ w.heap.size := by omega
        simp [World.setCell, Array.getElem?_modify, hkg]
      obtain ⟨p0, p1, p2, p3, p4, p5, p6, p7, p8, p9, p10, pz, plt⟩ := hM2.head
      have hBlt : w.heap.size < W2.heap.size := (Array.getElem?_eq_some_iff.1 hb2).1
      have b0 : W2.cell? ⟨w.heap.size, 0, none⟩ = some (.int .i64 (n : Int)) := by simp [World.cell?, hb2]
      have b1 : W2.cell? ⟨w.heap.size, 1, none⟩ = some (.int .i64 a1) := by simp [World.cell?, hb2]
      have b2 : W2.cell? ⟨w.heap.size, 2, none⟩ = some (.int .i64 a2) := by simp [World.cell?, hb2]
      have b3 : W2.cell? ⟨w.heap.size, 3, none⟩ = some (.int .i64 a3) := by simp [World.cell?, hb2]
      have hnx : v.vca.rowBlock ≠ some xb := fun e => hM2.nc xb e rfl
      have hnb : v.vca.rowBlock ≠ some w.heap.size := fun e => by have := (H.m.lt _ (.inr (.inr (.inr (.inr e))))).2; omega
      have f0 := fun g : LaterF (fun k => v.vca.rowBlock = some k) W2 => g.cell b0 hBlt hnb
      have f1 := fun g : LaterF (fun k => v.vca.rowBlock = some k) W2 => g.cell b1 hBlt hnb
      have f2 := fun g : LaterF (fun k => v.vca.rowBlock = some k) W2 => g.cell b2 hBlt hnb
      have f3 := fun g : LaterF (fun k => v.vca.rowBlock = some k) W2 => g.cell b3 hBlt hnb
      have f4 := fun g : LaterF (fun k => v.vca.rowBlock = some k) W2 => g.cell p10 plt hnx
      obtain ⟨i0, ii, iz0, iz1, iz2⟩ := info_parts infoCall
      have HII := Lib.hid ii
      have HZ0 := Lib.hid iz0
      have HZ1 := Lib.hid iz1
      have HZ2 := Lib.hid iz2
      have S1 := Lib.hid (show ∀ u ∈ [Value.int .i64 (n : Int), .int .i64 a1, .int .i64 a2, .int .i64 a3, .int .i64 st.moves, .int .i64 (-1), .int .i64 (-1), .int .i64 0, .int .i64 0], u.oneCell' = true by simp [Value.oneCell'])
      have S2 := Lib.hid (show st.calls.length + 1 ≤ maxLen by unfold maxLen; omega)
      have S3 := Lib.hid (show ((st.calls.length + 1) + (st.calls.length + 1) / 4 + 192) * 72 ≤ 281474976710656 by omega)
      have HM2 := Lib.hid hM2
      have HO2 := Lib.hid ho2
      have HAT2 := Lib.hid hat2
      have HC : Hid (W2.RowV base 63 9 v.vca st.calls.length (cals st.calls)) := Lib.hid (by
        have := hM2.rca
        rw [show ({ st with moves := st.moves + 1, seats := st.seats.set n ⟨.iface ty tx, false, st.calls.length, 1, 0⟩ } : MachS).callsNow = st.calls by unfold MachS.callsNow; simp only [HON.out]] at this
        exact this)
      clear hW2 hM2 ho2 hat2 hb2 p0 p1 p2 p3 p4 p5 p6 p7 p8 p9 p10 pz hBlt b0 b1 b2 b3 hnb ii iz0 iz1 iz2 q0 q1 q2 q3 q4 d10 HM1 hbox HO1 HAT c7 c8 c9 s0
      go_wp2
      refine wp_region_steps_last (fun wz => ∃ g : LaterF (fun k => v.vca.rowBlock = some k) W2, wz = g.W) [15, 0] 19 (by kernel_rfl) (by kernel_rfl) (laterF_in (Only.drew (Only.refl _ _))) ?_
      simp only [cutSteps, List.take_succ_cons, List.take_zero, List.drop_succ_cons, List.drop_zero, wpSteps]
      repeat (first | go_big_quiet_skip | (go_big_quiet_want; go_big_quiet_op; go_big_quiet_on))
      refine wpQuiet_nil ?_
      go_wp2_with fail
      try unfold Strict
      refine ⟨?_, ?_⟩
      · exact laterF_in (((Only.refl _ _).drew).alloc _)
      repeat (first | go_big_quiet_skip | (go_big_quiet_want; go_big_quiet_op; go_big_quiet_on))
      refine wpQuiet_nil ?_
      go_wp2_with (at_builtin; refine wpList_append_row _ rfl _ _ 37 rfl base 63 i0 _ 9 72 Try.underlying37 HII.out HZ0.out HZ1.out HZ2.out rfl v.vca st.calls.length (cals st.calls) rfl (HC.out.drew.alloc _) _ 1 _ rfl (World.Src.one rfl rfl) S1.out S2.out S3.out (by have := HM2.out.base_le; simp; omega) ?_; intro v' w3 hown hout; obtain ⟨o', c', rfl, hn', hm'⟩ := hown.form; have HWN := Lib.hid hown; have HOU := Lib.hid hout; clear hown hout hm')
      try unfold Strict
      refine ⟨?_, ?_⟩
      · exact laterF_in (((((Only.refl _ _).drew).alloc _).trans (Only.out HOU.out (fun k hk => hk)) (fun _ h => .inl h)))
      repeat (first | go_big_quiet_skip | (go_big_quiet_want; go_big_quiet_op; go_big_quiet_on))
      refine wpQuiet_nil ?_
      have hx3 := HOU.out.block (k := xb) (by have := plt; simp; omega) hnx
      obtain ⟨p0, p1, p2, p3, p4, p5, p6, p7, p8, p9, p10, pz, plt2⟩ := HM2.out.head
      have r10 : w3.cell? ⟨xb, 10, none⟩ = some v.vca := by
        rw [World.cell?_of_block hx3]
        exact (HM2.out.drew.alloc _).head.2.2.2.2.2.2.2.2.2.2.1
      have rz : ∀ j, w3.frozen? ⟨xb, j, none⟩ = false := fun j => by
        rw [World.frozen?_of_block hx3]
        exact (HM2.out.drew.alloc _).head.2.2.2.2.2.2.2.2.2.2.2.1 j
      have rlt : xb < w3.heap.size := Nat.lt_of_lt_of_le (by have := plt; simp; omega) HOU.out.size
      clear p0 p1 p2 p3 p4 p5 p6 p7 p8 p9 p10 pz plt2 hx3 f0 f1 f2 f3 f4
      go_wp2
      go_ret
      obtain ⟨v4, k1, k2, k3, e3, e4⟩ := MachAt.app_call (x := ⟨n, a1, a2, a3, st.moves, -1, -1, 0, 0⟩) (HM2.out.drew.alloc _) HON.out HWN.out HOU.out
      have hsz := HO2.out.size
      have hFn : ∀ k, F' k → ¬ v.own xb k := fun k hk ho => by
        rcases HFF.out k hk with h1 | h1
        · exact H.sep k h1 ho
        · have := (H.m.lt k ho).2; simp at h1; omega
      have hFl : ∀ k, F' k → k < W2.heap.size := fun k hk => (hK.lt HAT2.out k hk).2
      have hFs : ∀ k, F' k → F k ∨ w.heap.size ≤ k := fun k hk => by
        rcases HFF.out k hk with h1 | h1
        · exact .inl h1
        · simp at h1; exact .inr (by omega)
      have hsz2 : (W2.drew.alloc (.cells #[.int .i64 (n : Int), .int .i64 a1, .int .i64 a2, .int .i64 a3, .int .i64 st.moves, .int .i64 (-1), .int .i64 (-1), .int .i64 0, .int .i64 0] 63)).heap.size = W2.heap.size + 1 := by simp
      refine .inr ⟨t, .iface ty tx, HMKE.out, rfl, v4, F', ⟨k1, ?_, ?_, ?_, ?_⟩, ?_, ?_, hFs, e3, e4⟩
      · rw [e4]
        refine hK.loc HAT2.out fun k hk => ?_
        rw [k2.block k (by rw [hsz2]; have := hFl k hk; omega) (hFn k hk)]
        exact Below.heap_alloc W2.drew _ _ (hFl k hk)
      · intro k hk ho
        rcases k3 k ho with h1 | h1
        · exact hFn k hk h1
        · rw [hsz2] at h1; have := hFl k hk; omega
      · show (st.seats.set n _).map Seat.task = _
        rw [List.map_set, H.tasks]
      · simp [H.len]
      · exact (((HO2.out.drew).alloc _).trans k2 (fun k hk => .inl (.inl hk)))
      · intro k ho
        rcases k3 k ho with h1 | h1
        · exact .inl h1
        · rw [hsz2] at h1; exact .inr (by omega)
end
end Go.Proofs.Ytbhbpfpggfcpgaa
namespace Go
open Go.RowKit

structure PSeat (T : Type) where
  task : Option T
  ready : Bool
  last : Int
  ak : Int
  av : Int
structure PM (K : Kits) where
  words : List Int
  log : List Acc
  ahead : List Int
  shifts : List Shf
  seats : List (PSeat K.T)
  moves : Nat
  calls : List Cal
  s : K.S

section
variable {K : Kits}
def PM.desk (p : PM K) (i : Nat) (se : PSeat K.T) (ca : Cal) : DeskS := ⟨⟨p.words, p.log, p.ahead, p.moves⟩, p.shifts, false, i, p.moves, ca.pt, se.ak, se.av⟩
def PM.res (p : PM K) (i : Nat) (se : PSeat K.T) (ca : Cal) (t : K.T) : K.S × K.T × DeskS × Bool := K.r2 (K.r1 se.ready p.s t (p.desk i se ca))
def PM.step (p : PM K) (i : Nat) (se : PSeat K.T) (t : K.T) : PM K :=
  let ca := p.calls.getD se.last.toNat default
  let r := p.res i se ca t
  { words := r.2.2.1.mem.words, log := r.2.2.1.mem.log, ahead := r.2.2.1.mem.ahead, shifts := r.2.2.1.shifts,
    seats := p.seats.set i ⟨if r.2.2.2 then none else some r.2.1, true, se.last, r.2.2.1.ak, r.2.2.1.av⟩, moves := p.moves + 1,
    calls := p.calls.set se.last.toNat (if r.2.2.2 then { ca with pt := r.2.2.1.pt, en := p.moves, ak := r.2.2.1.ak, av := r.2.2.1.av } else { ca with pt := r.2.2.1.pt }), s := r.1 }
def PM.begin (p : PM K) (i : Nat) (mv : Mv) (t : K.T) : PM K :=
  { p with moves := p.moves + 1, seats := p.seats.set i ⟨some t, false, p.calls.length, 1, 0⟩, calls := p.calls ++ [⟨mv.th, mv.op, mv.arg, mv.data, p.moves, -1, -1, 0, 0⟩] }
def PM.skip (p : PM K) : PM K := { p with moves := p.moves + 1 }
def PM.move (p : PM K) (mv : Mv) : PM K × Bool :=
  if 65536 ≤ p.moves then (p, false)
  else if mv.th < 0 then (p.skip, false)
  else match p.seats[mv.th.toNat]? with
    | none => (p.skip, false)
    | some se => match se.task with
      | some t => if mv.op = 0 then (p.step mv.th.toNat se t, true) else (p.skip, false)
      | none => if mv.op = 0 then (p.skip, false) else match K.make p.s mv with
        | none => (p.skip, false)
        | some t => (p.begin mv.th.toNat mv t, true)

/-- what always holds of a machine -/
structure PM.Good (p : PM K) : Prop where
  few : p.seats.length ≤ 1000
  pos : 0 < p.seats.length
  top : p.moves ≤ 65536
  log : p.log.length ≤ 4 * p.moves
  ahead : p.ahead.length ≤ 4 * p.moves
  shifts : p.shifts.length ≤ 8 * p.moves
  calls : p.calls.length ≤ p.moves
  last : ∀ (i : Nat) (se : PSeat K.T), p.seats[i]? = some se → -1 ≤ se.last ∧ se.last < p.calls.length
  busy : ∀ (i : Nat) (se : PSeat K.T) t, p.seats[i]? = some se → se.task = some t → 0 ≤ se.last

theorem PM.Good.skip {p : PM K} (h : p.Good) (ht : p.moves < 65536) : p.skip.Good :=
  ⟨h.few, h.pos, by show p.moves + 1 ≤ _; omega, by have := h.log; show p.log.length ≤ 4 * (p.moves + 1); omega, by have := h.ahead; show p.ahead.length ≤ 4 * (p.moves + 1); omega, by have := h.shifts; show p.shifts.length ≤ 8 * (p.moves + 1); omega,
    by have := h.calls; show p.calls.length ≤ p.moves + 1; omega, h.last, h.busy⟩

/-- the machine's heap state and the plain one -/
structure PMRel (st : MachS) (p : PM K) : Prop where
  words : st.d.mem.words = p.words
  log : st.d.mem.log = p.log
  ahead : st.d.mem.ahead = p.ahead
  shifts : st.d.shifts = p.shifts
  moves : st.moves = (p.moves : Int)
  calls : st.calls = p.calls
  on : st.on = none
  seats : st.seats.map (fun x => (x.ready, x.last, x.ak, x.av)) = p.seats.map (fun x => (x.ready, x.last, x.ak, x.av))

theorem PMRel.len {st : MachS} {p : PM K} (h : PMRel st p) : st.seats.length = p.seats.length := by have := congrArg List.length h.seats; simpa using this
theorem PMRel.seat {st : MachS} {p : PM K} (h : PMRel st p) {i : Nat} {se : PSeat K.T} (hs : p.seats[i]? = some se) : ∃ y, st.seats[i]? = some ⟨y, se.ready, se.last, se.ak, se.av⟩ := by
  have h1 := congrArg (fun l => l[i]?) h.seats
  simp only [List.getElem?_map, hs, Option.map_some] at h1
  cases h2 : st.seats[i]? with
  | none => rw [h2] at h1; cases h1
  | some x =>
    rw [h2] at h1
    simp only [Option.map_some, Option.some.injEq, Prod.mk.injEq] at h1
    obtain ⟨a, b, c, d⟩ := h1
    exact ⟨x.task, by cases x; simp_all⟩
theorem PMRel.desk {st : MachS} {p : PM K} (h : PMRel st p) (i : Nat) (y : Value) (se : PSeat K.T) (ca : Cal) : st.d.first i p.moves ca ⟨y, se.ready, se.last, se.ak, se.av⟩ = p.desk i se ca := by
  unfold DeskS.first DeskS.fresh PM.desk
  rw [← h.words, ← h.log, ← h.ahead, ← h.shifts]

theorem ext_set {α β : Type} {f : α → β} {l : List α} {m : List β} {i : Nat} {g : α → α} {y : β} (h : l.map f = m) (hy : ∀ x, l[i]? = some x → f (g x) = y) : (l.modify i g).map f = m.set i y := by
  subst h
  apply List.ext_getElem?
  intro j
  simp only [List.getElem?_map, List.getElem?_modify, List.getElem?_set, List.length_map]
  by_cases e : i = j
  · subst e
    cases hx : l[i]? with
    | none =>
      have := List.getElem?_eq_none_iff.1 hx
      simp; omega
    | some x =>
      have := (List.getElem?_eq_some_iff.1 hx).1
      simp [this, hy x hx]
  · simp [e]

theorem getD_of {α : Type} {l : List α} {i : Nat} {x d : α} (h : l[i]? = some x) : l.getD i d = x := by simp [List.getD, h]

theorem PMRel.stepped {st : MachS} {p : PM K} (h : PMRel st p) {n ci : Nat} {se : PSeat K.T} {ca : Cal} {t : K.T} (hse : p.seats[n]? = some se) (hca : p.calls[ci]? = some ca) (hl : se.last = ci) :
    PMRel (({ st with d := (p.res n se ca t).2.2.1, on := some (ci, n), seats := st.seats.modify n fun x => { x with ready := true }, moves := st.moves + 1 } : MachS).stepped ci n p.moves (p.res n se ca t).2.2.2) (p.step n se t) := by
  have hcg : p.calls.getD se.last.toNat default = ca := by rw [hl]; exact getD_of (by simpa using hca)
  obtain ⟨y, hy⟩ := h.seat hse
  have hcc := h.calls
  simp only [PM.step, hcg]
  generalize p.res n se ca t = r
  obtain ⟨rs, rt, rd, ro⟩ := r
  have hmv : st.moves + 1 = ((p.moves + 1 : Nat) : Int) := by rw [h.moves]; rfl
  have hlt : se.last.toNat = ci := by rw [hl]; simp
  have hs3 : ∀ (g : Seat → Seat) (y' : Bool × Int × Int × Int), (∀ x : Seat, x.last = se.last → (fun x : Seat => (x.ready, x.last, x.ak, x.av)) (g x) = y') → (st.seats.modify n g).map (fun x => (x.ready, x.last, x.ak, x.av)) = (p.seats.map (fun x => (x.ready, x.last, x.ak, x.av))).set n y' := by
    intro g y' hg
    refine ext_set h.seats (fun x hx => hg x ?_)
    rw [hy] at hx
    cases hx
    rfl
  cases ro with
  | false =>
    refine ⟨rfl, rfl, rfl, rfl, hmv, ?_, rfl, ?_⟩
    · show (st.calls.modify ci _) = p.calls.set _ _
      rw [hcc, hlt]
      have := ext_set (f := id) (l := p.calls) (m := p.calls) (i := ci) (g := fun c => { c with pt := rd.pt }) (y := { ca with pt := rd.pt }) (by simp) (fun x hx => by rw [hca] at hx; cases hx; rfl)
      rw [List.map_id] at this
      exact this
    · show ((st.seats.modify n _).modify n _).map _ = _
      rw [List.modify_modify_eq]
      rw [List.map_set]
      exact hs3 _ _ (fun x hx => by show (true, x.last, rd.ak, rd.av) = (true, se.last, rd.ak, rd.av); rw [hx])
  | true =>
    refine ⟨rfl, rfl, rfl, rfl, hmv, ?_, rfl, ?_⟩
    · show ((((st.calls.modify ci _).modify ci _).modify ci _).modify ci _) = p.calls.set _ _
      rw [hcc, hlt, List.modify_modify_eq, List.modify_modify_eq, List.modify_modify_eq]
      have := ext_set (f := id) (l := p.calls) (m := p.calls) (i := ci) (g := fun c => { c with pt := rd.pt, en := p.moves, ak := rd.ak, av := rd.av }) (y := { ca with pt := rd.pt, en := p.moves, ak := rd.ak, av := rd.av }) (by simp) (fun x hx => by rw [hca] at hx; cases hx; rfl)
      rw [List.map_id] at this
      exact this
    · show (((st.seats.modify n _).modify n _).modify n _).map _ = _
      rw [List.modify_modify_eq, List.modify_modify_eq]
      rw [List.map_set]
      exact hs3 _ _ (fun x hx => by show (true, x.last, rd.ak, rd.av) = (true, se.last, rd.ak, rd.av); rw [hx])
end
end Go
namespace Go.Proofs.Ytbhbpfpggfcpgaa
open Go.ChangeShapes Go.WideShapes Go.ChangeAt Go.RowKit

def PMAt (K : Kits) (w : World) (base xb : Nat) (p : PM K) (kit : Value) (F : Nat → Prop) : Prop :=
  ∃ st v vs Fk, MK K w base xb st v vs p.s (p.seats.map (·.task)) Fk ∧ PMRel st p ∧ v.kit = kit ∧ F = fun k => v.own xb k ∨ Fk k

section
variable {K : Kits} {w w' : World} {base xb : Nat} {p : PM K} {kit : Value} {F : Nat → Prop}
theorem PMAt.lt (hK : KitsOk K) (h : PMAt K w base xb p kit F) : ∀ k, F k → base ≤ k ∧ k < w.heap.size := by
  obtain ⟨st, v, vs, Fk, h1, h2, h3, rfl⟩ := h
  rintro k (hk | hk)
  · exact h1.m.lt k hk
  · exact hK.lt h1.k k hk
theorem PMAt.of_block (hK : KitsOk K) (h : PMAt K w base xb p kit F) (hb : ∀ k, F k → w'.heap[k]? = w.heap[k]?) : PMAt K w' base xb p kit F := by
  obtain ⟨st, v, vs, Fk, h1, h2, h3, rfl⟩ := h
  exact ⟨st, v, vs, Fk, ⟨h1.m.of_block fun k hk => hb k (.inl hk), hK.loc h1.k fun k hk => hb k (.inr hk), h1.sep, h1.tasks, h1.len⟩, h2, h3, rfl⟩
theorem PMAt.only (hK : KitsOk K) {G : Nat → Prop} (h : PMAt K w base xb p kit F) (ho : Only G w w') (hG : ∀ k, F k → ¬ G k) : PMAt K w' base xb p kit F :=
  h.of_block hK fun k hk => ho.block k (h.lt hK k hk).2 (hG k hk)
theorem PMAt.below (hK : KitsOk K) (h : PMAt K w base xb p kit F) (hb : Below w.heap.size w w') : PMAt K w' base xb p kit F := h.of_block hK fun k hk => hb.block k (h.lt hK k hk).2

/-- the seat's task in the heap -/
theorem StepDone.pm {w0 : World} {v0 : MachV} {F0 : Nat → Prop} {st : MachS} {vs : List Value} {s : K.S} {ts : List (Option K.T)} (h : StepDone K w0 base xb v0 F0 st vs s ts w) {q : PM K} (hs : q.s = s) (ht : q.seats.map (·.task) = ts) (hr : PMRel st q) :
    ∃ F', PMAt K w base xb q v0.kit F' ∧ Only (fun k => v0.own xb k ∨ F0 k) w0 w ∧ ∀ k, F' k → (v0.own xb k ∨ F0 k) ∨ w0.heap.size ≤ k := by
  obtain ⟨v, F, h1, h2, h3, h4, e1, e2⟩ := h
  subst hs
  subst ht
  refine ⟨_, ⟨st, v, vs, F, h1, hr, e2, rfl⟩, h2, ?_⟩
  rintro k (hk | hk)
  · rcases h3 k hk with h | h
    · exact .inl (.inl h)
    · exact .inr h
  · rcases h4 k hk with h | h
    · exact .inl (.inr h)
    · exact .inr h

/-- what a move answers and leaves -/
def MoveOut (K : Kits) (w : World) (base xb : Nat) (p : PM K) (kit : Value) (F : Nat → Prop) (mv : Mv) (e : Ending) (w' : World) : Prop :=
  e = .returned (.bool (p.move mv).2) ∧ ∃ F', PMAt K w' base xb (p.move mv).1 kit F' ∧ Only F w w' ∧ ∀ k, F' k → F k ∨ w.heap.size ≤ k

theorem PMRel.skip {st : MachS} {p : PM K} (h : PMRel st p) : PMRel { st with moves := st.moves + 1 } p.skip :=
  ⟨h.words, h.log, h.ahead, h.shifts, by show st.moves + 1 = _; rw [h.moves]; rfl, h.calls, h.on, h.seats⟩

theorem pm_move (hK : KitsOk K) (hG : p.Good) (h : PMAt K w base xb p kit F) (mv : Mv) : Calls Try.prog 17 #[.pointer (some ⟨xb, 0, none⟩), mv.v] w (MoveOut K w base xb p kit F mv) := by
  obtain ⟨st, v, vs, Fk, H, R, rfl, rfl⟩ := h
  have hlen := R.len
  have hfew := hG.few
  have hpos := hG.pos
  have hmv := R.moves
  have hcalls := congrArg List.length R.calls
  have h1 := hG.log
  have h2 := hG.ahead
  have h3 := hG.shifts
  have h4 := hG.calls
  have htop := hG.top
  have e1 := congrArg List.length R.log
  have e2 := congrArg List.length R.ahead
  have e3 := congrArg List.length R.shifts
  unfold MoveOut
  by_cases hf : 65536 ≤ p.moves
  · have hm : p.move mv = (p, false) := by unfold PM.move; rw [if_pos hf]
    rw [hm]
    exact (move_full hK H mv (by omega) (by omega)).mono fun e w' ⟨he, hd⟩ => ⟨he, hd.pm rfl rfl R⟩
  · by_cases ht0 : mv.th < 0
    · have hm : p.move mv = (p.skip, false) := by unfold PM.move; rw [if_neg hf, if_pos ht0]
      rw [hm]
      exact (move_none hK H mv (by omega) (by omega) (by omega) (by omega) (.inl ht0)).mono fun e w' ⟨he, hd⟩ => ⟨he, hd.pm rfl rfl (PMRel.skip R)⟩
    · obtain ⟨n, hn⟩ : ∃ n : Nat, mv.th = n := ⟨mv.th.toNat, by omega⟩
      have hnn : mv.th.toNat = n := by omega
      cases hse : p.seats[n]? with
      | none =>
        have hge := List.getElem?_eq_none_iff.1 hse
        have hm : p.move mv = (p.skip, false) := by unfold PM.move; rw [if_neg hf, if_neg ht0, hnn, hse]
        rw [hm]
        exact (move_none hK H mv (by omega) (by omega) (by omega) (by omega) (.inr (by omega))).mono fun e w' ⟨he, hd⟩ => ⟨he, hd.pm rfl rfl (PMRel.skip R)⟩
      | some se =>
        have hlt := (List.getElem?_eq_some_iff.1 hse).1
        cases hta : se.task with
        | some t =>
          have hi : (p.seats.map (·.task))[n]? = some (some t) := by rw [List.getElem?_map, hse, Option.map_some, hta]
          by_cases hop : mv.op = 0
          · have hm : p.move mv = (p.step n se t, true) := by unfold PM.move; simp only [if_neg hf, if_neg ht0, hnn, hse, hta, if_pos hop]
            rw [hm]
            have hl := (hG.last n se hse).2
            have hl0 := hG.busy n se t hse hta
            obtain ⟨ci, hci⟩ : ∃ ci : Nat, se.last = ci := ⟨se.last.toNat, by omega⟩
            have hcl : ci < p.calls.length := by omega
            obtain ⟨ca, hca⟩ : ∃ ca, p.calls[ci]? = some ca := ⟨_, List.getElem?_eq_getElem hcl⟩
            obtain ⟨y, hy⟩ := R.seat hse
            have hca' : st.calls[ci]? = some ca := by rw [R.calls]; exact hca
            refine (move_step hK H mv n ci (by omega) (by omega) (by omega) (by omega) hn hop t hi R.on _ hy ca hca' hci (by omega) (by omega) (by omega)).mono fun e w' ⟨he, hd⟩ => ⟨he, ?_⟩
            unfold StepRes at hd
            rw [hmv, R.desk] at hd
            have hcg : p.calls.getD se.last.toNat default = ca := by rw [hci]; exact getD_of (by simpa using hca)
            have hst := R.stepped (t := t) hse hca hci
            rw [hmv] at hst
            refine StepDone.pm hd ?_ ?_ hst
            · simp only [PM.step, hcg]; rfl
            · simp only [PM.step, hcg, List.map_set]
              show List.set _ n (if (p.res n se ca t).2.2.2 = true then none else some (p.res n se ca t).2.1) = _
              show _ = (if (p.res n se ca t).2.2.2 = true then List.set _ n none else List.set _ n (some (p.res n se ca t).2.1))
              split <;> rfl
          · have hm : p.move mv = (p.skip, false) := by unfold PM.move; simp only [if_neg hf, if_neg ht0, hnn, hse, hta, if_neg hop]
            rw [hm]
            exact (move_busy hK H mv n (by omega) (by omega) (by omega) (by omega) hn hop t hi R.on).mono fun e w' ⟨he, hd⟩ => ⟨he, hd.pm rfl rfl (PMRel.skip R)⟩
        | none =>
          have hi : (p.seats.map (·.task))[n]? = some none := by rw [List.getElem?_map, hse, Option.map_some, hta]
          by_cases hop : mv.op = 0
          · have hm : p.move mv = (p.skip, false) := by unfold PM.move; simp only [if_neg hf, if_neg ht0, hnn, hse, hta, if_pos hop]
            rw [hm]
            exact (move_idle hK H mv n (by omega) (by omega) (by omega) (by omega) hn hop hi R.on).mono fun e w' ⟨he, hd⟩ => ⟨he, hd.pm rfl rfl (PMRel.skip R)⟩
          · refine (move_begin hK H mv n (by omega) (by omega) (by omega) (by omega) hn hop hi R.on (by omega)).mono fun e w' hb => ?_
            rcases hb with ⟨hno, he, hd⟩ | ⟨t, y, hmk, he, hd⟩
            · have hm : p.move mv = (p.skip, false) := by unfold PM.move; simp only [if_neg hf, if_neg ht0, hnn, hse, hta, if_neg hop, hno]
              rw [hm]
              exact ⟨he, hd.pm rfl rfl (PMRel.skip R)⟩
            · have hm : p.move mv = (p.begin n mv t, true) := by unfold PM.move; simp only [if_neg hf, if_neg ht0, hnn, hse, hta, if_neg hop, hmk]
              rw [hm]
              refine ⟨he, hd.pm rfl ?_ ?_⟩
              · simp only [PM.begin, List.map_set]
              · refine ⟨R.words, R.log, R.ahead, R.shifts, by show st.moves + 1 = _; rw [hmv]; rfl, ?_, R.on, ?_⟩
                · show st.calls ++ [_] = p.calls ++ [_]
                  rw [R.calls, hmv]
                · show (st.seats.set n _).map _ = (p.seats.set n _).map _
                  rw [List.map_set, List.map_set, R.seats]
                  show List.set _ n (false, (st.calls.length : Int), 1, 0) = List.set _ n (false, (p.calls.length : Int), 1, 0)
                  rw [R.calls]
end
end Go.Proofs.Ytbhbpfpggfcpgaa
namespace Go.Proofs.Ytbhbpfpggfcpgaa
open Go.ChangeShapes Go.WideShapes Go.ChangeAt Go.RowKit Go.Shelf

attribute [local go_sem] Oper.semAt_some

set_option maxRecDepth 100000 in
theorem clone_acc {w : World} {vx : Value} {l : List Acc} (hs : w.Src 7 vx l.length (accs l)) (hn : l.length ≤ 3000000000000) : Calls Try.prog 70 #[vx] w (Cloned w 66 7 l.length (accs l)) := by
  obtain ⟨i0, hi, hz0, hz1, hz2⟩ := info_parts infoAcc
  have HI := Lib.hid hi
  have HZ0 := Lib.hid hz0
  have HZ1 := Lib.hid hz1
  have HZ2 := Lib.hid hz2
  clear hi hz0 hz1 hz2
  have HS := Lib.hid hs
  rcases hs.2 with ⟨rfl, h0⟩ | ⟨ad, c, rfl, hc, _⟩
  · obtain rfl : l = [] := List.eq_nil_of_length_eq_zero h0
    have hq := fun w => Lib.run_eql_slice_nil (P := Try.prog) w 38 66 none 0 0 0 0 Try.underlying38
    clear hs HS
    go_enter Try.func70, Try.ntmps70
    go_wp2
    go_ret
    exact ⟨none, 0, rfl, Nat.le_refl _, by omega, World.RowV_none _ _ _ _ _, Only.refl _ _⟩
  · have hq := fun w => Lib.run_eql_slice_nil (P := Try.prog) w 38 66 (some ad) l.length c 0 0 Try.underlying38
    have S1 := Lib.hid (accs_one l)
    have S2 := Lib.hid (show 0 + l.length ≤ maxLen by unfold maxLen; omega)
    have S3 := Lib.hid (show ((0 + l.length) + (0 + l.length) / 4 + 192) * 56 ≤ 281474976710656 by omega)
    clear hs
    go_enter Try.func70, Try.ntmps70
    go_wp2_with (at_builtin; refine wpList_append_row _ rfl _ _ 38 rfl w.heap.size 66 i0 _ 7 56 Try.underlying38 HI.out HZ0.out HZ1.out HZ2.out rfl (.slice (some ⟨w.heap.size, 0, none⟩) 0 0) 0 [] rfl (World.RowV_none _ _ _ _ _) _ l.length (accs l) rfl (HS.out.alloc _) S1.out S2.out S3.out (by simp) ?_; intro v' w1 hown hout; obtain ⟨o', c', rfl, hn', hm'⟩ := hown.form; have H1 := Lib.hid hown; have H2 := Lib.hid hout; clear hown hout; unfold maxLen at hm')
    go_ret
    exact ⟨o', c', rfl, by omega, by omega, by simpa using H1.out, Only.trans ((Only.refl _ _).alloc _) (Only.out (F := fun _ => False) H2.out (by simp [Value.rowBlock])) (fun _ h => h.elim)⟩


theorem log_any (p : Option Addr) (from_ : Int) (w : World) : Calls Try.prog 57 #[.pointer p, .int .i64 from_] w fun e w' =>
    e = .returned (.func (.func 69) #[] #[.pointer (some ⟨w.heap.size, 0, none⟩), .pointer (some ⟨w.heap.size + 1, 0, none⟩)]) ∧ w' = (w.alloc (.cells #[.pointer p] 93)).alloc (.cells #[.int .i64 from_] 3) := by
  go_enter Try.func57, Try.ntmps57
  go_wp2
  go_ret
  exact ⟨rfl, rfl⟩

/-- what a round of a loop over the log keeps: it may write what Foot tells, and what is new -/
structure LogKp (Foot : World → Nat → Prop) (A B : World) : Prop where
  size : A.heap.size ≤ B.heap.size
  block : ∀ k o, A.heap[k]? = some o → o.isCells = true → ¬ Foot A k → B.heap[k]? = some o
  foot : ∀ k, Foot B k → Foot A k ∨ A.heap.size ≤ k
theorem LogKp.trans {Foot : World → Nat → Prop} {A B C : World} (h : LogKp Foot A B) (k : LogKp Foot B C) : LogKp Foot A C :=
  ⟨Nat.le_trans h.size k.size, fun i o ho hc hn => k.block i o (h.block i o ho hc hn) hc (fun hf => by
      rcases h.foot i hf with h1 | h1
      · exact hn h1
      · have := (Array.getElem?_eq_some_iff.1 ho).1; omega),
    fun i hi => by
      rcases k.foot i hi with h1 | h1
      · exact h.foot i h1
      · exact .inr (Nat.le_trans h.size h1)⟩

instance : Inhabited Acc := ⟨⟨0, 0, 0, 0, 0, 0, 0⟩⟩
/-- the entries from s up to k -/
def items (log : List Acc) (s k : Nat) : List (Nat × Acc) := (List.range' s (k - s)).map fun i => (i, log.getD i default)
theorem items_len (log : List Acc) (s k : Nat) : (items log s k).length = k - s := by simp [items]
theorem items_snoc (log : List Acc) (s k : Nat) (h : s ≤ k) : items log s (k + 1) = items log s k ++ [(k, log.getD k default)] := by
  unfold items
  rw [show k + 1 - s = (k - s) + 1 by omega, List.range'_concat, List.map_append]
  simp only [List.map_cons, List.map_nil]
  rw [show s + 1 * (k - s) = k by omega]
theorem items_none (log : List Acc) (s k : Nat) (h : k ≤ s) : items log s k = [] := by
  unfold items
  rw [show k - s = 0 by omega]
  rfl
theorem items_prefix (log : List Acc) (s k n : Nat) (h : k ≤ n) : items log s k <+: items log s n := by
  by_cases hs : s ≤ k
  · unfold items
    rw [show n - s = (k - s) + (n - k) by omega, ← List.range'_append_1, List.map_append]
    exact List.prefix_append _ _
  · rw [items_none log s k (by omega)]
    exact List.nil_prefix
def encItem (x : Nat × Acc) : Array Value := #[.int .i64 (x.1 : Int), .agg #[.int .i64 x.2.mv, .int .i64 x.2.th, .int .i64 x.2.kd, .int .i64 x.2.ad, .int .u64 x.2.old, .int .u64 x.2.nw, .int .u64 x.2.saw]]

theorem accs_get (l : List Acc) : ∀ (i j : Nat), i < l.length → j < 7 → (accs l)[i * 7 + j]? = (l.getD i default).cells[j]? := by
  induction l with
  | nil => intro i j h; simp at h
  | cons a l ih =>
    intro i j hi hj
    have e : accs (a :: l) = a.cells ++ accs l := by simp [accs]
    rw [e]
    cases i with
    | zero =>
      rw [List.getElem?_append_left (by simp [Acc.cells]; omega)]
      simp
    | succ i =>
      rw [List.getElem?_append_right (by simp [Acc.cells]; omega)]
      have : (i + 1) * 7 + j - a.cells.length = i * 7 + j := by simp [Acc.cells]; omega
      rw [this, ih i j (by simpa using hi) hj]
      simp

set_option maxRecDepth 100000 in
set_option maxHeartbeats 1000000 in
/-- what the iterator of a memory's log does -/
theorem log1_in {w : World} {base mb : Nat} {st : MemS} {v : MemV} (h : MemAt w base mb st v) (hl : st.log.length ≤ 3000000000000) (Bm Bf : Nat) (s : Nat) (fr : Int) (hs : (fr = (s : Int)) ∨ (fr < 0 ∧ s = 0)) (n : Nat) (hn : 1 ≤ n)
    (Foot : World → Nat → Prop) (hF : ∀ W, Below w.heap.size w W → ∀ k, Foot W k → k < w.heap.size)
    (hBm : w.cell? ⟨Bm, 0, none⟩ = some (.pointer (some ⟨mb, 0, none⟩))) (hBf : w.cell? ⟨Bf, 0, none⟩ = some (.int .i64 fr))
    (l : Nat) (J Jx : List (Nat × Acc) → World → Prop) (W : World) (hW : Below w.heap.size w W) (hJ : AbidesFrom W.heap.size J)
    (hY : ∀ pre x W1, J pre W1 → pre.length < st.log.length → YieldAt Fence.wide (n - 1) Try.prog l (encItem x) W1 fun e W' =>
      (e = .returned (.bool true) ∧ J (pre ++ [x]) W' ∧ LogKp Foot W1 W') ∨ (e = .returned (.bool false) ∧ Jx (pre ++ [x]) W')) (h0 : J [] W) :
    CallsIn Fence.wide n Try.prog 69 #[.func (.yield l) #[] #[], .pointer (some ⟨Bm, 0, none⟩), .pointer (some ⟨Bf, 0, none⟩)] W fun e W' => (∃ v, e = .returned v) ∧
      ((∃ xs, xs = items st.log s st.log.length ∧ J xs W') ∨ (∃ pre, pre <+: items st.log s st.log.length ∧ Jx pre W')) := by
  have lBm := World.block_lt_of_cell? w _ hBm
  have lBf := World.block_lt_of_cell? w _ hBf
  have hBm' : W.cell? ⟨Bm, 0, none⟩ = some (.pointer (some ⟨mb, 0, none⟩)) := (hW.cell (p := ⟨Bm, 0, none⟩) lBm).trans hBm
  have hBf' : W.cell? ⟨Bf, 0, none⟩ = some (.int .i64 fr) := (hW.cell (p := ⟨Bf, 0, none⟩) lBf).trans hBf
  have hM : MemAt W base mb st v := h.of_block fun k hk => hW.block k (h.lt k hk).2
  obtain ⟨c0, c1, c2, c3, z, lt⟩ := hM.head
  have HC := Lib.hid (clone_acc hM.rl.src hl)
  obtain ⟨ow, cw, ol, cl, oa, ca, rfl, l1, l2, l3, m1, m2, m3⟩ := hM.slices
  clear h hM hBm hBf
  have hx : ∀ w1 : World, Only (fun _ => False) W w1 → w1.cell? ⟨Bf, 0, none⟩ = some (.int .i64 fr) := fun w1 ho => (ho.cellAt (p := ⟨Bf, 0, none⟩) (Nat.lt_of_lt_of_le lBf hW.size) (fun x => x)).trans hBf'
  have HX := Lib.hid hx
  have HW := Lib.hid hW
  have HJ := Lib.hid hJ
  have HY := Lib.hid hY
  have HF := Lib.hid hF
  have H0 := Lib.hid h0
  clear hx hW hJ hY hF h0 hBf'
  have hs' : (fr = (s : Int) ∧ 0 < s) ∨ (fr = 0 ∧ s = 0) ∨ (fr < 0 ∧ s = 0) := by omega
  clear hs
  have hs'' : (fr = (s : Int) ∧ 0 < s ∧ Hid (s = s)) ∨ (fr = 0 ∧ 0 ≤ s ∧ Hid (s = 0)) ∨ (fr < 0 ∧ 0 ≤ s ∧ Hid (s = 0)) := by
    rcases hs' with ⟨h1, h2⟩ | ⟨h1, h2⟩ | ⟨h1, h2⟩
    · exact .inl ⟨h1, h2, Lib.hid rfl⟩
    · exact .inr (.inl ⟨h1, Nat.zero_le _, Lib.hid h2⟩)
    · exact .inr (.inr ⟨h1, Nat.zero_le _, Lib.hid h2⟩)
  clear hs'
  rcases hs'' with ⟨rfl, hs0, hs1⟩ | ⟨rfl, hs0, hs1⟩ | ⟨hfr, hs0, hs1⟩
  all_goals
    refine callsIn_of_wp Try.func69 rfl trivial ?_ rfl
    simp only [Try.ntmps69, List.size_toArray, List.length_cons, List.length_nil, Nat.reduceAdd, Nat.reduceSub, Array.replicate_succ, Array.replicate_zero, List.push_toArray, List.append_toArray, List.nil_append, List.cons_append]
    gi_wp2_with (refine ⟨trivial, ?_⟩; gi_at_call 70; refine (callsIn_wide.2 HC.out).mono ?_; rintro e w1 ⟨o', c', rfl, hn', hm', hr, ho⟩; have hBf1 := HX.out w1 ho; have HR := Lib.hid hr; have HO := Lib.hid ho; clear hr ho)
    have hg : W.grownBy w1 none := ⟨HO.out.os, HO.out.tape, HO.out.output, HO.out.size, fun k hk _ => HO.out.block k hk (fun x => x)⟩
    have HJ1 := Lib.hid (HJ.out [] W w1 none H0.out hg (fun r e => by cases e))
    have HC1 : Hid (∀ C, (Value.slice o' st.log.length c').rowBlock = some C → ¬ Foot w1 C) := fun C hC hf => by
      have h1 := HF.out w1 (HW.out.trans ((Only.below HO.out (fun _ h => h.elim) (Nat.le_refl _)).mono HW.out.size)) C hf
      have h2 := (HR.out.lt C hC).1
      have := HW.out.size
      omega
    clear hg hBf1 hBm' c0 c1 c2 c3 z lt HX H0
    gi_loopw [5] (fun p wr => ∃ k : Nat, p = .int .i64 (k : Int) ∧ s ≤ k ∧ Hid (k ≤ st.log.length ∨ k = s) ∧ Hid (J (items st.log s k) wr) ∧ Hid (wr.RowV W.heap.size 66 7 (.slice o' st.log.length c') st.log.length (accs st.log)) ∧ Hid (∀ C, (Value.slice o' st.log.length c').rowBlock = some C → ¬ Foot wr C))
      (fun p _ => st.log.length - (intOf p).toNat)
    case atStart =>
      refine ⟨s, ?_, Nat.le_refl _, Lib.hid (.inr rfl), by rw [items_none _ _ _ (Nat.le_refl _)]; exact HJ1, HR, HC1⟩
      first
      | rfl
      | (rw [hs1.out]; rfl)
    case round =>
      obtain ⟨k, rfl, hk, hks, hJk, hRk, hCk⟩ := hrel
      by_cases hlt : k < st.log.length
      · obtain ⟨C, cap, e, h1, h2, h3, h4, h5, h6⟩ := hRk.out.some_form (by omega)
        cases e
        have hc0 := h6 (k * 7 + 0) _ (accs_get st.log k 0 hlt (by omega))
        have hc1 := h6 (k * 7 + 1) _ (accs_get st.log k 1 hlt (by omega))
        have hc2 := h6 (k * 7 + 2) _ (accs_get st.log k 2 hlt (by omega))
        have hc3 := h6 (k * 7 + 3) _ (accs_get st.log k 3 hlt (by omega))
        have hc4 := h6 (k * 7 + 4) _ (accs_get st.log k 4 hlt (by omega))
        have hc5 := h6 (k * 7 + 5) _ (accs_get st.log k 5 hlt (by omega))
        have hc6 := h6 (k * 7 + 6) _ (accs_get st.log k 6 hlt (by omega))
        have hsn := Lib.hid (items_snoc st.log s k hk)
        obtain ⟨fn, tmps, assign, body, hy, hR⟩ := HY.out (items st.log s k) (k, st.log.getD k default) wr hJk.out (by rw [items_len]; omega)
        simp only [encItem] at hy
        generalize st.log.getD k default = x at *
        simp only [Nat.add_zero] at hc0
        clear h5 h6
        gi_wp2
        refine hR.mono ?_
        rintro e W3 (⟨rfl, hJ3, hk3⟩ | ⟨rfl, hJx3⟩)
        · gi_wp2
          go_roundw
          case rel =>
            refine ⟨k + 1, by go_num, by omega, Lib.hid (.inl (by omega)), by rw [hsn.out]; exact hJ3, ?_, ?_⟩
            · refine hRk.out.of_block fun i hi => ?_
              have hi' : i = C := by rw [h4] at hi; cases hi; rfl
              subst hi'
              rcases hRk.out.2 with ⟨o, _, h0'⟩ | ⟨g', cap', cur, e', _, hgg, _⟩
              · omega
              · cases e'
                rw [hgg]
                exact hk3.block _ _ hgg rfl (hCk.out _ h4)
            · intro i hi hf
              have hi' : i = C := by rw [h4] at hi; cases hi; rfl
              subst hi'
              rcases hk3.foot _ hf with h5 | h5
              · exact hCk.out _ h4 h5
              · omega
          case measure => simp [intOf]; omega
        · gi_wp2
          refine bodyPost_ret (results_none rfl _ _ _) rfl ?_
          exact ⟨⟨_, rfl⟩, .inr ⟨_, by rw [← hsn.out]; exact items_prefix _ _ _ _ (by omega), hJx3⟩⟩
      · gi_wp2
        go_end0
        refine ⟨⟨_, rfl⟩, .inl ⟨items st.log s k, ?_, hJk.out⟩⟩
        rcases hks.out with h1 | h1
        · rw [show k = st.log.length by omega]
        · rw [items_none _ _ _ (by omega), items_none _ _ _ (by omega)]

/-- what memory.Log hands back gives the log, from an entry on -/
theorem log_stops {w : World} {base mb : Nat} {st : MemS} {v : MemV} (h : MemAt w base mb st v) (hl : st.log.length ≤ 3000000000000) (Bm Bf : Nat) (s : Nat) (fr : Int) (hs : (fr = (s : Int)) ∨ (fr < 0 ∧ s = 0)) (n : Nat) (hn : 1 ≤ n)
    (Foot : World → Nat → Prop) (hF : ∀ W, Below w.heap.size w W → ∀ k, Foot W k → k < w.heap.size)
    (hBm : w.cell? ⟨Bm, 0, none⟩ = some (.pointer (some ⟨mb, 0, none⟩))) (hBf : w.cell? ⟨Bf, 0, none⟩ = some (.int .i64 fr)) :
    SeqStopsK Fence.wide n Try.prog 69 #[.pointer (some ⟨Bm, 0, none⟩), .pointer (some ⟨Bf, 0, none⟩)] encItem (LogKp Foot) (fun xs => xs = items st.log s st.log.length) (fun pre => pre <+: items st.log s st.log.length) st.log.length w :=
  fun l J Jx W hW hJ _ hY h0 => log1_in h hl Bm Bf s fr hs n hn Foot hF hBm hBf l J Jx W hW hJ hY h0
end Go.Proofs.Ytbhbpfpggfcpgaa
