/-
The desk: Thread, Now, Point, Answer, Shift.
-/
import Derived.Test.YtjcggokhminmoaaQMchD
import Derived.Test.YtjcggokhminmoaaQMchM
namespace Go.Proofs.Ytjcggokhminmoaa
open Go.ChangeShapes Go.WideShapes Go.ChangeAt Go.RowKit

theorem dthread_any {w : World} {base xb db : Nat} {st : MachS} {v : MachV} (H : MachAt w base xb st v) (D : DeskBox w xb db) :
    Calls Try.prog 112 #[.pointer (some ⟨db, 0, none⟩)] w fun e w' => e = .returned (.int .i64 st.d.th) ∧ w = w' := by
  obtain ⟨c0, c1, c2, c3, c4, c5, c6, c7, c8, c9, c10, z, lt⟩ := H.head
  obtain ⟨d0, dz, dlt⟩ := D.facts
  clear c0 c2 c3 c4 c5 c6 c7 c8 c9 c10
  go_enter Try.func112, Try.ntmps112
  go_wp2
  go_ret
  exact ⟨rfl, rfl⟩
set_option maxRecDepth 100000 in
set_option maxHeartbeats 1000000 in
theorem danswer_any {w : World} {base xb db : Nat} {st : MachS} {v : MachV} (H : MachAt w base xb st v) (D : DeskBox w xb db) {ci si : Nat} (O : st.On ci si) (k a : Int) :
    Calls Try.prog 99 #[.pointer (some ⟨db, 0, none⟩), .agg #[.int .i64 k, .int .i64 a]] w fun e w' => e = .returned (.tuple #[]) ∧ DeskOut w base xb v { st with d := { st.d with ak := k, av := a } } w' := by
  obtain ⟨c0, c1, c2, c3, c4, c5, c6, c7, c8, c9, c10, z, lt⟩ := H.head
  obtain ⟨d0, dz, dlt⟩ := D.facts
  obtain ⟨g, cap, e, hcap, hrb, hglt, hgx, gz, gc⟩ := H.seats_form O.s
  have g3 := gc 3 (by decide)
  have g4 := gc 4 (by decide)
  rw [O.seat] at g3 g4
  replace g3 : w.cell? ⟨g, si * 5 + 3, none⟩ = some (.int .i64 st.d.ak) := g3
  replace g4 : w.cell? ⟨g, si * 5 + 4, none⟩ = some (.int .i64 st.d.av) := g4
  have e4 : st.toldC v = .pointer (some ⟨g, si * 5 + 3, none⟩) := by unfold MachS.toldC; rw [O.on]; exact ptrIn_eq hrb
  rw [e4] at c4
  have HP := Lib.hid (((H.told hrb O k a).alloc (.cells #[.int .i64 k, .int .i64 a] 48)).drew)
  have HO := Lib.hid (show Only (v.own xb) w (((w.setCell ⟨g, si * 5 + 3, none⟩ (.int .i64 k)).setCell ⟨g, si * 5 + 4, none⟩ (.int .i64 a)).alloc (.cells #[.int .i64 k, .int .i64 a] 48)).drew from
    ((((Only.refl _ _).set (.inl (.inr (.inr (.inr (.inl hrb))))) _).set (.inl (.inr (.inr (.inr (.inl hrb))))) _).alloc _).drew)
  clear c0 c1 c2 c3 c5 c6 c7 c8 c9 c10 gc hcap hrb e e4 H D O
  go_enter Try.func99, Try.ntmps99
  go_wp2
  go_region
  go_wp2
  go_end0
  exact ⟨rfl, v, HP.out, HO.out, fun _ hk => .inl hk, rfl, rfl, rfl, rfl⟩

theorem infoShift : (Try.prog.info? 68).map (fun i => (i.zero, i.size, i.bytes)) = some (some (.agg #[.int .i64 0, .int .i64 0, .int .i64 0, .int .i64 0, .int .i64 0]), 5, 40) := by kernel_rfl

set_option maxRecDepth 100000 in
set_option maxHeartbeats 2000000 in
theorem dshift_any {w : World} {base xb db : Nat} {st : MachS} {v : MachV} (H : MachAt w base xb st v) (D : DeskBox w xb db) (hf : st.d.shifts.length ≤ 3000000000000) (hd : ¬ v.own xb db) (sl fr tgt : Int) :
    Calls Try.prog 113 #[.pointer (some ⟨db, 0, none⟩), .int .i64 sl, .int .i64 fr, .int .i64 tgt] w fun e w' => e = .returned (.tuple #[]) ∧ DeskOut w base xb v { st with d := st.d.shift sl fr tgt } w' := by
  obtain ⟨c0, c1, c2, c3, c4, c5, c6, c7, c8, c9, c10, z, lt⟩ := H.head
  obtain ⟨d0, dz, dlt⟩ := D.facts
  have hne := D.ne H
  obtain ⟨i0, hi, hz0, hz1, hz2⟩ := info_parts infoShift
  have HI := Lib.hid hi
  have HZ0 := Lib.hid hz0
  have HZ1 := Lib.hid hz1
  have HZ2 := Lib.hid hz2
  have hl := hf
  have S1 := Lib.hid (show ∀ u ∈ [Value.int .i64 st.d.now, .int .i64 st.d.th, .int .i64 sl, .int .i64 fr, .int .i64 tgt], u.oneCell' = true by simp [Value.oneCell'])
  have S2 := Lib.hid (show st.d.shifts.length + 1 ≤ maxLen by unfold maxLen; omega)
  have S3 := Lib.hid (show ((st.d.shifts.length + 1) + (st.d.shifts.length + 1) / 4 + 192) * 40 ≤ 281474976710656 by omega)
  have HH := Lib.hid H
  have hnx : v.vsh.rowBlock ≠ some xb := fun e => H.ns xb e rfl
  have hnd : v.vsh.rowBlock ≠ some db := fun e => hd (.inr (.inr (.inl e)))
  obtain ⟨n, hn⟩ : ∃ n, n = st.d.shifts.length := ⟨_, rfl⟩
  have HB := Lib.hid H.base_le
  have f0 := fun g : LaterF (fun k => v.vsh.rowBlock = some k) w => g.cell d0 dlt hnd
  have f1 := fun g : LaterF (fun k => v.vsh.rowBlock = some k) w => g.cell c1 lt hnx
  have f2 := fun g : LaterF (fun k => v.vsh.rowBlock = some k) w => g.cell c2 lt hnx
  have f6 := fun g : LaterF (fun k => v.vsh.rowBlock = some k) w => g.cell c6 lt hnx
  have HZ := Lib.hid hnx
  clear hi hz0 hz1 hz2 c0 c1 c2 c3 c4 c5 c6 c7 c8 c9 c10 hf H D hd dlt lt hnd hnx z hn n
  go_enter Try.func113, Try.ntmps113
  go_wp2
  refine wp_region_steps_last (fun wz => ∃ g : LaterF (fun k => v.vsh.rowBlock = some k) w, wz = g.W) [29, 0] 33 (by kernel_rfl) (by kernel_rfl) (laterF_in (Only.drew (Only.refl _ _))) ?_
  simp only [cutSteps, List.take_succ_cons, List.take_zero, List.drop_succ_cons, List.drop_zero, wpSteps]
  repeat (first | go_big_quiet_skip | (go_big_quiet_want; go_big_quiet_op; go_big_quiet_on))
  refine wpQuiet_nil ?_
  go_wp2_with fail
  try unfold Strict
  refine ⟨?_, ?_⟩
  · exact laterF_in (((Only.refl _ _).drew).alloc _)
  repeat (first | go_big_quiet_skip | (go_big_quiet_want; go_big_quiet_op; go_big_quiet_on))
  refine wpQuiet_nil ?_
  go_wp2_with (at_builtin; refine wpList_append_row _ rfl _ _ 39 rfl base 68 i0 _ 5 40 Try.underlying39 HI.out HZ0.out HZ1.out HZ2.out rfl v.vsh st.d.shifts.length (shfs st.d.shifts) rfl (HH.out.rsh.drew.alloc _) _ 1 _ rfl (World.Src.one rfl rfl) S1.out S2.out S3.out (by have := HB.out; simp; omega) ?_; intro v' w1 hown hout; obtain ⟨o', c', rfl, hn', hm'⟩ := hown.form; have HW := Lib.hid hown; have HO := Lib.hid hout; clear hown hout hm')
  try unfold Strict
  refine ⟨?_, ?_⟩
  · exact laterF_in (((((Only.refl _ _).drew).alloc _).trans (Only.out HO.out (fun k hk => hk)) (fun _ h => .inl h)))
  repeat (first | go_big_quiet_skip | (go_big_quiet_want; go_big_quiet_op; go_big_quiet_on))
  refine wpQuiet_nil ?_
  obtain ⟨p0, p1, p2, p6, pz, plt⟩ := HO.out.mhead (HH.out.drew.alloc _)
  go_wp2
  go_end0
  exact ⟨rfl, DeskOut.pre ((((Only.refl _ _).drew).alloc _)) (MachAt.app_shift (x := ⟨st.d.now, st.d.th, sl, fr, tgt⟩) (HH.out.drew.alloc _) HW.out HO.out)⟩
end Go.Proofs.Ytjcggokhminmoaa
