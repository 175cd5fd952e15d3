/-
The desk: open, Load, Store, Swap.
-/
import Derived.Test.YtjcggokhminmoaaQMix
namespace Go.Proofs.Ytjcggokhminmoaa
open Go.ChangeShapes Go.WideShapes Go.ChangeAt Go.RowKit

/-- a desk of the machine at xb -/
def DeskBox (w : World) (xb db : Nat) : Prop := w.heap[db]? = some (.cells #[.pointer (some ⟨xb, 0, none⟩)] 166)
theorem DeskBox.facts {w : World} {xb db : Nat} (D : DeskBox w xb db) : w.cell? ⟨db, 0, none⟩ = some (.pointer (some ⟨xb, 0, none⟩)) ∧ w.frozen? ⟨db, 0, none⟩ = false ∧ db < w.heap.size :=
  ⟨by simp [World.cell?, show w.heap[db]? = _ from D], by simp [World.frozen?, show w.heap[db]? = _ from D], (Array.getElem?_eq_some_iff.1 D).1⟩
theorem DeskBox.ne {w : World} {xb db base : Nat} {st : MachS} {v : MachV} (D : DeskBox w xb db) (H : MachAt w base xb st v) : db ≠ xb := by
  rintro rfl
  have := H.blk.symm.trans D
  simp at this
theorem DeskBox.of_block {w w' : World} {xb db : Nat} (D : DeskBox w xb db) (h : w'.heap[db]? = w.heap[db]?) : DeskBox w' xb db := h.trans D
theorem DeskBox.only {w w' : World} {xb db : Nat} {F : Nat → Prop} (D : DeskBox w xb db) (h : Only F w w') (hn : ¬ F db) : DeskBox w' xb db := D.of_block (h.block db D.facts.2.2 hn)

theorem can_parts {d : DeskS} {a : Int} (h : d.can a = true) : d.used = false ∧ 0 ≤ a ∧ a < (d.mem.words.length : Int) := by
  unfold DeskS.can at h
  simp at h
  exact h
theorem can_not {d : DeskS} {a : Int} (h : d.can a = false) : d.used = true ∨ (d.used = false ∧ a < 0) ∨ (d.used = false ∧ 0 ≤ a ∧ (d.mem.words.length : Int) ≤ a) := by
  unfold DeskS.can at h
  cases hu : d.used <;> simp [hu] at h ⊢
  by_cases h0 : 0 ≤ a
  · exact .inr ⟨h0, h h0⟩
  · exact .inl (by omega)

set_option maxRecDepth 100000 in
theorem open_yes {w : World} {base xb db : Nat} {st : MachS} {v : MachV} (H : MachAt w base xb st v) (D : DeskBox w xb db) (a : Int) (hc : st.d.can a = true) :
    Calls Try.prog 108 #[.pointer (some ⟨db, 0, none⟩), .int .i64 a] w fun e w' => e = .returned (.bool true) ∧ w.setCell ⟨xb, 5, none⟩ (.bool true) = w' := by
  obtain ⟨c0, c1, c2, c3, c4, c5, c6, c7, c8, c9, c10, z, lt⟩ := H.head
  obtain ⟨hu, h0, h1⟩ := can_parts hc
  obtain ⟨d0, dz, dlt⟩ := D.facts
  rw [hu] at c5
  have HS := Lib.hid (size_mem H.mem)
  clear hu hc c1 c2 c3 c4 c6 c7 c8 c9 c10
  go_enter Try.func108, Try.ntmps108
  go_wp2_with (go_at_call 114; refine HS.out.mono ?_; rintro e w1 ⟨rfl, rfl⟩)
  go_ret
  exact ⟨rfl, rfl⟩

set_option maxRecDepth 100000 in
theorem open_no {w : World} {base xb db : Nat} {st : MachS} {v : MachV} (H : MachAt w base xb st v) (D : DeskBox w xb db) (a : Int) (hc : st.d.can a = false) :
    Calls Try.prog 108 #[.pointer (some ⟨db, 0, none⟩), .int .i64 a] w fun e w' => e = .returned (.bool false) ∧ w = w' := by
  obtain ⟨c0, c1, c2, c3, c4, c5, c6, c7, c8, c9, c10, z, lt⟩ := H.head
  obtain ⟨d0, dz, dlt⟩ := D.facts
  have HS := Lib.hid (size_mem H.mem)
  rcases can_not hc with hu | ⟨hu, h0⟩ | ⟨hu, h0, h1⟩
  all_goals
    rw [hu] at c5
    clear hu hc c1 c2 c3 c4 c6 c7 c8 c9 c10
    go_enter Try.func108, Try.ntmps108
    go_wp2_with (go_at_call 114; refine HS.out.mono ?_; rintro e w1 ⟨rfl, rfl⟩)
    go_ret
    exact ⟨rfl, rfl⟩

theorem used_at {w : World} {base xb : Nat} {st : MachS} {v : MachV} (H : MachAt w base xb st v) : MachAt (w.setCell ⟨xb, 5, none⟩ (.bool true)) base xb { st with d := { st.d with used := true } } v :=
  H.put0 rfl rfl rfl (by unfold MachS.seatsNow; cases st.on <;> rfl) (by unfold MachS.callsNow; cases st.on <;> rfl)

set_option maxRecDepth 100000 in
theorem dload_yes {w : World} {base xb db : Nat} {st : MachS} {v : MachV} (H : MachAt w base xb st v) (D : DeskBox w xb db) (hd : ¬ v.own xb db) (hf : st.d.Fits) (a : Int) (hc : st.d.can a = true) :
    Calls Try.prog 101 #[.pointer (some ⟨db, 0, none⟩), .int .i64 a] w fun e w' => e = .returned (.int .u64 (st.d.word a)) ∧ DeskOut w base xb v { st with d := st.d.load a } w' := by
  obtain ⟨hu, h0, h1⟩ := can_parts hc
  obtain ⟨n, rfl⟩ : ∃ n : Nat, a = n := ⟨a.toNat, by omega⟩
  obtain ⟨d0, dz, dlt⟩ := D.facts
  have hne := D.ne H
  have HO := Lib.hid (open_yes H D n hc)
  have H1 := used_at H
  obtain ⟨c0, c1, c2, c3, c4, c5, c6, c7, c8, c9, c10, z, lt⟩ := H1.head
  have HL := Lib.hid (load_ok H1.drew.mem hf.1 hf.2.1 st.d.th n (by simpa using h1))
  have HW := Lib.hid (show st.d.word n = st.d.mem.at n by unfold DeskS.word; rw [if_pos hc]; rfl)
  have HD := Lib.hid (show st.d.load n = { st.d with used := true, mem := st.d.mem.load st.d.th n } by unfold DeskS.load; rw [if_pos hc]; rfl)
  have HP := Lib.hid (show Only (v.own xb) w (w.setCell ⟨xb, 5, none⟩ (.bool true)) from (Only.refl _ _).set (.inl (.inl rfl)) _)
  have HH := Lib.hid H1
  have d1 : (w.setCell ⟨xb, 5, none⟩ (.bool true)).cell? ⟨db, 0, none⟩ = some (.pointer (some ⟨xb, 0, none⟩)) := by rw [World.cell?_setCell_other _ _ _ _ (by simp)]; exact d0
  have dlt1 : db < (w.setCell ⟨xb, 5, none⟩ (.bool true)).heap.size := by simpa using dlt
  have hnm := H1.nm
  have hnd : ¬ v.mv.own v.mb db := fun e => hd (.inr (.inl e))
  clear hu hc c2 c3 c4 c5 c6 c7 c8 c9 c10 H1 D d0 dz dlt z
  generalize w.setCell ⟨xb, 5, none⟩ (.bool true) = w9 at *
  have f0 := fun g : LaterF (v.mv.own v.mb) w9 => g.cell d1 dlt1 hnd
  have f1 := fun g : LaterF (v.mv.own v.mb) w9 => g.cell c0 lt hnm
  have f2 := fun g : LaterF (v.mv.own v.mb) w9 => g.cell c1 lt hnm
  clear d1 dlt1 c0 c1 lt hnm hnd
  go_enter Try.func101, Try.ntmps101
  go_wp2_with (go_at_call 108; refine HO.out.mono ?_; rintro e w1 ⟨rfl, rfl⟩)
  go_wp2
  refine wp_region_steps (fun wz => ∃ g : LaterF (v.mv.own v.mb) w9, wz = g.W) [15] (by kernel_rfl) (by kernel_rfl) (laterF_in (Only.drew (Only.refl _ _))) ?_
  simp only [cutSteps, List.take_succ_cons, List.take_zero, List.drop_succ_cons, List.drop_zero, wpSteps]
  repeat (first | go_big_quiet_skip | (go_big_quiet_want; go_big_quiet_op; go_big_quiet_on))
  refine wpQuiet_nil ?_
  go_wp2_with (go_at_call 109; refine HL.out.mono ?_; rintro e w1 ⟨rfl, hm⟩; have HM := Lib.hid (MemOut.pre (w0 := w9) (Only.drew (Only.refl _ _)) hm); clear hm)
  try unfold Strict
  refine ⟨?_, ?_⟩
  · obtain ⟨mv', _, ho, _⟩ := HM.out; exact laterF_in ho
  repeat (first | go_big_quiet_skip | (go_big_quiet_want; go_big_quiet_op; go_big_quiet_on))
  refine wpQuiet_nil ?_
  go_wp2
  go_ret
  exact ⟨ret_int HW.out.symm, by rw [HD.out]; exact DeskOut.ahead HP.out (HH.out.mem_out HM.out)⟩

set_option maxRecDepth 100000 in
theorem dload_any {w : World} {base xb db : Nat} {st : MachS} {v : MachV} (H : MachAt w base xb st v) (D : DeskBox w xb db) (hd : ¬ v.own xb db) (hf : st.d.Fits) (a : Int) :
    Calls Try.prog 101 #[.pointer (some ⟨db, 0, none⟩), .int .i64 a] w fun e w' => e = .returned (.int .u64 (st.d.word a)) ∧ DeskOut w base xb v { st with d := st.d.load a } w' := by
  cases hc : st.d.can a with
  | true => exact dload_yes H D hd hf a hc
  | false =>
    have HO := Lib.hid (open_no H D a hc)
    have HW := Lib.hid (show st.d.word a = 0 by unfold DeskS.word; rw [hc]; rfl)
    have HD := Lib.hid (show st.d.load a = st.d by unfold DeskS.load; rw [hc]; rfl)
    have HH := Lib.hid H
    clear hc H D hf
    go_enter Try.func101, Try.ntmps101
    go_wp2_with (go_at_call 108; refine HO.out.mono ?_; rintro e w1 ⟨rfl, rfl⟩)
    go_ret
    exact ⟨ret_int HW.out.symm, by rw [HD.out]; exact DeskOut.refl HH.out⟩

set_option maxRecDepth 100000 in
set_option maxHeartbeats 1000000 in
theorem dstore_any {w : World} {base xb db : Nat} {st : MachS} {v : MachV} (H : MachAt w base xb st v) (D : DeskBox w xb db) (hd : ¬ v.own xb db) (hf : st.d.Fits) (a x : Int) :
    Calls Try.prog 120 #[.pointer (some ⟨db, 0, none⟩), .int .i64 a, .int .u64 x] w fun e w' => e = .returned (.tuple #[]) ∧ DeskOut w base xb v { st with d := st.d.store a x } w' := by
  cases hc : st.d.can a with
  | true =>
    obtain ⟨hu, h0, h1⟩ := can_parts hc
    obtain ⟨n, rfl⟩ : ∃ n : Nat, a = n := ⟨a.toNat, by omega⟩
    obtain ⟨d0, dz, dlt⟩ := D.facts
    have hne := D.ne H
    have HO := Lib.hid (open_yes H D n hc)
    have H1 := used_at H
    obtain ⟨c0, c1, c2, c3, c4, c5, c6, c7, c8, c9, c10, z, lt⟩ := H1.head
    have HL := Lib.hid (store_ok H1.drew.mem hf.1 hf.2.1 st.d.th n x (by simpa using h1))
    have HD := Lib.hid (show st.d.store n x = { st.d with used := true, mem := st.d.mem.store st.d.th n x } by unfold DeskS.store; rw [if_pos hc]; rfl)
    have HP := Lib.hid (show Only (v.own xb) w (w.setCell ⟨xb, 5, none⟩ (.bool true)) from (Only.refl _ _).set (.inl (.inl rfl)) _)
    have HH := Lib.hid H1
    have d1 : (w.setCell ⟨xb, 5, none⟩ (.bool true)).cell? ⟨db, 0, none⟩ = some (.pointer (some ⟨xb, 0, none⟩)) := by rw [World.cell?_setCell_other _ _ _ _ (by simp)]; exact d0
    have dlt1 : db < (w.setCell ⟨xb, 5, none⟩ (.bool true)).heap.size := by simpa using dlt
    have hnm := H1.nm
    have hnd : ¬ v.mv.own v.mb db := fun e => hd (.inr (.inl e))
    clear hu hc c2 c3 c4 c5 c6 c7 c8 c9 c10 H1 D d0 dz dlt z
    generalize w.setCell ⟨xb, 5, none⟩ (.bool true) = w9 at *
    have f0 := fun g : LaterF (v.mv.own v.mb) w9 => g.cell d1 dlt1 hnd
    have f1 := fun g : LaterF (v.mv.own v.mb) w9 => g.cell c0 lt hnm
    have f2 := fun g : LaterF (v.mv.own v.mb) w9 => g.cell c1 lt hnm
    clear d1 dlt1 c0 c1 lt hnm hnd
    go_enter Try.func120, Try.ntmps120
    go_wp2_with (go_at_call 108; refine HO.out.mono ?_; rintro e w1 ⟨rfl, rfl⟩)
    go_wp2
    refine wp_region_steps (fun wz => ∃ g : LaterF (v.mv.own v.mb) w9, wz = g.W) [16] (by kernel_rfl) (by kernel_rfl) (laterF_in (Only.drew (Only.refl _ _))) ?_
    simp only [cutSteps, List.take_succ_cons, List.take_zero, List.drop_succ_cons, List.drop_zero, wpSteps]
    repeat (first | go_big_quiet_skip | (go_big_quiet_want; go_big_quiet_op; go_big_quiet_on))
    refine wpQuiet_nil ?_
    go_wp2_with (go_at_call 121; refine HL.out.mono ?_; rintro e w1 ⟨rfl, hm⟩; have HM := Lib.hid (MemOut.pre (w0 := w9) (Only.drew (Only.refl _ _)) hm); clear hm)
    try unfold Strict
    refine ⟨?_, ?_⟩
    · obtain ⟨mv', _, ho, _⟩ := HM.out; exact laterF_in ho
    repeat (first | go_big_quiet_skip | (go_big_quiet_want; go_big_quiet_op; go_big_quiet_on))
    refine wpQuiet_nil ?_
    go_wp2
    go_end0
    exact ⟨rfl, by rw [HD.out]; exact DeskOut.ahead HP.out (HH.out.mem_out HM.out)⟩
  | false =>
    have HO := Lib.hid (open_no H D a hc)
    have HD := Lib.hid (show st.d.store a x = st.d by unfold DeskS.store; rw [hc]; rfl)
    have HH := Lib.hid H
    clear hc H D hf
    go_enter Try.func120, Try.ntmps120
    go_wp2_with (go_at_call 108; refine HO.out.mono ?_; rintro e w1 ⟨rfl, rfl⟩)
    go_end0
    exact ⟨rfl, by rw [HD.out]; exact DeskOut.refl HH.out⟩

set_option maxRecDepth 100000 in
set_option maxHeartbeats 1000000 in
theorem dswap_any {w : World} {base xb db : Nat} {st : MachS} {v : MachV} (H : MachAt w base xb st v) (D : DeskBox w xb db) (hd : ¬ v.own xb db) (hf : st.d.Fits) (a o x : Int) :
    Calls Try.prog 106 #[.pointer (some ⟨db, 0, none⟩), .int .i64 a, .int .u64 o, .int .u64 x] w fun e w' => e = .returned (.bool (st.d.swaps a o)) ∧ DeskOut w base xb v { st with d := st.d.swap a o x } w' := by
  cases hc : st.d.can a with
  | true =>
    obtain ⟨hu, h0, h1⟩ := can_parts hc
    obtain ⟨n, rfl⟩ : ∃ n : Nat, a = n := ⟨a.toNat, by omega⟩
    obtain ⟨d0, dz, dlt⟩ := D.facts
    have hne := D.ne H
    have HO := Lib.hid (open_yes H D n hc)
    have H1 := used_at H
    obtain ⟨c0, c1, c2, c3, c4, c5, c6, c7, c8, c9, c10, z, lt⟩ := H1.head
    obtain ⟨bb, HB⟩ : ∃ bb, Hid (decide (st.d.mem.at n = o) = bb) := ⟨_, Lib.hid rfl⟩
    have HL := Lib.hid (swap_ok H1.drew.mem hf.1 hf.2.1 st.d.th n o x (by simpa using h1))
    have HW := Lib.hid (show st.d.swaps n o = bb by unfold DeskS.swaps; rw [hc]; exact HB.out)
    have HD := Lib.hid (show st.d.swap n o x = { st.d with used := true, mem := st.d.mem.swap st.d.th n o x } by unfold DeskS.swap; rw [if_pos hc]; rfl)
    have HP := Lib.hid (show Only (v.own xb) w (w.setCell ⟨xb, 5, none⟩ (.bool true)) from (Only.refl _ _).set (.inl (.inl rfl)) _)
    have HH := Lib.hid H1
    have d1 : (w.setCell ⟨xb, 5, none⟩ (.bool true)).cell? ⟨db, 0, none⟩ = some (.pointer (some ⟨xb, 0, none⟩)) := by rw [World.cell?_setCell_other _ _ _ _ (by simp)]; exact d0
    have dlt1 : db < (w.setCell ⟨xb, 5, none⟩ (.bool true)).heap.size := by simpa using dlt
    have hnm := H1.nm
    have hnd : ¬ v.mv.own v.mb db := fun e => hd (.inr (.inl e))
    clear hu hc c2 c3 c4 c5 c6 c7 c8 c9 c10 H1 D d0 dz dlt z
    generalize w.setCell ⟨xb, 5, none⟩ (.bool true) = w9 at *
    have f0 := fun g : LaterF (v.mv.own v.mb) w9 => g.cell d1 dlt1 hnd
    have f1 := fun g : LaterF (v.mv.own v.mb) w9 => g.cell c0 lt hnm
    have f2 := fun g : LaterF (v.mv.own v.mb) w9 => g.cell c1 lt hnm
    clear d1 dlt1 c0 c1 lt hnm hnd
    go_enter Try.func106, Try.ntmps106
    go_wp2_with (go_at_call 108; refine HO.out.mono ?_; rintro e w1 ⟨rfl, rfl⟩)
    go_wp2
    refine wp_region_steps (fun wz => ∃ g : LaterF (v.mv.own v.mb) w9, wz = g.W) [17] (by kernel_rfl) (by kernel_rfl) (laterF_in (Only.drew (Only.refl _ _))) ?_
    simp only [cutSteps, List.take_succ_cons, List.take_zero, List.drop_succ_cons, List.drop_zero, wpSteps]
    repeat (first | go_big_quiet_skip | (go_big_quiet_want; go_big_quiet_op; go_big_quiet_on))
    refine wpQuiet_nil ?_
    go_wp2_with (go_at_call 111; refine HL.out.mono ?_; rintro e w1 ⟨hm0, hm⟩; rw [show decide ((({ st with d := { st.d with used := true } } : MachS).d.mem).at n = o) = bb from HB.out] at hm0; subst hm0; have HM := Lib.hid (MemOut.pre (w0 := w9) (Only.drew (Only.refl _ _)) hm); clear hm)
    try unfold Strict
    refine ⟨?_, ?_⟩
    · obtain ⟨mv', _, ho, _⟩ := HM.out; exact laterF_in ho
    repeat (first | go_big_quiet_skip | (go_big_quiet_want; go_big_quiet_op; go_big_quiet_on))
    refine wpQuiet_nil ?_
    go_wp2
    go_ret
    exact ⟨ret_bool HW.out.symm, by rw [HD.out]; exact DeskOut.ahead HP.out (HH.out.mem_out HM.out)⟩
  | false =>
    have HO := Lib.hid (open_no H D a hc)
    have HW := Lib.hid (show st.d.swaps a o = false by unfold DeskS.swaps; rw [hc]; rfl)
    have HD := Lib.hid (show st.d.swap a o x = st.d by unfold DeskS.swap; rw [hc]; rfl)
    have HH := Lib.hid H
    clear hc H D hf
    go_enter Try.func106, Try.ntmps106
    go_wp2_with (go_at_call 108; refine HO.out.mono ?_; rintro e w1 ⟨rfl, rfl⟩)
    go_ret
    exact ⟨ret_bool HW.out.symm, by rw [HD.out]; exact DeskOut.refl HH.out⟩
end Go.Proofs.Ytjcggokhminmoaa
