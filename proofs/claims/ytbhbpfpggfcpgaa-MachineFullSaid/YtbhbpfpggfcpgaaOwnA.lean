/-
machine: the kit of the machine's own calls: its functions and methods.
-/
import Derived.Test.YtbhbpfpggfcpgaaNewM
import Derived.Maps.Own
namespace Go
open Go.RowKit
/-- a step that tells: point, answer -/
def DeskS.tell (d : DeskS) (x : Int) : DeskS := { d with pt := d.now, ak := 2, av := wrap64 x }
end Go
namespace Go.Proofs.Ytbhbpfpggfcpgaa
open Go.ChangeShapes Go.WideShapes Go.ChangeAt Go.RowKit

theorem there_any {w : World} {sb : Nat} {size : Int} (c0 : w.cell? ⟨sb, 0, none⟩ = some (.int .i64 size)) (_z : w.frozen? ⟨sb, 0, none⟩ = false) (a : Int) : Calls Try.prog 50 #[.int .i64 a, .pointer (some ⟨sb, 0, none⟩)] w fun e w' =>
    e = .returned (.bool (decide (0 ≤ a) && decide (a < size))) ∧ w = w' := by
  by_cases h0 : 0 ≤ a
  all_goals
    go_enter Try.func50, Try.ntmps50
    go_wp2
    go_ret
    exact ⟨ret_bool (by rw [Bool.eq_iff_iff]; simp <;> omega), rfl⟩

/-- what a maker of the own kit leaves -/
def OwnMade (w : World) (ok : Bool) (T : TypeId) (o : Obj) (e : Ending) (w' : World) : Prop :=
  (ok = false ∧ e = .returned .nilIface ∧ Only (fun _ => False) w w') ∨ (ok = true ∧ ∃ k, w.heap.size ≤ k ∧ e = .returned (.iface T (.pointer (some ⟨k, 0, none⟩))) ∧ w'.heap[k]? = some o ∧ Only (fun _ => False) w w')

theorem look_make {w : World} {sb tb : Nat} {size : Int} (c0 : w.cell? ⟨sb, 0, none⟩ = some (.int .i64 size)) (z : w.frozen? ⟨sb, 0, none⟩ = false) (lt : sb < w.heap.size)
    (t0 : w.cell? ⟨tb, 0, none⟩ = some (.func (.func 50) #[] #[.pointer (some ⟨sb, 0, none⟩)])) (_tz : w.frozen? ⟨tb, 0, none⟩ = false) (tlt : tb < w.heap.size) (mv : Mv) :
    Calls Try.prog 51 #[.int .i64 mv.th, mv.v, .pointer (some ⟨tb, 0, none⟩)] w (OwnMade w (decide (0 ≤ mv.arg) && decide (mv.arg < size)) 119 (.cells #[.int .i64 mv.arg] 121)) := by
  obtain ⟨a0, a1, a2, a3⟩ := mv
  unfold Mv.v
  obtain ⟨ok, hok⟩ : ∃ ok, Hid ((decide (0 ≤ a2) && decide (a2 < size)) = ok) := ⟨_, Lib.hid rfl⟩
  simp only
  rw [hok.out]
  have HT := Lib.hid (there_any (w := w.alloc (.cells #[.int .i64 a0, .int .i64 a1, .int .i64 a2, .int .i64 a3] 34)) (sb := sb) (size := size) (by rw [World.cell?_alloc_ite, if_neg (by omega)]; exact c0) (by rw [World.frozen?_alloc_ite, if_neg (by omega)]; exact z) a2)
  rw [hok.out] at HT
  cases ok with
  | false =>
    go_enter Try.func51, Try.ntmps51
    go_wp2_with (go_at_call 50; refine HT.out.mono ?_; rintro e w1 ⟨rfl, rfl⟩)
    go_ret
    exact .inl ⟨rfl, rfl, (Only.refl _ _).alloc _⟩
  | true =>
    go_enter Try.func51, Try.ntmps51
    go_wp2_with (go_at_call 50; refine HT.out.mono ?_; rintro e w1 ⟨rfl, rfl⟩)
    go_ret
    exact .inr ⟨rfl, _, by simp, rfl, by have := heap_alloc_new (w.alloc (.cells #[.int .i64 a0, .int .i64 a1, .int .i64 a2, .int .i64 a3] 34)) (.cells #[.int .i64 a2] 121); simpa using this, ((Only.refl _ _).alloc _).alloc _⟩
theorem bump_make {w : World} {sb tb : Nat} {size : Int} (c0 : w.cell? ⟨sb, 0, none⟩ = some (.int .i64 size)) (z : w.frozen? ⟨sb, 0, none⟩ = false) (lt : sb < w.heap.size)
    (t0 : w.cell? ⟨tb, 0, none⟩ = some (.func (.func 50) #[] #[.pointer (some ⟨sb, 0, none⟩)])) (_tz : w.frozen? ⟨tb, 0, none⟩ = false) (tlt : tb < w.heap.size) (mv : Mv) :
    Calls Try.prog 52 #[.int .i64 mv.th, mv.v, .pointer (some ⟨tb, 0, none⟩)] w (OwnMade w (decide (0 ≤ mv.arg) && decide (mv.arg < size)) 123 (.cells #[.int .i64 mv.arg, .int .u64 0, .bool false] 125)) := by
  obtain ⟨a0, a1, a2, a3⟩ := mv
  unfold Mv.v
  obtain ⟨ok, hok⟩ : ∃ ok, Hid ((decide (0 ≤ a2) && decide (a2 < size)) = ok) := ⟨_, Lib.hid rfl⟩
  simp only
  rw [hok.out]
  have HT := Lib.hid (there_any (w := w.alloc (.cells #[.int .i64 a0, .int .i64 a1, .int .i64 a2, .int .i64 a3] 34)) (sb := sb) (size := size) (by rw [World.cell?_alloc_ite, if_neg (by omega)]; exact c0) (by rw [World.frozen?_alloc_ite, if_neg (by omega)]; exact z) a2)
  rw [hok.out] at HT
  cases ok with
  | false =>
    go_enter Try.func52, Try.ntmps52
    go_wp2_with (go_at_call 50; refine HT.out.mono ?_; rintro e w1 ⟨rfl, rfl⟩)
    go_ret
    exact .inl ⟨rfl, rfl, (Only.refl _ _).alloc _⟩
  | true =>
    go_enter Try.func52, Try.ntmps52
    go_wp2_with (go_at_call 50; refine HT.out.mono ?_; rintro e w1 ⟨rfl, rfl⟩)
    go_ret
    exact .inr ⟨rfl, _, by simp, rfl, by have := heap_alloc_new (w.alloc (.cells #[.int .i64 a0, .int .i64 a1, .int .i64 a2, .int .i64 a3] 34)) (.cells #[.int .i64 a2, .int .u64 0, .bool false] 125); simpa using this, ((Only.refl _ _).alloc _).alloc _⟩

theorem lready_any (p : Value) (q : Value) (w : World) : Calls Try.prog 107 #[p, q] w fun e w' => e = .returned (.bool false) ∧ w = w' := by
  go_enter Try.func107, Try.ntmps107
  go_wp2
  go_ret
  exact ⟨rfl, rfl⟩
theorem bready_any (p : Value) (q : Value) (w : World) : Calls Try.prog 109 #[p, q] w fun e w' => e = .returned (.bool false) ∧ w = w' := by
  go_enter Try.func109, Try.ntmps109
  go_wp2
  go_ret
  exact ⟨rfl, rfl⟩



set_option maxHeartbeats 1000000 in
theorem lstep_any {w : World} {base xb db k ci si : Nat} {st : MachS} {v : MachV} (H : MachAt w base xb st v) (D : DeskBox w xb db) (O : st.On ci si) (hd : ¬ v.own xb db) (hf : st.d.Fits) (a : Int) (hk : w.heap[k]? = some (.cells #[.int .i64 a] 121)) :
    Calls Try.prog 108 #[.pointer (some ⟨k, 0, none⟩), .pointer (some ⟨db, 0, none⟩)] w fun e w' => e = .returned (.bool true) ∧ DeskOut w base xb v { st with d := (st.d.load a).tell (st.d.word a) } w' := by
  have k0 : w.cell? ⟨k, 0, none⟩ = some (.int .i64 a) := by simp [World.cell?, hk]
  have HL := Lib.hid (dload_any H D hd hf a)
  have HD := Lib.hid D
  have Hd := Lib.hid hd
  have HO := Lib.hid O
  clear H D hd hf O
  go_enter Try.func108, Try.ntmps108
  go_wp2_with (first
    | (go_at_call 47; refine HL.out.mono ?_; rintro e w1 ⟨rfl, hs⟩; obtain ⟨v1, hs1⟩ := hs.step; have D1 := Lib.hid (HD.out.only hs1.only Hd.out); have n1 := Lib.hid (hs1.not_own Hd.out HD.out.facts.2.2); have HN := Lib.hid (dnow_any hs1.at' D1.out); have HP := Lib.hid (dpoint_any hs1.at' D1.out (ci := ci) (si := si) ⟨HO.out.on, HO.out.c, HO.out.s⟩ (st.d.load a).now); have HX := Lib.hid hs1; clear hs hs1)
    | (go_at_call 46; refine HN.out.mono ?_; rintro e w2 ⟨rfl, rfl⟩)
    | (go_at_call 43; refine HP.out.mono ?_; rintro e w3 ⟨rfl, hs⟩; obtain ⟨v2, hs2⟩ := hs.step; have D2 := Lib.hid (D1.out.only hs2.only n1.out); have HA := Lib.hid (danswer_any hs2.at' D2.out (ci := ci) (si := si) ⟨HO.out.on, HO.out.c, HO.out.s⟩ 2 (wrap64 (st.d.word a))); have HY := Lib.hid hs2; clear hs hs2)
    | (go_at_call 44; refine HA.out.mono ?_; rintro e w4 ⟨rfl, hs⟩; have HZ := Lib.hid hs; clear hs))
  go_ret
  exact ⟨rfl, HX.out.then (HY.out.then HZ.out)⟩

/-- what a bump's step leaves: the desk's part, then its own two cells -/
def BumpOut (w : World) (base xb k : Nat) (v : MachV) (st' : MachS) (a saw : Int) (ld over : Bool) (e : Ending) (w' : World) : Prop :=
  e = .returned (.bool over) ∧ ∃ v', MachAt w' base xb st' v' ∧ Only (fun i => v.own xb i ∨ i = k) w w' ∧ (∀ i, v'.own xb i → v.own xb i ∨ w.heap.size ≤ i) ∧ v'.vse = v.vse ∧ v'.vca = v.vca ∧ v'.mb = v.mb ∧ v'.kit = v.kit ∧
    w'.heap[k]? = some (.cells #[.int .i64 a, .int .u64 saw, .bool ld] 125)

set_option maxHeartbeats 1000000 in
theorem bstep_load {w : World} {base xb db k : Nat} {st : MachS} {v : MachV} (H : MachAt w base xb st v) (D : DeskBox w xb db) (hd : ¬ v.own xb db) (hf : st.d.Fits) (a saw : Int) (hk : w.heap[k]? = some (.cells #[.int .i64 a, .int .u64 saw, .bool false] 125)) (hkv : ¬ v.own xb k) :
    Calls Try.prog 110 #[.pointer (some ⟨k, 0, none⟩), .pointer (some ⟨db, 0, none⟩)] w (BumpOut w base xb k v { st with d := st.d.load a } a (st.d.word a) true false) := by
  have k0 : w.cell? ⟨k, 0, none⟩ = some (.int .i64 a) := by simp [World.cell?, hk]
  have k2 : w.cell? ⟨k, 2, none⟩ = some (.bool false) := by simp [World.cell?, hk]
  have klt : k < w.heap.size := (Array.getElem?_eq_some_iff.1 hk).1
  have HL := Lib.hid (dload_any H D hd hf a)
  have HK := Lib.hid hk
  have HV := Lib.hid hkv
  clear H D hd hf hk hkv
  go_enter Try.func110, Try.ntmps110
  go_wp2_with (go_at_call 47; refine HL.out.mono ?_; rintro e w1 ⟨rfl, hs⟩; obtain ⟨v1, hs1⟩ := hs.step; have hk1 := (hs1.only.block k klt HV.out).trans HK.out; have q1 : w1.cell? ⟨k, 1, none⟩ = some (.int .u64 saw) := (by simp [World.cell?, hk1]); have q2 : w1.cell? ⟨k, 2, none⟩ = some (.bool false) := (by simp [World.cell?, hk1]); have qz : ∀ j, w1.frozen? ⟨k, j, none⟩ = false := fun j => (by simp [World.frozen?, hk1]); have qlt : k < w1.heap.size := (Array.getElem?_eq_some_iff.1 hk1).1; have HX := Lib.hid hs1; have HK1 := Lib.hid hk1; clear hs hs1 hk1)
  go_ret
  have hn1 := HX.out.not_own HV.out klt
  refine ⟨rfl, v1, (HX.out.at'.set_other hn1 _).set_other hn1 _, ?_, HX.out.own, HX.out.vse, HX.out.vca, HX.out.mb, HX.out.kit, ?_⟩
  · exact ((HX.out.only.mono (fun i _ hi => .inl hi)).set (.inl (.inr rfl)) _).set (.inl (.inr rfl)) _
  · simp [World.setCell, Array.getElem?_modify, HK1.out]

set_option maxRecDepth 100000 in
set_option maxHeartbeats 1000000 in
theorem bstep_fail {w : World} {base xb db k : Nat} {st : MachS} {v : MachV} (H : MachAt w base xb st v) (D : DeskBox w xb db) (hd : ¬ v.own xb db) (hf : st.d.Fits) (a saw : Int) (hk : w.heap[k]? = some (.cells #[.int .i64 a, .int .u64 saw, .bool true] 125)) (hkv : ¬ v.own xb k)
    (hsw : st.d.swaps a saw = false) :
    Calls Try.prog 110 #[.pointer (some ⟨k, 0, none⟩), .pointer (some ⟨db, 0, none⟩)] w (BumpOut w base xb k v { st with d := st.d.swap a saw (IntKind.u64.wrap (saw + 1)) } a saw false false) := by
  have k0 : w.cell? ⟨k, 0, none⟩ = some (.int .i64 a) := by simp [World.cell?, hk]
  have k1 : w.cell? ⟨k, 1, none⟩ = some (.int .u64 saw) := by simp [World.cell?, hk]
  have k2 : w.cell? ⟨k, 2, none⟩ = some (.bool true) := by simp [World.cell?, hk]
  have klt : k < w.heap.size := (Array.getElem?_eq_some_iff.1 hk).1
  have HL := Lib.hid (dswap_any H.drew (D.of_block rfl) hd hf a saw (IntKind.u64.wrap (saw + 1)))
  rw [hsw] at HL
  have HK := Lib.hid hk
  have HV := Lib.hid hkv
  have f0 := fun g : LaterF (v.own xb) w => g.cell k0 klt hkv
  have f1 := fun g : LaterF (v.own xb) w => g.cell k1 klt hkv
  clear H D hd hf hk hsw hkv
  go_enter Try.func110, Try.ntmps110
  go_wp2
  refine wp_region_steps (fun wz => ∃ g : LaterF (v.own xb) w, wz = g.W) [14] (by kernel_rfl) (by kernel_rfl) (laterF_in (Only.drew (Only.refl _ _))) ?_
  simp only [cutSteps, List.take_succ_cons, List.take_zero, List.drop_succ_cons, List.drop_zero, wpSteps]
  repeat (first | go_big_quiet_skip | (go_big_quiet_want; go_big_quiet_op; go_big_quiet_on))
  refine wpQuiet_nil ?_
  go_wp2_with (go_at_call 48; refine HL.out.mono ?_; rintro e w1 ⟨rfl, hs⟩; obtain ⟨v1, hs1⟩ := (DeskOut.pre (w0 := w) (Only.drew (Only.refl _ _)) hs).step; have HX := Lib.hid hs1; clear hs hs1)
  try unfold Strict
  refine ⟨?_, ?_⟩
  · exact laterF_in HX.out.only
  repeat (first | go_big_quiet_skip | (go_big_quiet_want; go_big_quiet_op; go_big_quiet_on))
  refine wpQuiet_nil ?_
  have hk1 := (HX.out.only.block k klt HV.out).trans HK.out
  have q2 : w1.cell? ⟨k, 2, none⟩ = some (.bool true) := by simp [World.cell?, hk1]
  have qz : ∀ j, w1.frozen? ⟨k, j, none⟩ = false := fun j => by simp [World.frozen?, hk1]
  have qlt : k < w1.heap.size := (Array.getElem?_eq_some_iff.1 hk1).1
  have HK1 := Lib.hid hk1
  clear f0 f1 hk1
  go_wp2
  go_ret
  have hn1 := HX.out.not_own HV.out klt
  refine ⟨rfl, v1, HX.out.at'.set_other hn1 _, ?_, HX.out.own, HX.out.vse, HX.out.vca, HX.out.mb, HX.out.kit, ?_⟩
  · exact (HX.out.only.mono (fun i _ hi => .inl hi)).set (.inl (.inr rfl)) _
  · simp [World.setCell, Array.getElem?_modify, HK1.out]

set_option maxRecDepth 100000 in
set_option maxHeartbeats 1000000 in
theorem bstep_ok {w : World} {base xb db k ci si : Nat} {st : MachS} {v : MachV} (H : MachAt w base xb st v) (D : DeskBox w xb db) (O : st.On ci si) (hd : ¬ v.own xb db) (hf : st.d.Fits) (a saw : Int) (hk : w.heap[k]? = some (.cells #[.int .i64 a, .int .u64 saw, .bool true] 125)) (hkv : ¬ v.own xb k)
    (hsw : st.d.swaps a saw = true) :
    Calls Try.prog 110 #[.pointer (some ⟨k, 0, none⟩), .pointer (some ⟨db, 0, none⟩)] w (BumpOut w base xb k v { st with d := (st.d.swap a saw (IntKind.u64.wrap (saw + 1))).tell saw } a saw true true) := by
  have k0 : w.cell? ⟨k, 0, none⟩ = some (.int .i64 a) := by simp [World.cell?, hk]
  have k1 : w.cell? ⟨k, 1, none⟩ = some (.int .u64 saw) := by simp [World.cell?, hk]
  have k2 : w.cell? ⟨k, 2, none⟩ = some (.bool true) := by simp [World.cell?, hk]
  have klt : k < w.heap.size := (Array.getElem?_eq_some_iff.1 hk).1
  have HL := Lib.hid (dswap_any H.drew (D.of_block rfl) hd hf a saw (IntKind.u64.wrap (saw + 1)))
  rw [hsw] at HL
  have HK := Lib.hid hk
  have HV := Lib.hid hkv
  have HD := Lib.hid D
  have Hd := Lib.hid hd
  have HO := Lib.hid O
  have f0 := fun g : LaterF (v.own xb) w => g.cell k0 klt hkv
  have f1 := fun g : LaterF (v.own xb) w => g.cell k1 klt hkv
  clear H D hd hf hk hsw hkv O
  go_enter Try.func110, Try.ntmps110
  go_wp2
  refine wp_region_steps (fun wz => ∃ g : LaterF (v.own xb) w, wz = g.W) [14] (by kernel_rfl) (by kernel_rfl) (laterF_in (Only.drew (Only.refl _ _))) ?_
  simp only [cutSteps, List.take_succ_cons, List.take_zero, List.drop_succ_cons, List.drop_zero, wpSteps]
  repeat (first | go_big_quiet_skip | (go_big_quiet_want; go_big_quiet_op; go_big_quiet_on))
  refine wpQuiet_nil ?_
  go_wp2_with (go_at_call 48; refine HL.out.mono ?_; rintro e w1 ⟨rfl, hs⟩; obtain ⟨v1, hs1⟩ := (DeskOut.pre (w0 := w) (Only.drew (Only.refl _ _)) hs).step; have HX := Lib.hid hs1; clear hs hs1)
  try unfold Strict
  refine ⟨?_, ?_⟩
  · exact laterF_in HX.out.only
  repeat (first | go_big_quiet_skip | (go_big_quiet_want; go_big_quiet_op; go_big_quiet_on))
  refine wpQuiet_nil ?_
  have hk1 := (HX.out.only.block k klt HV.out).trans HK.out
  have q1 : w1.cell? ⟨k, 1, none⟩ = some (.int .u64 saw) := by simp [World.cell?, hk1]
  have D1 := Lib.hid (HD.out.only HX.out.only Hd.out)
  have n1 := Lib.hid (HX.out.not_own Hd.out HD.out.facts.2.2)
  have m1 := Lib.hid (HX.out.not_own HV.out klt)
  have HN := Lib.hid (dnow_any HX.out.at' D1.out)
  have HP := Lib.hid (dpoint_any HX.out.at' D1.out (ci := ci) (si := si) ⟨HO.out.on, HO.out.c, HO.out.s⟩ (st.d.swap a saw (IntKind.u64.wrap (saw + 1))).now)
  have HK1 := Lib.hid hk1
  clear f0 f1 hk1
  go_wp2_with (first
    | (go_at_call 46; refine HN.out.mono ?_; rintro e w2 ⟨rfl, rfl⟩)
    | (go_at_call 43; refine HP.out.mono ?_; rintro e w3 ⟨rfl, hs⟩; obtain ⟨v2, hs2⟩ := hs.step; have D2 := Lib.hid (D1.out.only hs2.only n1.out); have HA := Lib.hid (danswer_any hs2.at' D2.out (ci := ci) (si := si) ⟨HO.out.on, HO.out.c, HO.out.s⟩ 2 (wrap64 saw)); have hk2 := (hs2.only.block k (Array.getElem?_eq_some_iff.1 HK1.out).1 m1.out).trans HK1.out; have q12 : w3.cell? ⟨k, 1, none⟩ = some (.int .u64 saw) := (by simp [World.cell?, hk2]); have HY := Lib.hid hs2; have HK2 := Lib.hid hk2; clear hs hs2 hk2)
    | (go_at_call 44; refine HA.out.mono ?_; rintro e w4 ⟨rfl, hs⟩; have HZ := Lib.hid hs; clear hs))
  go_ret
  have hall := (HX.out.then (HY.out.then HZ.out))
  obtain ⟨v4, hs4⟩ := hall.step
  refine ⟨rfl, v4, hs4.at', hs4.only.mono (fun i _ hi => .inl hi), hs4.own, hs4.vse, hs4.vca, hs4.mb, hs4.kit, ?_⟩
  exact (hs4.only.block k klt HV.out).trans HK.out
end Go.Proofs.Ytbhbpfpggfcpgaa
