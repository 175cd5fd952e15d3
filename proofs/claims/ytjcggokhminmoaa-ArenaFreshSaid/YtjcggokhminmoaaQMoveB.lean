/-
machine.Machine: Move, where a call may begin.
-/
import Derived.Test.YtjcggokhminmoaaQMove
namespace Go.Proofs.Ytjcggokhminmoaa
open Go.ChangeShapes Go.WideShapes Go.ChangeAt Go.RowKit

/-- what the beginning of a call leaves -/
def BeginRes (K : Kits) (w : World) (base xb : Nat) (v : MachV) (F : Nat → Prop) (st : MachS) (vs : List Value) (s : K.S) (ts : List (Option K.T)) (n : Nat) (mv : Mv) (e : Ending) (w' : World) : Prop :=
  (K.make s mv = none ∧ e = .returned (.bool false) ∧ StepDone K w base xb v F { st with moves := st.moves + 1 } vs s ts w') ∨
  ∃ t y, K.make s mv = some t ∧ e = .returned (.bool true) ∧ StepDone K w base xb v F { st with moves := st.moves + 1, seats := st.seats.set n ⟨y, false, st.calls.length, 1, 0⟩, calls := st.calls ++ [⟨mv.th, mv.op, mv.arg, mv.data, st.moves, -1, -1, 0, 0⟩] } (vs.set n y) s (ts.set n (some t)) w'

theorem infoCall : (Try.prog.info? 50).map (fun i => (i.zero, i.size, i.bytes)) = some (some (.agg #[.int .i64 0, .int .i64 0, .int .i64 0, .int .i64 0, .int .i64 0, .int .i64 0, .int .i64 0, .int .i64 0, .int .i64 0]), 9, 72) := by kernel_rfl

theorem func_nil (f : Fn) (x y : Array Value) (w : World) : (binOp BinOp.eql 128 (.func f x y) Value.nilFunc).run Try.prog w = .ok (.bool false) w := by
  kernel_rfl

theorem nil_nil (w : World) : (binOp BinOp.eql 128 Value.nilFunc Value.nilFunc).run Try.prog w = .ok (.bool true) w := by
  kernel_rfl
theorem MK.only0 {K : Kits} (hK : KitsOk K) {w w' : World} {base xb : Nat} {st : MachS} {v : MachV} {vs : List Value} {s : K.S} {ts : List (Option K.T)} {F : Nat → Prop} (H : MK K w base xb st v vs s ts F) (ho : Only (fun _ => False) w w') : MK K w' base xb st v vs s ts F :=
  ⟨H.m.only ho (fun _ _ h => h), hK.loc H.k fun k hk => ho.block k (hK.lt H.k k hk).2 (fun h => h), H.sep, H.tasks, H.len⟩

section
variable {K : Kits} (hK : KitsOk K) {w : World} {base xb : Nat} {st : MachS} {v : MachV} {vs : List Value} {s : K.S} {ts : List (Option K.T)} {F : Nat → Prop} (H : MK K w base xb st v vs s ts F) (mv : Mv)
include hK H
set_option maxRecDepth 100000 in
set_option maxHeartbeats 2000000 in
theorem move_begin (n : Nat) (hn : n < st.seats.length) (_hs2 : st.seats.length ≤ 1000000) (h0 : 0 ≤ st.moves) (hf : st.moves < 65536) (ht : mv.th = n) (hop : mv.op ≠ 0) (hi : ts[n]? = some none) (hon : st.on = none) (hcl : st.calls.length ≤ 1000000000) :
    Calls Try.prog 21 #[.pointer (some ⟨xb, 0, none⟩), mv.v] w (BeginRes K w base xb v F st vs s ts n mv) := by
  obtain ⟨c0, c1, c2, c3, c4, c5, c6, c7, c8, c9, c10, z, lt⟩ := H.m.head
  obtain ⟨g, cap, e, hcap, hrb, hglt, hgx, gz, gc⟩ := H.m.seats_form hn
  rw [e] at c8
  have hnz : ((st.seats.length : Int) == 0) = false := by rw [beq_eq_false_iff_ne]; omega
  have s0 := gc 0 (by decide)
  have e1 : st.seatsNow = st.seats := by unfold MachS.seatsNow; rw [hon]
  replace s0 : w.cell? ⟨g, n * 5, none⟩ = some .nilIface := by
    have h1 := hK.idle H.k n hi
    rw [← H.tasks, List.getElem?_map] at h1
    rw [show w.cell? ⟨g, n * 5, none⟩ = _ from s0]
    simp only [e1]
    simp only [List.getElem?_eq_getElem hn, Option.map_some, Option.some.injEq] at h1
    simp [Seat.cells, h1]
  have HM := Lib.hid ((((mvW_at hK H mv).drew hK).drew hK).drew hK)
  have HO := Lib.hid (mvW_only hK H mv).drew.drew.drew
  obtain ⟨fv, hlook, hfv⟩ := hK.look HM.out.k mv.op
  have HF := Lib.hid hfv
  have HIT := Lib.hid hi
  have HON := Lib.hid hon
  have HSE := Lib.hid hrb
  have HN := Lib.hid (show ∀ o : Nat, (mvW w xb st.moves mv).heap.size = o → o = w.heap.size + 1 from fun o ho => by rw [← ho]; simp [mvW])
  obtain ⟨a0, a1, a2, a3⟩ := mv
  unfold Mv.v
  have HW := Lib.hid (show (mvW w xb st.moves ⟨a0, a1, a2, a3⟩).drew.drew.drew = ((w.setCell ⟨xb, 9, none⟩ (.int .i64 (st.moves + 1))).alloc (.cells #[.int .i64 a0, .int .i64 a1, .int .i64 a2, .int .i64 a3] 64)).drew.drew.drew from rfl)
  rw [HW.out] at hlook HM HO hfv
  simp only at ht hop hlook
  subst ht
  have hlt : decide ((n : Int) < 0) = false := by simp
  have hop2 : (a1 == 0) = false := by simpa using hop
  have HNH := Lib.hid hn
  clear c0 c1 c2 c3 c4 c5 c6 c10 gc e hi hon hop e1
  rcases hfv with ⟨rfl, hno⟩ | ⟨⟨f, fx, fy, rfl⟩, hmk⟩
  · have HNO := Lib.hid (hno ⟨n, a1, a2, a3⟩ rfl)
    have HD := Lib.hid (StepDone.of HM.out HO.out)
    clear hno HF
    have hq := nil_nil
    go_enter Try.func21, Try.ntmps21
    go_wp2
    go_region
    go_wp2
    go_region
    go_wp2
    go_region
    go_wp2
    go_ret
    exact .inl ⟨HNO.out, rfl, HD.out⟩
  · have HMK := Lib.hid (hmk ⟨n, a1, a2, a3⟩ n rfl rfl HIT.out)
    have hq := func_nil f fx fy
    clear hmk HF
    go_enter Try.func21, Try.ntmps21
    go_wp2
    go_region
    go_wp2
    go_region
    go_wp2
    go_region
    go_wp2_with (refine wpList_value rfl _ _ _ _ rfl (.func f fx fy) (.int .i64 (n : Int)) (Mv.v ⟨n, a1, a2, a3⟩) rfl rfl rfl _ HMK.out ?_; rintro e w' hr; have HR := Lib.hid hr; clear hr)
    rcases HR.out with ⟨hno, rfl, ho⟩ | ⟨t, y, F', hmk, rfl, hat, ho, hF⟩
    · refine ⟨_, rfl, ?_⟩
      have HD := Lib.hid (StepDone.of (HM.out.only0 hK ho) (HO.out.trans ho (fun _ h => h.elim)))
      have HNO := Lib.hid hno
      clear hno ho HR
      go_wp2
      go_ret
      exact .inl ⟨HNO.out, rfl, HD.out⟩
    · refine ⟨_, rfl, ?_⟩
      have hlv : n < vs.length := by rw [← H.tasks]; simpa using HNH.out
      have hlt2 : n < ts.length := by rw [H.len]; exact hlv
      obtain ⟨ty, tx, hty⟩ := hK.busy hat n t (by rw [List.getElem?_set]; simp [hlt2])
      rw [List.getElem?_set, if_pos rfl, if_pos hlv] at hty
      obtain rfl : y = .iface ty tx := Option.some.inj hty
      have hM1 := HM.out.m.only ho (fun _ _ h => h)
      obtain ⟨d0, d1, d2, d3, d4, d5, d6, d7, d8, d9, d10, dz, dlt⟩ := hM1.head
      obtain ⟨g', cap', e', hcap', hrb', hglt', hgx', gz', gc'⟩ := hM1.seats_form HNH.out
      obtain rfl : g = g' := by rw [HSE.out] at hrb'; exact Option.some.inj hrb'
      obtain ⟨o2, cap2, e2, l2, m2⟩ := hM1.rca.form
      have EV := Lib.hid e2
      rw [e2] at d10
      unfold maxLen at m2
      obtain ⟨x0, q0⟩ : ∃ x, w'.cell? ⟨g, n * 5, none⟩ = some x := ⟨_, gc' 0 (by decide)⟩
      obtain ⟨x1, q1⟩ : ∃ x, w'.cell? ⟨g, n * 5 + 1, none⟩ = some x := ⟨_, gc' 1 (by decide)⟩
      obtain ⟨x2, q2⟩ : ∃ x, w'.cell? ⟨g, n * 5 + 2, none⟩ = some x := ⟨_, gc' 2 (by decide)⟩
      obtain ⟨x3, q3⟩ : ∃ x, w'.cell? ⟨g, n * 5 + 3, none⟩ = some x := ⟨_, gc' 3 (by decide)⟩
      obtain ⟨x4, q4⟩ : ∃ x, w'.cell? ⟨g, n * 5 + 4, none⟩ = some x := ⟨_, gc' 4 (by decide)⟩
      have HM1 := Lib.hid hM1
      have hbox : Hid (w'.heap[w.heap.size]? = some (.cells #[.int .i64 (n : Int), .int .i64 a1, .int .i64 a2, .int .i64 a3] 64)) := by
        refine Lib.hid ?_
        rw [ho.block w.heap.size (by simp) (fun h => h)]
        have := heap_alloc_new (w.setCell ⟨xb, 9, none⟩ (.int .i64 (st.moves + 1))) (.cells #[.int .i64 (n : Int), .int .i64 a1, .int .i64 a2, .int .i64 a3] 64)
        rw [show (w.setCell ⟨xb, 9, none⟩ (.int .i64 (st.moves + 1))).heap.size = w.heap.size by simp] at this
        exact this
      have HAT := Lib.hid hat
      have HO1 := Lib.hid ho
      have HFF := Lib.hid hF
      have HMKE := Lib.hid hmk
      clear e2 hat ho hF hmk hty HR hM1 d0 d1 d2 d3 d4 d5 d6 d7 d8 d9 gc' e' hcap' hrb' hlook HMK
      go_wp2
      refine gen_world ?_
      intro W2 hW2
      have hM2 : MachAt W2 base xb { st with moves := st.moves + 1, seats := st.seats.set n ⟨.iface ty tx, false, st.calls.length, 1, 0⟩ } v := by
        rw [hW2]
        exact HM1.out.seat_whole HON.out HNH.out HSE.out ⟨.iface ty tx, false, st.calls.length, 1, 0⟩
      have ho2 : Only (fun k => v.own xb k ∨ F k) w W2 := by
        rw [hW2]
        have hgo : v.own xb g := .inr (.inr (.inr (.inl HSE.out)))
        exact (((((HO.out.trans HO1.out (fun _ h => h.elim)).set (.inl (.inl hgo)) _).set (.inl (.inl hgo)) _).set (.inl (.inl hgo)) _).set (.inl (.inl hgo)) _).set (.inl (.inl hgo)) _
      have hat2 : K.At W2 base v.kit (vs.set n (.iface ty tx)) s (ts.set n (some t)) F' := by
        refine hK.loc HAT.out fun k hk => ?_
        have hkg : k ≠ g := fun e => by
          rcases HFF.out k hk with h1 | h1
          · exact H.sep k h1 (e ▸ .inr (.inr (.inr (.inl HSE.out))))
          · simp at h1; omega
        rw [hW2]
        simp [World.setCell, Array.getElem?_modify, Ne.symm hkg]
      have hb2 : W2.heap[w.heap.size]? = some (.cells #[.int .i64 (n : Int), .int .i64 a1, .int .i64 a2, .int .i64 a3] 64) := by
        rw [hW2, ← hbox.out]
        have hkg : g ≠ w.heap.size := by omega
        simp [World.setCell, Array.getElem?_modify, hkg]
      obtain ⟨p0, p1, p2, p3, p4, p5, p6, p7, p8, p9, p10, pz, plt⟩ := hM2.head
      have hBlt : w.heap.size < W2.heap.size := (Array.getElem?_eq_some_iff.1 hb2).1
      have b0 : W2.cell? ⟨w.heap.size, 0, none⟩ = some (.int .i64 (n : Int)) := by simp [World.cell?, hb2]
      have b1 : W2.cell? ⟨w.heap.size, 1, none⟩ = some (.int .i64 a1) := by simp [World.cell?, hb2]
      have b2 : W2.cell? ⟨w.heap.size, 2, none⟩ = some (.int .i64 a2) := by simp [World.cell?, hb2]
      have b3 : W2.cell? ⟨w.heap.size, 3, none⟩ = some (.int .i64 a3) := by simp [World.cell?, hb2]
      have hnx : v.vca.rowBlock ≠ some xb := fun e => hM2.nc xb e rfl
      have hnb : v.vca.rowBlock ≠ some w.heap.size := fun e => by have := (H.m.lt _ (.inr (.inr (.inr (.inr e))))).2; omega
      have f0 := fun g : LaterF (fun k => v.vca.rowBlock = some k) W2 => g.cell b0 hBlt hnb
      have f1 := fun g : LaterF (fun k => v.vca.rowBlock = some k) W2 => g.cell b1 hBlt hnb
      have f2 := fun g : LaterF (fun k => v.vca.rowBlock = some k) W2 => g.cell b2 hBlt hnb
      have f3 := fun g : LaterF (fun k => v.vca.rowBlock = some k) W2 => g.cell b3 hBlt hnb
      have f4 := fun g : LaterF (fun k => v.vca.rowBlock = some k) W2 => g.cell p10 plt hnx
      obtain ⟨i0, ii, iz0, iz1, iz2⟩ := info_parts infoCall
      have HII := Lib.hid ii
      have HZ0 := Lib.hid iz0
      have HZ1 := Lib.hid iz1
      have HZ2 := Lib.hid iz2
      have S1 := Lib.hid (show ∀ u ∈ [Value.int .i64 (n : Int), .int .i64 a1, .int .i64 a2, .int .i64 a3, .int .i64 st.moves, .int .i64 (-1), .int .i64 (-1), .int .i64 0, .int .i64 0], u.oneCell' = true by simp [Value.oneCell'])
      have S2 := Lib.hid (show st.calls.length + 1 ≤ maxLen by unfold maxLen; omega)
      have S3 := Lib.hid (show ((st.calls.length + 1) + (st.calls.length + 1) / 4 + 192) * 72 ≤ 281474976710656 by omega)
      have HM2 := Lib.hid hM2
      have HO2 := Lib.hid ho2
      have HAT2 := Lib.hid hat2
      have HC : Hid (W2.RowV base 50 9 v.vca st.calls.length (cals st.calls)) := Lib.hid (by
        have := hM2.rca
        rw [show ({ st with moves := st.moves + 1, seats := st.seats.set n ⟨.iface ty tx, false, st.calls.length, 1, 0⟩ } : MachS).callsNow = st.calls by unfold MachS.callsNow; simp only [HON.out]] at this
        exact this)
      clear hW2 hM2 ho2 hat2 hb2 p0 p1 p2 p3 p4 p5 p6 p7 p8 p9 p10 pz hBlt b0 b1 b2 b3 hnb ii iz0 iz1 iz2 q0 q1 q2 q3 q4 d10 HM1 hbox HO1 HAT c7 c8 c9 s0
      go_wp2
      refine wp_region_steps_last (fun wz => ∃ g : LaterF (fun k => v.vca.rowBlock = some k) W2, wz = g.W) [15, 0] 19 (by kernel_rfl) (by kernel_rfl) (laterF_in (Only.drew (Only.refl _ _))) ?_
      simp only [cutSteps, List.take_succ_cons, List.take_zero, List.drop_succ_cons, List.drop_zero, wpSteps]
      repeat (first | go_big_quiet_skip | (go_big_quiet_want; go_big_quiet_op; go_big_quiet_on))
      refine wpQuiet_nil ?_
      go_wp2_with fail
      try unfold Strict
      refine ⟨?_, ?_⟩
      · exact laterF_in (((Only.refl _ _).drew).alloc _)
      repeat (first | go_big_quiet_skip | (go_big_quiet_want; go_big_quiet_op; go_big_quiet_on))
      refine wpQuiet_nil ?_
      go_wp2_with (at_builtin; refine wpList_append_row _ rfl _ _ 37 rfl base 50 i0 _ 9 72 Try.underlying37 HII.out HZ0.out HZ1.out HZ2.out rfl v.vca st.calls.length (cals st.calls) rfl (HC.out.drew.alloc _) _ 1 _ rfl (World.Src.one rfl rfl) S1.out S2.out S3.out (by have := HM2.out.base_le; simp; omega) ?_; intro v' w3 hown hout; obtain ⟨o', c', rfl, hn', hm'⟩ := hown.form; have HWN := Lib.hid hown; have HOU := Lib.hid hout; clear hown hout hm')
      try unfold Strict
      refine ⟨?_, ?_⟩
      · exact laterF_in (((((Only.refl _ _).drew).alloc _).trans (Only.out HOU.out (fun k hk => hk)) (fun _ h => .inl h)))
      repeat (first | go_big_quiet_skip | (go_big_quiet_want; go_big_quiet_op; go_big_quiet_on))
      refine wpQuiet_nil ?_
      have hx3 := HOU.out.block (k := xb) (by have := plt; simp; omega) hnx
      obtain ⟨p0, p1, p2, p3, p4, p5, p6, p7, p8, p9, p10, pz, plt2⟩ := HM2.out.head
      have r10 : w3.cell? ⟨xb, 10, none⟩ = some v.vca := by
        rw [World.cell?_of_block hx3]
        exact (HM2.out.drew.alloc _).head.2.2.2.2.2.2.2.2.2.2.1
      have rz : ∀ j, w3.frozen? ⟨xb, j, none⟩ = false := fun j => by
        rw [World.frozen?_of_block hx3]
        exact (HM2.out.drew.alloc _).head.2.2.2.2.2.2.2.2.2.2.2.1 j
      have rlt : xb < w3.heap.size := Nat.lt_of_lt_of_le (by have := plt; simp; omega) HOU.out.size
      clear p0 p1 p2 p3 p4 p5 p6 p7 p8 p9 p10 pz plt2 hx3 f0 f1 f2 f3 f4
      go_wp2
      go_ret
      obtain ⟨v4, k1, k2, k3, e3, e4⟩ := MachAt.app_call (x := ⟨n, a1, a2, a3, st.moves, -1, -1, 0, 0⟩) (HM2.out.drew.alloc _) HON.out HWN.out HOU.out
      have hsz := HO2.out.size
      have hFn : ∀ k, F' k → ¬ v.own xb k := fun k hk ho => by
        rcases HFF.out k hk with h1 | h1
        · exact H.sep k h1 ho
        · have := (H.m.lt k ho).2; simp at h1; omega
      have hFl : ∀ k, F' k → k < W2.heap.size := fun k hk => (hK.lt HAT2.out k hk).2
      have hFs : ∀ k, F' k → F k ∨ w.heap.size ≤ k := fun k hk => by
        rcases HFF.out k hk with h1 | h1
        · exact .inl h1
        · simp at h1; exact .inr (by omega)
      have hsz2 : (W2.drew.alloc (.cells #[.int .i64 (n : Int), .int .i64 a1, .int .i64 a2, .int .i64 a3, .int .i64 st.moves, .int .i64 (-1), .int .i64 (-1), .int .i64 0, .int .i64 0] 50)).heap.size = W2.heap.size + 1 := by simp
      refine .inr ⟨t, .iface ty tx, HMKE.out, rfl, v4, F', ⟨k1, ?_, ?_, ?_, ?_⟩, ?_, ?_, hFs, e3, e4⟩
      · rw [e4]
        refine hK.loc HAT2.out fun k hk => ?_
        rw [k2.block k (by rw [hsz2]; have := hFl k hk; omega) (hFn k hk)]
        exact Below.heap_alloc W2.drew _ _ (hFl k hk)
      · intro k hk ho
        rcases k3 k ho with h1 | h1
        · exact hFn k hk h1
        · rw [hsz2] at h1; have := hFl k hk; omega
      · show (st.seats.set n _).map Seat.task = _
        rw [List.map_set, H.tasks]
      · simp [H.len]
      · exact (((HO2.out.drew).alloc _).trans k2 (fun k hk => .inl (.inl hk)))
      · intro k ho
        rcases k3 k ho with h1 | h1
        · exact .inl h1
        · rw [hsz2] at h1; exact .inr (by omega)
end
end Go.Proofs.Ytjcggokhminmoaa
