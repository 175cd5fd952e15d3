/-
machine.Machine: step.
-/
import Derived.Test.YtjcggokhminmoaaQArU
namespace Go.Proofs.Ytjcggokhminmoaa
open Go.ChangeShapes Go.WideShapes Go.ChangeAt Go.RowKit

set_option maxRecDepth 100000 in
set_option maxHeartbeats 2000000 in
theorem step_any {K : Kits} (hK : KitsOk K) {w : World} {base xb : Nat} {st : MachS} {v : MachV} {vs : List Value} {s : K.S} {ts : List (Option K.T)} {F : Nat → Prop} (H : MK K w base xb st v vs s ts F)
    (hon : st.on = none) (th ci : Nat) (hth : th < st.seats.length) (hci : ci < st.calls.length) (se : Seat) (hse : st.seats[th]? = some se) (ca : Cal) (hca : st.calls[ci]? = some ca) (hlast : se.last = ci) (t : K.T) (ht : ts[th]? = some (some t)) (now : Int)
    (hf1 : st.d.mem.log.length ≤ 2000000000000) (hf2 : st.d.mem.ahead.length ≤ 2000000000000) (hf3 : st.d.shifts.length ≤ 2000000000000) :
    Calls Try.prog 42 #[.pointer (some ⟨xb, 0, none⟩), .int .i64 (th : Int), .int .i64 now] w fun e w' => e = .returned (.tuple #[]) ∧
      StepDone K w base xb v F (({ st with d := (K.r2 (K.r1 se.ready s t (st.d.first th now ca se))).2.2.1, on := some (ci, th), seats := st.seats.modify th fun x => { x with ready := true } } : MachS).stepped ci th now (K.r2 (K.r1 se.ready s t (st.d.first th now ca se))).2.2.2)
        (if (K.r2 (K.r1 se.ready s t (st.d.first th now ca se))).2.2.2 then vs.set th .nilIface else vs) (K.r2 (K.r1 se.ready s t (st.d.first th now ca se))).1
        (if (K.r2 (K.r1 se.ready s t (st.d.first th now ca se))).2.2.2 then ts.set th none else ts.set th (some (K.r2 (K.r1 se.ready s t (st.d.first th now ca se))).2.1)) w' := by
  obtain ⟨c0, c1, c2, c3, c4, c5, c6, c7, c8, c9, c10, z, lt⟩ := H.m.head
  obtain ⟨g, cap, e, hcap, hrb, hglt, hgx, gz, gc⟩ := H.m.seats_form hth
  obtain ⟨g2, cap2, e2, hcap2, hrb2, hglt2, hgx2, gz2, gc2⟩ := H.m.calls_form hci
  have hgg : g ≠ g2 := fun e => by have h1 := H.m.ce _ hrb; have h2 := H.m.cc _ hrb2; rw [e, h2] at h1; cases h1
  have hs2 := gc 2 (by decide)
  have esn : st.seatsNow = st.seats := by unfold MachS.seatsNow; rw [hon]
  simp only [esn] at hs2
  replace hs2 : w.cell? ⟨g, th * 5 + 2, none⟩ = some (.int .i64 (ci : Int)) := by rw [hs2, (List.getElem?_eq_some_iff.1 hse).2]; simp [Seat.cells, hlast]
  obtain ⟨st1, HE⟩ : ∃ st1, Hid (st1 = { st with d := { (st.d.fresh th now st.calls[ci] st.seats[th]) with mem := { st.d.mem with move := now } }, on := some (ci, th) }) := ⟨_, Lib.hid rfl⟩
  have HB := Lib.hid ((H.m.begin hon hci hth th now hrb hrb2).drew)
  have HBO := Lib.hid (show Only (v.own xb) w (((((w.setCell ⟨xb, 1, none⟩ (.int .i64 th)).setCell ⟨xb, 2, none⟩ (.int .i64 now)).setCell ⟨xb, 5, none⟩ (.bool false)).setCell ⟨xb, 3, none⟩ (.pointer (some ⟨g2, ci * 9, none⟩))).setCell ⟨xb, 4, none⟩ (.pointer (some ⟨g, th * 5 + 3, none⟩))).drew from
    ((((((Only.refl _ _).set (.inl (.inl rfl)) _).set (.inl (.inl rfl)) _).set (.inl (.inl rfl)) _).set (.inl (.inl rfl)) _).set (.inl (.inl rfl)) _).drew)
  have HH := Lib.hid H
  have HR := Lib.hid hrb
  have HR2 := Lib.hid hrb2
  have HT := Lib.hid ht
  have Hth := Lib.hid hth
  have Hci := Lib.hid hci
  have EV := Lib.hid e2
  rw [e] at c8
  rw [e2] at c10
  have HSE := Lib.hid hse
  have HCA := Lib.hid hca
  clear gc gc2 e e2 c6 c7 c9 esn hrb hrb2 ht
  have HE1 : Hid (st1.d = st.d.first th now ca se) := Lib.hid (by rw [HE.out]; unfold DeskS.first; rw [(List.getElem?_eq_some_iff.1 hse).2, (List.getElem?_eq_some_iff.1 hca).2])
  obtain ⟨rdy, hrdy⟩ : ∃ r, Hid (se.ready = r) := ⟨_, Lib.hid rfl⟩
  obtain ⟨R, hR⟩ : ∃ R, Hid (K.r2 (K.r1 se.ready s t (st.d.first th now ca se)) = R) := ⟨_, Lib.hid rfl⟩
  rw [hR.out]
  go_enter Try.func42, Try.ntmps42
  go_upto_region 3 with (fail)
  go_region
  go_wp2_with (go_at_call 67; fail)
  refine (now_mem HB.out.mem now).mono ?_
  rintro e w1 ⟨rfl, hm, ho⟩
  have HI0 := InStep.begin hK HH.out now HB.out HBO.out hm ho rfl ⟨rfl, Hci.out, Hth.out⟩
  replace HI0 : (∃ v1, MachAt w1 base xb st1 v1 ∧ v1.vse = v.vse ∧ v1.vca = v.vca) ∧ InStep K w base xb v vs F w1.heap.size ci th st1 s ts (w1.alloc (.cells #[.pointer (some ⟨xb, 0, none⟩)] 166)) := by rw [HE.out]; exact HI0
  obtain ⟨⟨v1, hv1, ev1, ev2⟩, hI⟩ := HI0
  have HI := Lib.hid hI
  obtain ⟨⟨s0, s1, s2, s3, s4, sz, slt⟩, ⟨k5, k7, k8, kz, klt⟩, ⟨x10, x3, x4, xz, xlt⟩, n1, n2, n3⟩ := hv1.stepFacts hI.on (by rw [ev1]; exact HR.out) (by rw [ev2]; exact HR2.out) (se := se) (ca := ca) (by rw [HE.out]; exact hse) (by rw [HE.out]; exact hca)
  clear hm ho hI hv1 ev1 ev2 c0 c1 c2 c3 c4 c5 c8 c10 hs2 lt z hglt gz gz2 hglt2 s2 s3 s4 k5 k7 k8 x10 x3 x4
  rw [hrdy.out] at s1
  go_upto_if 61 with (fail)
  have HF1 := Lib.hid (show st1.d.Fits by rw [HE.out]; exact ⟨by show st.d.mem.log.length ≤ _; omega, by show st.d.mem.ahead.length ≤ _; omega, by show st.d.shifts.length ≤ _; omega⟩)
  have HSE1 := Lib.hid (show st1.seats[th]? = some se by rw [HE.out]; exact HSE.out)
  have HCA1 := Lib.hid (show st1.calls[ci]? = some ca by rw [HE.out]; exact HCA.out)
  obtain ⟨ty, tx, hty⟩ := hK.busy H.k th t HT.out
  have hset : Hid (se.task = .iface ty tx) := by
    refine Lib.hid ?_
    have : vs[th]? = some se.task := by rw [← H.tasks, List.getElem?_map, HSE.out]; rfl
    rw [hty] at this
    exact (Option.some.inj this).symm
  rw [hset.out] at s0
  clear hty hse hca
  go_cut [9] (fun over wx => over = .bool (K.r1 rdy s t st1.d).2.2.2 ∧ InStep K w base xb v vs F w1.heap.size ci th { (st1.withSeat th fun x => { x with ready := true }) with d := (K.r1 rdy s t st1.d).2.2.1 } (K.r1 rdy s t st1.d).1 (ts.set th (some (K.r1 rdy s t st1.d).2.1)) wx)
  case first =>
    cases rdy with
    | true =>
      go_wp2
      go_meet
      have e1 : (st1.withSeat th fun x => { x with ready := true }) = st1 := by
        unfold MachS.withSeat
        rw [modify_same st1.seats th _ (fun hi => by rw [(List.getElem?_eq_some_iff.1 HSE1.out).2, ← show se.ready = true from hrdy.out])]
      have e2 : ts.set th (some t) = ts := by
        apply List.ext_getElem?
        intro j
        rw [List.getElem?_set]
        split
        · subst_vars; rw [HT.out]; simp [(List.getElem?_eq_some_iff.1 HT.out).1]
        · rfl
      exact ⟨rfl, by rw [r1_true, e1]; simp only [e2]; exact HI.out⟩
    | false =>
      have HI2 := Lib.hid (HI.out.seat hK HR.out (j := 1) (by decide) (fun x => { x with ready := true }) (.bool true) (fun _ _ _ => rfl) (fun _ => rfl))
      have e1 : (w1.alloc (.cells #[.pointer (some ⟨xb, 0, none⟩)] 166)).setCell ⟨g, th * 5 + 1, none⟩ (.bool true) = (w1.setCell ⟨g, th * 5 + 1, none⟩ (.bool true)).alloc (.cells #[.pointer (some ⟨xb, 0, none⟩)] 166) := by
        rw [World.setCell_alloc_ite, if_neg (by omega)]
      rw [e1] at HI2
      have HRun := HI2.out.run_ready hK HT.out HF1.out (se := { se with ready := true }) (by show (st1.seats.modify th _)[th]? = _; rw [List.getElem?_modify, HSE1.out]; simp)
      rw [show ({ se with ready := true } : Seat).task = .iface ty tx from hset.out] at HRun
      have HRun' := Lib.hid HRun
      clear HRun e1
      go_wp2_with (refine wpList_invoke rfl _ _ _ _ rfl (.iface ty tx) (.pointer (some ⟨w1.heap.size, 0, none⟩)) rfl rfl _ HRun'.out ?_; rintro e w' ⟨rfl, hI⟩; refine ⟨_, rfl, ?_⟩; have HI3 := Lib.hid hI; clear hI)
      go_meet
      exact ⟨rfl, HI3.out⟩
  case rest =>
    clear s0 s1 sz slt kz klt xz xlt
    obtain ⟨rfl, hI⟩ := hcut
    obtain ⟨r, hr⟩ : ∃ r, Hid (K.r1 rdy s t st1.d = r) := ⟨_, Lib.hid rfl⟩
    rw [hr.out] at hI ⊢
    obtain ⟨s', t', d', o'⟩ := r
    simp only at hI
    obtain ⟨st2, HE2⟩ : ∃ st2, Hid (st2 = { (st1.withSeat th fun x => { x with ready := true }) with d := d' }) := ⟨_, Lib.hid rfl⟩
    rw [← HE2.out] at hI
    have HI1 := Lib.hid hI
    have HSE2 : Hid (st2.seats[th]? = some { se with ready := true }) := Lib.hid (by
      rw [HE2.out]
      show (st1.seats.modify th _)[th]? = _
      rw [List.getElem?_modify, HSE1.out]
      simp)
    have HCA2 : Hid (st2.calls[ci]? = some ca) := Lib.hid (by rw [HE2.out]; exact HCA1.out)
    have HF2 : Hid st2.d.Fits := Lib.hid (by
      rw [HE2.out]
      have hd0 : (K.r1 rdy s t st1.d).2.2.1 = d' := by rw [hr.out]
      have hfw := hK.few s t st1.d
      have hl1 : st1.d.mem.log.length = st.d.mem.log.length := by rw [HE.out]
      have hl2 : st1.d.mem.ahead.length = st.d.mem.ahead.length := by rw [HE.out]
      have hl3 : st1.d.shifts.length = st.d.shifts.length := by rw [HE.out]; rfl
      show d'.Fits
      rw [← hd0]
      cases rdy with
      | true => exact HF1.out
      | false =>
        rw [r1_false]
        refine ⟨?_, ?_, ?_⟩ <;> omega)
    have HT2 : Hid ((ts.set th (some t'))[th]? = some (some t')) := Lib.hid (by rw [List.getElem?_set]; simp [(List.getElem?_eq_some_iff.1 HT.out).1])
    obtain ⟨⟨s0, s1, s2, s3, s4, sz, slt⟩, ⟨k5, k7, k8, kz, klt⟩, ⟨x10, x3, x4, xz, xlt⟩, _⟩ := hI.facts HR.out HR2.out HSE2.out HCA2.out
    simp only [hset.out] at s0
    clear hI s1 s2 s3 s4 k5 k7 k8 x10 x3 x4
    go_upto_if 72 with (fail)
    go_cut [9] (fun over wx => over = .bool (K.r2 (s', t', d', o')).2.2.2 ∧ InStep K w base xb v vs F w1.heap.size ci th { st2 with d := (K.r2 (s', t', d', o')).2.2.1 } (K.r2 (s', t', d', o')).1 ((ts.set th (some t')).set th (some (K.r2 (s', t', d', o')).2.1)) wx)
    case first =>
      cases o' with
      | true =>
        go_wp2
        go_meet
        have e2 : (ts.set th (some t')).set th (some t') = ts.set th (some t') := by simp
        refine ⟨rfl, ?_⟩
        rw [show K.r2 (s', t', d', true) = (s', t', d', true) from rfl, e2, show ({ st2 with d := d' } : MachS) = st2 by rw [HE2.out]]
        exact HI1.out
      | false =>
        have HRun := HI1.out.run_step hK HT2.out HF2.out HSE2.out
        rw [show ({ se with ready := true } : Seat).task = .iface ty tx from hset.out] at HRun
        have HRun' := Lib.hid HRun
        clear HRun
        go_wp2_with (refine wpList_invoke rfl _ _ _ _ rfl (.iface ty tx) (.pointer (some ⟨w1.heap.size, 0, none⟩)) rfl rfl _ HRun'.out ?_; rintro e w' ⟨rfl, hI⟩; refine ⟨_, rfl, ?_⟩; have HI3 := Lib.hid hI; clear hI)
        go_meet
        rw [show K.r2 (s', t', d', false) = K.step s' t' d' from rfl]
        have ed : st2.d = d' := by rw [HE2.out]
        rw [ed] at HI3
        exact ⟨by rw [ed], HI3.out⟩
    case rest =>
      clear s0 sz slt kz klt xz xlt
      obtain ⟨rfl, hI⟩ := hcut
      obtain ⟨r, hr2⟩ : ∃ r, Hid (K.r2 (s', t', d', o') = r) := ⟨_, Lib.hid rfl⟩
      rw [hr2.out] at hI ⊢
      obtain ⟨s3, t3, d3, o3⟩ := r
      simp only [List.set_set] at hI
      obtain ⟨st3, HE3⟩ : ∃ st3, Hid (st3 = { st2 with d := d3 }) := ⟨_, Lib.hid rfl⟩
      rw [← HE3.out] at hI
      have HI2 := Lib.hid hI
      have HSE3 : Hid (st3.seats[th]? = some { se with ready := true }) := Lib.hid (by rw [HE3.out]; exact HSE2.out)
      have HCA3 : Hid (st3.calls[ci]? = some ca) := Lib.hid (by rw [HE3.out]; exact HCA2.out)
      obtain ⟨⟨s0, s1, s2, s3', s4, sz, slt⟩, ⟨k5, k7, k8, kz, klt⟩, ⟨x10, x3, x4, xz, xlt⟩, _⟩ := hI.facts HR.out HR2.out HSE3.out HCA3.out
      simp only [hset.out] at s0
      rw [show ({ se with ready := true } : Seat).last = ci from hlast] at s2
      rw [EV.out] at x10
      have hRR : R = (s3, t3, d3, o3) := by rw [← hR.out, ← HE1.out, hrdy.out, hr.out, hr2.out]
      subst hRR
      have hst3 : st3 = ({ st with d := d3, on := some (ci, th), seats := st.seats.modify th fun x => { x with ready := true } } : MachS) := by
        rw [HE3.out, HE2.out, HE.out]; rfl
      cases o3 with
      | true =>
        go_wp2
        go_region
        go_wp2
        go_region
        go_wp2
        go_end0
        refine ⟨rfl, ?_⟩
        rw [← hst3]
        have ed : st3.d = d3 := by rw [HE3.out]
        have D1 := HI2.out.call hK HR2.out (j := 5) (by decide) (fun c => { c with en := now }) (.int .i64 now) (fun _ _ => rfl)
        have D2 := D1.call hK HR2.out (j := 7) (by decide) (fun c => { c with ak := st3.d.ak }) (.int .i64 st3.d.ak) (fun _ _ => rfl)
        have D3 := D2.call hK HR2.out (j := 8) (by decide) (fun c => { c with av := st3.d.av }) (.int .i64 st3.d.av) (fun _ _ => rfl)
        have D4 := (((D3.gone hK HR.out).done hK).drew hK).drew hK
        rw [← ed]
        rw [List.set_set] at D4
        exact D4
      | false =>
        go_wp2
        go_end0
        refine ⟨rfl, ?_⟩
        rw [← hst3]
        exact HI2.out.done hK
end Go.Proofs.Ytjcggokhminmoaa
