/-
reclaimref03: New, for the machine's own calls.
-/
import Derived.Test.YtbhbpfpggfcpgaaQRmU
namespace Go.Proofs.Ytbhbpfpggfcpgaa
open Go.ChangeShapes Go.WideShapes Go.ChangeAt Go.RowKit Go.Shelf

set_option maxRecDepth 100000 in
set_option maxHeartbeats 2000000 in
theorem rNew_any {w0 w : World} {l : List Int} {vx vc ve : Value} (n : Nat) (hx : w.Src 1 vx l.length (u64s l)) (hl : l.length ≤ 8192) (hc : w.RowV w0.heap.size 143 6 vc ownCode.length (ownCode.flatMap Ins.cells)) (he : w.RowV w0.heap.size 145 3 ve ownEnts.length (ownEnts.flatMap Ent.cells)) (hne : ∀ k, ve.rowBlock = some k → vc.rowBlock ≠ some k) (h1 : 1 ≤ n) (h16 : n ≤ 16) (hsz : w0.heap.size ≤ w.heap.size) :
    Calls Try.prog 34 #[.agg #[.int .i64 (n : Int), .int .i64 0, .int .i64 0, .int .i64 0, .int .i64 0, .int .i64 0, .int .i64 0], .int .i64 0, vx, vc, ve] w fun e w' => ∃ mb, e = .returned (.pointer (some ⟨mb, 0, none⟩)) ∧ NewI w0 w vc ve n l mb ownLabels (List.replicate n RT.new) w' := by
  have HC := Lib.hid hc
  have HE := Lib.hid he
  have HNE := Lib.hid hne
  obtain ⟨gc, cc, rfl, c1, c2, c3, c4, c5, c6⟩ := hc.some_form (show 0 < ownCode.length by decide)
  have hcm : cc ≤ maxLen := by obtain ⟨o, c, e2, _, h2⟩ := hc.form; cases e2; exact h2
  obtain ⟨oe, ce, rfl, _, _⟩ := he.form
  obtain ⟨i1, ii1, iz10, iz11, iz12⟩ := info_parts infoU64
  have II1 := Lib.hid ii1
  have IZ10 := Lib.hid iz10
  have IZ11 := Lib.hid iz11
  have IZ12 := Lib.hid iz12
  have HX := Lib.hid hx
  have HSZ := Lib.hid hsz
  have SO1 := Lib.hid (u64s_one l)
  have SL1 := Lib.hid (show 0 + l.length ≤ maxLen by unfold maxLen; omega)
  have SB1 := Lib.hid (show ((0 + l.length) + (0 + l.length) / 4 + 192) * 8 ≤ 281474976710656 by omega)
  have C6 := Lib.hid c6
  have hlc : ownCode.length = 13 := rfl
  rw [hlc] at c1 ⊢
  unfold maxLen at hcm
  clear hsz ii1 iz10 iz11 iz12 hx hc he hne c2 c4 c5 c6 hlc
  go_enter Try.func34, Try.ntmps34
  go_upto_region 1 with (fail)
  refine gen_world ?_
  intro W0 hW0
  have HW0 : Hid (Only (fun _ => False) w W0) := Lib.hid (by rw [hW0]; exact (Only.refl _ w).alloc _)
  have hb5 : W0.heap[w.heap.size]? = some (.cells #[.int .i64 (n : Int), .int .i64 0, .int .i64 0, .int .i64 0, .int .i64 0, .int .i64 0, .int .i64 0] 82 (0, 0)) := by rw [hW0]; exact heap_alloc_new w _
  have hl5 := (Array.getElem?_eq_some_iff.1 hb5).1
  have k0 : W0.cell? ⟨w.heap.size, 0, none⟩ = some (.int .i64 (n : Int)) := by simp [World.cell?, hb5]
  have k1 : W0.cell? ⟨w.heap.size, 1, none⟩ = some (.int .i64 0) := by simp [World.cell?, hb5]
  have k2 : W0.cell? ⟨w.heap.size, 2, none⟩ = some (.int .i64 0) := by simp [World.cell?, hb5]
  have k3 : W0.cell? ⟨w.heap.size, 3, none⟩ = some (.int .i64 0) := by simp [World.cell?, hb5]
  have k4 : W0.cell? ⟨w.heap.size, 4, none⟩ = some (.int .i64 0) := by simp [World.cell?, hb5]
  have k5 : W0.cell? ⟨w.heap.size, 5, none⟩ = some (.int .i64 0) := by simp [World.cell?, hb5]
  have k6 : W0.cell? ⟨w.heap.size, 6, none⟩ = some (.int .i64 0) := by simp [World.cell?, hb5]
  have q0 := fun q : LaterF (fun _ => False) W0 => q.cell k0 hl5 (fun x => x)
  have q1 := fun q : LaterF (fun _ => False) W0 => q.cell k1 hl5 (fun x => x)
  have q2 := fun q : LaterF (fun _ => False) W0 => q.cell k2 hl5 (fun x => x)
  have q3 := fun q : LaterF (fun _ => False) W0 => q.cell k3 hl5 (fun x => x)
  have q4 := fun q : LaterF (fun _ => False) W0 => q.cell k4 hl5 (fun x => x)
  have q5 := fun q : LaterF (fun _ => False) W0 => q.cell k5 hl5 (fun x => x)
  have q6 := fun q : LaterF (fun _ => False) W0 => q.cell k6 hl5 (fun x => x)
  have HB5 := Lib.hid hb5
  clear k0 k1 k2 k3 k4 k5 k6 hW0 hb5
  go_wp2
  refine wp_region_plan (fun wz => ∃ q : LaterF (fun _ => False) W0, wz = q.W) [2, 6] [0, 1, 3, 4] (.fork 2 [] (.tail 5) .none) oper0 (by kernel_rfl) (by kernel_rfl) (laterF_in (Only.refl _ _).drew) ?_
  simp only [wpPlan, List.map_cons, List.map_nil, List.getD_cons_zero, List.getD_cons_succ, List.drop_succ_cons, List.drop_zero]
  repeat (first | go_big_quiet_skip | (go_big_quiet_want; go_big_quiet_op; go_big_quiet_on))
  refine wpQuiet_nil ?_
  refine ⟨?_, trivial⟩
  go_wp2_with (at_builtin; refine wpList_append_row _ rfl _ _ 28 rfl W0.heap.size 27 i1 _ 1 8 Try.underlying28 II1.out IZ10.out IZ11.out IZ12.out rfl (.slice none 0 0) 0 [] rfl (World.RowV_none _ _ _ _ _) _ l.length (u64s l) rfl ((HX.out.of_block (fun k hk => HW0.out.block k hk (fun x => x))).drew) SO1.out SL1.out SB1.out (Nat.le_refl _) ?_; intro v1 w1 hown hout; obtain ⟨oo1, cc1, rfl, _, _⟩ := hown.form; simp only [Nat.zero_add, List.nil_append] at hown; have R1 := Lib.hid hown; have O1 := Lib.hid (show Only (fun _ => False) W0 w1 from Only.trans (Only.refl _ _).drew (Only.out (F := fun _ => False) hout (by simp [Value.rowBlock])) (fun _ h => h.elim)); clear hown hout)
  refine strict_on ?_
  refine ⟨?_, ?_⟩
  · exact laterF_in (by repeat (first | exact O1.out | apply Only.drew))
  repeat (first | go_big_quiet_skip | (go_big_quiet_want; go_big_quiet_op; go_big_quiet_on))
  refine wpQuiet_nil ?_
  go_upto_region 2 with (fail)
  refine gen_world ?_
  intro W2 hW2
  have HN : Hid (NewI w0 w (.slice (some ⟨gc, 0, none⟩) 13 cc) (.slice oe ownEnts.length ce) n l w1.heap.size [] [] W2) := Lib.hid (by
    have hz : w.heap.size < w1.heap.size := Nat.lt_of_lt_of_le hl5 O1.out.size
    have ow1 : Only (fun _ => False) w w1 := HW0.out.trans O1.out (fun _ x => x.elim)
    have ow : Only (fun _ => False) w W2 := by rw [hW2]; repeat (first | exact ow1 | apply Only.alloc | apply Only.drew)
    have o12 : Only (fun _ => False) w1 W2 := by rw [hW2]; repeat (first | exact Only.refl _ _ | apply Only.alloc | apply Only.drew)
    have hzw : w.heap.size ≤ W0.heap.size := HW0.out.size
    refine ⟨freshV w1.heap.size (.slice oo1 l.length cc1) (.slice (some ⟨gc, 0, none⟩) 13 cc) (.slice oe ownEnts.length ce), ⟨RMAt.fresh ?_ (by have := HSZ.out; omega) ?_ (HC.out.of_block fun k hk => ow.block k (HC.out.lt k hk).2 (fun x => x)) (HE.out.of_block fun k hk => ow.block k (HE.out.lt k hk).2 (fun x => x)) ?_ ?_ ?_ ?_ ?_, ow, ?_, hz, ?_, rfl, rfl⟩⟩
    · rw [hW2]; exact heap_alloc_new _ _
    · exact (R1.out.of_block fun k hk => o12.block k (R1.out.lt k hk).2 (fun x => x)).base_mono (by have := HSZ.out; omega)
    · intro e; have := (R1.out.lt _ e).2; omega
    · intro e; have := (HC.out.lt _ e).2; omega
    · intro e; have := (HE.out.lt _ e).2; omega
    · intro k e e2; have := (HC.out.lt _ e).2; have := (R1.out.lt _ e2).1; omega
    · intro k e; exact ⟨fun e2 => by have := (HE.out.lt _ e).2; have := (R1.out.lt _ e2).1; omega, HNE.out k e⟩
    · rw [(o12.block _ hz (fun x => x)), (O1.out.block _ hl5 (fun x => x))]; exact HB5.out
    · intro i hi n1 n3 k hk
      by_cases e : i = 0
      · subst e
        have h2 : (Value.slice oo1 l.length cc1).rowBlock = some k := hk
        have := (R1.out.lt k h2).1
        omega
      · simp only [freshV, if_neg e, if_neg n1, if_neg n3] at hk
        cases hk)
  clear hW2 R1 O1 q0 q1 q2 q3 q4 q5 q6 HB5 HX SO1 SL1 SB1 II1 IZ10 IZ11 IZ12
  generalize w1.heap.size = mb at HN ⊢
  go_wp2
  go_loopg [27] 13 (fun g sl wr => ∃ k : Nat, k ≤ 13 ∧ 13 ≤ k + g ∧ sl = .int .i64 (k : Int) ∧ Hid (NewI w0 w (.slice (some ⟨gc, 0, none⟩) 13 cc) (.slice oe ownEnts.length ce) n l mb (labAt k) [] wr))
  case atStart => exact ⟨0, by omega, by omega, by go_num, HN⟩
  case round =>
    obtain ⟨k, hk1, hk2, rfl, hI⟩ := hrel
    by_cases hlt : k < 13
    · have hd13 : decide ((k : Int) < 13) = true := by simp; omega
      obtain ⟨⟨kd, a, b, c, d, tgt⟩, hx1, ha1, ha2⟩ := code_facts k hlt
      obtain ⟨v, hV⟩ := hI.out
      have hw := hV.only
      have hlo := (List.getElem?_eq_some_iff.1 hx1).1
      have hcg : ∀ j u, (Ins.cells ⟨kd, a, b, c, d, tgt⟩)[j]? = some u → j < 6 → wr.cell? ⟨gc, k * 6 + j, none⟩ = some u := fun j u hu hj => (hw.cellAt (p := ⟨gc, k * 6 + j, none⟩) c3 (fun x => x)).trans (C6.out _ u (by rw [code_get ownCode k j hlo hj, (List.getElem?_eq_some_iff.1 hx1).2]; exact hu))
      have m0 := hcg 0 _ rfl (by omega)
      have m1 := hcg 1 _ rfl (by omega)
      have m2 := hcg 2 _ rfl (by omega)
      have m3 := hcg 3 _ rfl (by omega)
      have m4 := hcg 4 _ rfl (by omega)
      have m5 := hcg 5 _ rfl (by omega)
      simp only [Nat.add_zero] at m0
      have hbr : gc < wr.heap.size := Nat.lt_of_lt_of_le c3 hw.size
      have HV := Lib.hid hV
      have HX1 := Lib.hid hx1
      clear hcg hI hw hV hx1 HN hlo
      simp only at ha1 ha2
      go_upto_region 5 with (fail)
      refine gen_world ?_
      intro W3 hW3
      have hi3 : W3.heap[wr.heap.size]? = some (.cells #[.int .i64 kd, .int .i64 a, .int .i64 b, .int .i64 c, .int .i64 d, .int .i64 tgt] 143 (0, 0)) := by rw [hW3]; exact heap_alloc_new wr _
      have HV3 : Hid (NewC w0 w (.slice (some ⟨gc, 0, none⟩) 13 cc) (.slice oe ownEnts.length ce) n l mb (labAt k) [] v W3) := Lib.hid (HV.out.keep (by rw [hW3]; exact (Only.refl _ wr).alloc _))
      have hno : ¬ v.own mb wr.heap.size := fun e => by have := (HV.out.at'.lt _ e).2; omega
      clear hW3 m0 m1 m2 m3 m4 m5 hbr HV
      generalize wr.heap.size = bi at *
      have k0 : W3.cell? ⟨bi, 0, none⟩ = some (.int .i64 kd) := by simp [World.cell?, hi3]
      have hl3 := (Array.getElem?_eq_some_iff.1 hi3).1
      obtain ⟨an, rfl⟩ : ∃ an : Nat, a = (an : Int) := ⟨a.toNat, by omega⟩
      have HI3 := Lib.hid hi3
      have HNO := Lib.hid hno
      clear hi3 hno
      by_cases hkd : kd = 10
      · subst hkd
        have HY := Lib.hid (labAt_yes HX1.out)
        have HL0 : Hid (LabC w0 w (.slice (some ⟨gc, 0, none⟩) 13 cc) (.slice oe ownEnts.length ce) n l mb (labAt k) an bi _ (labAt k) v W3) := Lib.hid ⟨HV3.out, rfl, labAt_len k (by omega), HI3.out, HNO.out⟩
        clear HX1 HI3 HV3 HNO
        go_wp2
        go_loopg [] (an + 1) (fun g wx => ∃ (lb : List Int) (v2 : RMV), an + 1 ≤ lb.length + g ∧ Hid (LabC w0 w (.slice (some ⟨gc, 0, none⟩) 13 cc) (.slice oe ownEnts.length ce) n l mb (labAt k) an bi (.cells #[.int .i64 10, .int .i64 (an : Int), .int .i64 b, .int .i64 c, .int .i64 d, .int .i64 tgt] 143 (0, 0)) lb v2 wx))
        case atStart => exact ⟨_, _, by omega, HL0⟩
        case round =>
          obtain ⟨lb, v2, hg, hL⟩ := hrel
          have hal : an ≤ 3 := by omega
          obtain ⟨ol, cl, el, y1, y2⟩ := (hL.out.at'.at'.rows 2 (by omega)).form
          change v2.row 2 = .slice ol lb.length cl at el
          change lb.length ≤ cl at y1
          have b9 := hL.out.at'.at'.b9
          rw [el] at b9
          have lbm := (hL.out.at'.at'.lt mb (.inl rfl)).2
          have x1 : wr.cell? ⟨bi, 1, none⟩ = some (.int .i64 (an : Int)) := by simp [World.cell?, hL.out.blk]
          have lbi := (Array.getElem?_eq_some_iff.1 hL.out.blk).1
          have hll := hL.out.le
          unfold maxLen at y2
          have g9 := fun q : LaterF (fun _ => False) wr => q.cell b9 lbm (fun x => x)
          have gi := fun q : LaterF (fun _ => False) wr => q.cell x1 lbi (fun x => x)
          by_cases hle : lb.length ≤ an
          · have RT2 : Hid (wr.RowV w0.heap.size 3 1 (.slice ol lb.length cl) lb.length (ints lb)) := Lib.hid (by rw [← el]; exact hL.out.at'.at'.rows 2 (by omega))
            obtain ⟨i0, ii, iz0, iz1, iz2⟩ := info_parts infoIntR
            have HII := Lib.hid ii
            have HZ0 := Lib.hid iz0
            have HZ1 := Lib.hid iz1
            have HZ2 := Lib.hid iz2
            have EL := Lib.hid el
            have S1 := Lib.hid (show ∀ u ∈ [Value.int .i64 0], u.oneCell' = true by simp [Value.oneCell'])
            have S2 := Lib.hid (show lb.length + 1 ≤ maxLen by unfold maxLen; omega)
            have S3 := Lib.hid (show ((lb.length + 1) + (lb.length + 1) / 4 + 192) * 8 ≤ 281474976710656 by omega)
            have hbase : w0.heap.size ≤ wr.heap.size := Nat.le_trans hL.out.at'.at'.ge (Nat.le_of_lt lbm)
            have HLE := Lib.hid hle
            clear ii iz0 iz1 iz2 el
            go_wp2
            refine wp_region_plan (fun wz => ∃ q : LaterF (fun _ => False) wr, wz = q.W) [] [0, 1, 2, 3, 4, 5, 6] (.tail 7) oper0 (by kernel_rfl) (by kernel_rfl) (laterF_in (Only.refl _ _).drew) ?_
            simp only [wpPlan, List.map_cons, List.map_nil, List.getD_cons_zero, List.getD_cons_succ, List.drop_succ_cons, List.drop_zero]
            repeat (first | go_big_quiet_skip | (go_big_quiet_want; go_big_quiet_op; go_big_quiet_on))
            refine wpQuiet_nil ?_
            clear g9 gi
            go_wp2_with (at_builtin; refine wpList_append_row _ rfl _ _ 70 rfl w0.heap.size 3 i0 _ 1 8 Try.underlying70 HII.out HZ0.out HZ1.out HZ2.out rfl (.slice ol lb.length cl) lb.length (ints lb) rfl (by repeat (first | exact RT2.out | apply World.RowV.alloc | apply World.RowV.drew)) _ 1 _ rfl (by repeat (first | apply World.Src.drew | exact World.Src.one rfl rfl)) S1.out S2.out S3.out (by simp; omega) ?_; intro v' w5 hown hout; have HWN := Lib.hid hown; have hwo2 := hout; rw [← EL.out] at hwo2; have HFIN := Lib.hid (LabC.lab (hL.out.keep (by repeat (first | exact Only.refl _ _ | apply Only.alloc | apply Only.drew))) HLE.out hal hown hwo2); obtain ⟨d0, dz, dl⟩ := RMAt.aft (base := w0.heap.size) (mb := mb) (m := newM n l lb []) (v := v2) (i := 2) (by repeat (first | exact hL.out.at'.at' | apply RMAt.alloc | apply RMAt.drew)) (by omega) hwo2; clear hwo2 hout; have d9 := d0 9 _ rfl; have z9 := dz 9; obtain ⟨ov, cv, ev, _, _⟩ := hown.form; subst ev; clear d0 dz hown)
            go_roundg (an + 1 - (lb.length + 1))
            case measure => omega
            case rel => obtain ⟨v3, h3⟩ := HFIN.out; exact ⟨lb ++ [0], v3, by rw [List.length_append]; simp; omega, Lib.hid h3⟩
          · have HPF := Lib.hid ((padTo_full (by omega)).symm.trans hL.out.pad)
            obtain ⟨gl, cl2, el2, p1, p1', p2, p3, p4, p5, p6, p7⟩ := hL.out.at'.at'.row (i := 2) (by omega) (show 0 < lb.length by omega)
            change v2.row 2 = .slice (some ⟨gl, 0, none⟩) lb.length cl2 at el2
            obtain ⟨rfl, rfl⟩ : ol = some ⟨gl, 0, none⟩ ∧ cl = cl2 := by rw [el2] at el; cases el; exact ⟨rfl, rfl⟩
            have hgb : gl ≠ bi := fun e => hL.out.no (own_row (by omega) (e ▸ p4))
            obtain ⟨uo, huo⟩ : ∃ u, wr.cell? ⟨gl, an, none⟩ = some u := ⟨_, p6 an (.int .i64 (lb.getD an 0)) (by show (ints lb)[an]? = _; simp [ints, List.getD_eq_getElem?_getD, show an < lb.length by omega])⟩
            have zuo := p5 an
            have HPUT := Lib.hid ((hL.out.at'.keep (Only.refl _ _).drew.drew).put p4 (show an < lb.length by omega) (k : Int))
            clear el el2 p1 p1' p2 p4 p5 p6
            go_wp2
            refine wp_region_plan (fun wz => ∃ q : LaterF (fun _ => False) wr, wz = q.W) [] [0, 1, 2, 3, 4, 5, 6] (.tail 7) oper0 (by kernel_rfl) (by kernel_rfl) (laterF_in (Only.refl _ _).drew) ?_
            simp only [wpPlan, List.map_cons, List.map_nil, List.getD_cons_zero, List.getD_cons_succ, List.drop_succ_cons, List.drop_zero]
            repeat (first | go_big_quiet_skip | (go_big_quiet_want; go_big_quiet_op; go_big_quiet_on))
            refine wpQuiet_nil ?_
            go_upto_region 8 with (fail)
            refine wp_region_plan (fun wz => ∃ q : LaterF (fun _ => False) wr, wz = q.W) [8] [0, 1, 2, 3, 4, 5, 6] (.tail 7) oper0 (by kernel_rfl) (by kernel_rfl) (laterF_in (Only.refl _ _).drew.drew) ?_
            simp only [wpPlan, List.map_cons, List.map_nil, List.getD_cons_zero, List.getD_cons_succ, List.drop_succ_cons, List.drop_zero]
            repeat (first | go_big_quiet_skip | (go_big_quiet_want; go_big_quiet_op; go_big_quiet_on))
            refine wpQuiet_nil ?_
            clear g9 gi
            go_wp2
            go_roundg (13 - (k + 1))
            case measure => omega
            case rel => exact ⟨k + 1, by omega, by omega, by go_num, Lib.hid ⟨v2, by rw [HY.out, ← HPF.out]; exact HPUT.out⟩⟩
      · have e1 : decide (kd = 10) = false := by simpa using hkd
        have e2 : (kd == 10) = false := by simpa using hkd
        have HY := Lib.hid (labAt_no HX1.out hkd)
        have HIK : Hid (NewI w0 w (.slice (some ⟨gc, 0, none⟩) 13 cc) (.slice oe ownEnts.length ce) n l mb (labAt (k + 1)) [] W3) := Lib.hid ⟨v, by rw [HY.out]; exact HV3.out⟩
        clear HX1 HI3 HV3 HNO hkd
        go_wp2
        go_roundg (13 - (k + 1))
        case measure => omega
        case rel => exact ⟨k + 1, by omega, by omega, by go_num, HIK⟩
    · obtain rfl : k = 13 := by omega
      rw [labAt_end] at hI
      clear HN HC HE HNE C6
      go_wp2
      go_loopg [14] n (fun g sl wx => ∃ j : Nat, j ≤ n ∧ n ≤ j + g ∧ sl = .int .i64 (j : Int) ∧ Hid (NewI w0 w (.slice (some ⟨gc, 0, none⟩) 13 cc) (.slice oe ownEnts.length ce) n l mb ownLabels (List.replicate j RT.new) wx))
      case atStart => exact ⟨0, by omega, by omega, by go_num, hI⟩
      case round =>
        obtain ⟨j, hj1, hj2, rfl, hJ⟩ := hrel
        obtain ⟨v, hV⟩ := hJ.out
        have c0 : wr.cell? ⟨w.heap.size, 0, none⟩ = some (.int .i64 (n : Int)) := by simp [World.cell?, hV.cfg, cfgBlk]
        have c1 : wr.cell? ⟨w.heap.size, 1, none⟩ = some (.int .i64 0) := by simp [World.cell?, hV.cfg, cfgBlk]
        have c5 : wr.cell? ⟨w.heap.size, 5, none⟩ = some (.int .i64 0) := by simp [World.cell?, hV.cfg, cfgBlk]
        have lc := (Array.getElem?_eq_some_iff.1 hV.cfg).1
        by_cases hlt : j < n
        · obtain ⟨o4, c4, e4, y1, y2⟩ := (hV.at'.rows 4 (by omega)).form
          have RT4 := hV.at'.rows 4 (by omega)
          change wr.RowV w0.heap.size 149 658 (v.row 4) (List.replicate j RT.new).length (rts (List.replicate j RT.new)) at RT4
          change v.row 4 = .slice o4 (List.replicate j RT.new).length c4 at e4
          change (List.replicate j RT.new).length ≤ c4 at y1
          rw [e4] at RT4
          rw [new_len] at e4 y1
          rw [new_len] at RT4
          have HRT := Lib.hid RT4
          have b11 := hV.at'.b11
          rw [e4] at b11
          have E4 := Lib.hid e4
          have HV := Lib.hid hV
          have lbm := (hV.at'.lt mb (.inl rfl)).2
          obtain ⟨i0, z0, ii, iz0, iz1, iz2, iz3⟩ := infoThr'
          have HII := Lib.hid ii
          have HZ0 := Lib.hid iz0
          have HZ1 := Lib.hid iz1
          have HZ2 := Lib.hid iz2
          have HZ3 := Lib.hid iz3
          have S1 := Lib.hid thrCells_one
          have S2 := Lib.hid (show j + 1 ≤ maxLen by unfold maxLen; omega)
          have S3 := Lib.hid (show ((j + 1) + (j + 1) / 4 + 192) * 5360 ≤ 281474976710656 by omega)
          have hbase : w0.heap.size ≤ wr.heap.size := Nat.le_trans hV.at'.ge (Nat.le_of_lt lbm)
          have hj16 : decide ((j : Int) < (n : Int)) = true := by simp; omega
          unfold maxLen at y2
          clear hI hV hJ e4 RT4 ii iz0 iz1 iz2 iz3
          go_wp2_with (first | ((with_reducible refine at_buildR 149 ?_); refine wpList_buildTo rfl 149 _ rfl (some 72) rfl thrCells thr_built ?_) | (refine wpList_bsThr rfl ?_) | (at_builtin; refine wpList_append_row _ rfl _ _ 83 rfl w0.heap.size 149 i0 z0 658 5360 Try.underlying83 HII.out HZ0.out HZ1.out HZ2.out HZ3.out (.slice o4 j c4) j (rts (List.replicate j RT.new)) rfl (by repeat (first | exact HRT.out | apply World.RowV.alloc | apply World.RowV.drew)) _ 1 _ rfl (by repeat (first | apply World.Src.drew | exact srcThr _)) S1.out S2.out S3.out (by simp; omega) ?_; intro v' w5 hown hout; have hwo2 := hout; rw [← E4.out] at hwo2; have HFIN := Lib.hid (NewC.thr (a := RT.new) (HV.out.keep (by repeat (first | exact Only.refl _ _ | apply Only.alloc | apply Only.drew))) RT.new_ok (new_len j) hown hwo2); obtain ⟨d0, dz, dl⟩ := RMAt.aft (base := w0.heap.size) (mb := mb) (m := newM n l ownLabels (List.replicate j RT.new)) (v := v) (i := 4) (by repeat (first | exact HV.out.at' | apply RMAt.alloc | apply RMAt.drew)) (by omega) hwo2; clear hwo2 hout; have d11 := d0 11 _ rfl; have z11 := dz 11; obtain ⟨ov, cv, ev, _, _⟩ := hown.form; subst ev; clear d0 dz hown))
          go_roundg (n - (j + 1))
          case measure => omega
          case rel => exact ⟨j + 1, by omega, by omega, by go_num, by rw [List.replicate_succ']; exact HFIN.out⟩
        · obtain rfl : j = n := by omega
          have HV := Lib.hid hV
          clear hV hI
          go_wp2
          go_loopg [15] 1 (fun _ sl wx => sl = .int .i64 0 ∧ wx = wr)
          case atStart => exact ⟨by go_num, rfl⟩
          case round =>
            obtain ⟨rfl, rfl⟩ := hrel
            go_wp2
            go_loopg [17] 1 (fun _ sl wx => sl = .int .i64 0 ∧ wx = wr)
            case atStart => exact ⟨by go_num, rfl⟩
            case round =>
              obtain ⟨rfl, rfl⟩ := hrel
              go_wp2
              go_ret
              exact ⟨mb, rfl, hJ.out⟩
end Go.Proofs.Ytbhbpfpggfcpgaa
