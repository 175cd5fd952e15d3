/-
MachineIdle returns true.
-/
import Derived.Test.YtbhbpfpggfcpgaaIdI
import Derived.Test.YtbhbpfpggfcpgaaPln
namespace Go.Proofs.Ytbhbpfpggfcpgaa
open Go.ChangeShapes Go.WideShapes Go.ChangeAt Go.RowKit Go.Shelf

set_option maxRecDepth 100000 in
set_option maxHeartbeats 4000000 in
theorem idle_walk {w : World} {v : Value} {th : Int} {l : List Int} {ms : List Mv} {ox : Option Addr} {cx : Nat} {om : Option Addr} {cm : Nat} (h : ScrIn w v th l ms ox cx om cm) : Calls Try.prog 10 #[v] w fun e w' => e = .returned (.bool true) ∧ Below w.heap.size w w' := by
  have HSI := Lib.hid h
  obtain ⟨rfl, hs0, hm0, hx0, hy0⟩ := h
  obtain ⟨l1, hl1⟩ : ∃ l1, l1 = l.take 8192 := ⟨_, rfl⟩
  obtain ⟨ms1, hms1⟩ : ∃ ms1, ms1 = ms.take 65536 := ⟨_, rfl⟩
  obtain ⟨o, ho⟩ : ∃ o, o = osOf l1 (fitN th) ms1 := ⟨_, rfl⟩
  have hml : ms1.length ≤ 65536 := by rw [hms1]; simp; omega
  have HINV : Hid (OS.Inv l1 (fitN th) ms1 o) := Lib.hid (by rw [ho]; exact inv_of _ _ _ hml)
  have HCL : Hid (o.calls.length ≤ 65536) := Lib.hid (by rw [ho]; exact calls_le _ _ _ hml)
  have HLL : Hid (o.log.length ≤ 65536) := Lib.hid (by rw [ho]; exact log_le _ _ _ hml)
  have HWL : Hid (o.words.length = l1.length) := Lib.hid HINV.out.wlen
  have hR : ownRun l1 (fitN th) ms1 = ⟨o.calls, o.log, [], o.words⟩ := by rw [ho]; exact own_os _ _ _
  have HPL : Hid (∀ S0 : Obj, Calls Try.prog 27 #[.agg #[.int .i64 th, .slice ox l.length cx, .slice om ms.length cm]] (w.alloc S0) (fun e w' => ∃ x : RunVs, e = .returned (.tuple #[.agg #[.int .i64 (fitN th : Int), .slice ox l1.length cx, .slice om ms1.length cm], x.v, .bool true]) ∧ RunAt w' (w.alloc S0).heap.size x ⟨o.calls, o.log, [], o.words⟩ ∧ Only (fun _ => False) (w.alloc S0) w')) := Lib.hid (fun S0 => by
    rw [← hR, hl1, hms1]
    exact played_ok ⟨rfl, hs0.alloc _, hm0.only ((Only.refl _ _).alloc _), hx0, hy0⟩)
  have hs1 : w.Src 1 (.slice ox l1.length cx) l1.length (u64s l1) := by
    have := hs0.take hx0.2.2 8192
    rw [show min l.length 8192 = (l.take 8192).length by simp; omega, ← hl1] at this
    exact this
  have hm1 : MvsIn w (.slice om ms1.length cm) ms1 := by
    have := hm0.take 65536
    rw [show min ms.length 65536 = (ms.take 65536).length by simp; omega, ← hms1] at this
    exact this
  have hll : l1.length ≤ 8192 := by rw [hl1]; simp; omega
  have HS1 := Lib.hid hs1
  have HM1 := Lib.hid hm1
  have HO := Lib.hid ho
  clear hs0 hm0 hx0 hy0 hl1 hms1 hs1 hm1 HSI hR ho
  go_enter Try.func10, Try.ntmps10
  go_upto_region 2 with (go_at_call 27; refine (HPL.out _).mono ?_; rintro e w1 ⟨⟨va, vt, vb, vc⟩, he, hra, ho⟩; obtain ⟨oa, ca, e1, a1, a2⟩ := hra.wa.form; obtain ⟨ot, ct, e2, t1, t2⟩ := hra.wt.form; obtain ⟨ob, cb, e3, _, _⟩ := hra.wb.form; obtain ⟨oc, cc, e4, c1, c2⟩ := hra.wc.form; simp only [List.length_nil] at e1 e2 e3 e4; rw [HWL.out] at e4; subst e1; subst e2; subst e3; subst e4; (unfold RunVs.v at he); subst he; have HRA := Lib.hid hra; clear hra; obtain ⟨os, d, rfl⟩ := (Only.below ho (fun _ h => h.elim) (Nat.le_refl _)).more; clear ho)
  refine gen_world ?_
  intro W hW
  have HL : Hid (LawW w W w.heap.size (w.heap.size + 1 + os.size) (fitN th) l1 ms1 ox cx om cm ⟨.slice oa o.calls.length ca, .slice ot o.log.length ct, .slice ob 0 cb, .slice oc l1.length cc⟩ ⟨o.calls, o.log, [], o.words⟩) := Lib.hid (by
    rw [hW]; exact LawW.of HRA.out HS1.out HM1.out)
  obtain ⟨Br, hBr⟩ : ∃ Br, Br = w.heap.size + 1 + os.size := ⟨_, rfl⟩
  obtain ⟨Bs, hBs⟩ : ∃ Bs, Bs = w.heap.size := ⟨_, rfl⟩
  rw [← hBr, ← hBs] at HL ⊢
  clear hW HRA hBr hBs HS1 HM1 HPL
  obtain ⟨s0, s1, s2, sl⟩ := HL.out.scells
  obtain ⟨r0, r1, r2, r3, rl⟩ := HL.out.rcells
  simp only at r0 r1 r2 r3
  have HML := Lib.hid hml
  obtain ⟨n, hn⟩ : ∃ n, n = fitN th := ⟨_, rfl⟩
  have HFN := Lib.hid (show 1 ≤ n ∧ n ≤ 16 by rw [hn]; exact fitN_ok th)
  rw [← hn] at HL s0 HINV HO ⊢
  have HNN := Lib.hid hn
  clear hn
  have f0 := fun g : LaterF (fun _ => False) W => g.cell s0 sl (fun x => x)
  have f1 := fun g : LaterF (fun _ => False) W => g.cell s1 sl (fun x => x)
  go_upto_region 4 with (fail)
  go_wp2
  refine wp_region_plan (fun wz => ∃ g : LaterF (fun _ => False) W, wz = g.W) [7, 8] [0, 1, 2, 3, 4, 5, 6] (.fork 7 [] (.fork 8 [9, 10, 11, 12] (.tail 13) .none) .none) oper0 (by kernel_rfl) (by kernel_rfl) (laterF_in (Only.refl _ _).drew) ?_
  simp only [wpPlan, List.map_cons, List.map_nil, List.getD_cons_zero, List.getD_cons_succ, List.drop_succ_cons, List.drop_zero]
  repeat (first | go_big_quiet_skip | (go_big_quiet_want; go_big_quiet_op; go_big_quiet_on))
  refine wpQuiet_nil ?_
  refine ⟨?_, trivial⟩
  go_wp2_with (go_at_call 16; refine (own_at _).mono ?_; rintro e w1 ⟨kb, sb, tb, rfl, hk, ho⟩; have HK := Lib.hid hk; have HOK := Lib.hid ho; have HN := Lib.hid (newm_ok (w := w1) (km := some kb) n ((show W.drew.Src 1 (.slice ox l1.length cx) l1.length (u64s l1) from HL.out.src).only ho) hll HFN.out.1 HFN.out.2); clear hk ho)
  refine strict_on ?_
  refine ⟨?_, ?_⟩
  · exact laterF_in (show Only (fun _ => False) W _ from (Only.refl _ W).drew.trans HOK.out (fun _ x => x.elim))
  repeat (first | go_big_quiet_skip | (go_big_quiet_want; go_big_quiet_op; go_big_quiet_on))
  refine wpQuiet_nil ?_
  refine ⟨?_, trivial⟩
  go_wp2_with (go_at_call 15; refine HN.out.mono ?_; rintro e w2 ⟨xb, rfl, hna⟩; obtain ⟨Fn, hpm, hon⟩ := newAt_pm HK.out HOK.out hna; have HPM := Lib.hid hpm; have HON := Lib.hid hon; clear hna hpm hon)
  refine strict_on ?_
  refine ⟨?_, ?_⟩
  · exact laterF_in (show Only (fun _ => False) W _ from (Only.refl _ W).drew.trans HON.out (fun _ x => x.elim))
  repeat (first | go_big_quiet_skip | (go_big_quiet_want; go_big_quiet_op; go_big_quiet_on))
  refine wpQuiet_nil ?_
  have HPM1 : Hid (PMAt (ownK l1.length) w2 W.heap.size xb (PM.init (ownK l1.length) l1 n ()) (.map (some kb)) Fn) := Lib.hid HPM.out
  have HON1 : Hid (Only (fun _ => False) W w2) := Lib.hid ((Only.refl _ W).drew.trans HON.out (fun _ x => x.elim))
  have d2 := (HON1.out.cellAt (p := ⟨Bs, 2, none⟩) sl (fun x => x)).trans s2
  have d2l := Nat.lt_of_lt_of_le sl HON1.out.size
  clear HK HOK HN HPM HON f0 f1
  obtain ⟨i0, ii, iz0, iz1, iz2⟩ := info_parts infoInt'
  have HII := Lib.hid ii
  have HZ0 := Lib.hid iz0
  have HZ1 := Lib.hid iz1
  have HZ2 := Lib.hid iz2
  clear ii iz0 iz1 iz2
  have hm63 := HML.out
  go_wp2_with (at_make; refine wpList_make_full _ rfl _ _ 70 rfl W.heap.size 3 i0 (.int .i64 0) 1 Try.underlying70 HII.out HZ0.out HZ1.out _ _ _ _ (ms1.length + 1) rfl rfl rfl rfl (by rw [HZ2.out]; omega) (by unfold maxLen; omega) HON1.out.size ?_; intro w5 hown hg; have HN5 := Lib.hid (World.RowV.of_owns hown (by omega)); have HG5 := Lib.hid hg; have b0 := (World.cell?_of_block (HG5.out.block Bs d2l (fun e => by cases e))).trans d2; have brl := Nat.lt_of_lt_of_le d2l HG5.out.size; clear hown hg)
  rw [made_ints] at HN5
  have hnil : (Value.slice (some ⟨w2.heap.size, 0, none⟩) (ms1.length + 1) (ms1.length + 1)).rowBlock = some w2.heap.size := by simp [Value.rowBlock]
  obtain ⟨g8, hg8⟩ : ∃ g8, g8 = w2.heap.size := ⟨_, rfl⟩
  have HI0 : Hid (IdleI W w5 l1.length xb ((PM.init (ownK l1.length) l1 n ()).goes (ms1.take 0)) (.map (some kb)) Fn (.slice (some ⟨g8, 0, none⟩) (ms1.length + 1) (ms1.length + 1)) (ms1.length + 1) (numsL (numM l1 n ms1) ms1.length 0) (.slice none 0 0) (numM l1 n ms1 0) (mvsC (filM l1 n ms1 0))) := Lib.hid (by
    refine ⟨?_, ?_, World.RowV_none _ _ _ _ _, ?_, fun k _ h => (by simp [Value.rowBlock] at h), fun k _ h => (by simp [Value.rowBlock] at h), ?_⟩
    · exact HPM1.out.of_block (ownK_ok _) fun k hk => HG5.out.block k (HPM1.out.lt (ownK_ok _) k hk).2 (fun e => by cases e)
    · rw [numsL_zero, hg8]; exact HN5.out
    · intro k hk hv
      have := (HPM1.out.lt (ownK_ok _) k hk).2
      rw [hg8, hnil] at hv
      cases hv
      omega
    · exact HON1.out.trans (G := fun _ => False) ⟨HG5.out.os, HG5.out.tape, HG5.out.output, HG5.out.size, fun k hk _ => HG5.out.block k hk (fun e => by cases e)⟩ (fun _ x => x.elim))
  have hg8b : W.heap.size ≤ g8 := by rw [hg8]; exact HON1.out.size
  have HRB : Hid ((Value.slice (some ⟨g8, 0, none⟩) (ms1.length + 1) (ms1.length + 1)).rowBlock = some g8) := Lib.hid (by rw [hg8]; exact hnil)
  have HDID := Lib.hid (fun k (hk : k < ms1.length) => own_did l1 n (ms1.take k) ms1[k])
  have HGD := Lib.hid (fun k => own_good l1 n (ms1.take k) HFN.out.1 HFN.out.2)
  rw [← hg8]
  clear hnil hg8 HN5 HG5 HPM1 HON1 d2 d2l
  go_loopg [7, 52] ms1.length (fun gh s7 s52 wr => ∃ (k : Nat) (ov : Option Addr) (cv : Nat) (F : Nat → Prop), k ≤ ms1.length ∧ ms1.length ≤ k + gh ∧ s7 = .slice ov (numM l1 n ms1 k) cv ∧ s52 = .int .i64 (k : Int) ∧ numM l1 n ms1 k ≤ cv ∧ cv ≤ maxLen ∧
    Hid (IdleI W wr l1.length xb ((PM.init (ownK l1.length) l1 n ()).goes (ms1.take k)) (.map (some kb)) F (.slice (some ⟨g8, 0, none⟩) (ms1.length + 1) (ms1.length + 1)) (ms1.length + 1) (numsL (numM l1 n ms1) ms1.length k) (.slice ov (numM l1 n ms1 k) cv) (numM l1 n ms1 k) (mvsC (filM l1 n ms1 k))))
  case atStart => exact ⟨0, none, 0, Fn, by omega, by omega, rfl, by go_num, Nat.zero_le _, Nat.zero_le _, HI0⟩
  case round =>
    obtain ⟨k, ov, cv, F, hk1, hk2, rfl, rfl, hcv1, hcv2, hI⟩ := hrel
    by_cases hlt : k < ms1.length
    · have hfl := filM_le (l := l1) (n := n) (ms := ms1) k
      have hfl2 : numM l1 n ms1 k ≤ k := hfl
      obtain ⟨om', cm', e, g1, g2, g3⟩ := HL.out.mvs
      cases e
      obtain ⟨mb, moff, rfl, mlt, m0, m1, m2, m3⟩ := g3 k hlt
      replace m0 := (hI.out.on.cellAt (p := ⟨mb, _, none⟩) mlt (fun x => x)).trans m0
      replace m1 := (hI.out.on.cellAt (p := ⟨mb, _, none⟩) mlt (fun x => x)).trans m1
      replace m2 := (hI.out.on.cellAt (p := ⟨mb, _, none⟩) mlt (fun x => x)).trans m2
      replace m3 := (hI.out.on.cellAt (p := ⟨mb, _, none⟩) mlt (fun x => x)).trans m3
      have lmb := Nat.lt_of_lt_of_le mlt hI.out.on.size
      simp only [Nat.add_zero] at m0
      have HD1 := Lib.hid (HDID.out k hlt)
      have HYES := Lib.hid (fun h => filM_yes (l := l1) (n := n) (ms := ms1) hlt h)
      have HNO := Lib.hid (fun h => filM_no (l := l1) (n := n) (ms := ms1) hlt h)
      have HTK := Lib.hid (take_next ms1 k hlt)
      generalize ms1[k] = mk at *
      obtain ⟨mth, mop, marg, mdata⟩ := mk
      simp only at m0 m1 m2 m3
      obtain ⟨gq, cq, e, x1, x2, x3, x4, x5, x6⟩ := hI.out.r8.some_form (by omega)
      cases e
      obtain ⟨u0, hu0⟩ : ∃ u0, wr.cell? ⟨g8, k, none⟩ = some u0 := ⟨_, x6 k _ (numsL_get _ _ _ k (by omega))⟩
      have hz0 := x5 k
      have hmb : mb ≠ g8 := by omega
      have hI2 := hI
      unfold maxLen at g2 hcv2
      clear x1 x2 x4 x5 x6 g3 hI HI0
      go_upto_region 13 with (fail)
      refine gen_world ?_
      intro W1 hW1
      have HI1 : Hid (IdleI W W1 l1.length xb ((PM.init (ownK l1.length) l1 n ()).goes (ms1.take k)) (.map (some kb)) F (.slice (some ⟨g8, 0, none⟩) (ms1.length + 1) (ms1.length + 1)) (ms1.length + 1) (numsL (numM l1 n ms1) ms1.length (k + 1)) (.slice ov (numM l1 n ms1 k) cv) (numM l1 n ms1 k) (mvsC (filM l1 n ms1 k))) := Lib.hid (by
        rw [hW1, ← numsL_set _ _ k (by omega)]
        exact (hI2.out.put HRB.out k (by omega) _).alloc _)
      have hm9 : W1.heap[wr.heap.size]? = some (.cells #[.int .i64 mth, .int .i64 mop, .int .i64 marg, .int .i64 mdata] 34 (0, 0)) := by
        rw [hW1]
        exact heap_alloc_at (by simp)
      obtain ⟨b9, hb9⟩ : ∃ b9, b9 = wr.heap.size := ⟨_, rfl⟩
      have hF9 : ¬ F b9 := fun hf => by have := hI2.out.lt b9 hf; omega
      rw [← hb9] at hm9 ⊢
      have k0 : W1.cell? ⟨b9, 0, none⟩ = some (.int .i64 mth) := by simp [World.cell?, hm9]
      have k1 : W1.cell? ⟨b9, 1, none⟩ = some (.int .i64 mop) := by simp [World.cell?, hm9]
      have k2 : W1.cell? ⟨b9, 2, none⟩ = some (.int .i64 marg) := by simp [World.cell?, hm9]
      have k3 : W1.cell? ⟨b9, 3, none⟩ = some (.int .i64 mdata) := by simp [World.cell?, hm9]
      have l9 := (Array.getElem?_eq_some_iff.1 hm9).1
      have HMV := Lib.hid (pm_move (ownK_ok l1.length) (HGD.out k) HI1.out.pm ⟨mth, mop, marg, mdata⟩)
      obtain ⟨did, hdid⟩ : ∃ did, ((osOf l1 n (ms1.take k)).move l1.length ⟨mth, mop, marg, mdata⟩).2 = did := ⟨_, rfl⟩
      have HD2 := Lib.hid (HD1.out.trans hdid)
      have HK9 := Lib.hid (And.intro k0 (And.intro k1 (And.intro k2 k3)))
      clear hW1 hm9 hb9 m0 m1 m2 m3 hu0 hz0
      cases did
      · have hfk : filM l1 n ms1 (k + 1) = filM l1 n ms1 k := HNO.out hdid
        have hnk : numM l1 n ms1 (k + 1) = numM l1 n ms1 k := by unfold numM; rw [hfk]
        have HFK := Lib.hid (And.intro hfk hnk)
        clear hfk hnk hdid
        as_aux_lemma =>
        go_wp2_with (go_at_call 17; refine HMV.out.mono ?_; rintro e w7 hmo; obtain ⟨rfl, F7, hi7, ho7⟩ := HI1.out.moved hmo; rw [HD2.out]; have HI7 := Lib.hid hi7; clear hmo hi7 ho7)
        go_roundg (ms1.length - (k + 1))
        case measure => omega
        case rel => exact ⟨k + 1, ov, cv, F7, by omega, by omega, by rw [HFK.out.2], by go_num, by rw [HFK.out.2]; exact hcv1, by unfold maxLen; exact hcv2, by rw [HFK.out.2, HFK.out.1, HTK.out, PM.goes_snoc]; exact HI7⟩
      · have hfk : filM l1 n ms1 (k + 1) = filM l1 n ms1 k ++ [⟨mth, mop, marg, mdata⟩] := HYES.out hdid
        have hnk : numM l1 n ms1 (k + 1) = numM l1 n ms1 k + 1 := by unfold numM; rw [hfk]; simp
        have HFK := Lib.hid (And.intro hfk hnk)
        obtain ⟨j0, ii, iz0, iz1, iz2⟩ := info_parts infoMove
        have JII := Lib.hid ii
        have JZ0 := Lib.hid iz0
        have JZ1 := Lib.hid iz1
        have JZ2 := Lib.hid iz2
        have T1 := Lib.hid (mvsC_one [⟨mth, mop, marg, mdata⟩])
        have S5 := Lib.hid (show numM l1 n ms1 k + 1 ≤ maxLen by unfold maxLen; omega)
        have S6 := Lib.hid (show ((numM l1 n ms1 k + 1) + (numM l1 n ms1 k + 1) / 4 + 192) * 32 ≤ 281474976710656 by omega)
        clear hfk hnk hdid ii iz0 iz1 iz2
        as_aux_lemma =>
        go_wp2_with (first
          | (go_at_call 17; refine HMV.out.mono ?_; rintro e w7 hmo; obtain ⟨rfl, F7, hi7, ho7⟩ := HI1.out.moved hmo; rw [HD2.out]; have HI7 := Lib.hid hi7; obtain ⟨z0, z1, z2, z3⟩ := HK9.out; replace z0 := (ho7.cellAt (p := ⟨b9, 0, none⟩) l9 hF9).trans z0; replace z1 := (ho7.cellAt (p := ⟨b9, 1, none⟩) l9 hF9).trans z1; replace z2 := (ho7.cellAt (p := ⟨b9, 2, none⟩) l9 hF9).trans z2; replace z3 := (ho7.cellAt (p := ⟨b9, 3, none⟩) l9 hF9).trans z3; have z9 := Nat.lt_of_lt_of_le l9 ho7.size; clear hmo hi7 ho7)
          | (at_builtin; refine wpList_append_row _ rfl _ _ 22 rfl W.heap.size 34 j0 _ 4 32 Try.underlying22 JII.out JZ0.out JZ1.out JZ2.out rfl (.slice ov (numM l1 n ms1 k) cv) (numM l1 n ms1 k) _ rfl (HI7.out.rm.alloc _) _ 1 _ rfl (World.Src.one rfl rfl) T1.out S5.out S6.out (by have := HI7.out.on.size; simp; omega) ?_; intro v' w8 hown hout; obtain ⟨o8, c8, rfl, hn8, hm8⟩ := hown.form; have HI8 := Lib.hid ((HI7.out.alloc _).appd hown hout); clear hown hout))
        go_roundg (ms1.length - (k + 1))
        case measure => omega
        case rel => exact ⟨k + 1, o8, c8, F7, by omega, by omega, by rw [HFK.out.2], by go_num, by rw [HFK.out.2]; exact hn8, hm8, by rw [HFK.out.2, HFK.out.1, mvsC_app, HTK.out, PM.goes_snoc]; exact HI8⟩
    · obtain rfl : k = ms1.length := by omega
      obtain ⟨hio, hnum⟩ := idle_os (l := l1) (n := n) (ms := ms1) hml ms1.length (Nat.le_refl _)
      rw [List.take_length, ← HO.out] at hio hnum
      have hfl2 : (filM l1 n ms1 ms1.length).length ≤ ms1.length := filM_le _
      have hO2 : osOf l1 n (filM l1 n ms1 ms1.length) = ⟨o.words, o.log.map (Acc.ren (numM l1 n ms1)), o.seats, numM l1 n ms1 ms1.length, o.calls.map (Cal.ren (numM l1 n ms1))⟩ := hio
      have HPL2 : Hid (∀ Wp : World, Only (fun _ => False) wr Wp → Calls Try.prog 21 #[.int .i64 (n : Int), .slice ox l1.length cx, .slice ov (numM l1 n ms1 ms1.length) cv] Wp (fun e w' => ∃ x : RunVs, e = .returned (.tuple #[x.v, .int .i64 0]) ∧ RunAt w' Wp.heap.size x ⟨o.calls.map (Cal.ren (numM l1 n ms1)), o.log.map (Acc.ren (numM l1 n ms1)), [], o.words⟩ ∧ Only (fun _ => False) Wp w')) := Lib.hid (fun Wp hWp => by
        have hsx : Wp.Src 1 (.slice ox l1.length cx) l1.length (u64s l1) := (HL.out.src.only hI.out.on).only hWp
        have hmx : MvsIn Wp (.slice ov (numM l1 n ms1 ms1.length) cv) (filM l1 n ms1 ms1.length) := (MvsIn.of_row (ms := filM l1 n ms1 ms1.length) hI.out.rm).only hWp
        have := play_ok (w := Wp) n hsx (by omega) hmx (by omega) HFN.out.1 HFN.out.2
        unfold PlayRes at this
        rw [own_os, hO2] at this
        exact this)
      have d0 := (hI.out.on.cellAt (p := ⟨Bs, 0, none⟩) sl (fun x => x)).trans s0
      have d1 := (hI.out.on.cellAt (p := ⟨Bs, 1, none⟩) sl (fun x => x)).trans s1
      have lBs := Nat.lt_of_lt_of_le sl hI.out.on.size
      have hI2 := hI
      have hc16 := HCL.out
      have hl16 := HLL.out
      clear hI hio hO2 HI0
      rw [hnum] at hcv1 ⊢
      rw [hnum] at HPL2
      go_upto_region 17 with (go_at_call 21; refine (HPL2.out _ (Below.only0 (by repeat (first | exact Below.refl _ _ | apply Below.drew | apply Below.more1 | apply Below.alloc1 | (refine Below.setCell ?_ (by first | exact Nat.le_refl _ | (simp; done) | (simp; omega)) _))))).mono ?_; rintro e w1 ⟨⟨va, vt, vb, vc⟩, he, hra, ho⟩; obtain ⟨oa3, ca3, e1, u1, u2⟩ := hra.wa.form; obtain ⟨ot3, ct3, e2, u3, u4⟩ := hra.wt.form; obtain ⟨ob3, cb3, e3, _, _⟩ := hra.wb.form; obtain ⟨oc3, cc3, e4, u5, u6⟩ := hra.wc.form; simp only [List.length_nil, List.length_map] at e1 e2 e3 e4 u1 u3 u5; rw [HWL.out] at e4 u5; subst e1; subst e2; subst e3; subst e4; (unfold RunVs.v at he); subst he; have HRA := Lib.hid hra; clear hra; obtain ⟨os, d, rfl⟩ := (Only.below ho (fun _ h => h.elim) (Nat.le_refl _)).more; clear ho)
      refine gen_world ?_
      intro W3 hW3
      obtain ⟨f, hf⟩ : ∃ f, numM l1 n ms1 = f := ⟨_, rfl⟩
      rw [hf] at HRA hI2
      have HR3 : Hid (RunAt W3 wr.heap.size ⟨.slice oa3 o.calls.length ca3, .slice ot3 o.log.length ct3, .slice ob3 0 cb3, .slice oc3 l1.length cc3⟩ ⟨o.calls.map (Cal.ren f), o.log.map (Acc.ren f), [], o.words⟩) := Lib.hid (by
        rw [hW3]; exact HRA.out.of_block fun k hk => Below.heap_alloc _ _ _ (HRA.out.lt k hk).2)
      have HX8 : Hid (∀ j : Nat, j < ms1.length → W3.cell? ⟨g8, j, none⟩ = some (.int .i64 (f j : Int))) := Lib.hid (fun j hj => by
        obtain ⟨gq, cq, e, _, _, _, _, _, x6⟩ := (show W3.RowV W.heap.size 3 1 (.slice (some ⟨g8, 0, none⟩) (ms1.length + 1) (ms1.length + 1)) (ms1.length + 1) (numsL f ms1.length ms1.length) by rw [hW3]; exact (hI2.out.r8.more _ _).alloc _).some_form (by omega)
        cases e
        have := x6 j _ (numsL_get f ms1.length ms1.length j (by omega))
        rwa [if_pos hj] at this)
      have HON3 : Hid (Only (fun _ => False) W W3) := Lib.hid (by rw [hW3]; exact (hI2.out.on.more _ _).alloc _)
      have hb8 : g8 < W3.heap.size := by rw [hW3]; have := (hI2.out.r8.lt g8 HRB.out).2; simp [World.size_more]; omega
      have hm11 : W3.heap[wr.heap.size + os.size]? = some (.cells #[.slice oa3 o.calls.length ca3, .slice ot3 o.log.length ct3, .slice ob3 0 cb3, .slice oc3 l1.length cc3] 41 (0, 0)) := by
        rw [hW3]
        exact heap_alloc_at (by rw [World.size_more])
      obtain ⟨b11, hb11⟩ : ∃ b11, b11 = wr.heap.size + os.size := ⟨_, rfl⟩
      rw [← hb11] at hm11 ⊢
      have p0 : W3.cell? ⟨b11, 0, none⟩ = some (.slice oa3 o.calls.length ca3) := by simp [World.cell?, hm11]
      have p1 : W3.cell? ⟨b11, 1, none⟩ = some (.slice ot3 o.log.length ct3) := by simp [World.cell?, hm11]
      have p3 : W3.cell? ⟨b11, 3, none⟩ = some (.slice oc3 l1.length cc3) := by simp [World.cell?, hm11]
      have l11 := (Array.getElem?_eq_some_iff.1 hm11).1
      have e0 := (HON3.out.cellAt (p := ⟨Br, 0, none⟩) rl (fun x => x)).trans r0
      have e1 := (HON3.out.cellAt (p := ⟨Br, 1, none⟩) rl (fun x => x)).trans r1
      have e3 := (HON3.out.cellAt (p := ⟨Br, 3, none⟩) rl (fun x => x)).trans r3
      have lBr := Nat.lt_of_lt_of_le rl HON3.out.size
      have hmo := HINV.out.moves
      unfold maxLen at a2 t2 c2 u2 u4 u6
      clear hW3 HRA hm11 hb11 hI2 d0 d1 lBs HPL2 hf
      go_wp2
      go_loopg [121] o.log.length (fun gh s121 wx => ∃ j : Nat, j ≤ o.log.length ∧ o.log.length ≤ j + gh ∧ s121 = .int .i64 (j : Int) ∧ ∃ os d, wx = W3.more os d)
      case atStart => exact ⟨0, by omega, by omega, by go_num, RowKit.Below.more (Below.refl _ _)⟩
      case round =>
        obtain ⟨j, hj1, hj2, rfl, os4, dd4, rfl⟩ := hrel
        by_cases hjl : j < o.log.length
        · have hAj : o.log[j]? = some o.log[j] := List.getElem?_eq_getElem hjl
          have hA := HINV.out.log j _ hAj
          obtain ⟨gc, ccap, e, f1, f2, f3, f4, f5, f6⟩ := HL.out.run.wt.some_form (show 0 < o.log.length by omega)
          cases e
          have hce : ∀ (b p : Nat) (v : Value), b < W.heap.size → W.cell? ⟨b, p, none⟩ = some v → W3.cell? ⟨b, p, none⟩ = some v := fun b p v hb hc => (HON3.out.cellAt (p := ⟨b, p, none⟩) hb (fun x => x)).trans hc
          have c0 := hce _ _ _ f3 (f6 (j * 7 + 0) _ (accs_get' o.log j 0 hjl (by omega)))
          have c1 := hce _ _ _ f3 (f6 (j * 7 + 1) _ (accs_get' o.log j 1 hjl (by omega)))
          have c2 := hce _ _ _ f3 (f6 (j * 7 + 2) _ (accs_get' o.log j 2 hjl (by omega)))
          have c3 := hce _ _ _ f3 (f6 (j * 7 + 3) _ (accs_get' o.log j 3 hjl (by omega)))
          have c4 := hce _ _ _ f3 (f6 (j * 7 + 4) _ (accs_get' o.log j 4 hjl (by omega)))
          have c5 := hce _ _ _ f3 (f6 (j * 7 + 5) _ (accs_get' o.log j 5 hjl (by omega)))
          have c6 := hce _ _ _ f3 (f6 (j * 7 + 6) _ (accs_get' o.log j 6 hjl (by omega)))
          have lgc := Nat.lt_of_lt_of_le f3 HON3.out.size
          clear f1 f2 f4 f5 f6 hce
          obtain ⟨gq, qcap, e, f1, f2, f3, f4, f5, f6⟩ := HR3.out.wt.some_form (by simp; omega)
          simp only [Value.slice.injEq] at e
          obtain ⟨rfl, -, rfl⟩ := e
          have y0 := f6 (j * 7 + 0) _ (accs_get' _ j 0 (by simp; omega) (by omega))
          have y1 := f6 (j * 7 + 1) _ (accs_get' _ j 1 (by simp; omega) (by omega))
          have y2 := f6 (j * 7 + 2) _ (accs_get' _ j 2 (by simp; omega) (by omega))
          have y3 := f6 (j * 7 + 3) _ (accs_get' _ j 3 (by simp; omega) (by omega))
          have y4 := f6 (j * 7 + 4) _ (accs_get' _ j 4 (by simp; omega) (by omega))
          have y5 := f6 (j * 7 + 5) _ (accs_get' _ j 5 (by simp; omega) (by omega))
          have y6 := f6 (j * 7 + 6) _ (accs_get' _ j 6 (by simp; omega) (by omega))
          simp only [List.getElem_map] at y0 y1 y2 y3 y4 y5 y6
          generalize o.log[j] = aa at *
          obtain ⟨amv, ath, akd, aad, aold, anw, asaw⟩ := aa
          obtain ⟨am, rfl⟩ : ∃ am : Nat, amv = am := ⟨amv.toNat, by have := hA.mv.1; simp only at this; omega⟩
          have hml2 : am < ms1.length := by have := hA.mv.2; simp only at this; omega
          have z8 := HX8.out am hml2
          simp only [Nat.add_zero, Acc.ren, Int.toNat_natCast] at c0 y0 y1 y2 y3 y4 y5 y6
          clear hAj hA f1 f2 f4 f5 f6
          as_aux_lemma =>
          go_wp2
          go_wp2
          refine wp_region_more_lit (by kernel_rfl) (by kernel_rfl) ?_
          repeat (first | go_big_quiet_skip | (go_big_quiet_want; go_big_quiet_op; first | go_big_quiet_on | (apply Exists.intro; refine ⟨fun _ => ?_, ?_⟩; (focus (fail)); go_big_quiet_on)))
          refine wpQuiet_nil ?_
          intro osq dq
          go_wp2
          go_roundg (o.log.length - (j + 1))
          case measure => omega
          case rel => exact ⟨j + 1, by omega, by omega, by go_num, RowKit.Below.more (by repeat (first | exact Below.refl _ _ | apply Below.drew | apply Below.more1 | apply Below.alloc1))⟩
        · obtain rfl : j = o.log.length := by omega
          clear e1
          go_wp2
          go_loopg [153] o.calls.length (fun gh s153 wx => ∃ j : Nat, j ≤ o.calls.length ∧ o.calls.length ≤ j + gh ∧ s153 = .int .i64 (j : Int) ∧ ∃ os d, wx = W3.more os d)
          case atStart => exact ⟨0, by omega, by omega, by go_num, RowKit.Below.more (by repeat (first | exact Below.refl _ _ | apply Below.drew | apply Below.more1 | apply Below.alloc1))⟩
          case round =>
            obtain ⟨j, hj1, hj2, rfl, os4, dd4, rfl⟩ := hrel
            by_cases hjl : j < o.calls.length
            · have hAj : o.calls[j]? = some o.calls[j] := List.getElem?_eq_getElem hjl
              obtain ⟨_, _, _, _, _, _, hA1, hA2, _, hA3⟩ := HINV.out.call j _ hAj
              obtain ⟨gc, ccap, e, f1, f2, f3, f4, f5, f6⟩ := HL.out.run.wa.some_form (show 0 < o.calls.length by omega)
              cases e
              have hce : ∀ (b p : Nat) (v : Value), b < W.heap.size → W.cell? ⟨b, p, none⟩ = some v → W3.cell? ⟨b, p, none⟩ = some v := fun b p v hb hc => (HON3.out.cellAt (p := ⟨b, p, none⟩) hb (fun x => x)).trans hc
              have c0 := hce _ _ _ f3 (f6 (j * 9 + 0) _ (cals_get o.calls j 0 hjl (by omega)))
              have c1 := hce _ _ _ f3 (f6 (j * 9 + 1) _ (cals_get o.calls j 1 hjl (by omega)))
              have c2 := hce _ _ _ f3 (f6 (j * 9 + 2) _ (cals_get o.calls j 2 hjl (by omega)))
              have c3 := hce _ _ _ f3 (f6 (j * 9 + 3) _ (cals_get o.calls j 3 hjl (by omega)))
              have c4 := hce _ _ _ f3 (f6 (j * 9 + 4) _ (cals_get o.calls j 4 hjl (by omega)))
              have c5 := hce _ _ _ f3 (f6 (j * 9 + 5) _ (cals_get o.calls j 5 hjl (by omega)))
              have c6 := hce _ _ _ f3 (f6 (j * 9 + 6) _ (cals_get o.calls j 6 hjl (by omega)))
              have c7 := hce _ _ _ f3 (f6 (j * 9 + 7) _ (cals_get o.calls j 7 hjl (by omega)))
              have c8 := hce _ _ _ f3 (f6 (j * 9 + 8) _ (cals_get o.calls j 8 hjl (by omega)))
              have lgc := Nat.lt_of_lt_of_le f3 HON3.out.size
              clear f1 f2 f4 f5 f6 hce
              obtain ⟨gq, qcap, e, f1, f2, f3, f4, f5, f6⟩ := HR3.out.wa.some_form (by simp; omega)
              simp only [Value.slice.injEq] at e
              obtain ⟨rfl, -, rfl⟩ := e
              have y0 := f6 (j * 9 + 0) _ (cals_get _ j 0 (by simp; omega) (by omega))
              have y1 := f6 (j * 9 + 1) _ (cals_get _ j 1 (by simp; omega) (by omega))
              have y2 := f6 (j * 9 + 2) _ (cals_get _ j 2 (by simp; omega) (by omega))
              have y3 := f6 (j * 9 + 3) _ (cals_get _ j 3 (by simp; omega) (by omega))
              have y4 := f6 (j * 9 + 4) _ (cals_get _ j 4 (by simp; omega) (by omega))
              have y5 := f6 (j * 9 + 5) _ (cals_get _ j 5 (by simp; omega) (by omega))
              have y6 := f6 (j * 9 + 6) _ (cals_get _ j 6 (by simp; omega) (by omega))
              have y7 := f6 (j * 9 + 7) _ (cals_get _ j 7 (by simp; omega) (by omega))
              have y8 := f6 (j * 9 + 8) _ (cals_get _ j 8 (by simp; omega) (by omega))
              simp only [List.getElem_map] at y0 y1 y2 y3 y4 y5 y6 y7 y8
              generalize o.calls[j] = aa at *
              obtain ⟨cth, cop, carg, cdata, cbeg, cen, cpt, cak, cav⟩ := aa
              simp only at hA1 hA2 hA3
              obtain ⟨bn, rfl⟩ : ∃ bn : Nat, cbeg = bn := ⟨cbeg.toNat, by omega⟩
              have z8 := HX8.out bn (by omega)
              have hA4 : (cen = -1 ∧ cpt = -1) ∨ ∃ en : Nat, cen = en ∧ cpt = en ∧ en < ms1.length := by
                rcases hA3 with ⟨h1, h2, _⟩ | ⟨h1, h2, h3, _⟩
                · exact .inl ⟨h1, h2⟩
                · exact .inr ⟨cen.toNat, by omega, by omega, by omega⟩
              simp only [Nat.add_zero, Cal.ren, Int.toNat_natCast] at c0 y0 y1 y2 y3 y4 y5 y6 y7 y8
              have hbl : bn < ms1.length := by omega
              clear hAj hA1 hA2 hA3 f1 f2 f4 f5 f6
              rcases hA4 with ⟨rfl, rfl⟩ | ⟨en, rfl, rfl, hen⟩
              · rw [show renI f (-1) = -1 from rfl] at y5 y6
                as_aux_lemma =>
                go_wp2
                go_wp2
                refine wp_region_more_lit (by kernel_rfl) (by kernel_rfl) ?_
                repeat (first | go_big_quiet_skip | (go_big_quiet_want; go_big_quiet_op; first | go_big_quiet_on | (apply Exists.intro; refine ⟨fun _ => ?_, ?_⟩; (focus (fail)); go_big_quiet_on)))
                refine wpQuiet_nil ?_
                intro osq dq
                go_wp2
                go_roundg (o.calls.length - (j + 1))
                case measure => omega
                case rel => exact ⟨j + 1, by omega, by omega, by go_num, RowKit.Below.more (by repeat (first | exact Below.refl _ _ | apply Below.drew | apply Below.more1 | apply Below.alloc1))⟩
              · rw [show renI f (en : Int) = (f en : Int) by simp [renI]] at y5 y6
                have z9 := HX8.out en hen
                as_aux_lemma =>
                go_wp2
                go_wp2
                refine wp_region_more_lit (by kernel_rfl) (by kernel_rfl) ?_
                repeat (first | go_big_quiet_skip | (go_big_quiet_want; go_big_quiet_op; first | go_big_quiet_on | (apply Exists.intro; refine ⟨fun _ => ?_, ?_⟩; (focus (fail)); go_big_quiet_on)))
                refine wpQuiet_nil ?_
                intro osq dq
                go_wp2
                go_roundg (o.calls.length - (j + 1))
                case measure => omega
                case rel => exact ⟨j + 1, by omega, by omega, by go_num, RowKit.Below.more (by repeat (first | exact Below.refl _ _ | apply Below.drew | apply Below.more1 | apply Below.alloc1))⟩
            · obtain rfl : j = o.calls.length := by omega
              clear e0
              go_wp2
              go_loopg [217] l1.length (fun gh s217 wx => ∃ j : Nat, j ≤ l1.length ∧ l1.length ≤ j + gh ∧ s217 = .int .i64 (j : Int) ∧ ∃ os d, wx = W3.more os d)
              case atStart => exact ⟨0, by omega, by omega, by go_num, RowKit.Below.more (by repeat (first | exact Below.refl _ _ | apply Below.drew | apply Below.more1 | apply Below.alloc1))⟩
              case round =>
                obtain ⟨j, hj1, hj2, rfl, os4, dd4, rfl⟩ := hrel
                by_cases hjl : j < l1.length
                · have hwl := HWL.out
                  obtain ⟨gc, ccap, e, f1, f2, f3, f4, f5, f6⟩ := HL.out.run.wc.some_form (show 0 < o.words.length by omega)
                  simp only [Value.slice.injEq] at e
                  obtain ⟨rfl, -, rfl⟩ := e
                  obtain ⟨y, hy⟩ : ∃ y, (u64s o.words)[j]? = some (.int .u64 y) := ⟨o.words[j]'(by omega), by simp [u64s, show j < o.words.length by omega]⟩
                  have c0 := (HON3.out.cellAt (p := ⟨gc, j, none⟩) f3 (fun x => x)).trans (f6 j _ hy)
                  have lgc := Nat.lt_of_lt_of_le f3 HON3.out.size
                  clear f1 f2 f4 f5 f6
                  obtain ⟨gq, qcap, e, f1, f2, f3, f4, f5, f6⟩ := HR3.out.wc.some_form (show 0 < o.words.length by omega)
                  simp only [Value.slice.injEq] at e
                  obtain ⟨rfl, -, rfl⟩ := e
                  have y0 := f6 j _ hy
                  clear f1 f2 f4 f5 f6 hy
                  as_aux_lemma =>
                  go_wp2
                  go_roundg (l1.length - (j + 1))
                  case measure => omega
                  case rel => exact ⟨j + 1, by omega, by omega, by go_num, RowKit.Below.more (by repeat (first | exact Below.refl _ _ | apply Below.drew | apply Below.more1 | apply Below.alloc1))⟩
                · obtain rfl : j = l1.length := by omega
                  go_wp2
                  go_ret
                  exact ⟨rfl, HL.out.be.trans (Below.mono (Only.below (HON3.out.more _ _) (fun _ h => h.elim) (Nat.le_refl _)) HL.out.be.size)⟩
end Go.Proofs.Ytbhbpfpggfcpgaa
