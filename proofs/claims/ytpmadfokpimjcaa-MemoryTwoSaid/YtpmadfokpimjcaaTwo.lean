/-
MemoryTwo returns true: both memories are there.
-/
import Derived.Test.YtpmadfokpimjcaaTwoP
import Derived.Test.YtpmadfokpimjcaaMix
namespace Go.Proofs.Ytpmadfokpimjcaa
open Go.ChangeShapes Go.WideShapes Go.ChangeAt Go.RowKit

set_option maxRecDepth 100000 in
set_option maxHeartbeats 16000000 in
theorem two_both {w : World} {vx va vy vb : Value} {l k' : List Int} {one two : List OpS} (hs1 : w.Src 1 vx l.length (u64s l)) (hn1 : l.length ≤ 8192) (ho1 : OpsIn w va one) (hm1 : one.length ≤ 2999999999999)
    (hs2 : w.Src 1 vy k'.length (u64s k')) (hn2 : k'.length ≤ 8192) (ho2 : OpsIn w vb two) (hm2 : two.length ≤ 2999999999999) : Calls Try.prog 11 #[vx, va, vy, vb] w fun e w' => e = .returned (.bool true) ∧ Below w.heap.size w w' := by
  have HB := Lib.hid (begin_ok hs1 hn1)
  have HS2 := Lib.hid hs2
  obtain ⟨ox, cx, rfl⟩ : ∃ o c, vx = .slice o l.length c := by
    rcases hs1.2 with ⟨rfl, h0⟩ | ⟨ad, c, rfl, hc, _⟩
    · exact ⟨none, 0, by rw [h0]⟩
    · exact ⟨some ad, c, rfl⟩
  obtain ⟨oy, cy, rfl⟩ : ∃ o c, vy = .slice o k'.length c := by
    rcases hs2.2 with ⟨rfl, h0⟩ | ⟨ad, c, rfl, hc, _⟩
    · exact ⟨none, 0, by rw [h0]⟩
    · exact ⟨some ad, c, rfl⟩
  obtain ⟨oa, ca, rfl, hops1⟩ := ho1
  obtain ⟨ob, cb, rfl, hops2⟩ := ho2
  have HO1 := Lib.hid hops1
  have HO2 := Lib.hid hops2
  clear hs1 hs2 hops1 hops2
  go_enter Try.func11, Try.ntmps11
  go_wp2_with fail
  refine HB.out.mono ?_
  rintro e w1 ⟨mb, rb, rfl, hp1⟩
  have HB2 := Lib.hid (begin_ok (HS2.out.below hp1.hb) hn2)
  have HP1 := Lib.hid hp1
  clear hp1 HB
  go_wp2_with fail
  refine HB2.out.mono ?_
  rintro e w2 ⟨nb, qb, rfl, hp2⟩
  have hq : QuadM w mb rb l ⟨l, [], [], 0⟩ ⟨l, [], [], 0⟩ nb qb k' ⟨k', [], [], 0⟩ ⟨k', [], [], 0⟩ w2.heap.size w2 := by
    obtain ⟨vm, vr, a1, a2, a3⟩ := HP1.out.m
    obtain ⟨vn, vq, b1, b2, b3⟩ := hp2.m
    have hsz := HP1.out.hb.size
    have lt1 := fun i hi => (a1.lt i hi).2
    have lt2 := fun i hi => (a2.lt i hi).2
    have lt3 := fun i hi => (b1.lt i hi).1
    have lt4 := fun i hi => (b2.lt i hi).1
    refine ⟨⟨vm, vr, vn, vq, a1.of_block fun i hi => hp2.hb.block i (lt1 i hi), a2.of_block fun i hi => hp2.hb.block i (lt2 i hi), b1.base_mono hsz, b2.base_mono hsz, a3, fun i x y => ?_, fun i x y => ?_, fun i x y => ?_, fun i x y => ?_, b3, fun i hi => ?_⟩, HP1.out.hb.trans (hp2.hb.mono hsz)⟩
    · have := lt1 i x; have := lt3 i y; omega
    · have := lt1 i x; have := lt4 i y; omega
    · have := lt2 i x; have := lt3 i y; omega
    · have := lt2 i x; have := lt4 i y; omega
    · have := lt2 i hi; have := hp2.hb.size; omega
  have HQ0 := Lib.hid hq
  clear hq hp2 HP1 HB2 HS2
  go_wp2
  go_loopg [15] (max one.length two.length) (fun g sl wr => ∃ k : Nat, k ≤ max one.length two.length ∧ max one.length two.length ≤ k + g ∧ sl = .int .i64 (k : Int) ∧ Hid (∃ st sn S, Good2 l st ∧ Good2 k' sn ∧ st.log.length ≤ k ∧ sn.log.length ≤ k ∧ QuadM w mb rb l st st nb qb k' sn sn S wr))
  case atStart => exact ⟨0, by omega, by omega, rfl, Lib.hid ⟨_, _, _, Good2.start l, Good2.start k', by simp, by simp, HQ0.out⟩⟩
  case round =>
    clear HQ0
    obtain ⟨k, hk, hg, rfl, hS⟩ := hrel
    obtain ⟨st, sn, S, hg1, hg2, hl1, hl2, hq⟩ := hS.out
    have HQ := Lib.hid hq
    have HG1 := Lib.hid hg1
    have HG2 := Lib.hid hg2
    clear hq hg1 hg2 hS
    by_cases hA : k < one.length
    · by_cases hB : k < two.length
      · have a1 : decide ((k : Int) < (one.length : Int)) = true := by simp; omega
        have a2 : decide (k < one.length) = true := by simp; omega
        have b1 : decide ((k : Int) < (two.length : Int)) = true := by simp; omega
        have b2 : decide (k < two.length) = true := by simp; omega
        obtain ⟨bz, offz, rfl, dz0, dz1, dz2, dz3, dz4, dz5⟩ := op_cells HO1.out (Below.refl _ _) k hA
        have hltz := World.block_lt_of_cell? w _ dz0
        generalize one[k].kd = z0 at *
        generalize one[k].th = z1 at *
        generalize one[k].ad = z2 at *
        generalize one[k].n = z3 at *
        generalize one[k].old = z4 at *
        generalize one[k].w = z5 at *
        have fz0 := fun g : Later w => g.cell dz0 hltz
        have fz1 := fun g : Later w => g.cell dz1 hltz
        have fz2 := fun g : Later w => g.cell dz2 hltz
        have fz3 := fun g : Later w => g.cell dz3 hltz
        have fz4 := fun g : Later w => g.cell dz4 hltz
        have fz5 := fun g : Later w => g.cell dz5 hltz
        clear dz0 dz1 dz2 dz3 dz4 dz5
        obtain ⟨bv, offv, rfl, dv0, dv1, dv2, dv3, dv4, dv5⟩ := op_cells HO2.out (Below.refl _ _) k hB
        have hltv := World.block_lt_of_cell? w _ dv0
        generalize two[k].kd = v0 at *
        generalize two[k].th = v1 at *
        generalize two[k].ad = v2 at *
        generalize two[k].n = v3 at *
        generalize two[k].old = v4 at *
        generalize two[k].w = v5 at *
        have fv0 := fun g : Later w => g.cell dv0 hltv
        have fv1 := fun g : Later w => g.cell dv1 hltv
        have fv2 := fun g : Later w => g.cell dv2 hltv
        have fv3 := fun g : Later w => g.cell dv3 hltv
        have fv4 := fun g : Later w => g.cell dv4 hltv
        have fv5 := fun g : Later w => g.cell dv5 hltv
        clear dv0 dv1 dv2 dv3 dv4 dv5
        go_wp2
        refine wp_region_steps (fun w9 => ∃ g : Later w, w9 = g.W) [14, 5, 0] (by kernel_rfl) (by kernel_rfl) (later_in HQ.out.hb.drew) ?_
        simp only [cutSteps, List.take_succ_cons, List.take_zero, List.drop_succ_cons, List.drop_zero, wpSteps]
        repeat (first | go_big_quiet_skip | (go_big_quiet_want; go_big_quiet_op; go_big_quiet_on))
        refine wpQuiet_nil ?_
        go_wp2_with (go_at_call 33; refine (qm_ask HQ.out.drew HG1.out (by omega) hn1 z0 z1 z2 z3 z4 z5).mono ?_; rintro e w2 ⟨ht, hmd⟩; have ht0 := ht; obtain ⟨vn, vw, vl, rfl, _, _, _⟩ := ht; have HT1 := Lib.hid ht0; have HMD := Lib.hid hmd; clear ht0 hmd)
        try unfold Strict
        refine ⟨?_, ?_⟩
        · exact later_in HMD.out.hb
        repeat (first | go_big_quiet_skip | (go_big_quiet_want; go_big_quiet_op; go_big_quiet_on))
        refine wpQuiet_nil ?_
        go_wp2_with (go_at_call 34; refine (qm_doc HMD.out HG1.out (by omega) hn1 z0 z1 z2 z3 z4 z5 rfl).mono ?_; rintro e w3 ⟨ht, hpm, hon⟩; have ht0 := ht; obtain ⟨un, uw, ul, rfl, _, _, _⟩ := ht; have HT2 := Lib.hid ht0; have HT3 := Lib.hid (HT1.out.keep hon); have HPM := Lib.hid hpm; clear ht0 hpm hon)
        try unfold Strict
        refine ⟨?_, ?_⟩
        · exact later_in HPM.out.hb
        repeat (first | go_big_quiet_skip | (go_big_quiet_want; go_big_quiet_op; go_big_quiet_on))
        refine wpQuiet_nil ?_
        go_wp2_with (go_at_call 32; refine (pm_same HT3.out HT2.out).mono ?_; rintro e w4 ⟨rfl, hb4⟩; have HP4 := Lib.hid (HPM.out.below hb4); clear hb4)
        try unfold Strict
        refine ⟨?_, ?_⟩
        · exact later_in HP4.out.hb
        repeat (first | go_big_quiet_skip | (go_big_quiet_want; go_big_quiet_op; go_big_quiet_on))
        refine wpQuiet_nil ?_
        have HQ5 := Lib.hid HP4.out.swap
        go_wp2
        refine wp_region_steps (fun w9 => ∃ g : Later w, w9 = g.W) [14, 5, 0] (by kernel_rfl) (by kernel_rfl) (later_in HQ5.out.hb.drew) ?_
        simp only [cutSteps, List.take_succ_cons, List.take_zero, List.drop_succ_cons, List.drop_zero, wpSteps]
        repeat (first | go_big_quiet_skip | (go_big_quiet_want; go_big_quiet_op; go_big_quiet_on))
        refine wpQuiet_nil ?_
        go_wp2_with (go_at_call 33; refine (qm_ask HQ5.out.drew HG2.out (by omega) hn2 v0 v1 v2 v3 v4 v5).mono ?_; rintro e w2b ⟨ht, hmd⟩; have ht0 := ht; obtain ⟨vn, vw, vl, rfl, _, _, _⟩ := ht; have HT1b := Lib.hid ht0; have HMDb := Lib.hid hmd; clear ht0 hmd)
        try unfold Strict
        refine ⟨?_, ?_⟩
        · exact later_in HMDb.out.hb
        repeat (first | go_big_quiet_skip | (go_big_quiet_want; go_big_quiet_op; go_big_quiet_on))
        refine wpQuiet_nil ?_
        go_wp2_with (go_at_call 34; refine (qm_doc HMDb.out HG2.out (by omega) hn2 v0 v1 v2 v3 v4 v5 rfl).mono ?_; rintro e w3b ⟨ht, hpm, hon⟩; have ht0 := ht; obtain ⟨un, uw, ul, rfl, _, _, _⟩ := ht; have HT2b := Lib.hid ht0; have HT3b := Lib.hid (HT1b.out.keep hon); have HPMb := Lib.hid hpm; clear ht0 hpm hon)
        try unfold Strict
        refine ⟨?_, ?_⟩
        · exact later_in HPMb.out.hb
        repeat (first | go_big_quiet_skip | (go_big_quiet_want; go_big_quiet_op; go_big_quiet_on))
        refine wpQuiet_nil ?_
        go_wp2_with (go_at_call 32; refine (pm_same HT3b.out HT2b.out).mono ?_; rintro e w4b ⟨rfl, hb4⟩; have HP4b := Lib.hid (HPMb.out.below hb4); clear hb4)
        try unfold Strict
        refine ⟨?_, ?_⟩
        · exact later_in HP4b.out.hb
        repeat (first | go_big_quiet_skip | (go_big_quiet_want; go_big_quiet_op; go_big_quiet_on))
        refine wpQuiet_nil ?_
        go_wp2
        go_roundg (max one.length two.length - (k + 1))
        case measure => omega
        case rel => exact ⟨k + 1, by omega, by omega, by go_num, Lib.hid ⟨_, _, _, HG1.out.next ⟨z0, z1, z2, z3, z4, z5⟩, HG2.out.next ⟨v0, v1, v2, v3, v4, v5⟩, (by have := nextF_log st ⟨z0, z1, z2, z3, z4, z5⟩; omega), (by have := nextF_log sn ⟨v0, v1, v2, v3, v4, v5⟩; omega), HP4b.out.swap⟩⟩
      · have a1 : decide ((k : Int) < (one.length : Int)) = true := by simp; omega
        have a2 : decide (k < one.length) = true := by simp; omega
        have b1 : decide ((k : Int) < (two.length : Int)) = false := by simp; omega
        have b2 : decide (k < two.length) = false := by simp; omega
        obtain ⟨bz, offz, rfl, dz0, dz1, dz2, dz3, dz4, dz5⟩ := op_cells HO1.out (Below.refl _ _) k hA
        have hltz := World.block_lt_of_cell? w _ dz0
        generalize one[k].kd = z0 at *
        generalize one[k].th = z1 at *
        generalize one[k].ad = z2 at *
        generalize one[k].n = z3 at *
        generalize one[k].old = z4 at *
        generalize one[k].w = z5 at *
        have fz0 := fun g : Later w => g.cell dz0 hltz
        have fz1 := fun g : Later w => g.cell dz1 hltz
        have fz2 := fun g : Later w => g.cell dz2 hltz
        have fz3 := fun g : Later w => g.cell dz3 hltz
        have fz4 := fun g : Later w => g.cell dz4 hltz
        have fz5 := fun g : Later w => g.cell dz5 hltz
        clear dz0 dz1 dz2 dz3 dz4 dz5
        go_wp2
        refine wp_region_steps (fun w9 => ∃ g : Later w, w9 = g.W) [14, 5, 0] (by kernel_rfl) (by kernel_rfl) (later_in HQ.out.hb.drew) ?_
        simp only [cutSteps, List.take_succ_cons, List.take_zero, List.drop_succ_cons, List.drop_zero, wpSteps]
        repeat (first | go_big_quiet_skip | (go_big_quiet_want; go_big_quiet_op; go_big_quiet_on))
        refine wpQuiet_nil ?_
        go_wp2_with (go_at_call 33; refine (qm_ask HQ.out.drew HG1.out (by omega) hn1 z0 z1 z2 z3 z4 z5).mono ?_; rintro e w2 ⟨ht, hmd⟩; have ht0 := ht; obtain ⟨vn, vw, vl, rfl, _, _, _⟩ := ht; have HT1 := Lib.hid ht0; have HMD := Lib.hid hmd; clear ht0 hmd)
        try unfold Strict
        refine ⟨?_, ?_⟩
        · exact later_in HMD.out.hb
        repeat (first | go_big_quiet_skip | (go_big_quiet_want; go_big_quiet_op; go_big_quiet_on))
        refine wpQuiet_nil ?_
        go_wp2_with (go_at_call 34; refine (qm_doc HMD.out HG1.out (by omega) hn1 z0 z1 z2 z3 z4 z5 rfl).mono ?_; rintro e w3 ⟨ht, hpm, hon⟩; have ht0 := ht; obtain ⟨un, uw, ul, rfl, _, _, _⟩ := ht; have HT2 := Lib.hid ht0; have HT3 := Lib.hid (HT1.out.keep hon); have HPM := Lib.hid hpm; clear ht0 hpm hon)
        try unfold Strict
        refine ⟨?_, ?_⟩
        · exact later_in HPM.out.hb
        repeat (first | go_big_quiet_skip | (go_big_quiet_want; go_big_quiet_op; go_big_quiet_on))
        refine wpQuiet_nil ?_
        go_wp2_with (go_at_call 32; refine (pm_same HT3.out HT2.out).mono ?_; rintro e w4 ⟨rfl, hb4⟩; have HP4 := Lib.hid (HPM.out.below hb4); clear hb4)
        try unfold Strict
        refine ⟨?_, ?_⟩
        · exact later_in HP4.out.hb
        repeat (first | go_big_quiet_skip | (go_big_quiet_want; go_big_quiet_op; go_big_quiet_on))
        refine wpQuiet_nil ?_
        have HQ5 := Lib.hid HP4.out.swap
        go_wp2
        refine wp_region_more_lit (by kernel_rfl) (by kernel_rfl) ?_
        repeat (first | go_big_quiet_skip | (go_big_quiet_want; go_big_quiet_op; first | go_big_quiet_on | (apply Exists.intro; refine ⟨fun _ => ?_, ?_⟩; (focus (fail)); go_big_quiet_on)))
        refine wpQuiet_nil ?_
        intro osq dq
        have HQ6 := Lib.hid (HP4.out.below ((Below.refl _ _).more1 osq dq))
        go_wp2
        go_roundg (max one.length two.length - (k + 1))
        case measure => omega
        case rel => exact ⟨k + 1, by omega, by omega, by go_num, Lib.hid ⟨_, _, _, HG1.out.next ⟨z0, z1, z2, z3, z4, z5⟩, HG2.out, (by have := nextF_log st ⟨z0, z1, z2, z3, z4, z5⟩; omega), (by omega), HQ6.out⟩⟩
    · by_cases hB : k < two.length
      · have a1 : decide ((k : Int) < (one.length : Int)) = false := by simp; omega
        have a2 : decide (k < one.length) = false := by simp; omega
        have b1 : decide ((k : Int) < (two.length : Int)) = true := by simp; omega
        have b2 : decide (k < two.length) = true := by simp; omega
        obtain ⟨bv, offv, rfl, dv0, dv1, dv2, dv3, dv4, dv5⟩ := op_cells HO2.out (Below.refl _ _) k hB
        have hltv := World.block_lt_of_cell? w _ dv0
        generalize two[k].kd = v0 at *
        generalize two[k].th = v1 at *
        generalize two[k].ad = v2 at *
        generalize two[k].n = v3 at *
        generalize two[k].old = v4 at *
        generalize two[k].w = v5 at *
        have fv0 := fun g : Later w => g.cell dv0 hltv
        have fv1 := fun g : Later w => g.cell dv1 hltv
        have fv2 := fun g : Later w => g.cell dv2 hltv
        have fv3 := fun g : Later w => g.cell dv3 hltv
        have fv4 := fun g : Later w => g.cell dv4 hltv
        have fv5 := fun g : Later w => g.cell dv5 hltv
        clear dv0 dv1 dv2 dv3 dv4 dv5
        go_wp2
        refine wp_region_more_lit (by kernel_rfl) (by kernel_rfl) ?_
        repeat (first | go_big_quiet_skip | (go_big_quiet_want; go_big_quiet_op; first | go_big_quiet_on | (apply Exists.intro; refine ⟨fun _ => ?_, ?_⟩; (focus (fail)); go_big_quiet_on)))
        refine wpQuiet_nil ?_
        intro osq dq
        have HP4 := Lib.hid (HQ.out.below ((Below.refl _ _).more1 osq dq))
        have HQ5 := Lib.hid HP4.out.swap
        go_wp2
        refine wp_region_steps (fun w9 => ∃ g : Later w, w9 = g.W) [14, 5, 0] (by kernel_rfl) (by kernel_rfl) (later_in HQ5.out.hb.drew) ?_
        simp only [cutSteps, List.take_succ_cons, List.take_zero, List.drop_succ_cons, List.drop_zero, wpSteps]
        repeat (first | go_big_quiet_skip | (go_big_quiet_want; go_big_quiet_op; go_big_quiet_on))
        refine wpQuiet_nil ?_
        go_wp2_with (go_at_call 33; refine (qm_ask HQ5.out.drew HG2.out (by omega) hn2 v0 v1 v2 v3 v4 v5).mono ?_; rintro e w2b ⟨ht, hmd⟩; have ht0 := ht; obtain ⟨vn, vw, vl, rfl, _, _, _⟩ := ht; have HT1b := Lib.hid ht0; have HMDb := Lib.hid hmd; clear ht0 hmd)
        try unfold Strict
        refine ⟨?_, ?_⟩
        · exact later_in HMDb.out.hb
        repeat (first | go_big_quiet_skip | (go_big_quiet_want; go_big_quiet_op; go_big_quiet_on))
        refine wpQuiet_nil ?_
        go_wp2_with (go_at_call 34; refine (qm_doc HMDb.out HG2.out (by omega) hn2 v0 v1 v2 v3 v4 v5 rfl).mono ?_; rintro e w3b ⟨ht, hpm, hon⟩; have ht0 := ht; obtain ⟨un, uw, ul, rfl, _, _, _⟩ := ht; have HT2b := Lib.hid ht0; have HT3b := Lib.hid (HT1b.out.keep hon); have HPMb := Lib.hid hpm; clear ht0 hpm hon)
        try unfold Strict
        refine ⟨?_, ?_⟩
        · exact later_in HPMb.out.hb
        repeat (first | go_big_quiet_skip | (go_big_quiet_want; go_big_quiet_op; go_big_quiet_on))
        refine wpQuiet_nil ?_
        go_wp2_with (go_at_call 32; refine (pm_same HT3b.out HT2b.out).mono ?_; rintro e w4b ⟨rfl, hb4⟩; have HP4b := Lib.hid (HPMb.out.below hb4); clear hb4)
        try unfold Strict
        refine ⟨?_, ?_⟩
        · exact later_in HP4b.out.hb
        repeat (first | go_big_quiet_skip | (go_big_quiet_want; go_big_quiet_op; go_big_quiet_on))
        refine wpQuiet_nil ?_
        go_wp2
        go_roundg (max one.length two.length - (k + 1))
        case measure => omega
        case rel => exact ⟨k + 1, by omega, by omega, by go_num, Lib.hid ⟨_, _, _, HG1.out, HG2.out.next ⟨v0, v1, v2, v3, v4, v5⟩, (by omega), (by have := nextF_log sn ⟨v0, v1, v2, v3, v4, v5⟩; omega), HP4b.out.swap⟩⟩
      · have a1 : decide ((k : Int) < (one.length : Int)) = false := by simp; omega
        have a2 : decide (k < one.length) = false := by simp; omega
        have b1 : decide ((k : Int) < (two.length : Int)) = false := by simp; omega
        have b2 : decide (k < two.length) = false := by simp; omega
        have WL1 := Lib.hid HG1.out.toGood.len
        have WL2 := Lib.hid HG2.out.toGood.len
        obtain ⟨vm, vr, vn, vq, p1, p2, p3, p4, _⟩ := HQ.out.m
        obtain ⟨ow, cw, ol, cl, oc, cc, rfl, l1, l2, l3, m1, m2, m3⟩ := p2.slices
        obtain ⟨ow', cw', ol', cl', oc', cc', rfl, l1', l2', l3', m1', m2', m3'⟩ := p4.slices
        obtain ⟨c0, c1, c2, c3, cz, clt⟩ := p2.head
        obtain ⟨i0, i1, i2, i3, iz, ilt⟩ := p4.head
        simp only at c0 c1 c2 c3 i0 i1 i2 i3
        have fc0 := fun g : Later wr => g.cell c0 clt
        have fc1 := fun g : Later wr => g.cell c1 clt
        have fc2 := fun g : Later wr => g.cell c2 clt
        have fc3 := fun g : Later wr => g.cell c3 clt
        have fi0 := fun g : Later wr => g.cell i0 ilt
        have fi1 := fun g : Later wr => g.cell i1 ilt
        have fi2 := fun g : Later wr => g.cell i2 ilt
        have fi3 := fun g : Later wr => g.cell i3 ilt
        have P1 := Lib.hid p1
        have P2 := Lib.hid p2
        have P3 := Lib.hid p3
        have P4 := Lib.hid p4
        clear p1 p2 p3 p4 c0 c1 c2 c3 i0 i1 i2 i3
        go_wp2
        refine wp_region_steps (fun w9 => ∃ g : Later wr, w9 = g.W) [4, 4, 6, 4] (by kernel_rfl) (by kernel_rfl) (later_in ((Below.refl _ _).drew)) ?_
        simp only [cutSteps, List.take_succ_cons, List.take_zero, List.drop_succ_cons, List.drop_zero, wpSteps]
        repeat (first | go_big_quiet_skip | (go_big_quiet_want; go_big_quiet_op; go_big_quiet_on))
        refine wpQuiet_nil ?_
        go_wp2_with (go_at_call 24; refine (words_mem P1.out.drew (by rw [WL1.out]; omega)).mono ?_; rintro e w5 ⟨o5, c5, rfl, n5, m5, hr5, ho5⟩; have hb5 : Below wr.heap.size wr w5 := Below.undrew (ho5.below (fun _ hx => hx.elim) (Nat.le_refl _)); have HSW1 := Lib.hid (sameWords_yes hr5 (P2.out.of_block (w' := w5) (fun i hi => hb5.block i (P2.out.lt i hi).2)).rn); have HB5 := Lib.hid hb5; clear hr5 ho5 hb5)
        try unfold Strict
        refine ⟨?_, ?_⟩
        · exact later_in HB5.out
        repeat (first | go_big_quiet_skip | (go_big_quiet_want; go_big_quiet_op; go_big_quiet_on))
        refine wpQuiet_nil ?_
        go_wp2_with (go_at_call 23; refine HSW1.out.mono ?_; rintro e w6 ⟨rfl, hb6⟩; have hb6' := HB5.out.trans (hb6.mono HB5.out.size); have HB6 := Lib.hid hb6'; have P5 := Lib.hid (P3.out.of_block (w' := w6) (fun i hi => hb6'.block i (P3.out.lt i hi).2)); have P6 := Lib.hid (P4.out.of_block (w' := w6) (fun i hi => hb6'.block i (P4.out.lt i hi).2)); clear hb6 hb6')
        try unfold Strict
        refine ⟨?_, ?_⟩
        · exact later_in HB6.out
        repeat (first | go_big_quiet_skip | (go_big_quiet_want; go_big_quiet_op; go_big_quiet_on))
        refine wpQuiet_nil ?_
        go_wp2_with (go_at_call 24; refine (words_mem P5.out (by rw [WL2.out]; omega)).mono ?_; rintro e w7 ⟨o7, c7, rfl, n7, m7, hr7, ho7⟩; have hb7 : Below w6.heap.size w6 w7 := ho7.below (fun _ hx => hx.elim) (Nat.le_refl _); have HSW2 := Lib.hid (sameWords_yes hr7 (P6.out.of_block (w' := w7) (fun i hi => hb7.block i (P6.out.lt i hi).2)).rn); have HB7 := Lib.hid (HB6.out.trans (hb7.mono HB6.out.size)); clear hr7 ho7 hb7)
        try unfold Strict
        refine ⟨?_, ?_⟩
        · exact later_in HB7.out
        repeat (first | go_big_quiet_skip | (go_big_quiet_want; go_big_quiet_op; go_big_quiet_on))
        refine wpQuiet_nil ?_
        go_wp2_with (go_at_call 23; refine HSW2.out.mono ?_; rintro e w8 ⟨rfl, hb8⟩; have HB8 := Lib.hid (HB7.out.trans (hb8.mono HB7.out.size)); clear hb8)
        try unfold Strict
        refine ⟨?_, ?_⟩
        · exact later_in HB8.out
        repeat (first | go_big_quiet_skip | (go_big_quiet_want; go_big_quiet_op; go_big_quiet_on))
        refine wpQuiet_nil ?_
        go_wp2
        go_ret
        exact ⟨rfl, HQ.out.hb.trans (HB8.out.mono HQ.out.hb.size)⟩
end Go.Proofs.Ytpmadfokpimjcaa
