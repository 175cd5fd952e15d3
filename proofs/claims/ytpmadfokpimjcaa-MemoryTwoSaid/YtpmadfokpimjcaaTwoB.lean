/-
MemoryTwo returns true where one of the memories is there.
-/
import Derived.Test.YtpmadfokpimjcaaPly
import Derived.Test.YtpmadfokpimjcaaMix
namespace Go.Proofs.Ytpmadfokpimjcaa
open Go.ChangeShapes Go.WideShapes Go.ChangeAt Go.RowKit

set_option maxRecDepth 100000 in
set_option maxHeartbeats 16000000 in
theorem two_first {w : World} {vx va vb : Value} {l : List Int} {one two : List OpS} (hs1 : w.Src 1 vx l.length (u64s l)) (hn : l.length ≤ 8192) (ho1 : OpsIn w va one) (hm1 : one.length ≤ 2999999999999) (ho2 : OpsIn w vb two) (hm2 : two.length ≤ 2999999999999) (oy : Option Addr) (n c : Nat) (hny : 8192 < n) (hmy : n ≤ 9223372036854775807) : Calls Try.prog 11 #[vx, va, .slice oy n c, vb] w fun e w' => e = .returned (.bool true) ∧ Below w.heap.size w w' := by
  have HB := Lib.hid (begin_ok hs1 hn)
  obtain ⟨ox, cx, rfl⟩ : ∃ o c, vx = .slice o l.length c := by
    rcases hs1.2 with ⟨rfl, h0⟩ | ⟨ad, c, rfl, hc, _⟩
    · exact ⟨none, 0, by rw [h0]⟩
    · exact ⟨some ad, c, rfl⟩
  obtain ⟨oa, ca, rfl, hops1⟩ := ho1
  obtain ⟨ob, cb, rfl, hops2⟩ := ho2
  have HO1 := Lib.hid hops1
  have HO2 := Lib.hid hops2
  clear hs1 hops1 hops2
  go_enter Try.func11, Try.ntmps11
  go_wp2_with fail
  refine HB.out.mono ?_
  rintro e w1 ⟨mb, rb, rfl, hp1⟩
  have HP0 := Lib.hid hp1
  clear hp1 HB
  go_wp2_with fail
  refine (begin_long oy n c hny hmy).mono ?_
  rintro e w2 ⟨rfl, rfl⟩
  go_wp2
  go_loopg [15] (max one.length two.length) (fun g sl wr => ∃ k : Nat, k ≤ max one.length two.length ∧ max one.length two.length ≤ k + g ∧ sl = .int .i64 (k : Int) ∧ Hid (∃ st, Good2 l st ∧ st.log.length ≤ k ∧ PairM w mb rb l st wr))
  case atStart => exact ⟨0, by omega, by omega, rfl, Lib.hid ⟨_, Good2.start l, by simp, HP0.out⟩⟩
  case round =>
    clear HP0
    obtain ⟨k, hk, hg, rfl, hS⟩ := hrel
    obtain ⟨st, hgd, hll, hp⟩ := hS.out
    have HP := Lib.hid hp
    have HG := Lib.hid hgd
    clear hp hgd hS
    by_cases hD : k < one.length
    · by_cases hE : k < two.length
      · have a1 : decide ((k : Int) < (one.length : Int)) = true := by simp; omega
        have a2 : decide (k < one.length) = true := by simp; omega
        have b1 : decide ((k : Int) < (two.length : Int)) = true := by simp; omega
        have b2 : decide (k < two.length) = true := by simp; omega
        obtain ⟨bz, offz, rfl, dz0, dz1, dz2, dz3, dz4, dz5⟩ := op_cells HO1.out (Below.refl _ _) k hD
        have hltz := World.block_lt_of_cell? w _ dz0
        generalize one[k].kd = z0 at *
        generalize one[k].th = z1 at *
        generalize one[k].ad = z2 at *
        generalize one[k].n = z3 at *
        generalize one[k].old = z4 at *
        generalize one[k].w = z5 at *
        have fz0 := fun g : Later w => g.cell dz0 hltz
        have fz1 := fun g : Later w => g.cell dz1 hltz
        have fz2 := fun g : Later w => g.cell dz2 hltz
        have fz3 := fun g : Later w => g.cell dz3 hltz
        have fz4 := fun g : Later w => g.cell dz4 hltz
        have fz5 := fun g : Later w => g.cell dz5 hltz
        clear dz0 dz1 dz2 dz3 dz4 dz5
        go_wp2
        refine wp_region_steps (fun w9 => ∃ g : Later w, w9 = g.W) [14, 5, 0] (by kernel_rfl) (by kernel_rfl) (later_in HP.out.hb.drew) ?_
        simp only [cutSteps, List.take_succ_cons, List.take_zero, List.drop_succ_cons, List.drop_zero, wpSteps]
        repeat (first | go_big_quiet_skip | (go_big_quiet_want; go_big_quiet_op; go_big_quiet_on))
        refine wpQuiet_nil ?_
        go_wp2_with (go_at_call 33; refine (pm_ask HP.out.drew HG.out (by omega) hn z0 z1 z2 z3 z4 z5).mono ?_; rintro e w2 ⟨ht, hmd⟩; have ht0 := ht; obtain ⟨vn, vw, vl, rfl, _, _, _⟩ := ht; have HT1 := Lib.hid ht0; have HMD := Lib.hid hmd; clear ht0 hmd)
        try unfold Strict
        refine ⟨?_, ?_⟩
        · exact later_in HMD.out.hb
        repeat (first | go_big_quiet_skip | (go_big_quiet_want; go_big_quiet_op; go_big_quiet_on))
        refine wpQuiet_nil ?_
        go_wp2_with (go_at_call 34; refine (pm_doc HMD.out HG.out (by omega) hn z0 z1 z2 z3 z4 z5 rfl).mono ?_; rintro e w3 ⟨ht, hpm, hon⟩; have ht0 := ht; obtain ⟨un, uw, ul, rfl, _, _, _⟩ := ht; have HT2 := Lib.hid ht0; have HT3 := Lib.hid (HT1.out.keep hon); have HPM := Lib.hid hpm; clear ht0 hpm hon)
        try unfold Strict
        refine ⟨?_, ?_⟩
        · exact later_in HPM.out.hb
        repeat (first | go_big_quiet_skip | (go_big_quiet_want; go_big_quiet_op; go_big_quiet_on))
        refine wpQuiet_nil ?_
        go_wp2_with (go_at_call 32; refine (pm_same HT3.out HT2.out).mono ?_; rintro e w4 ⟨rfl, hb4⟩; have HP4 := Lib.hid (HPM.out.below hb4); clear hb4)
        try unfold Strict
        refine ⟨?_, ?_⟩
        · exact later_in HP4.out.hb
        repeat (first | go_big_quiet_skip | (go_big_quiet_want; go_big_quiet_op; go_big_quiet_on))
        refine wpQuiet_nil ?_
        go_wp2
        refine wp_region_more_lit (by kernel_rfl) (by kernel_rfl) ?_
        repeat (first | go_big_quiet_skip | (go_big_quiet_want; go_big_quiet_op; first | go_big_quiet_on | (apply Exists.intro; refine ⟨fun _ => ?_, ?_⟩; (focus (fail)); go_big_quiet_on)))
        refine wpQuiet_nil ?_
        intro osq dq
        have HP6 := Lib.hid (HP4.out.below ((Below.refl _ _).more1 osq dq))
        go_wp2
        go_roundg (max one.length two.length - (k + 1))
        case measure => omega
        case rel => exact ⟨k + 1, by omega, by omega, by go_num, Lib.hid ⟨_, HG.out.next ⟨z0, z1, z2, z3, z4, z5⟩, (by have := nextF_log st ⟨z0, z1, z2, z3, z4, z5⟩; omega), HP6.out⟩⟩
      · have a1 : decide ((k : Int) < (one.length : Int)) = true := by simp; omega
        have a2 : decide (k < one.length) = true := by simp; omega
        have b1 : decide ((k : Int) < (two.length : Int)) = false := by simp; omega
        have b2 : decide (k < two.length) = false := by simp; omega
        obtain ⟨bz, offz, rfl, dz0, dz1, dz2, dz3, dz4, dz5⟩ := op_cells HO1.out (Below.refl _ _) k hD
        have hltz := World.block_lt_of_cell? w _ dz0
        generalize one[k].kd = z0 at *
        generalize one[k].th = z1 at *
        generalize one[k].ad = z2 at *
        generalize one[k].n = z3 at *
        generalize one[k].old = z4 at *
        generalize one[k].w = z5 at *
        have fz0 := fun g : Later w => g.cell dz0 hltz
        have fz1 := fun g : Later w => g.cell dz1 hltz
        have fz2 := fun g : Later w => g.cell dz2 hltz
        have fz3 := fun g : Later w => g.cell dz3 hltz
        have fz4 := fun g : Later w => g.cell dz4 hltz
        have fz5 := fun g : Later w => g.cell dz5 hltz
        clear dz0 dz1 dz2 dz3 dz4 dz5
        go_wp2
        refine wp_region_steps (fun w9 => ∃ g : Later w, w9 = g.W) [14, 5, 0] (by kernel_rfl) (by kernel_rfl) (later_in HP.out.hb.drew) ?_
        simp only [cutSteps, List.take_succ_cons, List.take_zero, List.drop_succ_cons, List.drop_zero, wpSteps]
        repeat (first | go_big_quiet_skip | (go_big_quiet_want; go_big_quiet_op; go_big_quiet_on))
        refine wpQuiet_nil ?_
        go_wp2_with (go_at_call 33; refine (pm_ask HP.out.drew HG.out (by omega) hn z0 z1 z2 z3 z4 z5).mono ?_; rintro e w2 ⟨ht, hmd⟩; have ht0 := ht; obtain ⟨vn, vw, vl, rfl, _, _, _⟩ := ht; have HT1 := Lib.hid ht0; have HMD := Lib.hid hmd; clear ht0 hmd)
        try unfold Strict
        refine ⟨?_, ?_⟩
        · exact later_in HMD.out.hb
        repeat (first | go_big_quiet_skip | (go_big_quiet_want; go_big_quiet_op; go_big_quiet_on))
        refine wpQuiet_nil ?_
        go_wp2_with (go_at_call 34; refine (pm_doc HMD.out HG.out (by omega) hn z0 z1 z2 z3 z4 z5 rfl).mono ?_; rintro e w3 ⟨ht, hpm, hon⟩; have ht0 := ht; obtain ⟨un, uw, ul, rfl, _, _, _⟩ := ht; have HT2 := Lib.hid ht0; have HT3 := Lib.hid (HT1.out.keep hon); have HPM := Lib.hid hpm; clear ht0 hpm hon)
        try unfold Strict
        refine ⟨?_, ?_⟩
        · exact later_in HPM.out.hb
        repeat (first | go_big_quiet_skip | (go_big_quiet_want; go_big_quiet_op; go_big_quiet_on))
        refine wpQuiet_nil ?_
        go_wp2_with (go_at_call 32; refine (pm_same HT3.out HT2.out).mono ?_; rintro e w4 ⟨rfl, hb4⟩; have HP4 := Lib.hid (HPM.out.below hb4); clear hb4)
        try unfold Strict
        refine ⟨?_, ?_⟩
        · exact later_in HP4.out.hb
        repeat (first | go_big_quiet_skip | (go_big_quiet_want; go_big_quiet_op; go_big_quiet_on))
        refine wpQuiet_nil ?_
        go_wp2
        refine wp_region_more_lit (by kernel_rfl) (by kernel_rfl) ?_
        repeat (first | go_big_quiet_skip | (go_big_quiet_want; go_big_quiet_op; first | go_big_quiet_on | (apply Exists.intro; refine ⟨fun _ => ?_, ?_⟩; (focus (fail)); go_big_quiet_on)))
        refine wpQuiet_nil ?_
        intro osq dq
        have HP6 := Lib.hid (HP4.out.below ((Below.refl _ _).more1 osq dq))
        go_wp2
        go_roundg (max one.length two.length - (k + 1))
        case measure => omega
        case rel => exact ⟨k + 1, by omega, by omega, by go_num, Lib.hid ⟨_, HG.out.next ⟨z0, z1, z2, z3, z4, z5⟩, (by have := nextF_log st ⟨z0, z1, z2, z3, z4, z5⟩; omega), HP6.out⟩⟩
    · by_cases hE : k < two.length
      · have a1 : decide ((k : Int) < (one.length : Int)) = false := by simp; omega
        have a2 : decide (k < one.length) = false := by simp; omega
        have b1 : decide ((k : Int) < (two.length : Int)) = true := by simp; omega
        have b2 : decide (k < two.length) = true := by simp; omega
        go_wp2
        refine wp_region_more_lit (by kernel_rfl) (by kernel_rfl) ?_
        repeat (first | go_big_quiet_skip | (go_big_quiet_want; go_big_quiet_op; first | go_big_quiet_on | (apply Exists.intro; refine ⟨fun _ => ?_, ?_⟩; (focus (fail)); go_big_quiet_on)))
        refine wpQuiet_nil ?_
        intro osq dq
        have HP5 := Lib.hid (HP.out.below ((Below.refl _ _).more1 osq dq))
        go_wp2
        refine wp_region_more_lit (by kernel_rfl) (by kernel_rfl) ?_
        repeat (first | go_big_quiet_skip | (go_big_quiet_want; go_big_quiet_op; first | go_big_quiet_on | (apply Exists.intro; refine ⟨fun _ => ?_, ?_⟩; (focus (fail)); go_big_quiet_on)))
        refine wpQuiet_nil ?_
        intro osq dq
        have HP6 := Lib.hid (HP5.out.below ((Below.refl _ _).more1 osq dq))
        go_wp2
        go_roundg (max one.length two.length - (k + 1))
        case measure => omega
        case rel => exact ⟨k + 1, by omega, by omega, by go_num, Lib.hid ⟨_, HG.out, (by omega), HP6.out⟩⟩
      · have a1 : decide ((k : Int) < (one.length : Int)) = false := by simp; omega
        have a2 : decide (k < one.length) = false := by simp; omega
        have b1 : decide ((k : Int) < (two.length : Int)) = false := by simp; omega
        have b2 : decide (k < two.length) = false := by simp; omega
        have WL := Lib.hid HG.out.toGood.len
        obtain ⟨vm, vr, p1, p2, _⟩ := HP.out.m
        obtain ⟨ow, cw, ol, cl, oc, cc, rfl, l1, l2, l3, m1, m2, m3⟩ := p2.slices
        obtain ⟨c0, c1, c2, c3, cz, clt⟩ := p2.head
        simp only at c0 c1 c2 c3
        have fc0 := fun g : Later wr => g.cell c0 clt
        have fc1 := fun g : Later wr => g.cell c1 clt
        have fc2 := fun g : Later wr => g.cell c2 clt
        have fc3 := fun g : Later wr => g.cell c3 clt
        have P1 := Lib.hid p1
        have P2 := Lib.hid p2
        clear p1 p2 c0 c1 c2 c3
        go_wp2
        refine wp_region_steps (fun w9 => ∃ g : Later wr, w9 = g.W) [4, 4, 6, 4] (by kernel_rfl) (by kernel_rfl) (later_in ((Below.refl _ _).drew)) ?_
        simp only [cutSteps, List.take_succ_cons, List.take_zero, List.drop_succ_cons, List.drop_zero, wpSteps]
        repeat (first | go_big_quiet_skip | (go_big_quiet_want; go_big_quiet_op; go_big_quiet_on))
        refine wpQuiet_nil ?_
        go_wp2_with (go_at_call 24; refine (words_mem P1.out.drew (by rw [WL.out]; omega)).mono ?_; rintro e w5 ⟨o5, c5, rfl, n5, m5, hr5, ho5⟩; have hb5 : Below wr.heap.size wr w5 := Below.undrew (ho5.below (fun _ hx => hx.elim) (Nat.le_refl _)); have HSW1 := Lib.hid (sameWords_yes hr5 (P2.out.of_block (w' := w5) (fun i hi => hb5.block i (P2.out.lt i hi).2)).rn); have HB5 := Lib.hid hb5; clear hr5 ho5 hb5)
        try unfold Strict
        refine ⟨?_, ?_⟩
        · exact later_in HB5.out
        repeat (first | go_big_quiet_skip | (go_big_quiet_want; go_big_quiet_op; go_big_quiet_on))
        refine wpQuiet_nil ?_
        go_wp2_with (go_at_call 23; refine HSW1.out.mono ?_; rintro e w6 ⟨rfl, hb6⟩; have HB6 := Lib.hid (HB5.out.trans (hb6.mono HB5.out.size)); clear hb6)
        try unfold Strict
        refine ⟨?_, ?_⟩
        · exact later_in HB6.out
        repeat (first | go_big_quiet_skip | (go_big_quiet_want; go_big_quiet_op; go_big_quiet_on))
        refine wpQuiet_nil ?_
        go_wp2_with fail
        try unfold Strict
        refine ⟨?_, ?_⟩
        · exact later_in HB6.out
        repeat (first | go_big_quiet_skip | (go_big_quiet_want; go_big_quiet_op; go_big_quiet_on))
        refine wpQuiet_nil ?_
        go_wp2_with fail
        try unfold Strict
        refine ⟨?_, ?_⟩
        · exact later_in HB6.out
        repeat (first | go_big_quiet_skip | (go_big_quiet_want; go_big_quiet_op; go_big_quiet_on))
        refine wpQuiet_nil ?_
        go_wp2
        go_ret
        exact ⟨rfl, HP.out.hb.trans (HB6.out.mono HP.out.hb.size)⟩

set_option maxRecDepth 100000 in
set_option maxHeartbeats 16000000 in
theorem two_second {w : World} {vx va vb : Value} {l : List Int} {one two : List OpS} (hs1 : w.Src 1 vx l.length (u64s l)) (hn : l.length ≤ 8192) (ho1 : OpsIn w va one) (hm1 : one.length ≤ 2999999999999) (ho2 : OpsIn w vb two) (hm2 : two.length ≤ 2999999999999) (oy : Option Addr) (n c : Nat) (hny : 8192 < n) (hmy : n ≤ 9223372036854775807) : Calls Try.prog 11 #[.slice oy n c, va, vx, vb] w fun e w' => e = .returned (.bool true) ∧ Below w.heap.size w w' := by
  have HB := Lib.hid (begin_ok hs1 hn)
  obtain ⟨ox, cx, rfl⟩ : ∃ o c, vx = .slice o l.length c := by
    rcases hs1.2 with ⟨rfl, h0⟩ | ⟨ad, c, rfl, hc, _⟩
    · exact ⟨none, 0, by rw [h0]⟩
    · exact ⟨some ad, c, rfl⟩
  obtain ⟨oa, ca, rfl, hops1⟩ := ho1
  obtain ⟨ob, cb, rfl, hops2⟩ := ho2
  have HO1 := Lib.hid hops1
  have HO2 := Lib.hid hops2
  clear hs1 hops1 hops2
  go_enter Try.func11, Try.ntmps11
  go_wp2_with fail
  refine (begin_long oy n c hny hmy).mono ?_
  rintro e w2 ⟨rfl, rfl⟩
  go_wp2_with fail
  refine HB.out.mono ?_
  rintro e w1 ⟨mb, rb, rfl, hp1⟩
  have HP0 := Lib.hid hp1
  clear hp1 HB
  go_wp2
  go_loopg [15] (max one.length two.length) (fun g sl wr => ∃ k : Nat, k ≤ max one.length two.length ∧ max one.length two.length ≤ k + g ∧ sl = .int .i64 (k : Int) ∧ Hid (∃ st, Good2 l st ∧ st.log.length ≤ k ∧ PairM w mb rb l st wr))
  case atStart => exact ⟨0, by omega, by omega, rfl, Lib.hid ⟨_, Good2.start l, by simp, HP0.out⟩⟩
  case round =>
    clear HP0
    obtain ⟨k, hk, hg, rfl, hS⟩ := hrel
    obtain ⟨st, hgd, hll, hp⟩ := hS.out
    have HP := Lib.hid hp
    have HG := Lib.hid hgd
    clear hp hgd hS
    by_cases hD : k < two.length
    · by_cases hE : k < one.length
      · have a1 : decide ((k : Int) < (one.length : Int)) = true := by simp; omega
        have a2 : decide (k < one.length) = true := by simp; omega
        have b1 : decide ((k : Int) < (two.length : Int)) = true := by simp; omega
        have b2 : decide (k < two.length) = true := by simp; omega
        obtain ⟨bz, offz, rfl, dz0, dz1, dz2, dz3, dz4, dz5⟩ := op_cells HO2.out (Below.refl _ _) k hD
        have hltz := World.block_lt_of_cell? w _ dz0
        generalize two[k].kd = z0 at *
        generalize two[k].th = z1 at *
        generalize two[k].ad = z2 at *
        generalize two[k].n = z3 at *
        generalize two[k].old = z4 at *
        generalize two[k].w = z5 at *
        have fz0 := fun g : Later w => g.cell dz0 hltz
        have fz1 := fun g : Later w => g.cell dz1 hltz
        have fz2 := fun g : Later w => g.cell dz2 hltz
        have fz3 := fun g : Later w => g.cell dz3 hltz
        have fz4 := fun g : Later w => g.cell dz4 hltz
        have fz5 := fun g : Later w => g.cell dz5 hltz
        clear dz0 dz1 dz2 dz3 dz4 dz5
        go_wp2
        refine wp_region_more_lit (by kernel_rfl) (by kernel_rfl) ?_
        repeat (first | go_big_quiet_skip | (go_big_quiet_want; go_big_quiet_op; first | go_big_quiet_on | (apply Exists.intro; refine ⟨fun _ => ?_, ?_⟩; (focus (fail)); go_big_quiet_on)))
        refine wpQuiet_nil ?_
        intro osq dq
        have HP5 := Lib.hid (HP.out.below ((Below.refl _ _).more1 osq dq))
        go_wp2
        refine wp_region_steps (fun w9 => ∃ g : Later w, w9 = g.W) [14, 5, 0] (by kernel_rfl) (by kernel_rfl) (later_in HP5.out.hb.drew) ?_
        simp only [cutSteps, List.take_succ_cons, List.take_zero, List.drop_succ_cons, List.drop_zero, wpSteps]
        repeat (first | go_big_quiet_skip | (go_big_quiet_want; go_big_quiet_op; go_big_quiet_on))
        refine wpQuiet_nil ?_
        go_wp2_with (go_at_call 33; refine (pm_ask HP5.out.drew HG.out (by omega) hn z0 z1 z2 z3 z4 z5).mono ?_; rintro e w2 ⟨ht, hmd⟩; have ht0 := ht; obtain ⟨vn, vw, vl, rfl, _, _, _⟩ := ht; have HT1 := Lib.hid ht0; have HMD := Lib.hid hmd; clear ht0 hmd)
        try unfold Strict
        refine ⟨?_, ?_⟩
        · exact later_in HMD.out.hb
        repeat (first | go_big_quiet_skip | (go_big_quiet_want; go_big_quiet_op; go_big_quiet_on))
        refine wpQuiet_nil ?_
        go_wp2_with (go_at_call 34; refine (pm_doc HMD.out HG.out (by omega) hn z0 z1 z2 z3 z4 z5 rfl).mono ?_; rintro e w3 ⟨ht, hpm, hon⟩; have ht0 := ht; obtain ⟨un, uw, ul, rfl, _, _, _⟩ := ht; have HT2 := Lib.hid ht0; have HT3 := Lib.hid (HT1.out.keep hon); have HPM := Lib.hid hpm; clear ht0 hpm hon)
        try unfold Strict
        refine ⟨?_, ?_⟩
        · exact later_in HPM.out.hb
        repeat (first | go_big_quiet_skip | (go_big_quiet_want; go_big_quiet_op; go_big_quiet_on))
        refine wpQuiet_nil ?_
        go_wp2_with (go_at_call 32; refine (pm_same HT3.out HT2.out).mono ?_; rintro e w4 ⟨rfl, hb4⟩; have HP4 := Lib.hid (HPM.out.below hb4); clear hb4)
        try unfold Strict
        refine ⟨?_, ?_⟩
        · exact later_in HP4.out.hb
        repeat (first | go_big_quiet_skip | (go_big_quiet_want; go_big_quiet_op; go_big_quiet_on))
        refine wpQuiet_nil ?_
        go_wp2
        go_roundg (max one.length two.length - (k + 1))
        case measure => omega
        case rel => exact ⟨k + 1, by omega, by omega, by go_num, Lib.hid ⟨_, HG.out.next ⟨z0, z1, z2, z3, z4, z5⟩, (by have := nextF_log st ⟨z0, z1, z2, z3, z4, z5⟩; omega), HP4.out⟩⟩
      · have a1 : decide ((k : Int) < (one.length : Int)) = false := by simp; omega
        have a2 : decide (k < one.length) = false := by simp; omega
        have b1 : decide ((k : Int) < (two.length : Int)) = true := by simp; omega
        have b2 : decide (k < two.length) = true := by simp; omega
        obtain ⟨bz, offz, rfl, dz0, dz1, dz2, dz3, dz4, dz5⟩ := op_cells HO2.out (Below.refl _ _) k hD
        have hltz := World.block_lt_of_cell? w _ dz0
        generalize two[k].kd = z0 at *
        generalize two[k].th = z1 at *
        generalize two[k].ad = z2 at *
        generalize two[k].n = z3 at *
        generalize two[k].old = z4 at *
        generalize two[k].w = z5 at *
        have fz0 := fun g : Later w => g.cell dz0 hltz
        have fz1 := fun g : Later w => g.cell dz1 hltz
        have fz2 := fun g : Later w => g.cell dz2 hltz
        have fz3 := fun g : Later w => g.cell dz3 hltz
        have fz4 := fun g : Later w => g.cell dz4 hltz
        have fz5 := fun g : Later w => g.cell dz5 hltz
        clear dz0 dz1 dz2 dz3 dz4 dz5
        go_wp2
        refine wp_region_more_lit (by kernel_rfl) (by kernel_rfl) ?_
        repeat (first | go_big_quiet_skip | (go_big_quiet_want; go_big_quiet_op; first | go_big_quiet_on | (apply Exists.intro; refine ⟨fun _ => ?_, ?_⟩; (focus (fail)); go_big_quiet_on)))
        refine wpQuiet_nil ?_
        intro osq dq
        have HP5 := Lib.hid (HP.out.below ((Below.refl _ _).more1 osq dq))
        go_wp2
        refine wp_region_steps (fun w9 => ∃ g : Later w, w9 = g.W) [14, 5, 0] (by kernel_rfl) (by kernel_rfl) (later_in HP5.out.hb.drew) ?_
        simp only [cutSteps, List.take_succ_cons, List.take_zero, List.drop_succ_cons, List.drop_zero, wpSteps]
        repeat (first | go_big_quiet_skip | (go_big_quiet_want; go_big_quiet_op; go_big_quiet_on))
        refine wpQuiet_nil ?_
        go_wp2_with (go_at_call 33; refine (pm_ask HP5.out.drew HG.out (by omega) hn z0 z1 z2 z3 z4 z5).mono ?_; rintro e w2 ⟨ht, hmd⟩; have ht0 := ht; obtain ⟨vn, vw, vl, rfl, _, _, _⟩ := ht; have HT1 := Lib.hid ht0; have HMD := Lib.hid hmd; clear ht0 hmd)
        try unfold Strict
        refine ⟨?_, ?_⟩
        · exact later_in HMD.out.hb
        repeat (first | go_big_quiet_skip | (go_big_quiet_want; go_big_quiet_op; go_big_quiet_on))
        refine wpQuiet_nil ?_
        go_wp2_with (go_at_call 34; refine (pm_doc HMD.out HG.out (by omega) hn z0 z1 z2 z3 z4 z5 rfl).mono ?_; rintro e w3 ⟨ht, hpm, hon⟩; have ht0 := ht; obtain ⟨un, uw, ul, rfl, _, _, _⟩ := ht; have HT2 := Lib.hid ht0; have HT3 := Lib.hid (HT1.out.keep hon); have HPM := Lib.hid hpm; clear ht0 hpm hon)
        try unfold Strict
        refine ⟨?_, ?_⟩
        · exact later_in HPM.out.hb
        repeat (first | go_big_quiet_skip | (go_big_quiet_want; go_big_quiet_op; go_big_quiet_on))
        refine wpQuiet_nil ?_
        go_wp2_with (go_at_call 32; refine (pm_same HT3.out HT2.out).mono ?_; rintro e w4 ⟨rfl, hb4⟩; have HP4 := Lib.hid (HPM.out.below hb4); clear hb4)
        try unfold Strict
        refine ⟨?_, ?_⟩
        · exact later_in HP4.out.hb
        repeat (first | go_big_quiet_skip | (go_big_quiet_want; go_big_quiet_op; go_big_quiet_on))
        refine wpQuiet_nil ?_
        go_wp2
        go_roundg (max one.length two.length - (k + 1))
        case measure => omega
        case rel => exact ⟨k + 1, by omega, by omega, by go_num, Lib.hid ⟨_, HG.out.next ⟨z0, z1, z2, z3, z4, z5⟩, (by have := nextF_log st ⟨z0, z1, z2, z3, z4, z5⟩; omega), HP4.out⟩⟩
    · by_cases hE : k < one.length
      · have a1 : decide ((k : Int) < (one.length : Int)) = true := by simp; omega
        have a2 : decide (k < one.length) = true := by simp; omega
        have b1 : decide ((k : Int) < (two.length : Int)) = false := by simp; omega
        have b2 : decide (k < two.length) = false := by simp; omega
        go_wp2
        refine wp_region_more_lit (by kernel_rfl) (by kernel_rfl) ?_
        repeat (first | go_big_quiet_skip | (go_big_quiet_want; go_big_quiet_op; first | go_big_quiet_on | (apply Exists.intro; refine ⟨fun _ => ?_, ?_⟩; (focus (fail)); go_big_quiet_on)))
        refine wpQuiet_nil ?_
        intro osq dq
        have HP5 := Lib.hid (HP.out.below ((Below.refl _ _).more1 osq dq))
        go_wp2
        refine wp_region_more_lit (by kernel_rfl) (by kernel_rfl) ?_
        repeat (first | go_big_quiet_skip | (go_big_quiet_want; go_big_quiet_op; first | go_big_quiet_on | (apply Exists.intro; refine ⟨fun _ => ?_, ?_⟩; (focus (fail)); go_big_quiet_on)))
        refine wpQuiet_nil ?_
        intro osq dq
        have HP6 := Lib.hid (HP5.out.below ((Below.refl _ _).more1 osq dq))
        go_wp2
        go_roundg (max one.length two.length - (k + 1))
        case measure => omega
        case rel => exact ⟨k + 1, by omega, by omega, by go_num, Lib.hid ⟨_, HG.out, (by omega), HP6.out⟩⟩
      · have a1 : decide ((k : Int) < (one.length : Int)) = false := by simp; omega
        have a2 : decide (k < one.length) = false := by simp; omega
        have b1 : decide ((k : Int) < (two.length : Int)) = false := by simp; omega
        have b2 : decide (k < two.length) = false := by simp; omega
        have WL := Lib.hid HG.out.toGood.len
        obtain ⟨vm, vr, p1, p2, _⟩ := HP.out.m
        obtain ⟨ow, cw, ol, cl, oc, cc, rfl, l1, l2, l3, m1, m2, m3⟩ := p2.slices
        obtain ⟨c0, c1, c2, c3, cz, clt⟩ := p2.head
        simp only at c0 c1 c2 c3
        have fc0 := fun g : Later wr => g.cell c0 clt
        have fc1 := fun g : Later wr => g.cell c1 clt
        have fc2 := fun g : Later wr => g.cell c2 clt
        have fc3 := fun g : Later wr => g.cell c3 clt
        have P1 := Lib.hid p1
        have P2 := Lib.hid p2
        clear p1 p2 c0 c1 c2 c3
        go_wp2
        refine wp_region_steps (fun w9 => ∃ g : Later wr, w9 = g.W) [4, 4, 6, 4] (by kernel_rfl) (by kernel_rfl) (later_in ((Below.refl _ _).drew)) ?_
        simp only [cutSteps, List.take_succ_cons, List.take_zero, List.drop_succ_cons, List.drop_zero, wpSteps]
        repeat (first | go_big_quiet_skip | (go_big_quiet_want; go_big_quiet_op; go_big_quiet_on))
        refine wpQuiet_nil ?_
        go_wp2_with fail
        try unfold Strict
        refine ⟨?_, ?_⟩
        · exact later_in ((Below.refl _ _).drew)
        repeat (first | go_big_quiet_skip | (go_big_quiet_want; go_big_quiet_op; go_big_quiet_on))
        refine wpQuiet_nil ?_
        go_wp2_with fail
        try unfold Strict
        refine ⟨?_, ?_⟩
        · exact later_in ((Below.refl _ _).drew)
        repeat (first | go_big_quiet_skip | (go_big_quiet_want; go_big_quiet_op; go_big_quiet_on))
        refine wpQuiet_nil ?_
        go_wp2_with (go_at_call 24; refine (words_mem P1.out.drew (by rw [WL.out]; omega)).mono ?_; rintro e w5 ⟨o5, c5, rfl, n5, m5, hr5, ho5⟩; have hb5 : Below wr.heap.size wr w5 := Below.undrew (ho5.below (fun _ hx => hx.elim) (Nat.le_refl _)); have HSW1 := Lib.hid (sameWords_yes hr5 (P2.out.of_block (w' := w5) (fun i hi => hb5.block i (P2.out.lt i hi).2)).rn); have HB5 := Lib.hid hb5; clear hr5 ho5 hb5)
        try unfold Strict
        refine ⟨?_, ?_⟩
        · exact later_in HB5.out
        repeat (first | go_big_quiet_skip | (go_big_quiet_want; go_big_quiet_op; go_big_quiet_on))
        refine wpQuiet_nil ?_
        go_wp2_with (go_at_call 23; refine HSW1.out.mono ?_; rintro e w6 ⟨rfl, hb6⟩; have HB6 := Lib.hid (HB5.out.trans (hb6.mono HB5.out.size)); clear hb6)
        try unfold Strict
        refine ⟨?_, ?_⟩
        · exact later_in HB6.out
        repeat (first | go_big_quiet_skip | (go_big_quiet_want; go_big_quiet_op; go_big_quiet_on))
        refine wpQuiet_nil ?_
        go_wp2
        go_ret
        exact ⟨rfl, HP.out.hb.trans (HB6.out.mono HP.out.hb.size)⟩
end Go.Proofs.Ytpmadfokpimjcaa
