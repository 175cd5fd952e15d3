/-
MemoryBacks returns true.
-/
import Derived.Test.YtpmadfokpimjcaaBksP
namespace Go.Proofs.Ytpmadfokpimjcaa
open Go.ChangeShapes Go.WideShapes Go.ChangeAt Go.RowKit

theorem acc_next (l : List Int) (pre ops : List OpS) (k : Nat) (h : k < ops.length) : accF (accs1 l (pre ++ ops.take k)) ⟨ops[k].kd, ops[k].th, ops[k].ad, ops[k].n, ops[k].old, ops[k].w⟩ = accs1 l (pre ++ ops.take (k + 1)) := by
  rw [take_next ops k h, ← List.append_assoc, accs_snocF]
theorem acc_small (l : List Int) (pre ops : List OpS) (k : Nat) (h1 : pre.length ≤ 1000000000) (h2 : ops.length ≤ 1000000000) : (accs1 l (pre ++ ops.take k)).log.length ≤ 3000000000 ∧ (accs1 l (pre ++ ops.take k)).ahead.length ≤ 3000000000 := by
  have h := accs1_len l (pre ++ ops.take k)
  have h3 := (accs1_good l (pre ++ ops.take k)).ahead
  rw [List.length_append, List.length_take] at h
  omega
/-- the cells of one call of a script, in a world that has grown -/
theorem op_cells {w wr : World} {oo : Option Addr} {ops : List OpS} (hops : ∀ i (h : i < ops.length), ∃ b off, oo = some ⟨b, off, none⟩ ∧ b < w.heap.size ∧
    w.cell? ⟨b, off + i * 6 + 0, none⟩ = some (.int .i64 ops[i].kd) ∧ w.cell? ⟨b, off + i * 6 + 1, none⟩ = some (.int .i64 ops[i].th) ∧ w.cell? ⟨b, off + i * 6 + 2, none⟩ = some (.int .i64 ops[i].ad) ∧
    w.cell? ⟨b, off + i * 6 + 3, none⟩ = some (.int .i64 ops[i].n) ∧ w.cell? ⟨b, off + i * 6 + 4, none⟩ = some (.int .u64 ops[i].old) ∧ w.cell? ⟨b, off + i * 6 + 5, none⟩ = some (.int .u64 ops[i].w)) (hb : Below w.heap.size w wr) (k : Nat) (hk : k < ops.length) :
    ∃ b off, oo = some ⟨b, off, none⟩ ∧ wr.cell? ⟨b, off + k * 6, none⟩ = some (.int .i64 ops[k].kd) ∧ wr.cell? ⟨b, off + k * 6 + 1, none⟩ = some (.int .i64 ops[k].th) ∧ wr.cell? ⟨b, off + k * 6 + 2, none⟩ = some (.int .i64 ops[k].ad) ∧
    wr.cell? ⟨b, off + k * 6 + 3, none⟩ = some (.int .i64 ops[k].n) ∧ wr.cell? ⟨b, off + k * 6 + 4, none⟩ = some (.int .u64 ops[k].old) ∧ wr.cell? ⟨b, off + k * 6 + 5, none⟩ = some (.int .u64 ops[k].w) := by
  obtain ⟨b, off, e, hlt, p0, p1, p2, p3, p4, p5⟩ := hops k hk
  have tr : ∀ j u, w.cell? ⟨b, j, none⟩ = some u → wr.cell? ⟨b, j, none⟩ = some u := fun j u hu => (hb.cell (p := ⟨b, j, none⟩) hlt).trans hu
  exact ⟨b, off, e, tr _ _ p0, tr _ _ p1, tr _ _ p2, tr _ _ p3, tr _ _ p4, tr _ _ p5⟩

set_option maxRecDepth 100000 in
set_option maxHeartbeats 16000000 in
theorem bks_ok {w : World} {vx va vb vc : Value} {l : List Int} {one two three : List OpS} (hs : w.Src 1 vx l.length (u64s l)) (hn : l.length ≤ 8192) (ho1 : OpsIn w va one) (ho2 : OpsIn w vb two) (ho3 : OpsIn w vc three)
    (hm1 : one.length ≤ 1000000000) (hm2 : two.length ≤ 1000000000) (hm3 : three.length ≤ 1000000000) : Calls Try.prog 9 #[vx, va, vb, vc] w fun e w' => e = .returned (.bool true) ∧ Below w.heap.size w w' := by
  have HS := Lib.hid hs
  have HM := Lib.hid (made_ok hs hn)
  obtain ⟨ox, cx, rfl⟩ : ∃ o c, vx = .slice o l.length c := by
    rcases hs.2 with ⟨rfl, h0⟩ | ⟨ad, c, rfl, hc, _⟩
    · exact ⟨none, 0, by rw [h0]⟩
    · exact ⟨some ad, c, rfl⟩
  obtain ⟨oa, ca, rfl, hops1⟩ := ho1
  obtain ⟨ob, cb, rfl, hops2⟩ := ho2
  obtain ⟨oc, cc, rfl, hops3⟩ := ho3
  have HO1 := Lib.hid hops1
  have HO2 := Lib.hid hops2
  have HO3 := Lib.hid hops3
  clear hs hops1 hops2 hops3
  go_enter Try.func9, Try.ntmps9
  go_wp2_with fail
  refine HM.out.mono ?_
  rintro e w1 ⟨mb, v1, rfl, hM, hb1⟩
  have HM2 := Lib.hid (made_ok (HS.out.below hb1) hn)
  have H1 := Lib.hid hM
  have B1 := Lib.hid hb1
  clear hM hb1 HM
  go_wp2_with fail
  refine HM2.out.mono ?_
  rintro e w2 ⟨kb, v2, rfl, hM, hb2⟩
  have ht : TwoM w mb kb (accs1 l []) (accs1 l []) w2 :=
    ⟨⟨v1, v2, H1.out.of_block fun i hi => hb2.block i (H1.out.lt i hi).2, hM.base_mono B1.out.size, fun i hi hj => by have h4 := (H1.out.lt i hi).2; have h5 := (hM.lt i hj).1; omega⟩, B1.out.trans (hb2.mono B1.out.size)⟩
  have HT0 := Lib.hid ht
  clear ht hM hb2 HM2
  go_wp2
  go_loopg [11] one.length (fun g sl wr => ∃ k : Nat, k ≤ one.length ∧ one.length ≤ k + g ∧ sl = .int .i64 (k : Int) ∧ Hid (TwoM w mb kb (accs1 l ([] ++ one.take k)) (accs1 l ([] ++ one.take k)) wr))
  case atStart => exact ⟨0, by omega, by omega, rfl, by simpa using HT0⟩
  case round =>
    obtain ⟨k, hk, hg, rfl, HT⟩ := hrel
    by_cases hlk : k < one.length
    · obtain ⟨b, off, rfl, d0, d1, d2, d3, d4, d5⟩ := op_cells HO1.out HT.out.hb k hlk
      have HCL : Hid (∀ w9, Below w.heap.size w w9 → _) := fun w9 hb9 => op_cells HO1.out hb9 k hlk
      have HN := Lib.hid (acc_next l [] one k hlk)
      have LA := Lib.hid (acc_small l [] one k (by simp) hm1)
      generalize one[k].kd = z0 at *
      generalize one[k].th = z1 at *
      generalize one[k].ad = z2 at *
      generalize one[k].n = z3 at *
      generalize one[k].old = z4 at *
      generalize one[k].w = z5 at *
      go_wp2_with fail
      refine (tm_acc HT.out (by have := LA.out.1; omega) (by have := LA.out.2; omega) z0 z1 z2 z3 z4 z5).mono ?_
      rintro e wa ⟨rfl, ht⟩
      rw [HN.out] at ht
      obtain ⟨b', off', eb, f0, f1, f2, f3, f4, f5⟩ := HCL.out wa ht.hb
      cases eb
      have HT1 := Lib.hid ht.swap
      clear ht d0 d1 d2 d3 d4 d5
      go_wp2_with fail
      refine (tm_acc HT1.out (by have := LA.out.1; omega) (by have := LA.out.2; omega) z0 z1 z2 z3 z4 z5).mono ?_
      rintro e wb ⟨rfl, ht⟩
      rw [HN.out] at ht
      have HT2 := Lib.hid ht.swap
      clear ht f0 f1 f2 f3 f4 f5
      go_wp2
      go_roundg (one.length - (k + 1))
      case measure => omega
      case rel => exact ⟨k + 1, by omega, by omega, by go_num, HT2⟩
    · obtain rfl : k = one.length := by omega
      have ht := HT.out
      simp only [List.nil_append, List.take_length] at ht
      have hS1 := accs1_len l one
      have HT3 := Lib.hid ht
      obtain ⟨c, hc⟩ : ∃ c, c = (accs1 l one).log.length := ⟨_, rfl⟩
      have hcc := tm_count ht
      rw [← hc] at hcc
      have HC := Lib.hid hcc
      have CC := Lib.hid hc
      have hcb : c ≤ 1000000000 := by rw [hc]; omega
      clear ht HT hcc hc hS1
      go_wp2_with (go_at_call 17; refine HC.out.mono ?_; rintro e w4 ⟨rfl, rfl⟩)
      clear HC
      go_loopg [13] two.length (fun g sl wr => ∃ k : Nat, k ≤ two.length ∧ two.length ≤ k + g ∧ sl = .int .i64 (k : Int) ∧ Hid (TwoM w mb kb (accs1 l (one ++ two.take k)) (accs1 l one) wr))
      case atStart => exact ⟨0, by omega, by omega, rfl, by simpa using HT3⟩
      case round =>
        clear HT3
        obtain ⟨k, hk, hg, rfl, HT⟩ := hrel
        by_cases hlk : k < two.length
        · obtain ⟨b, off, rfl, d0, d1, d2, d3, d4, d5⟩ := op_cells HO2.out HT.out.hb k hlk
          have HN := Lib.hid (acc_next l one two k hlk)
          have LA := Lib.hid (acc_small l one two k hm1 hm2)
          generalize two[k].kd = z0 at *
          generalize two[k].th = z1 at *
          generalize two[k].ad = z2 at *
          generalize two[k].n = z3 at *
          generalize two[k].old = z4 at *
          generalize two[k].w = z5 at *
          go_wp2_with fail
          refine (tm_acc HT.out (by have := LA.out.1; omega) (by have := LA.out.2; omega) z0 z1 z2 z3 z4 z5).mono ?_
          rintro e wa ⟨rfl, ht⟩
          rw [HN.out] at ht
          have HT1 := Lib.hid ht
          clear ht d0 d1 d2 d3 d4 d5
          go_wp2
          go_roundg (two.length - (k + 1))
          case measure => omega
          case rel => exact ⟨k + 1, by omega, by omega, by go_num, HT1⟩
        · obtain rfl : k = two.length := by omega
          have ht := HT.out
          have LA := acc_small l one two two.length hm1 hm2
          rw [List.take_length] at ht LA
          have hbk := back_accs l one two
          rw [← CC.out] at hbk
          have hB := tm_back ht (accs1_good l (one ++ two)).fine (by omega) c hbk.2
          rw [hbk.1] at hB
          have HB := Lib.hid hB
          clear ht HT hB hbk LA
          go_wp2_with fail
          refine HB.out.mono ?_
          rintro e w5 ⟨rfl, ht5⟩
          have hcc := tm_count ht5
          rw [← CC.out] at hcc
          have HC := Lib.hid hcc
          have hwl := (accs1_good l one).len
          have hW := tm_words ht5 (by omega)
          rw [hwl] at hW
          have HW := Lib.hid hW
          have hne : ((c : Int) != (c : Int)) = false := by simp
          clear ht5 hcc hW HB
          go_wp2_with (first
            | (go_at_call 17; refine HC.out.mono ?_; rintro e w4 ⟨rfl, rfl⟩)
            | (go_at_call 14; refine (num_any _ _).mono ?_; rintro e w2 ⟨rfl, rfl⟩))
          refine HW.out.mono ?_
          rintro e w6 ⟨o6, c6, rfl, n6, m6, hr6, ht6, hb6⟩
          have hW2 := tm_words ht6.swap (by omega)
          rw [hwl] at hW2
          have HW2 := Lib.hid hW2
          have HR6 := Lib.hid hr6
          clear hr6 ht6 hb6 hW2 HW HC
          go_wp2_with fail
          refine HW2.out.mono ?_
          rintro e w7 ⟨o7, c7, rfl, n7, m7, hr7, ht7, hb7⟩
          have HSW := Lib.hid (sameWords_yes (HR6.out.of_block fun i hi => hb7.block i (HR6.out.lt i hi).2) hr7)
          have HT7 := Lib.hid ht7.swap
          clear hr7 ht7 hb7 HW2 hwl
          go_wp2_with fail
          refine HSW.out.mono ?_
          rintro e w8 ⟨rfl, hb8⟩
          have HT8 := Lib.hid (HT7.out.below hb8)
          clear hb8 HT7 HSW
          go_wp2
          go_loopg [14] three.length (fun g sl wr => ∃ k : Nat, k ≤ three.length ∧ three.length ≤ k + g ∧ sl = .int .i64 (k : Int) ∧ Hid (TwoM w mb kb (accs1 l (one ++ three.take k)) (accs1 l (one ++ three.take k)) wr))
          case atStart => exact ⟨0, by omega, by omega, rfl, by simpa using HT8⟩
          case round =>
            clear HT8
            obtain ⟨k, hk, hg, rfl, HT⟩ := hrel
            by_cases hlk : k < three.length
            · obtain ⟨b, off, rfl, d0, d1, d2, d3, d4, d5⟩ := op_cells HO3.out HT.out.hb k hlk
              have HCL : Hid (∀ w9, Below w.heap.size w w9 → _) := fun w9 hb9 => op_cells HO3.out hb9 k hlk
              have HN := Lib.hid (acc_next l one three k hlk)
              have LA := Lib.hid (acc_small l one three k hm1 hm3)
              generalize three[k].kd = z0 at *
              generalize three[k].th = z1 at *
              generalize three[k].ad = z2 at *
              generalize three[k].n = z3 at *
              generalize three[k].old = z4 at *
              generalize three[k].w = z5 at *
              go_wp2_with fail
              refine (tm_acc HT.out (by have := LA.out.1; omega) (by have := LA.out.2; omega) z0 z1 z2 z3 z4 z5).mono ?_
              rintro e wa ⟨rfl, ht⟩
              rw [HN.out] at ht
              obtain ⟨b', off', eb, f0, f1, f2, f3, f4, f5⟩ := HCL.out wa ht.hb
              cases eb
              have HT1 := Lib.hid ht.swap
              clear ht d0 d1 d2 d3 d4 d5
              go_wp2_with fail
              refine (tm_acc HT1.out (by have := LA.out.1; omega) (by have := LA.out.2; omega) z0 z1 z2 z3 z4 z5).mono ?_
              rintro e wb ⟨rfl, ht⟩
              rw [HN.out] at ht
              have HT2 := Lib.hid ht.swap
              clear ht f0 f1 f2 f3 f4 f5
              go_wp2
              go_roundg (three.length - (k + 1))
              case measure => omega
              case rel => exact ⟨k + 1, by omega, by omega, by go_num, HT2⟩
            · obtain rfl : k = three.length := by omega
              have ht := HT.out
              have LA := acc_small l one three three.length hm1 hm3
              rw [List.take_length] at ht LA
              have hwl := (accs1_good l (one ++ three)).len
              have HG := Lib.hid (accs1_good l (one ++ three))
              clear CC
              generalize accs1 l (one ++ three) = st at *
              have HT3 := Lib.hid ht
              have HWL := Lib.hid hwl
              have HC := Lib.hid (tm_count ht)
              have hll := LA.1
              have HL := Lib.hid (tm_logged ht (by omega) ((st.log.length : Int) + 1) (by omega))
              clear ht HT hwl LA
              go_wp2_with (go_at_call 17; refine HC.out.mono ?_; rintro e w4 ⟨rfl, rfl⟩)
              refine HL.out.mono ?_
              rintro e w4 ⟨⟨on, cn, ol, cl, rfl, n1, n2, n3, n4, r1, r2, hb4⟩, ht4⟩
              have HC2 := Lib.hid (tm_count ht4.swap)
              have HL2 := Lib.hid (tm_logged ht4.swap (by omega) ((st.log.length : Int) + 1) (by omega))
              have HRA := Lib.hid (r2.base_mono HT3.out.hb.size)
              clear r1 r2 hb4 ht4 HL HC
              go_wp2_with (go_at_call 17; refine HC2.out.mono ?_; rintro e w5 ⟨rfl, rfl⟩)
              refine HL2.out.mono ?_
              rintro e w5 ⟨⟨om, cm, ok, ck, rfl, n5, n6, n7, n8, r1, r2, hb5⟩, ht5⟩
              have hra := HRA.out.of_block fun i hi => hb5.block i (HRA.out.lt i hi).2
              have HSL := Lib.hid (sameLog_yes hra r2)
              have HRA5 := Lib.hid hra
              have HT5 := Lib.hid ht5.swap
              clear r1 r2 hb5 ht5 hra HL2 HC2 HRA
              go_wp2_with fail
              refine HSL.out.mono ?_
              rintro e w6 ⟨rfl, hb6⟩
              have hra := HRA5.out.of_block fun i hi => hb6.block i (HRA5.out.lt i hi).2
              have ht6 := HT5.out.below hb6
              have hW := tm_words ht6 (by rw [HWL.out]; omega)
              rw [HWL.out] at hW
              have HW := Lib.hid hW
              have HRA6 := Lib.hid hra
              clear hb6 hra ht6 hW HSL HT5 HRA5
              go_wp2_with fail
              refine HW.out.mono ?_
              rintro e w7 ⟨o7, c7, rfl, n9, m9, hr7, ht7, hb7⟩
              have hra := HRA6.out.of_block fun i hi => hb7.block i (HRA6.out.lt i hi).2
              have hW := tm_words ht7.swap (by rw [HWL.out]; omega)
              rw [HWL.out] at hW
              have HW2 := Lib.hid hW
              have HR7 := Lib.hid hr7
              have HRA7 := Lib.hid hra
              clear hb7 hra ht7 hW hr7 HW HRA6
              go_wp2_with fail
              refine HW2.out.mono ?_
              rintro e w8 ⟨o8, c8, rfl, n10, m10, hr8, ht8, hb8⟩
              have hra := HRA7.out.of_block fun i hi => hb8.block i (HRA7.out.lt i hi).2
              have HSW := Lib.hid (sameWords_yes (HR7.out.of_block fun i hi => hb8.block i (HR7.out.lt i hi).2) hr8)
              have HT8 := Lib.hid ht8.swap
              have HRA8 := Lib.hid hra
              clear hb8 hra ht8 hr8 HW2 HRA7 HR7
              go_wp2_with fail
              refine HSW.out.mono ?_
              rintro e w9 ⟨rfl, hb9⟩
              have hra := HRA8.out.of_block fun i hi => hb9.block i (HRA8.out.lt i hi).2
              have ht9 := HT8.out.below hb9
              have HC9 := Lib.hid (tm_count ht9)
              have HT9 := Lib.hid ht9
              have HRA9 := Lib.hid hra
              have hne : ((st.log.length : Int) != (st.log.length : Int)) = false := by simp
              clear hb9 hra ht9 HSW HRA8 HT8
              go_wp2_with (go_at_call 17; refine HC9.out.mono ?_; rintro e w5 ⟨rfl, rfl⟩)
              clear HC9
              go_loopg [21] 100 (fun g sl wr => ∃ k : Nat, k ≤ 100 ∧ k ≤ l.length ∧ 100 ≤ k + g ∧ sl = .int .i64 (k : Int) ∧ Hid (TwoM w mb kb st st wr) ∧ Hid (wr.RowV w.heap.size 45 7 (.slice ol st.log.length cl) st.log.length (accs st.log)))
              case atStart => exact ⟨0, by omega, by omega, by omega, rfl, HT9, HRA9⟩
              case round =>
                clear HT9 HRA9
                obtain ⟨k, hk, hkl, hg, rfl, HT, HRA⟩ := hrel
                have FIN : Hid (Calls Try.prog 25 #[.slice ox l.length cx, .slice ol st.log.length cl] wr fun e w' => ∃ o c, e = .returned (.tuple #[.slice o l.length c, .bool true]) ∧ Below w.heap.size w w') := by
                  have hB := HT.out.hb
                  refine (behind_ok (HS.out.below hB) (by omega) HRA.out (fun a ha => by
                    obtain ⟨h1, h2⟩ := HG.out.fine.addr a ha
                    rw [HWL.out] at h2
                    exact ⟨h1, h2⟩)).mono ?_
                  rintro e w' ⟨o, c, he, _, _, _, hb⟩
                  exact ⟨o, c, he, hB.trans (hb.mono hB.size)⟩
                by_cases hlk : k < l.length
                · by_cases h100 : k < 100
                  · have HWR := Lib.hid (tm_writer HT.out (by omega) k (by rw [HWL.out]; omega))
                    generalize hTN : lastW (k : Int) (items st.log 0 st.log.length) = TN at *
                    obtain ⟨tT, tN⟩ := TN
                    have HTN := Lib.hid hTN
                    clear hTN FIN
                    go_wp2_with fail
                    refine HWR.out.mono ?_
                    rintro e wa ⟨rfl, ht, hb⟩
                    have hra := HRA.out.of_block fun i hi => hb.block i (HRA.out.lt i hi).2
                    have hwk := tm_writer ht.swap (by omega) k (by rw [HWL.out]; omega)
                    rw [HTN.out] at hwk
                    have HWK := Lib.hid hwk
                    have HRA2 := Lib.hid hra
                    clear ht hb hra hwk HWR HRA HT
                    simp only
                    go_wp2_with fail
                    refine HWK.out.mono ?_
                    rintro e wb ⟨rfl, ht, hb⟩
                    have hra := HRA2.out.of_block fun i hi => hb.block i (HRA2.out.lt i hi).2
                    have HT2 := Lib.hid ht.swap
                    have HRA3 := Lib.hid hra
                    have e1 : (tT != tT) = false := by simp
                    have e2 : (tN != tN) = false := by simp
                    clear ht hb hra HWK HRA2
                    simp only
                    go_wp2_with (go_at_call 14; refine (num_any _ _).mono ?_; rintro e w2 ⟨rfl, rfl⟩)
                    go_roundg (100 - (k + 1))
                    case measure => omega
                    case rel => exact ⟨k + 1, by omega, by omega, by omega, by go_num, HT2, HRA3⟩
                  · go_wp2_with fail
                    refine FIN.out.mono ?_
                    rintro e wz ⟨o, cz, rfl, hbz⟩
                    have HBZ := Lib.hid hbz
                    clear hbz FIN
                    go_wp2
                    go_ret
                    exact ⟨rfl, HBZ.out⟩
                · go_wp2_with fail
                  refine FIN.out.mono ?_
                  rintro e wz ⟨o, cz, rfl, hbz⟩
                  have HBZ := Lib.hid hbz
                  clear hbz FIN
                  go_wp2
                  go_ret
                  exact ⟨rfl, HBZ.out⟩

set_option maxRecDepth 100000 in
theorem bks_long {w : World} {va vb vc : Value} (o : Option Addr) (n c : Nat) (hn : 8192 < n) (hm : n ≤ 9223372036854775807) : Calls Try.prog 9 #[.slice o n c, va, vb, vc] w fun e w' => e = .returned (.bool true) ∧ Below w.heap.size w w' := by
  go_enter Try.func9, Try.ntmps9
  go_wp2_with (go_at_call 18; refine (awake_any _).mono ?_; rintro e w1 ⟨rfl, hb1⟩; obtain ⟨os, d, rfl⟩ := hb1.more; clear hb1)
  go_ret
  exact ⟨rfl, (by repeat (first | exact Below.refl _ _ | apply Below.drew | apply Below.more1 | apply Below.alloc1))⟩

theorem memoryBacks_walk {w : World} {vx va vb vc : Value} {l : List Int} {one two three : List OpS} (hs : w.Src 1 vx l.length (u64s l)) (hl : l.length ≤ maxLen) (ho1 : OpsIn w va one) (hm1 : one.length ≤ 1000000000) (ho2 : OpsIn w vb two) (hm2 : two.length ≤ 1000000000)
    (ho3 : OpsIn w vc three) (hm3 : three.length ≤ 1000000000) : Calls Try.prog 9 #[vx, va, vb, vc] w fun e w' => e = .returned (.bool true) ∧ Below w.heap.size w w' := by
  by_cases hn : l.length ≤ 8192
  · exact bks_ok hs hn ho1 ho2 ho3 hm1 hm2 hm3
  · unfold maxLen at hl
    rcases hs.2 with ⟨rfl, h0⟩ | ⟨a, c, rfl, hc, _⟩
    · omega
    · exact bks_long (some a) l.length c (by omega) (by omega)
end Go.Proofs.Ytpmadfokpimjcaa
