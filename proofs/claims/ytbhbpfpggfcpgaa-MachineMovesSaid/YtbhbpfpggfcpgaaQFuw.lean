/-
MachineFull returns true. The contract of machine.Moves.
-/
import Derived.Test.YtbhbpfpggfcpgaaQFit
import Derived.Test.YtbhbpfpggfcpgaaQInS
import Derived.Test.YtbhbpfpggfcpgaaQFup
namespace Go.Proofs.Ytbhbpfpggfcpgaa
open Go.ChangeShapes Go.WideShapes Go.ChangeAt Go.RowKit Go.Shelf

theorem moves_any {K : Kits} {w : World} {base xb : Nat} {p : PM K} {kit : Value} {F : Nat → Prop} (h : PMAt K w base xb p kit F) :
    Calls Try.prog 18 #[.pointer (some ⟨xb, 0, none⟩)] w fun e w' => e = .returned (.int .i64 (p.moves : Int)) ∧ Below w.heap.size w w' := by
  obtain ⟨st, v, vs, Fk, H, R, rfl, rfl⟩ := h
  have hm := R.moves
  have c9 := H.m.head.2.2.2.2.2.2.2.2.2.1
  have lx := H.m.head.2.2.2.2.2.2.2.2.2.2.2.2
  clear H
  go_enter Try.func18, Try.ntmps18
  go_wp2
  go_ret
  exact ⟨rfl, (by repeat (first | exact Below.refl _ _ | apply Below.drew | apply Below.more1 | apply Below.alloc1))⟩

set_option maxRecDepth 100000 in
set_option maxHeartbeats 4000000 in
theorem full_walk {w : World} {ms : List Mv} {om : Option Addr} {cm : Nat} (hms : MvsIn w (.slice om ms.length cm) ms) (hcm : ms.length ≤ cm ∧ cm ≤ maxLen ∧ (om = none → cm = 0)) (first : Int) :
    Calls Try.prog 3 #[.slice om ms.length cm, .int .i64 first] w fun e w' => e = .returned (.bool true) ∧ Below w.heap.size w w' := by
  obtain ⟨ms1, hms1⟩ : ∃ ms1, ms1 = ms.take 40 := ⟨_, rfl⟩
  have hm1 : MvsIn w (.slice om ms1.length cm) ms1 := by
    have := hms.take 40
    rw [show min ms.length 40 = (ms.take 40).length by simp; omega, ← hms1] at this
    exact this
  have hl40 : ms1.length ≤ 40 := by rw [hms1]; simp; omega
  have hcase : (decide ((40 : Int) < (ms.length : Int)) = true ∧ ms1.length = 40 ∧ (40 ≤ cm) ∧ ∃ ad, om = some ad) ∨ (decide ((40 : Int) < (ms.length : Int)) = false ∧ ms1.length = ms.length) := by
    by_cases h : 40 < ms.length
    · refine .inl ⟨by simp; omega, by rw [hms1]; simp; omega, by omega, ?_⟩
      cases om with
      | none => have := hcm.2.2 rfl; omega
      | some ad => exact ⟨ad, rfl⟩
    · exact .inr ⟨by simp; omega, by rw [hms1]; simp; omega⟩
  have HM1 := Lib.hid hm1
  have hcx := hcm.2.1
  unfold maxLen at hcx
  clear hms hm1 hms1 hcm
  go_enter Try.func3, Try.ntmps3
  have hsrc : Hid ((w.alloc (.cells #[.int .u64 0] 27)).Src 1 (.slice (some ⟨w.heap.size, 0, none⟩) 1 1) ([0] : List Int).length (u64s [0])) := Lib.hid (World.Src.one rfl rfl)
  go_upto_region 4 with (first
    | (go_at_call 16; refine (own_at _).mono ?_; rintro e w1 ⟨kb, sb, tb, rfl, hk, ho⟩; have HK := Lib.hid hk; have HO := Lib.hid ho; have HN := Lib.hid (newm_ok (w := w1) (km := some kb) (l := [0]) 2 (hsrc.out.only ho) (by simp) (by omega) (by omega)); clear hk ho)
    | (go_at_call 15; refine HN.out.mono ?_; rintro e w2 ⟨xb, rfl, hna⟩; obtain ⟨Fn, hpm, hon⟩ := newAt_pm HK.out HO.out hna; have HPM := Lib.hid hpm; have HON := Lib.hid hon; clear hna hpm hon))
  obtain ⟨b40, hb40⟩ : ∃ b, decide ((40 : Int) < (ms.length : Int)) = b := ⟨_, rfl⟩
  rw [hb40] at hcase
  go_cut [26] from 24 to 26 (fun s26 wx => s26 = .bool b40 ∧ w2 = wx)
  case first =>
    go_wp2
    go_meet
    exact ⟨rfl, rfl⟩
  case rest =>
  obtain ⟨rfl, rfl⟩ := hcut
  go_upto_if 26 with (fail)
  go_cut [0] from 27 to 28 (fun s0 wx => s0 = .slice om ms1.length cm ∧ w2 = wx)
  case first =>
    rcases hcase with ⟨rfl, h1, h2, ad, rfl⟩ | ⟨rfl, h1⟩
    · go_wp2
      go_meet
      exact ⟨by rw [h1], rfl⟩
    · go_wp2
      go_meet
      exact ⟨by rw [h1], rfl⟩
  case rest =>
  obtain ⟨rfl, rfl⟩ := hcut
  clear hcase hb40
  go_upto_region 6 with (fail)
  obtain ⟨bf, hbf⟩ : ∃ b, (decide (first < 0) || decide ((20 : Int) < first)) = b := ⟨_, rfl⟩
  go_cut [34] from 29 to 34 (fun s34 wx => s34 = .bool bf ∧ w2 = wx)
  case first =>
    have hcase : decide (first < 0) = true ∨ (decide (first < 0) = false ∧ decide ((20 : Int) < first) = true) ∨ (decide (first < 0) = false ∧ decide ((20 : Int) < first) = false) := by
      by_cases h1 : first < 0
      · exact .inl (by simpa using h1)
      · by_cases h2 : (20 : Int) < first
        · exact .inr (.inl ⟨by simpa using h1, by simpa using h2⟩)
        · exact .inr (.inr ⟨by simpa using h1, by simpa using h2⟩)
    rcases hcase with q1 | ⟨q1, q2⟩ | ⟨q1, q2⟩
    · go_wp2
      go_meet
      exact ⟨by rw [← hbf, q1]; rfl, rfl⟩
    · go_wp2
      go_meet
      exact ⟨by rw [← hbf, q1, q2]; rfl, rfl⟩
    · go_wp2
      go_meet
      exact ⟨by rw [← hbf, q1, q2]; rfl, rfl⟩
  case rest =>
  obtain ⟨rfl, rfl⟩ := hcut
  go_upto_if 34 with (fail)
  go_cut [1] from 34 to 34 (fun s1 wx => ∃ ft : Nat, s1 = .int .i64 (ft : Int) ∧ ft ≤ 20 ∧ w2 = wx)
  case first =>
    cases bf
    · go_wp2
      go_meet
      simp only [Bool.or_eq_false_iff, decide_eq_false_iff_not] at hbf
      exact ⟨first.toNat, by rw [show ((first.toNat : Nat) : Int) = first by omega], by omega, rfl⟩
    · go_wp2
      go_meet
      exact ⟨3, rfl, by omega, rfl⟩
  case rest =>
  obtain ⟨ft, rfl, hft, rfl⟩ := hcut
  clear hbf
  obtain ⟨lim, hlim⟩ : ∃ lim, 65536 - ft = lim := ⟨_, rfl⟩
  have HI0 := Lib.hid (show PlayI (w.alloc (.cells #[.int .u64 0] 27)) [0] 1 2 xb (.map (some kb)) [] w2 from ⟨Fn, HPM.out, HON.out⟩)
  have HLM := Lib.hid hlim
  have hlm1 : lim ≤ 65536 := by omega
  clear HK HO HN HPM HON hsrc
  go_wp2
  go_loopg [7] lim (fun gh s7 wr => ∃ k : Nat, k ≤ lim ∧ lim ≤ k + gh ∧ s7 = .int .i64 (k : Int) ∧ Hid (PlayI (w.alloc (.cells #[.int .u64 0] 27)) [0] 1 2 xb (.map (some kb)) (bothMs k) wr))
  case atStart => exact ⟨0, by omega, by omega, by go_num, HI0⟩
  case round =>
    obtain ⟨k, hk1, hk2, rfl, hI⟩ := hrel
    obtain ⟨F, hA, hO⟩ := hI.out
    by_cases hlt : k < lim
    · have g1 : decide ((k : Int) < 65536 - (ft : Int)) = true := by simp; omega
      have HAA := Lib.hid hA
      have HOO := Lib.hid hO
      clear hA hO hI HI0
      have HGD := Lib.hid (own_good [0] 2 (bothMs k) (by omega) (by omega))
      have HBS := Lib.hid (bothMs_succ k)
      have HNL : Hid (∀ o : Obj, PlayI (w.alloc (.cells #[.int .u64 0] 27)) [0] 1 2 xb (.map (some kb)) (bothMs k) (wr.alloc o)) := Lib.hid (fun o => ⟨F, HAA.out.only (ownK_ok _) ((Only.refl _ _).alloc _) (fun _ _ x => x), HOO.out.alloc _⟩)
      by_cases h8 : k % 8 < 2
      · have g8 : decide ((k : Int) % 8 < 2) = true := by simp; omega
        have HMV := Lib.hid (show bothMv k = ⟨(k : Int) % 2, 2, 0, 0⟩ by unfold bothMv; rw [if_pos h8]; congr 1)
        have HA8 := Lib.hid (HAA.out.only (ownK_ok _) ((Only.refl _ wr).alloc (.cells #[.int .i64 ((k : Int) % 2), .int .i64 2, .int .i64 0, .int .i64 0] 34)) (fun _ _ x => x))
        have HO8 := Lib.hid (HOO.out.alloc (.cells #[.int .i64 ((k : Int) % 2), .int .i64 2, .int .i64 0, .int .i64 0] 34))
        clear h8
        as_aux_lemma =>
        go_wp2_with (go_at_call 17; refine (pm_move (ownK_ok _) HGD.out HA8.out ⟨(k : Int) % 2, 2, 0, 0⟩).mono ?_; rintro e w3 hmo; obtain ⟨rfl, hnx⟩ := PlayI.next HA8.out HO8.out hmo; have HNX := Lib.hid hnx; clear hmo hnx)
        go_roundg (lim - (k + 1))
        case measure => omega
        case rel => exact ⟨k + 1, by omega, by omega, by go_num, by rw [HBS.out, HMV.out]; exact HNX⟩
      · have g8 : decide ((k : Int) % 8 < 2) = false := by simp; omega
        have HMV := Lib.hid (show bothMv k = ⟨(k : Int) % 2, 0, 0, 0⟩ by unfold bothMv; rw [if_neg h8]; congr 1)
        have HA8 := Lib.hid (HAA.out.only (ownK_ok _) ((Only.refl _ wr).alloc (.cells #[.int .i64 ((k : Int) % 2), .int .i64 0, .int .i64 0, .int .i64 0] 34)) (fun _ _ x => x))
        have HO8 := Lib.hid (HOO.out.alloc (.cells #[.int .i64 ((k : Int) % 2), .int .i64 0, .int .i64 0, .int .i64 0] 34))
        clear h8
        as_aux_lemma =>
        go_wp2_with (go_at_call 17; refine (pm_move (ownK_ok _) HGD.out HA8.out ⟨(k : Int) % 2, 0, 0, 0⟩).mono ?_; rintro e w3 hmo; obtain ⟨rfl, hnx⟩ := PlayI.next HA8.out HO8.out hmo; have HNX := Lib.hid hnx; clear hmo hnx)
        go_roundg (lim - (k + 1))
        case measure => omega
        case rel => exact ⟨k + 1, by omega, by omega, by go_num, by rw [HBS.out, HMV.out]; exact HNX⟩
    · obtain rfl : k = lim := by omega
      have g1 : decide ((k : Int) < 65536 - (ft : Int)) = false := by simp; omega
      have hmoves : ((PM.init (ownK 1) [0] 2 ()).goes (bothMs k)).moves = k := by
        rw [pm_moves _ _ (by simp [PM.init]), bothMs_len]
        show min (0 + k) 65536 = k
        omega
      have hmany : 10000 ≤ ((PM.init (ownK 1) [0] 2 ()).goes (bothMs k)).calls.length := by
        have h1 := own_os [0] 2 (bothMs k)
        have h2 := both_many k (by omega)
        have h3 : (ownRun [0] 2 (bothMs k)).calls = (osOf [0] 2 (bothMs k)).calls := by rw [h1]
        rw [← h3] at h2
        exact h2
      have hfew : ((PM.init (ownK 1) [0] 2 ()).goes (bothMs k)).calls.length ≤ 65536 := by
        have h1 := own_os [0] 2 (bothMs k)
        have h2 := calls_le [0] 2 (bothMs k) (by rw [bothMs_len]; omega)
        have h3 : (ownRun [0] 2 (bothMs k)).calls = (osOf [0] 2 (bothMs k)).calls := by rw [h1]
        rw [← h3] at h2
        exact h2
      have HG : Hid (((PM.init (ownK 1) [0] 2 ()).goes (bothMs k)).Good) := Lib.hid (own_good [0] 2 (bothMs k) (by omega) (by omega))
      have HW1 : Hid (((PM.init (ownK 1) [0] 2 ()).goes (bothMs k)).words.length ≤ 1000000) := Lib.hid (by have := own_len [0] 2 (bothMs k); exact Nat.le_trans (Nat.le_of_eq this) (by decide))
      have HAA := Lib.hid hA
      have HOO := Lib.hid hO
      have HKK := Lib.hid (show (k : Int) = 65536 - (ft : Int) by omega)
      have HMM := Lib.hid (show (((PM.init (ownK 1) [0] 2 ()).goes (bothMs k)).moves : Int) = 65536 - (ft : Int) by rw [hmoves]; omega)
      have hq : decide ((((PM.init (ownK 1) [0] 2 ()).goes (bothMs k)).calls.length : Int) < 10000) = false := by simp; omega
      have hq2 : decide (((PM.init (ownK 1) [0] 2 ()).goes (bothMs k)).calls.length < 10000) = false := by simp; omega
      have hq3 : decide ((((PM.init (ownK 1) [0] 2 ()).goes (bothMs k)).run.calls.length : Int) < 10000) = false := hq
      have hq4 : decide (((PM.init (ownK 1) [0] 2 ()).goes (bothMs k)).run.calls.length < 10000) = false := hq2
      clear hA hO hI HI0 hmoves
      have hfd : ∀ (o1 o2 o3 o4 : Option Addr) (n1 n2 n3 n4 c1 c2 c3 c4 : Nat) (w : World), (Instr.field 41 (.agg #[.slice o1 n1 c1, .slice o2 n2 c2, .slice o3 n3 c3, .slice o4 n4 c4]) 0).run Try.prog w = .ok (.slice o1 n1 c1) w := fun _ _ _ _ _ _ _ _ _ _ _ _ _ => by kernel_rfl
      go_upto_region 17 with (first
        | (go_at_call 18; refine (moves_any HAA.out).mono ?_; rintro e w3 ⟨rfl, hb3⟩; rw [HMM.out]; obtain ⟨os, d, rfl⟩ := hb3.more; clear hb3)
        | (go_at_call 19; refine (pm_run HG.out (HAA.out.only (ownK_ok _) (Below.only0 (by repeat (first | exact Below.refl _ _ | apply Below.drew | apply Below.more1 | apply Below.alloc1 | (refine Below.setCell ?_ (by first | exact Nat.le_refl _ | (simp; done) | (simp; omega)) _)))) (fun _ _ x => x)) HW1.out).mono ?_; rintro e w4 ⟨⟨va, vt, vb, vc⟩, he, hra, ho⟩; obtain ⟨oa, ca, e1, y1, y2⟩ := hra.wa.form; obtain ⟨ot, ct, e2, _, _⟩ := hra.wt.form; obtain ⟨ob, cb, e3, _, _⟩ := hra.wb.form; obtain ⟨oc, cc, e4, _, _⟩ := hra.wc.form; simp only at e1 e2 e3 e4; subst e1; subst e2; subst e3; subst e4; (unfold RunVs.v at he); subst he; (unfold PM.run at hra); clear hra; obtain ⟨os, d, rfl⟩ := (Only.below ho (fun _ h => h.elim) (Nat.le_refl _)).more; clear ho))
      refine gen_world ?_
      intro W3 hW3
      have HI3 : Hid (PlayI (w.alloc (.cells #[.int .u64 0] 27)) [0] 1 2 xb (.map (some kb)) (bothMs k ++ ms1.take 0) W3) := Lib.hid (by
        rw [hW3, List.take_zero, List.append_nil]
        exact ⟨F, HAA.out.only (ownK_ok _) (Below.only0 (by repeat (first | exact Below.refl _ _ | apply Below.drew | apply Below.more1 | apply Below.alloc1 | (refine Below.setCell ?_ (by first | exact Nat.le_refl _ | (simp; done) | (simp; omega)) _)))) (fun _ _ x => x), HOO.out.trans (G := fun _ => False) (Below.only0 (by repeat (first | exact Below.refl _ _ | apply Below.drew | apply Below.more1 | apply Below.alloc1 | (refine Below.setCell ?_ (by first | exact Nat.le_refl _ | (simp; done) | (simp; omega)) _)))) (fun _ x => x.elim)⟩)
      have HKL := Lib.hid hlm1
      clear hW3 HAA HOO HMM hq hq2 hq3 hq4 hmany hfew HG HW1 hfd g1
      go_wp2
      go_loopg [65] ms1.length (fun gh s65 wx => ∃ j : Nat, j ≤ ms1.length ∧ ms1.length ≤ j + gh ∧ s65 = .int .i64 (j : Int) ∧ Hid (PlayI (w.alloc (.cells #[.int .u64 0] 27)) [0] 1 2 xb (.map (some kb)) (bothMs k ++ ms1.take j) wx))
      case atStart => exact ⟨0, by omega, by omega, by go_num, HI3⟩
      case round =>
        obtain ⟨j, hj1, hj2, rfl, hI⟩ := hrel
        obtain ⟨F2, hA, hO⟩ := hI.out
        by_cases hjl : j < ms1.length
        · have hw : Only (fun _ => False) w wr := ((Only.refl _ w).alloc _).trans hO (fun _ x => x.elim)
          obtain ⟨om', cm', e, g1, g2, g3⟩ := HM1.out
          cases e
          obtain ⟨mb, moff, rfl, mlt, m0, m1, m2, m3⟩ := g3 j hjl
          have HTK := Lib.hid (take_next ms1 j hjl)
          generalize ms1[j] = mk at *
          replace m0 := (hw.cellAt (p := ⟨mb, _, none⟩) mlt (fun x => x)).trans m0
          replace m1 := (hw.cellAt (p := ⟨mb, _, none⟩) mlt (fun x => x)).trans m1
          replace m2 := (hw.cellAt (p := ⟨mb, _, none⟩) mlt (fun x => x)).trans m2
          replace m3 := (hw.cellAt (p := ⟨mb, _, none⟩) mlt (fun x => x)).trans m3
          have lmb := Nat.lt_of_lt_of_le mlt hw.size
          simp only [Nat.add_zero] at m0
          obtain ⟨mth, mop, marg, mdata⟩ := mk
          simp only at m0 m1 m2 m3
          have HGD : Hid (((PM.init (ownK 1) [0] 2 ()).goes (bothMs k ++ ms1.take j)).Good) := Lib.hid (own_good [0] 2 _ (by omega) (by omega))
          have hmv := pm_moves (bothMs k ++ ms1.take j) (PM.init (ownK 1) [0] 2 ()) (by simp [PM.init])
          rw [List.length_append, bothMs_len, List.length_take, show (PM.init (ownK 1) [0] 2 ()).moves = 0 from rfl] at hmv
          have hmv2 := pm_moves (bothMs k ++ ms1.take (j + 1)) (PM.init (ownK 1) [0] 2 ()) (by simp [PM.init])
          rw [List.length_append, bothMs_len, List.length_take, show (PM.init (ownK 1) [0] 2 ()).moves = 0 from rfl] at hmv2
          have HA8 := Lib.hid (hA.only (ownK_ok _) ((Only.refl _ wr).alloc (.cells #[.int .i64 mth, .int .i64 mop, .int .i64 marg, .int .i64 mdata] 34)) (fun _ _ x => x))
          have HO8 := Lib.hid (hO.alloc (.cells #[.int .i64 mth, .int .i64 mop, .int .i64 marg, .int .i64 mdata] 34))
          have HKE := HKK.out
          unfold maxLen at g2
          by_cases hjf : j < ft
          · have HM2 := Lib.hid (show (((PM.init (ownK 1) [0] 2 ()).goes (bothMs k ++ ms1.take (j + 1))).moves : Int) = 65536 - (ft : Int) + (j : Int) + 1 by rw [hmv2]; omega)
            have g5 : decide ((ft : Int) ≤ (j : Int)) = false := by simp; omega
            have g6 : decide ((j : Int) < (ft : Int)) = true := by simp; omega
            have g7 : decide (ft ≤ j) = false := by simp; omega
            have g8 : decide (j < ft) = true := by simp; omega
            clear hA hO hI hw g3 hmv hmv2 HI3 HKE
            as_aux_lemma =>
            go_wp2_with (first
              | (go_at_call 17; refine (pm_move (ownK_ok _) HGD.out HA8.out ⟨mth, mop, marg, mdata⟩).mono ?_; rintro e w5 hmo; obtain ⟨rfl, hnx⟩ := PlayI.next HA8.out HO8.out hmo; rw [List.append_assoc, ← HTK.out] at hnx; generalize (PM.move (PM.goes (PM.init (ownK 1) [0] 2 ()) (bothMs k ++ List.take j ms1)) ⟨mth, mop, marg, mdata⟩).2 = did; have HNX := Lib.hid hnx; clear hmo hnx; obtain ⟨F5, hA5, hO5⟩ := HNX.out; have HA5 := Lib.hid hA5; clear hA5 hO5)
              | (go_at_call 18; refine (moves_any HA5.out).mono ?_; rintro e w6 ⟨rfl, hb6⟩; rw [HM2.out]; have HB6 := Lib.hid hb6; clear hb6))
            go_roundg (ms1.length - (j + 1))
            case measure => omega
            case rel => exact ⟨j + 1, by omega, by omega, by go_num, Lib.hid (HNX.out.only (Below.only0 HB6.out))⟩
          · have HM1' : ((PM.init (ownK 1) [0] 2 ()).goes (bothMs k ++ ms1.take j)).moves = 65536 := by rw [hmv]; omega
            have HM2 := Lib.hid (show (((PM.init (ownK 1) [0] 2 ()).goes (bothMs k ++ ms1.take (j + 1))).moves : Int) = 65536 by rw [hmv2]; omega)
            have HDF := Lib.hid (show (PM.move (PM.goes (PM.init (ownK 1) [0] 2 ()) (bothMs k ++ List.take j ms1)) ⟨mth, mop, marg, mdata⟩).2 = false by rw [pm_full _ (by omega)])
            have g5 : decide ((ft : Int) ≤ (j : Int)) = true := by simp; omega
            have g6 : decide ((j : Int) < (ft : Int)) = false := by simp; omega
            have g7 : decide (ft ≤ j) = true := by simp; omega
            have g8 : decide (j < ft) = false := by simp; omega
            clear hA hO hI hw g3 hmv hmv2 HI3 HKE HM1'
            as_aux_lemma =>
            go_wp2_with (first
              | (go_at_call 17; refine (pm_move (ownK_ok _) HGD.out HA8.out ⟨mth, mop, marg, mdata⟩).mono ?_; rintro e w5 hmo; obtain ⟨rfl, hnx⟩ := PlayI.next HA8.out HO8.out hmo; rw [List.append_assoc, ← HTK.out] at hnx; rw [HDF.out]; have HNX := Lib.hid hnx; clear hmo hnx; obtain ⟨F5, hA5, hO5⟩ := HNX.out; have HA5 := Lib.hid hA5; clear hA5 hO5)
              | (go_at_call 18; refine (moves_any HA5.out).mono ?_; rintro e w6 ⟨rfl, hb6⟩; rw [HM2.out]; have HB6 := Lib.hid hb6; clear hb6))
            go_roundg (ms1.length - (j + 1))
            case measure => omega
            case rel => exact ⟨j + 1, by omega, by omega, by go_num, Lib.hid (HNX.out.only (Below.only0 HB6.out))⟩
        · have hw : Only (fun _ => False) w wr := ((Only.refl _ w).alloc _).trans hO (fun _ x => x.elim)
          have HW := Lib.hid hw
          clear hA hO hI hw HI3
          obtain rfl : j = ms1.length := by omega
          go_wp2
          go_ret
          exact ⟨rfl, Only.below HW.out (fun _ h => h.elim) (Nat.le_refl _)⟩
end Go.Proofs.Ytbhbpfpggfcpgaa
