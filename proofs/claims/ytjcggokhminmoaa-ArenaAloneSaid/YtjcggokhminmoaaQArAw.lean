/-
ArenaAlone returns true.
-/
import Derived.Test.YtjcggokhminmoaaQArLw
import Derived.Test.YtjcggokhminmoaaQMixF
namespace Go.Proofs.Ytjcggokhminmoaa
open Go.ChangeShapes Go.WideShapes Go.ChangeAt Go.RowKit Go.Shelf


set_option maxRecDepth 100000 in
set_option maxHeartbeats 2000000 in
theorem alone_out {w : World} (a0 a1 a2 a3 a4 a5 a6 : Int) {om : Option Addr} {nm cm : Nat} (th : Int) (h : okCfg a0 a1 a2 a3 a4 a5 a6 = false ∨ (okCfg a0 a1 a2 a3 a4 a5 a6 = true ∧ 65336 < nm)) :
    Calls Try.prog 8 #[.agg #[.int .i64 a0, .int .i64 a1, .int .i64 a2, .int .i64 a3, .int .i64 a4, .int .i64 a5, .int .i64 a6], .slice om nm cm, .int .i64 th] w fun e w' => e = .returned (.bool true) ∧ Below w.heap.size w w' := by
  have HC := Lib.hid (fun w => config_any a0 a1 a2 a3 a4 a5 a6 w)
  have HW := Lib.hid awake_any
  rcases h with h | ⟨hok, h⟩
  · rw [h] at HC
    clear h
    go_enter Try.func8, Try.ntmps8
    go_wp2_with (first
      | (go_at_call 12; refine (HC.out _).mono ?_; rintro e w1 ⟨rfl, hb1⟩; obtain ⟨os, d, rfl⟩ := hb1.more; clear hb1)
      | (go_at_call 17; refine (HW.out _).mono ?_; rintro e w2 ⟨rfl, ho⟩; have HO := Lib.hid ho; clear ho))
    go_ret
    exact ⟨rfl, (Only.trans (Below.only0 (by repeat (first | exact Below.refl _ _ | apply Below.drew | apply Below.more1 | apply Below.alloc1 | (refine Below.setCell ?_ (by first | exact Nat.le_refl _ | (simp; done) | (simp; omega)) _)))) HO.out (fun _ x => x.elim)).belowF⟩
  · rw [hok] at HC
    have hd : decide ((65336 : Int) < (nm : Int)) = true := by simp; omega
    clear hok h
    go_enter Try.func8, Try.ntmps8
    go_wp2_with (first
      | (go_at_call 12; refine (HC.out _).mono ?_; rintro e w1 ⟨rfl, hb1⟩; obtain ⟨os, d, rfl⟩ := hb1.more; clear hb1)
      | (go_at_call 17; refine (HW.out _).mono ?_; rintro e w2 ⟨rfl, ho⟩; have HO := Lib.hid ho; clear ho))
    go_ret
    exact ⟨rfl, (Only.trans (Below.only0 (by repeat (first | exact Below.refl _ _ | apply Below.drew | apply Below.more1 | apply Below.alloc1 | (refine Below.setCell ?_ (by first | exact Nat.le_refl _ | (simp; done) | (simp; omega)) _)))) HO.out (fun _ x => x.elim)).belowF⟩

set_option maxRecDepth 100000 in
set_option maxHeartbeats 4000000 in
theorem alone_in {w : World} (a0 a1 a2 a3 a4 a5 a6 : Int) {om : Option Addr} {cm : Nat} {ms : List Mv} (th : Int) (hok : okCfg a0 a1 a2 a3 a4 a5 a6 = true) (hl : ms.length ≤ 65336) (hm : MvsIn w (.slice om ms.length cm) ms) :
    Calls Try.prog 8 #[.agg #[.int .i64 a0, .int .i64 a1, .int .i64 a2, .int .i64 a3, .int .i64 a4, .int .i64 a5, .int .i64 a6], .slice om ms.length cm, .int .i64 th] w fun e w' => e = .returned (.bool true) ∧ Below w.heap.size w w' := by
  have HC := Lib.hid (fun w => config_any a0 a1 a2 a3 a4 a5 a6 w)
  rw [hok] at HC
  have HW := Lib.hid awake_any
  have HT := Lib.hid (fun w => table_any a0 a1 a2 a3 a4 a5 a6 hok w)
  have HOK := Lib.hid hok
  have hd : decide ((65336 : Int) < (ms.length : Int)) = false := by simp; omega
  obtain ⟨om', cm', e', _, hm2, hm3⟩ := hm
  cases e'
  have HM := Lib.hid hm3
  unfold maxLen at hm2
  clear hok hm3
  go_enter Try.func8, Try.ntmps8
  go_upto_region 3 with (go_at_call 12; refine (HC.out _).mono ?_; rintro e w1 ⟨rfl, hb1⟩; obtain ⟨os, d, rfl⟩ := hb1.more; clear hb1)
  refine gen_world ?_
  intro W0 hW0
  have HW0 : Hid (Only (fun _ => False) w W0) := Lib.hid (by rw [hW0]; exact (Below.only0 (by repeat (first | exact Below.refl _ _ | apply Below.drew | apply Below.more1 | apply Below.alloc1 | (refine Below.setCell ?_ (by first | exact Nat.le_refl _ | (simp; done) | (simp; omega)) _)))))
  have hcb : W0.heap[w.heap.size]? = some (cfgO a0 a1 a2 a3 a4 a5 a6) := by rw [hW0]; exact (World.heap_more _ _ _ _ (by simp)).trans (heap_alloc_new w _)
  obtain ⟨k0, k1, k2, k3, k4, k5, k6, kl⟩ := boxC hcb
  have HCB := Lib.hid hcb
  clear hW0 hcb HC
  go_upto_region 6 with (first
    | (go_at_call 19; refine (HT.out _).mono ?_; rintro e w1 hr; obtain ⟨tb, ab, xb, kit, w0, rfl, hL⟩ := LwI.start hr; have HL := Lib.hid hL; clear hr hL)
    | (go_at_call 17; refine (HW.out _).mono ?_; rintro e w2 ⟨rfl, ho⟩; have HL2 := Lib.hid (HL.out.only ho); clear ho))
  clear HL HT k0 k1 k2 k3 k4 k5 k6 kl
  go_wp2
  go_loopg [8] ms.length (fun gh s8 wr => ∃ k : Nat, k ≤ ms.length ∧ ms.length ≤ k + gh ∧ s8 = .int .i64 (k : Int) ∧ Hid (LwI W0 a0 a1 a2 a3 a4 a5 a6 tb ab xb kit w0 ((arP ab a0 a1 a2 a3 a4 a5 a6 0).goes (ms.take k)) wr))
  case atStart => exact ⟨0, by omega, by omega, by go_num, HL2⟩
  case round =>
    obtain ⟨k, hk1, hk2, rfl, hI⟩ := hrel
    clear HL2
    obtain ⟨k0, k1, k2, k3, k4, k5, k6, k7, k8, kl⟩ := boxT hI.out.blk
    by_cases hlt : k < ms.length
    · clear k0 k1 k2 k3 k4 k5 k6 k7
      have hw : Only (fun _ => False) w wr := HW0.out.trans hI.out.on (fun _ x => x.elim)
      obtain ⟨b, off, rfl, hb, m0, m1, m2, m3⟩ := HM.out k hlt
      replace m0 := (hw.cellAt (p := ⟨b, off + k * 4 + 0, none⟩) hb (fun x => x)).trans m0
      replace m1 := (hw.cellAt (p := ⟨b, off + k * 4 + 1, none⟩) hb (fun x => x)).trans m1
      replace m2 := (hw.cellAt (p := ⟨b, off + k * 4 + 2, none⟩) hb (fun x => x)).trans m2
      replace m3 := (hw.cellAt (p := ⟨b, off + k * 4 + 3, none⟩) hb (fun x => x)).trans m3
      simp only [Nat.add_zero] at m0
      have hbr : b < wr.heap.size := Nat.lt_of_lt_of_le hb hw.size
      have q8 := fun q : LaterF (fun _ => False) wr => q.cell k8 kl (fun x => x)
      have r0 := fun q : LaterF (fun _ => False) wr => q.cell m0 hbr (fun x => x)
      have r1 := fun q : LaterF (fun _ => False) wr => q.cell m1 hbr (fun x => x)
      have r2 := fun q : LaterF (fun _ => False) wr => q.cell m2 hbr (fun x => x)
      have r3 := fun q : LaterF (fun _ => False) wr => q.cell m3 hbr (fun x => x)
      have HG := Lib.hid (arP_goodN (ab := ab) (u := 0) HOK.out (ms.take k))
      have HT := Lib.hid (take_next ms k hlt)
      clear k8 m0 m1 m2 m3 hw HM kl
      generalize ms[k] = mk at *
      obtain ⟨mth, mop, marg, mdata⟩ := mk
      simp only at r0 r1 r2 r3
      go_wp2
      refine wp_region_plan (fun wz => ∃ q : LaterF (fun _ => False) wr, wz = q.W) [8] [0, 1, 2, 3, 4, 5, 6, 7] (.tail 8) oper0 (by kernel_rfl) (by kernel_rfl) (laterF_in (Only.refl _ _).drew) ?_
      simp only [wpPlan, List.map_cons, List.map_nil, List.getD_cons_zero, List.getD_cons_succ, List.drop_succ_cons, List.drop_zero]
      repeat (first | go_big_quiet_skip | (go_big_quiet_want; go_big_quiet_op; go_big_quiet_on))
      refine wpQuiet_nil ?_
      go_wp2_with (go_at_call 21; refine (lw_move (hI.out.only (Only.refl _ wr).drew) HG.out ⟨mth, mop, marg, mdata⟩).mono ?_; rintro e w3 ⟨rfl, hmo⟩; have HNX := Lib.hid hmo; clear hmo)
      go_roundg (ms.length - (k + 1))
      case measure => omega
      case rel => exact ⟨k + 1, by omega, by omega, by go_num, by rw [HT.out, PM.goes_snoc]; exact HNX⟩
    · obtain rfl : k = ms.length := by omega
      rw [List.take_length] at hI
      have hb0 := (ok_bounds HOK.out).2.2.2.2.2.1
      have hAH := arP_ahN (ab := ab) (u := 0) HOK.out (by omega) ms
      have hLN := arP_len (ab := ab) (a0 := a0) (a1 := a1) (a2 := a2) (a3 := a3) (a4 := a4) (a5 := a5) (a6 := a6) (u := 0) ms
      have hMV := PM.moves_goes (arP ab a0 a1 a2 a3 a4 a5 a6 0) ms
      have hGD := arP_goodN (ab := ab) (u := 0) HOK.out ms
      have hMV2 : ((arP ab a0 a1 a2 a3 a4 a5 a6 0).goes ms).moves + 195 ≤ 65536 := by
        have : (arP ab a0 a1 a2 a3 a4 a5 a6 0).moves = 0 := rfl
        omega
      generalize (arP ab a0 a1 a2 a3 a4 a5 a6 0).goes ms = p at *
      have HAH := Lib.hid hAH
      have HLN := Lib.hid hLN
      have HGD := Lib.hid hGD
      have HDN := Lib.hid (fun i => alone_done hAH hMV2 i)
      have a01 := (ok_bounds HOK.out).1
      clear k0 k1 k2 k3 k4 k5 k6 k7 k8 kl hMV hMV2 hAH hLN hGD hb0 HM
      obtain ⟨k0, k1, k2, k3, k4, k5, k6, kl⟩ := boxC (hI.out.on.blockF HCB.out (fun x => x))
      clear k1 k2 k3 k4 k5 k6
      obtain ⟨x0, x1, x2, x3, x4, x5, x6, x7, x8, xl⟩ := boxT hI.out.blk
      clear x0 x1 x2 x3 x4 x5 x6
      have HOW := Lib.hid (HW0.out.trans hI.out.on (fun _ x => x.elim))
      have hcase : (decide (th < 0) = true ∧ Hid (p.busyB th = false)) ∨ (decide (th < 0) = false ∧ decide (a0 ≤ th) = true ∧ Hid (p.busyB th = false)) ∨ (decide (th < 0) = false ∧ decide (a0 ≤ th) = false ∧ ∃ i : Nat, th = (i : Int)) := by
        by_cases h0 : th < 0
        · exact .inl ⟨by simpa using h0, Lib.hid (busyB_out p th (.inl h0))⟩
        · by_cases h1 : a0 ≤ th
          · exact .inr (.inl ⟨by simpa using h0, by simpa using h1, Lib.hid (busyB_out p th (.inr (by rw [HLN.out]; omega)))⟩)
          · exact .inr (.inr ⟨by simpa using h0, by simpa using h1, th.toNat, by omega⟩)
      have HB := Lib.hid (lw_busy hI.out HGD.out th)
      rcases hcase with ⟨d1, hbf⟩ | ⟨d1, d2, hbf⟩ | ⟨d1, d2, i, rfl⟩
      · rw [hbf.out] at HB
        go_wp2_with (go_at_call 25; refine HB.out.mono ?_; rintro e w3 ⟨rfl, hb1⟩; have HO := Lib.hid (Below.only0 hb1); clear hb1)
        go_ret
        exact ⟨rfl, (HOW.out.trans HO.out (fun _ x => x.elim)).belowF⟩
      · rw [hbf.out] at HB
        go_wp2_with (go_at_call 25; refine HB.out.mono ?_; rintro e w3 ⟨rfl, hb1⟩; have HO := Lib.hid (Below.only0 hb1); clear hb1)
        go_ret
        exact ⟨rfl, (HOW.out.trans HO.out (fun _ x => x.elim)).belowF⟩
      · clear HB
        have HCL := Lib.hid (lw_call hI.out HGD.out i)
        obtain ⟨⟨⟨cth, cop, carg, cdata, cbeg, cen, cpt, cak, cav⟩, cb⟩, hcr⟩ : ∃ x, p.callR i = x := ⟨_, rfl⟩
        have HDI := Lib.hid (HDN.out i)
        have hmost : mostN p i = if cop = 12 then 3 * (p.s.cache i).length + 3 else 5 := by unfold mostN; rw [hcr]
        have hsm := cache_small HAH.out.pa (i : Int)
        rw [hcr] at HCL
        simp only [Cal.v] at HCL
        clear hcr HDN
        by_cases hop : cop = 12
        · rw [if_pos hop] at hmost
          rw [hmost] at HDI
          have d3 : (cop == 12) = true := by simpa using hop
          have d4 : decide (cop = 12) = true := by simpa using hop
          subst hop
          clear hmost
          have HI0 := Lib.hid (fun w1 (h1 : Only (fun _ => False) wr w1) => hI.out.only h1)
          have HCA := Lib.hid (fun w1 (h1 : Only (fun _ => False) wr w1) => lw_cached (hI.out.only h1) HAH.out.pa i)
          generalize p.s.cache i = cl at *
          go_upto_region 17 with (first
            | (go_at_call 26; refine HCL.out.mono ?_; rintro e w3 ⟨rfl, hb1⟩; have HO := Lib.hid (Below.only0 hb1); obtain ⟨os, d, rfl⟩ := hb1.more; clear hb1)
            | (go_at_call 23; refine (HCA.out _ (HO.out.alloc _)).mono ?_; rintro e w4 ⟨o1, c1, rfl, y1, y2, y3, y4⟩; have HO4 := Lib.hid ((HO.out.alloc _).trans y4 (fun _ x => x.elim)); clear y1 y2 y3 y4))
          clear HCA
          refine gen_world ?_
          intro W3 hW3
          have HI3 := Lib.hid (show LwI W0 a0 a1 a2 a3 a4 a5 a6 tb ab xb kit w0 p W3 from hI.out.only (by rw [hW3]; exact HO4.out))
          have HQ3 := HGD
          clear hW3 HI0 HO HO4 hI HOW HAH HLN HGD HCL k0 kl x7 x8 xl
          go_loopg [12] (3 * cl.length + 3) (fun gh s12 wr => ∃ (k : Nat) (q : PM (arK ab)), k ≤ 3 * cl.length + 3 ∧ 3 * cl.length + 3 ≤ k + gh ∧ s12 = .int .i64 (k : Int) ∧ Hid (restN p i (3 * cl.length + 3) = restN q i (3 * cl.length + 3 - k)) ∧ Hid q.Good ∧ Hid (LwI W0 a0 a1 a2 a3 a4 a5 a6 tb ab xb kit w0 q wr))
          case atStart => exact ⟨0, p, by omega, by omega, by go_num, Lib.hid rfl, HQ3, HI3⟩
          case round =>
            clear HI3
            obtain ⟨k, q, hk1, hk2, rfl, hE, hQ, hI⟩ := hrel
            obtain ⟨x0, x1, x2, x3, x4, x5, x6, x7, x8, xl⟩ := boxT hI.out.blk
            clear x0 x1 x2 x3 x4 x5 x6
            have HB := Lib.hid (lw_busy hI.out hQ.out i)
            have HOW := Lib.hid (HW0.out.trans hI.out.on (fun _ x => x.elim))
            have hfin : ∀ r : PM (arK ab), restN p i (3 * cl.length + 3) = r → r.busyB i = false := fun r hr => by rw [← hr]; exact HDI.out
            by_cases hlt : k < 3 * cl.length + 3
            · have hd3 : decide ((k : Int) < 3 * (cl.length : Int) + 3) = true := by simp; omega
              obtain ⟨b, hb⟩ : ∃ b, b = q.busyB i := ⟨_, rfl⟩
              rw [← hb] at HB
              cases b with
              | true =>
                have HM2 := Lib.hid (fun w1 (h1 : Below wr.heap.size wr w1) => lw_move (hI.out.below h1) hQ.out (stepMv i))
                have HNX : Hid (restN p i (3 * cl.length + 3) = restN (q.move (stepMv i)).1 i (3 * cl.length + 3 - (k + 1))) := Lib.hid (by rw [hE.out, show 3 * cl.length + 3 - k = (3 * cl.length + 3 - (k + 1)) + 1 by omega]; exact restN_busy hb.symm)
                have HQ2 := Lib.hid (PM.Good.move (arK_ok ab) hQ.out (stepMv i))
                clear hb hE hfin
                go_wp2_with (first
                  | (go_at_call 25; refine HB.out.mono ?_; rintro e w1 ⟨rfl, hb1⟩; have HB1 := Lib.hid hb1; obtain ⟨os, d, rfl⟩ := hb1.more; clear hb1)
                  | (go_at_call 21; refine (HM2.out _ HB1.out).mono ?_; rintro e w2 ⟨rfl, h2⟩; have HI2 := Lib.hid h2; clear h2))
                go_roundg (3 * cl.length + 3 - (k + 1))
                case measure => omega
                case rel => exact ⟨k + 1, _, by omega, by omega, by go_num, HNX, HQ2, HI2⟩
              | false =>
                have HBB := Lib.hid (fun w1 (h1 : Below wr.heap.size wr w1) => lw_busy (hI.out.below h1) hQ.out i)
                rw [← hb] at HBB
                clear hb hE hfin
                go_wp2_with (first
                  | (go_at_call 25; refine HB.out.mono ?_; rintro e w1 ⟨rfl, hb1⟩; have HB1 := Lib.hid hb1; obtain ⟨os, d, rfl⟩ := hb1.more; clear hb1 HB)
                  | (go_at_call 25; refine (HBB.out _ HB1.out).mono ?_; rintro e w1 ⟨rfl, hb1⟩; have HO2 := Lib.hid (Below.only0 hb1); clear hb1))
                go_ret
                exact ⟨rfl, ((HOW.out.trans (Below.only0 HB1.out) (fun _ x => x.elim)).trans HO2.out (fun _ x => x.elim)).belowF⟩
            · have hd3 : decide ((k : Int) < 3 * (cl.length : Int) + 3) = false := by simp; omega
              rw [hfin q (by rw [hE.out, show 3 * cl.length + 3 - k = 0 by omega]; rfl)] at HB
              clear hE hfin
              go_wp2_with (go_at_call 25; refine HB.out.mono ?_; rintro e w1 ⟨rfl, hb1⟩; have HO2 := Lib.hid (Below.only0 hb1); clear hb1)
              go_ret
              exact ⟨rfl, (HOW.out.trans HO2.out (fun _ x => x.elim)).belowF⟩
        · rw [if_neg hop] at hmost
          rw [hmost] at HDI
          have d3 : (cop == 12) = false := by simpa using hop
          have d4 : decide (cop = 12) = false := by simpa using hop
          clear hmost hsm
          have HI0 := Lib.hid (fun w1 (h1 : Only (fun _ => False) wr w1) => hI.out.only h1)
          go_upto_region 17 with (go_at_call 26; refine HCL.out.mono ?_; rintro e w3 ⟨rfl, hb1⟩; have HO := Lib.hid (Below.only0 hb1); obtain ⟨os, d, rfl⟩ := hb1.more; clear hb1)
          refine gen_world ?_
          intro W3 hW3
          have HI3 := Lib.hid (show LwI W0 a0 a1 a2 a3 a4 a5 a6 tb ab xb kit w0 p W3 from hI.out.only (by rw [hW3]; exact HO.out.alloc _))
          have HQ3 := HGD
          clear hW3 HI0 HO hI HOW HAH HLN HGD HCL k0 kl x7 x8 xl
          go_loopg [12] (5) (fun gh s12 wr => ∃ (k : Nat) (q : PM (arK ab)), k ≤ 5 ∧ 5 ≤ k + gh ∧ s12 = .int .i64 (k : Int) ∧ Hid (restN p i (5) = restN q i (5 - k)) ∧ Hid q.Good ∧ Hid (LwI W0 a0 a1 a2 a3 a4 a5 a6 tb ab xb kit w0 q wr))
          case atStart => exact ⟨0, p, by omega, by omega, by go_num, Lib.hid rfl, HQ3, HI3⟩
          case round =>
            clear HI3
            obtain ⟨k, q, hk1, hk2, rfl, hE, hQ, hI⟩ := hrel
            obtain ⟨x0, x1, x2, x3, x4, x5, x6, x7, x8, xl⟩ := boxT hI.out.blk
            clear x0 x1 x2 x3 x4 x5 x6
            have HB := Lib.hid (lw_busy hI.out hQ.out i)
            have HOW := Lib.hid (HW0.out.trans hI.out.on (fun _ x => x.elim))
            have hfin : ∀ r : PM (arK ab), restN p i (5) = r → r.busyB i = false := fun r hr => by rw [← hr]; exact HDI.out
            by_cases hlt : k < 5
            · have hd3 : decide ((k : Int) < 5) = true := by simp; omega
              obtain ⟨b, hb⟩ : ∃ b, b = q.busyB i := ⟨_, rfl⟩
              rw [← hb] at HB
              cases b with
              | true =>
                have HM2 := Lib.hid (fun w1 (h1 : Below wr.heap.size wr w1) => lw_move (hI.out.below h1) hQ.out (stepMv i))
                have HNX : Hid (restN p i (5) = restN (q.move (stepMv i)).1 i (5 - (k + 1))) := Lib.hid (by rw [hE.out, show 5 - k = (5 - (k + 1)) + 1 by omega]; exact restN_busy hb.symm)
                have HQ2 := Lib.hid (PM.Good.move (arK_ok ab) hQ.out (stepMv i))
                clear hb hE hfin
                go_wp2_with (first
                  | (go_at_call 25; refine HB.out.mono ?_; rintro e w1 ⟨rfl, hb1⟩; have HB1 := Lib.hid hb1; obtain ⟨os, d, rfl⟩ := hb1.more; clear hb1)
                  | (go_at_call 21; refine (HM2.out _ HB1.out).mono ?_; rintro e w2 ⟨rfl, h2⟩; have HI2 := Lib.hid h2; clear h2))
                go_roundg (5 - (k + 1))
                case measure => omega
                case rel => exact ⟨k + 1, _, by omega, by omega, by go_num, HNX, HQ2, HI2⟩
              | false =>
                have HBB := Lib.hid (fun w1 (h1 : Below wr.heap.size wr w1) => lw_busy (hI.out.below h1) hQ.out i)
                rw [← hb] at HBB
                clear hb hE hfin
                go_wp2_with (first
                  | (go_at_call 25; refine HB.out.mono ?_; rintro e w1 ⟨rfl, hb1⟩; have HB1 := Lib.hid hb1; obtain ⟨os, d, rfl⟩ := hb1.more; clear hb1 HB)
                  | (go_at_call 25; refine (HBB.out _ HB1.out).mono ?_; rintro e w1 ⟨rfl, hb1⟩; have HO2 := Lib.hid (Below.only0 hb1); clear hb1))
                go_ret
                exact ⟨rfl, ((HOW.out.trans (Below.only0 HB1.out) (fun _ x => x.elim)).trans HO2.out (fun _ x => x.elim)).belowF⟩
            · have hd3 : decide ((k : Int) < 5) = false := by simp; omega
              rw [hfin q (by rw [hE.out, show 5 - k = 0 by omega]; rfl)] at HB
              clear hE hfin
              go_wp2_with (go_at_call 25; refine HB.out.mono ?_; rintro e w1 ⟨rfl, hb1⟩; have HO2 := Lib.hid (Below.only0 hb1); clear hb1)
              go_ret
              exact ⟨rfl, (HOW.out.trans HO2.out (fun _ x => x.elim)).belowF⟩
theorem alone_walk (a0 a1 a2 a3 a4 a5 a6 : Int) {w : World} {ms : List Mv} {om : Option Addr} {cm : Nat} (hm : MvsIn w (.slice om ms.length cm) ms) (_hcm : ms.length ≤ cm ∧ cm ≤ maxLen ∧ (om = none → cm = 0)) (th : Int) :
    Calls Try.prog 8 #[.agg #[.int .i64 a0, .int .i64 a1, .int .i64 a2, .int .i64 a3, .int .i64 a4, .int .i64 a5, .int .i64 a6], .slice om ms.length cm, .int .i64 th] w fun e w' => e = .returned (.bool true) ∧ Below w.heap.size w w' := by
  cases hok : okCfg a0 a1 a2 a3 a4 a5 a6 with
  | false => exact alone_out _ _ _ _ _ _ _ th (.inl hok)
  | true =>
    by_cases hl : 65336 < ms.length
    · exact alone_out _ _ _ _ _ _ _ th (.inr ⟨hok, hl⟩)
    · exact alone_in _ _ _ _ _ _ _ th hok (by omega) hm
end Go.Proofs.Ytjcggokhminmoaa
