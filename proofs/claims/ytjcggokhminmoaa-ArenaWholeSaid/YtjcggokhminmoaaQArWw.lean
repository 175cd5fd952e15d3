/-
ArenaWhole returns true.
-/
import Derived.Test.YtjcggokhminmoaaQArWl
namespace Go
open Go.RowKit
open Go.Proofs.Ytjcggokhminmoaa
theorem astep_cfg {W : List Int} {s : ArS} {i : Nat} {rd : Bool} {tk : ATk} {o : AOut} (ho : AStep W s i rd tk o) : o.s.c0 = s.c0 ∧ o.s.c1 = s.c1 ∧ o.s.c2 = s.c2 ∧ o.s.c4 = s.c4 ∧ o.s.c5 = s.c5 ∧ o.s.c6 = s.c6 := by
  cases ho <;> simp [ArS.put, ArS.lay]
theorem arP_cfg {ab : Nat} {a0 a1 a2 a3 a4 a5 a6 : Int} (h : okCfg a0 a1 a2 a3 a4 a5 a6 = true) (ms : List Mv) :
    ((arP ab a0 a1 a2 a3 a4 a5 a6 0).goes ms).s.c0 = a0 ∧ ((arP ab a0 a1 a2 a3 a4 a5 a6 0).goes ms).s.c1 = a1 ∧ ((arP ab a0 a1 a2 a3 a4 a5 a6 0).goes ms).s.c2 = a2 ∧ ((arP ab a0 a1 a2 a3 a4 a5 a6 0).goes ms).s.c4 = a4 ∧ ((arP ab a0 a1 a2 a3 a4 a5 a6 0).goes ms).s.c5 = a5 ∧ ((arP ab a0 a1 a2 a3 a4 a5 a6 0).goes ms).s.c6 = a6 := by
  have key : ∀ (ms : List Mv) (p : PM (arK ab)), AH p → (p.goes ms).s.c0 = p.s.c0 ∧ (p.goes ms).s.c1 = p.s.c1 ∧ (p.goes ms).s.c2 = p.s.c2 ∧ (p.goes ms).s.c4 = p.s.c4 ∧ (p.goes ms).s.c5 = p.s.c5 ∧ (p.goes ms).s.c6 = p.s.c6 := by
    intro ms
    induction ms with
    | nil => exact fun _ _ => ⟨rfl, rfl, rfl, rfl, rfl, rfl⟩
    | cons m ms ih =>
      intro p hA
      obtain ⟨x0, x1, x2, x4, x5, x6⟩ := ih _ (hA.move m)
      obtain ⟨y0, y1, y2, y4, y5, y6⟩ := (AH.goes (I := fun q : PM (arK ab) => q.s.c0 = p.s.c0 ∧ q.s.c1 = p.s.c1 ∧ q.s.c2 = p.s.c2 ∧ q.s.c4 = p.s.c4 ∧ q.s.c5 = p.s.c5 ∧ q.s.c6 = p.s.c6) (fun _ _ _ h => h)
        (fun q i se t o _ _ _ _ k _ h => by obtain ⟨z0, z1, z2, z4, z5, z6⟩ := astep_cfg k.st; rw [k.s]; exact ⟨z0.trans h.1, z1.trans h.2.1, z2.trans h.2.2.1, z4.trans h.2.2.2.1, z5.trans h.2.2.2.2.1, z6.trans h.2.2.2.2.2⟩) (fun _ _ _ _ _ _ _ _ _ _ _ _ _ h => h) hA ⟨rfl, rfl, rfl, rfl, rfl, rfl⟩ m).2
      exact ⟨x0.trans y0, x1.trans y1, x2.trans y2, x4.trans y4, x5.trans y5, x6.trans y6⟩
  exact key ms _ (arP_ah h (by have := (ok_bounds h).2.2.2.2.2.1; omega))
end Go
namespace Go.Proofs.Ytjcggokhminmoaa
open Go.ChangeShapes Go.WideShapes Go.ChangeAt Go.RowKit Go.Shelf

theorem whole_run {W0 w0 w : World} (a0 a1 a2 a3 a4 a5 a6 : Int) {tb ab xb : Nat} {kit : Value} (hok : okCfg a0 a1 a2 a3 a4 a5 a6 = true) (ms : List Mv) (hL : LwI W0 a0 a1 a2 a3 a4 a5 a6 tb ab xb kit w0 ((arP ab a0 a1 a2 a3 a4 a5 a6 0).goes ms) w) :
    Calls Try.prog 20 #[.pointer (some ⟨tb, 0, none⟩)] w fun e w' => e = .returned (.bool true) ∧ LwI W0 a0 a1 a2 a3 a4 a5 a6 tb ab xb kit w0 ((arP ab a0 a1 a2 a3 a4 a5 a6 0).goes ms) w' := by
  have h5 := (ok_bounds hok).2.2.2.2.2.1
  refine (whole_any _ _ _ _ _ _ _ hok hL (arP_goodN hok ms) (arP_ahN hok (by omega) ms).pa (arP_cfg hok ms) (by rw [(arK_words hok (by omega) ms).2]; exact ar_size (h := hok))).mono ?_
  rintro e w' ⟨he, ho⟩
  exact ⟨he, hL.only ho⟩

set_option maxRecDepth 100000 in
set_option maxHeartbeats 2000000 in
theorem whole_out {w : World} (a0 a1 a2 a3 a4 a5 a6 : Int) {om : Option Addr} {nm cm : Nat} (h : okCfg a0 a1 a2 a3 a4 a5 a6 = false) :
    Calls Try.prog 6 #[.agg #[.int .i64 a0, .int .i64 a1, .int .i64 a2, .int .i64 a3, .int .i64 a4, .int .i64 a5, .int .i64 a6], .slice om nm cm] w fun e w' => e = .returned (.bool true) ∧ Below w.heap.size w w' := by
  have HC := Lib.hid (fun w => config_any a0 a1 a2 a3 a4 a5 a6 w)
  have HW := Lib.hid awake_any
  rw [h] at HC
  clear h
  go_enter Try.func6, Try.ntmps6
  go_wp2_with (first
    | (go_at_call 12; refine (HC.out _).mono ?_; rintro e w1 ⟨rfl, hb1⟩; obtain ⟨os, d, rfl⟩ := hb1.more; clear hb1)
    | (go_at_call 17; refine (HW.out _).mono ?_; rintro e w2 ⟨rfl, ho⟩; have HO := Lib.hid ho; clear ho))
  go_ret
  exact ⟨rfl, (Only.trans (Below.only0 (by repeat (first | exact Below.refl _ _ | apply Below.drew | apply Below.more1 | apply Below.alloc1 | (refine Below.setCell ?_ (by first | exact Nat.le_refl _ | (simp; done) | (simp; omega)) _)))) HO.out (fun _ x => x.elim)).belowF⟩

set_option maxRecDepth 100000 in
set_option maxHeartbeats 4000000 in
theorem whole_in {w : World} (a0 a1 a2 a3 a4 a5 a6 : Int) {om : Option Addr} {cm : Nat} {ms : List Mv} (hok : okCfg a0 a1 a2 a3 a4 a5 a6 = true) (hm : MvsIn w (.slice om ms.length cm) ms) :
    Calls Try.prog 6 #[.agg #[.int .i64 a0, .int .i64 a1, .int .i64 a2, .int .i64 a3, .int .i64 a4, .int .i64 a5, .int .i64 a6], .slice om ms.length cm] w fun e w' => e = .returned (.bool true) ∧ Below w.heap.size w w' := by
  have HC := Lib.hid (fun w => config_any a0 a1 a2 a3 a4 a5 a6 w)
  rw [hok] at HC
  have HW := Lib.hid awake_any
  have HT := Lib.hid (fun w => table_any a0 a1 a2 a3 a4 a5 a6 hok w)
  have HOK := Lib.hid hok
  obtain ⟨om', cm', e', _, hm2, hm3⟩ := hm
  cases e'
  have HM := Lib.hid hm3
  unfold maxLen at hm2
  clear hok hm3
  go_enter Try.func6, Try.ntmps6
  go_upto_region 3 with (go_at_call 12; refine (HC.out _).mono ?_; rintro e w1 ⟨rfl, hb1⟩; obtain ⟨os, d, rfl⟩ := hb1.more; clear hb1)
  refine gen_world ?_
  intro W0 hW0
  have HW0 : Hid (Only (fun _ => False) w W0) := Lib.hid (by rw [hW0]; exact (Below.only0 (by repeat (first | exact Below.refl _ _ | apply Below.drew | apply Below.more1 | apply Below.alloc1 | (refine Below.setCell ?_ (by first | exact Nat.le_refl _ | (simp; done) | (simp; omega)) _)))))
  have hcb : W0.heap[w.heap.size]? = some (cfgO a0 a1 a2 a3 a4 a5 a6) := by rw [hW0]; exact (World.heap_more _ _ _ _ (by simp)).trans (heap_alloc_new w _)
  obtain ⟨k0, k1, k2, k3, k4, k5, k6, kl⟩ := boxC hcb
  clear hW0 hcb HC
  go_upto_region 6 with (first
    | (go_at_call 19; refine (HT.out _).mono ?_; rintro e w1 hr; obtain ⟨tb, ab, xb, kit, w0, rfl, hL⟩ := LwI.start hr; have HL := Lib.hid hL; clear hr hL)
    | (go_at_call 17; refine (HW.out _).mono ?_; rintro e w2 ⟨rfl, ho⟩; have HL1 : Hid (LwI W0 a0 a1 a2 a3 a4 a5 a6 tb ab xb kit w0 ((arP ab a0 a1 a2 a3 a4 a5 a6 0).goes (ms.take 0)) w2) := Lib.hid (HL.out.only ho); clear ho)
    | (go_at_call 20; refine (whole_run a0 a1 a2 a3 a4 a5 a6 HOK.out _ HL1.out).mono ?_; rintro e w3 ⟨rfl, h3⟩; have HL2 := Lib.hid h3; clear h3))
  clear HL HL1 HT k0 k1 k2 k3 k4 k5 k6 kl
  go_wp2
  go_loopg [6] ms.length (fun gh s8 wr => ∃ k : Nat, k ≤ ms.length ∧ ms.length ≤ k + gh ∧ s8 = .int .i64 (k : Int) ∧ Hid (LwI W0 a0 a1 a2 a3 a4 a5 a6 tb ab xb kit w0 ((arP ab a0 a1 a2 a3 a4 a5 a6 0).goes (ms.take k)) wr))
  case atStart => exact ⟨0, by omega, by omega, by go_num, HL2⟩
  case round =>
    obtain ⟨k, hk1, hk2, rfl, hI⟩ := hrel
    clear HL2
    obtain ⟨k0, k1, k2, k3, k4, k5, k6, k7, k8, kl⟩ := boxT hI.out.blk
    have hw : Only (fun _ => False) w wr := HW0.out.trans hI.out.on (fun _ x => x.elim)
    by_cases hlt : k < ms.length
    · clear k0 k1 k2 k3 k4 k5 k6 k7
      obtain ⟨b, off, rfl, hb, m0, m1, m2, m3⟩ := HM.out k hlt
      replace m0 := (hw.cellAt (p := ⟨b, off + k * 4 + 0, none⟩) hb (fun x => x)).trans m0
      replace m1 := (hw.cellAt (p := ⟨b, off + k * 4 + 1, none⟩) hb (fun x => x)).trans m1
      replace m2 := (hw.cellAt (p := ⟨b, off + k * 4 + 2, none⟩) hb (fun x => x)).trans m2
      replace m3 := (hw.cellAt (p := ⟨b, off + k * 4 + 3, none⟩) hb (fun x => x)).trans m3
      simp only [Nat.add_zero] at m0
      have hbr : b < wr.heap.size := Nat.lt_of_lt_of_le hb hw.size
      have q8 := fun q : LaterF (fun _ => False) wr => q.cell k8 kl (fun x => x)
      have r0 := fun q : LaterF (fun _ => False) wr => q.cell m0 hbr (fun x => x)
      have r1 := fun q : LaterF (fun _ => False) wr => q.cell m1 hbr (fun x => x)
      have r2 := fun q : LaterF (fun _ => False) wr => q.cell m2 hbr (fun x => x)
      have r3 := fun q : LaterF (fun _ => False) wr => q.cell m3 hbr (fun x => x)
      have HG := Lib.hid (arP_goodN (ab := ab) (u := 0) HOK.out (ms.take k))
      have HTN := Lib.hid (take_next ms k hlt)
      have HWH : Hid (∀ w3, LwI W0 a0 a1 a2 a3 a4 a5 a6 tb ab xb kit w0 (((arP ab a0 a1 a2 a3 a4 a5 a6 0).goes (ms.take k)).move ms[k]).1 w3 → Calls Try.prog 20 #[.pointer (some ⟨tb, 0, none⟩)] w3 fun e w' => e = .returned (.bool true) ∧ LwI W0 a0 a1 a2 a3 a4 a5 a6 tb ab xb kit w0 ((arP ab a0 a1 a2 a3 a4 a5 a6 0).goes (ms.take (k + 1))) w') := Lib.hid (fun w3 h3 => whole_run a0 a1 a2 a3 a4 a5 a6 HOK.out _ (by rw [HTN.out, PM.goes_snoc]; exact h3))
      clear k8 m0 m1 m2 m3 hw HM kl HTN
      generalize ms[k] = mk at *
      obtain ⟨mth, mop, marg, mdata⟩ := mk
      simp only at r0 r1 r2 r3
      go_wp2
      refine wp_region_plan (fun wz => ∃ q : LaterF (fun _ => False) wr, wz = q.W) [8] [0, 1, 2, 3, 4, 5, 6, 7] (.tail 8) oper0 (by kernel_rfl) (by kernel_rfl) (laterF_in (Only.refl _ _).drew) ?_
      simp only [wpPlan, List.map_cons, List.map_nil, List.getD_cons_zero, List.getD_cons_succ, List.drop_succ_cons, List.drop_zero]
      repeat (first | go_big_quiet_skip | (go_big_quiet_want; go_big_quiet_op; go_big_quiet_on))
      refine wpQuiet_nil ?_
      go_wp2_with (first
        | (go_at_call 21; refine (lw_move (hI.out.only (Only.refl _ wr).drew) HG.out ⟨mth, mop, marg, mdata⟩).mono ?_; rintro e w3 ⟨rfl, hmo⟩; have HWK := Lib.hid (HWH.out _ hmo); clear hmo)
        | (go_at_call 20; refine HWK.out.mono ?_; rintro e w4 ⟨rfl, h4⟩; have HNX := Lib.hid h4; clear h4))
      go_roundg (ms.length - (k + 1))
      case measure => omega
      case rel => exact ⟨k + 1, by omega, by omega, by go_num, HNX⟩
    · obtain rfl : k = ms.length := by omega
      clear k0 k1 k2 k3 k4 k5 k6 k7 k8 kl HM
      go_wp2
      go_ret
      exact ⟨rfl, hw.belowF⟩
theorem wholes_walk (a0 a1 a2 a3 a4 a5 a6 : Int) {w : World} {ms : List Mv} {om : Option Addr} {cm : Nat} (hm : MvsIn w (.slice om ms.length cm) ms) (_hcm : ms.length ≤ cm ∧ cm ≤ maxLen ∧ (om = none → cm = 0)) :
    Calls Try.prog 6 #[.agg #[.int .i64 a0, .int .i64 a1, .int .i64 a2, .int .i64 a3, .int .i64 a4, .int .i64 a5, .int .i64 a6], .slice om ms.length cm] w fun e w' => e = .returned (.bool true) ∧ Below w.heap.size w w' := by
  cases hok : okCfg a0 a1 a2 a3 a4 a5 a6 with
  | false => exact whole_out _ _ _ _ _ _ _ hok
  | true => exact whole_in _ _ _ _ _ _ _ hok hm
end Go.Proofs.Ytjcggokhminmoaa
