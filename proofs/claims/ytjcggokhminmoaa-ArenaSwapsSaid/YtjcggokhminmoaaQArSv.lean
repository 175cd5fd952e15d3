/-
ArenaSwaps returns true.
-/
import Derived.Test.YtjcggokhminmoaaQArLw
namespace Go
open Go.RowKit
open Go.Proofs.Ytjcggokhminmoaa
theorem sw_run {a0 a1 a2 a3 a4 a5 a6 : Int} (h : okCfg a0 a1 a2 a3 a4 a5 a6 = true) (ms : List Mv) : (∀ (k : Nat) (a : Acc), (arRun a0 a1 a2 a3 a4 a5 a6 ms).trace[k]? = some a → SwOk (swAt a0.toNat (arRun a0 a1 a2 a3 a4 a5 a6 ms).trace k) a0.toNat a) ∧ (arRun a0 a1 a2 a3 a4 a5 a6 ms).trace.length ≤ 262144 := by
  obtain ⟨b0, b1, b2, b3, b4, b5, b6, bm⟩ := ok_bounds h
  have hp := arP_pa (ab := 0) (u := 0) h (by omega)
  have hts := arP_ts (ab := 0) (a0 := a0) (a1 := a1) (a2 := a2) (a3 := a3) (a4 := a4) (a5 := a5) (a6 := a6) (u := 0)
  have hI : SwI (arP 0 a0 a1 a2 a3 a4 a5 a6 0) := by
    refine SwI.init rfl ?_ (fun i rd tk e => by rw [hts] at e; cases e)
    have h1 := hp.inv.tag
    have h2 : 0 ≤ hTag (wHead (arP 0 a0 a1 a2 a3 a4 a5 a6 0).words) := by rw [hp.inv.head.tag (ok_small hp.inv.ok).2.1]; have := hp.inv.head.1; omega
    have h3 : ((arP 0 a0 a1 a2 a3 a4 a5 a6 0).moves : Int) = 0 := rfl
    omega
  have h1 := hI.runs (arP_ah h (by omega)) ms
  have hn : ((arP 0 a0 a1 a2 a3 a4 a5 a6 0).goes ms).seats.length = a0.toNat := by
    rw [PM.seats_goes]; simp [arP, PM.init]
  have h2 := h1.all
  rw [hn] at h2
  refine ⟨h2, ?_⟩
  have hg := arP_goodN (ab := 0) (u := 0) h ms
  have h3 := hg.log
  have h4 := hg.top
  show ((arP 0 a0 a1 a2 a3 a4 a5 a6 0).goes ms).log.length ≤ _
  omega
theorem ints_set (l : List Int) (i : Nat) (x : Int) : (intsC l).set i (.int .i64 x) = intsC (l.set i x) := by simp [intsC, List.map_set]
theorem ints_get (l : List Int) (i : Nat) (h : i < l.length) : (intsC l)[i]? = some (.int .i64 (l.getD i 0)) := by simp [intsC, h]
end Go
namespace Go.Proofs.Ytjcggokhminmoaa
open Go.ChangeShapes Go.WideShapes Go.ChangeAt Go.RowKit Go.Shelf

set_option maxRecDepth 100000 in
set_option maxHeartbeats 2000000 in
theorem swaps_out {w : World} (a0 a1 a2 a3 a4 a5 a6 : Int) {om : Option Addr} {nm cm : Nat} (h : okCfg a0 a1 a2 a3 a4 a5 a6 = false ∨ (okCfg a0 a1 a2 a3 a4 a5 a6 = true ∧ 65536 < nm)) :
    Calls Try.prog 5 #[.agg #[.int .i64 a0, .int .i64 a1, .int .i64 a2, .int .i64 a3, .int .i64 a4, .int .i64 a5, .int .i64 a6], .slice om nm cm] w fun e w' => e = .returned (.bool true) ∧ Below w.heap.size w w' := by
  have HC := Lib.hid (fun w => config_any a0 a1 a2 a3 a4 a5 a6 w)
  have HW := Lib.hid awake_any
  rcases h with h | ⟨hok, h⟩
  · rw [h] at HC
    clear h
    go_enter Try.func5, Try.ntmps5
    go_wp2_with (first
      | (go_at_call 12; refine (HC.out _).mono ?_; rintro e w1 ⟨rfl, hb1⟩; obtain ⟨os, d, rfl⟩ := hb1.more; clear hb1)
      | (go_at_call 17; refine (HW.out _).mono ?_; rintro e w2 ⟨rfl, ho⟩; have HO := Lib.hid ho; clear ho))
    go_ret
    exact ⟨rfl, (Only.trans (Below.only0 (by repeat (first | exact Below.refl _ _ | apply Below.drew | apply Below.more1 | apply Below.alloc1 | (refine Below.setCell ?_ (by first | exact Nat.le_refl _ | (simp; done) | (simp; omega)) _)))) HO.out (fun _ x => x.elim)).belowF⟩
  · rw [hok] at HC
    have hd : decide ((65536 : Int) < (nm : Int)) = true := by simp; omega
    clear hok h
    go_enter Try.func5, Try.ntmps5
    go_wp2_with (first
      | (go_at_call 12; refine (HC.out _).mono ?_; rintro e w1 ⟨rfl, hb1⟩; obtain ⟨os, d, rfl⟩ := hb1.more; clear hb1)
      | (go_at_call 17; refine (HW.out _).mono ?_; rintro e w2 ⟨rfl, ho⟩; have HO := Lib.hid ho; clear ho))
    go_ret
    exact ⟨rfl, (Only.trans (Below.only0 (by repeat (first | exact Below.refl _ _ | apply Below.drew | apply Below.more1 | apply Below.alloc1 | (refine Below.setCell ?_ (by first | exact Nat.le_refl _ | (simp; done) | (simp; omega)) _)))) HO.out (fun _ x => x.elim)).belowF⟩

/-- while the trace is looked at: the numbers' row, and nothing else has changed -/
def SwW (Wb : World) (b0 g n : Nat) (S : SwS) (wr : World) : Prop := wr.RowV b0 3 1 (.slice (some ⟨g, 0, none⟩) n n) n (intsC S.ld) ∧ Only (fun k => k = g) Wb wr
set_option maxRecDepth 100000 in
set_option maxHeartbeats 4000000 in
theorem swaps_in {w : World} (a0 a1 a2 a3 a4 a5 a6 : Int) {om : Option Addr} {cm : Nat} {ms : List Mv} (hok : okCfg a0 a1 a2 a3 a4 a5 a6 = true) (hl : ms.length ≤ 65536) (hm : MvsIn w (.slice om ms.length cm) ms) :
    Calls Try.prog 5 #[.agg #[.int .i64 a0, .int .i64 a1, .int .i64 a2, .int .i64 a3, .int .i64 a4, .int .i64 a5, .int .i64 a6], .slice om ms.length cm] w fun e w' => e = .returned (.bool true) ∧ Below w.heap.size w w' := by
  obtain ⟨n, rfl⟩ : ∃ n : Nat, a0 = (n : Int) := ⟨a0.toNat, by have := (ok_bounds hok).1; omega⟩
  have hn1 : 0 < n ∧ n ≤ 16 := by have := (ok_bounds hok).1; omega
  obtain ⟨hsw, hlen⟩ := sw_run hok ms
  rw [Int.toNat_natCast] at hsw
  have HC := Lib.hid (fun w => config_any (n : Int) a1 a2 a3 a4 a5 a6 w)
  rw [hok] at HC
  have HW := Lib.hid awake_any
  have HP := Lib.hid (fun W (ho : Only (fun _ => False) w W) => arplay_ok _ _ _ _ _ _ _ hok (hm.only ho) hl)
  have hd : decide ((65536 : Int) < (ms.length : Int)) = false := by simp; omega
  obtain ⟨R, hR⟩ : ∃ R, R = arRun (n : Int) a1 a2 a3 a4 a5 a6 ms := ⟨_, rfl⟩
  rw [← hR] at hsw hlen HP
  obtain ⟨i0, ii, iz0, iz1, iz2⟩ := info_parts infoIntG
  have HII := Lib.hid ii
  have HZ0 := Lib.hid iz0
  have HZ1 := Lib.hid iz1
  have HZ2 := Lib.hid iz2
  have HSW := Lib.hid hsw
  clear hok hm hR hl ii iz0 iz1 iz2 hsw
  go_enter Try.func5, Try.ntmps5
  go_upto_region 3 with (go_at_call 12; refine (HC.out _).mono ?_; rintro e w1 ⟨rfl, hb1⟩; obtain ⟨os, d, rfl⟩ := hb1.more; clear hb1)
  refine gen_world ?_
  intro W0 hW0
  have HW0 : Hid (Only (fun _ => False) w W0) := Lib.hid (by rw [hW0]; exact (Below.only0 (by repeat (first | exact Below.refl _ _ | apply Below.drew | apply Below.more1 | apply Below.alloc1 | (refine Below.setCell ?_ (by first | exact Nat.le_refl _ | (simp; done) | (simp; omega)) _)))))
  have hcb : W0.heap[w.heap.size]? = some (cfgO (n : Int) a1 a2 a3 a4 a5 a6) := by rw [hW0]; exact (World.heap_more _ _ _ _ (by simp)).trans (heap_alloc_new w _)
  obtain ⟨k0, k1, k2, k3, k4, k5, k6, kl⟩ := boxC hcb
  have HCB := Lib.hid hcb
  clear hW0 hcb HC
  go_upto_region 4 with (go_at_call 18; refine (HP.out _ HW0.out).mono ?_; rintro e w1 ⟨x, he, hra, hro⟩; obtain ⟨xa, xt, xb', xc⟩ := x; obtain ⟨oa, ca, e1, _, _⟩ := hra.wa.form; obtain ⟨ot, ct, e2, _, _⟩ := hra.wt.form; obtain ⟨ob, cb, e3, _, _⟩ := hra.wb.form; obtain ⟨oc, cc, e4, _, _⟩ := hra.wc.form; simp only at e1 e2 e3 e4; subst e1; subst e2; subst e3; subst e4; (unfold RunVs.v at he); subst he; have HRA := Lib.hid hra; have HRO := Lib.hid hro; clear hra hro)
  refine gen_world ?_
  intro W1 hW1
  have hrb : W1.heap[w1.heap.size]? = some (.cells #[.slice oa R.calls.length ca, .slice ot R.trace.length ct, .slice ob R.shifts.length cb, .slice oc R.words.length cc] 42 (0, 0)) := by rw [hW1]; exact heap_alloc_new _ _
  have oW : Only (fun _ => False) w1 W1 := by rw [hW1]; exact (Only.refl _ _).alloc _
  have HO01 := Lib.hid (HRO.out.trans oW (fun _ x => x.elim))
  have HWT := Lib.hid (HRA.out.wt.of_block (fun k hk => oW.block k (HRA.out.wt.lt k hk).2 (fun x => x)))
  have HRB := Lib.hid hrb
  clear hW1 oW hrb HRA HRO k0 k1 k2 k3 k4 k5 k6 kl HP
  generalize w1.heap.size = rb at *
  clear w1
  go_upto_region 6 with (first
    | (go_at_call 13; refine (num4_any _ _).mono ?_; rintro e wn ⟨rfl, rfl⟩)
    | (go_at_call 17; refine (HW.out _).mono ?_; rintro e w2 ⟨rfl, ho⟩; have HO2 := Lib.hid ho; clear ho))
  have HCB2 := Lib.hid ((HO01.out.trans HO2.out (fun _ x => x.elim)).blockF HCB.out (fun x => x))
  obtain ⟨k0, k1, k2, k3, k4, k5, k6, kl⟩ := boxC HCB2.out
  clear k1 k2 k3 k4 k5 k6
  have hsz2 := (HO01.out.trans HO2.out (fun _ x => x.elim)).size
  go_upto_region 8 with (at_make; refine wpList_make_full _ rfl _ _ 53 rfl w.heap.size 3 i0 (.int .i64 0) 1 Try.underlying53 HII.out HZ0.out HZ1.out _ _ _ _ n rfl rfl rfl rfl (by rw [HZ2.out]; omega) (by unfold maxLen; omega) (by have := HW0.out.size; omega) ?_; intro w3 hown hg; have HN3 := Lib.hid (World.RowV.fromOwns hown hn1.1); have HG3 := Lib.hid hg; clear hown hg)
  rw [show (madeCells (Value.int .i64 0).cells (n * 1)).toList = intsC (swAt n R.trace 0).ld by unfold madeCells; apply List.ext_getElem <;> simp [swAt, intsC, Value.cells, Nat.mod_one]] at HN3
  have o23 : Only (fun _ => False) w2 w3 := ⟨HG3.out.os, HG3.out.tape, HG3.out.output, HG3.out.size, fun k hk _ => HG3.out.block k hk (fun e => by cases e)⟩
  have HO13 := Lib.hid (HO2.out.trans o23 (fun _ x => x.elim))
  have HO3 := Lib.hid (HW0.out.trans (HO01.out.trans HO13.out (fun _ x => x.elim)) (fun _ x => x.elim))
  have hg1 : W1.heap.size ≤ w2.heap.size := HO2.out.size
  have hg0 : W0.heap.size ≤ W1.heap.size := HO01.out.size
  have hgw : w.heap.size < w2.heap.size := Nat.lt_of_lt_of_le (Array.getElem?_eq_some_iff.1 HCB.out).1 (Nat.le_trans hg0 hg1)
  have hgr : rb < w2.heap.size := Nat.lt_of_lt_of_le (Array.getElem?_eq_some_iff.1 HRB.out).1 hg1
  have HI0 : Hid (SwW w3 w.heap.size w2.heap.size n (swAt n R.trace 0) w3) := Lib.hid ⟨HN3.out, Only.refl _ _⟩
  have HCB3 := Lib.hid (HO13.out.blockF (HO01.out.blockF HCB.out (fun x => x)) (fun x => x))
  have HRB3 := Lib.hid (HO13.out.blockF HRB.out (fun x => x))
  have HT3 := Lib.hid (HWT.out.of_block (fun k hk => HO13.out.block k (HWT.out.lt k hk).2 (fun x => x)))
  have HTG := Lib.hid (fun k (hk : (Value.slice ot R.trace.length ct).rowBlock = some k) => Nat.lt_of_lt_of_le (HWT.out.lt k hk).2 hg1)
  clear HN3 HG3 o23 hg1 hg0 HWT HRB HCB HCB2 HO2 HO01 k0 kl hsz2 HO13
  generalize w2.heap.size = g at *
  clear w2
  go_wp2
  go_loopg [7, 9, 10] R.trace.length (fun gh s7 s9 s10 wr => ∃ k : Nat, k ≤ R.trace.length ∧ R.trace.length ≤ k + gh ∧ s7 = .int .u64 (swAt n R.trace k).tag ∧ s9 = .int .i64 (swAt n R.trace k).last ∧ s10 = .int .i64 (k : Int) ∧ Hid (SwW w3 w.heap.size g n (swAt n R.trace k) wr))
  case atStart => exact ⟨0, by omega, by omega, by simp [swAt], by simp [swAt], by go_num, HI0⟩
  case round =>
    clear HI0
    obtain ⟨k, hk1, hk2, rfl, rfl, rfl, hI⟩ := hrel
    have hcb := hI.out.2.blockF HCB3.out (by omega)
    obtain ⟨k0, k1, k2, k3, k4, k5, k6, kl⟩ := boxC hcb
    have hrb := hI.out.2.blockF HRB3.out (by omega)
    have r1 : wr.cell? ⟨rb, 1, none⟩ = some (.slice ot R.trace.length ct) := by simp [World.cell?, hrb]
    have rl := (Array.getElem?_eq_some_iff.1 hrb).1
    have HOW := Lib.hid (HO3.out.trans hI.out.2 (fun j hj => .inr (by omega)))
    clear k1 k2 k3 k4 k5 k6 hcb hrb
    by_cases hlt : k < R.trace.length
    · obtain ⟨f1, f2, f3, f4, f5⟩ := swAt_facts n R.trace k
      have hok := HSW.out k _ (List.getElem?_eq_getElem hlt)
      have hnx := swAt_next n R.trace k hlt
      have hT := HT3.out.of_block (w' := wr) (fun j hj => hI.out.2.block j (HT3.out.lt j hj).2 (by have := HTG.out j hj; omega))
      obtain ⟨t, cap, e, t1, t2, t3, t4, t5, t6⟩ := hT.some_form (by omega)
      cases e
      have fc : ∀ j, j < 7 → (accs R.trace)[k * 7 + j]? = R.trace[k].cells[j]? := fun j hj => flat_get (f := Acc.cells) (k := 7) (fun _ => rfl) R.trace k j hlt hj
      have m0 := t6 _ _ (fc 0 (by omega))
      have m1 := t6 _ _ (fc 1 (by omega))
      have m2 := t6 _ _ (fc 2 (by omega))
      have m3 := t6 _ _ (fc 3 (by omega))
      have m4 := t6 _ _ (fc 4 (by omega))
      have m5 := t6 _ _ (fc 5 (by omega))
      have m6 := t6 _ _ (fc 6 (by omega))
      simp only [Nat.add_zero] at m0
      have hcap : R.trace.length ≤ ct := t1
      have htg : t ≠ g := by have := HTG.out t t4; omega
      clear t6 fc hT t2 t4 t5
      generalize R.trace[k] = a at *
      have HNX := Lib.hid hnx
      clear hnx
      generalize swAt n R.trace k = S at *
      obtain ⟨amv, ath, akd, aad, aold, anw, asaw⟩ := a
      obtain ⟨tag, last, ld⟩ := S
      obtain ⟨⟨h1, h2⟩, h3, h4, h5, h6, h7⟩ := hok
      simp only at h1 h2 h3 h4 h5 h6 h7 f1 f2 f3 f4 f5
      obtain ⟨i, rfl⟩ : ∃ i : Nat, ath = (i : Int) := ⟨ath.toNat, by omega⟩
      rw [Int.toNat_natCast] at h6
      have hin : i < n := by omega
      have d1 : decide ((i : Int) < 0) = false := by simp
      have d2 : decide ((n : Int) ≤ (i : Int)) = false := by simp; omega
      obtain ⟨g', cg, e, u1, u2, u3, u4, u5, u6⟩ := hI.out.1.some_form hn1.1
      cases e
      have ui := u6 i _ (ints_get ld i (by omega))
      generalize ld.getD i 0 = lv at ui h6
      clear u6 u2
      by_cases had : aad = 0
      · subst had
        by_cases hkd : akd = 1
        · subst hkd
          have hs := h4 rfl rfl
          have hp := (h7 rfl).1
          have hq : asaw.tdiv 4294967296 = tag := by rw [Int.tdiv_eq_ediv_of_nonneg hp]; exact hs
          have hb : (tag != tag) = false := by simp
          have hnx : swAt n R.trace (k + 1) = ⟨tag, last, ld.set i k⟩ := by rw [HNX.out]; simp [swNext]
          have HRP := Lib.hid (hI.out.1.put (g := g) u4 i (by omega) (.int .i64 (k : Int)))
          rw [ints_set] at HRP
          clear h3 h4 h5 h6 h7 hs
          go_wp2
          go_roundg (R.trace.length - (k + 1))
          case measure => omega
          case rel => exact ⟨k + 1, by omega, by omega, by rw [hnx], by rw [hnx], by go_num, by rw [hnx]; exact Lib.hid ⟨HRP.out.alloc _, (Only.set (F := fun j => j = g) hI.out.2 (p := ⟨g, i, none⟩) (.inl rfl) _).alloc _⟩⟩
        · have hk3 : akd = 3 := by have := h3 rfl; omega
          subst hk3
          by_cases hso : asaw = aold
          · subst hso
            have hs := h5 rfl rfl rfl
            have hp := (h7 rfl).2 rfl rfl
            have hq : anw.tdiv 4294967296 = tag + 1 := by rw [Int.tdiv_eq_ediv_of_nonneg hp]; exact hs
            have hb : (tag + 1 != tag + 1) = false := by simp
            have he : decide (asaw = asaw) = true := by simp
            have hb2 : (asaw == asaw) = true := by simp
            have hnx : swAt n R.trace (k + 1) = ⟨tag + 1, k, ld⟩ := by rw [HNX.out]; simp [swNext]
            clear h3 h4 h5 h6 h7 hs
            go_wp2
            go_roundg (R.trace.length - (k + 1))
            case measure => omega
            case rel => exact ⟨k + 1, by omega, by omega, by rw [hnx], by rw [hnx], by go_num, by rw [hnx]; exact Lib.hid ⟨hI.out.1.alloc _, hI.out.2.alloc _⟩⟩
          · have hs := h6 rfl rfl hso
            have he : decide (asaw = aold) = false := by simpa using hso
            have hb2 : (asaw == aold) = false := by simpa using hso
            have hd6 : decide (last < lv) = false := decide_eq_false (by omega)
            have hnx : swAt n R.trace (k + 1) = ⟨tag, last, ld⟩ := by rw [HNX.out]; simp [swNext, hso]
            clear h3 h4 h5 h6 h7 hs hso
            go_wp2
            go_roundg (R.trace.length - (k + 1))
            case measure => omega
            case rel => exact ⟨k + 1, by omega, by omega, by rw [hnx], by rw [hnx], by go_num, by rw [hnx]; exact Lib.hid ⟨hI.out.1.alloc _, hI.out.2.alloc _⟩⟩
      · have d3 : (aad != 0) = true := by simpa using had
        have d4 : decide (aad = 0) = false := by simpa using had
        have hnx : swAt n R.trace (k + 1) = ⟨tag, last, ld⟩ := by rw [HNX.out]; unfold swNext; rw [if_pos had]
        clear h3 h4 h5 h6 h7 had
        go_wp2
        go_roundg (R.trace.length - (k + 1))
        case measure => omega
        case rel => exact ⟨k + 1, by omega, by omega, by rw [hnx], by rw [hnx], by go_num, by rw [hnx]; exact Lib.hid ⟨hI.out.1.alloc _, hI.out.2.alloc _⟩⟩
    · obtain rfl : k = R.trace.length := by omega
      go_wp2
      go_ret
      exact ⟨rfl, HOW.out.belowF⟩
theorem swaps_walk (a0 a1 a2 a3 a4 a5 a6 : Int) {w : World} {ms : List Mv} {om : Option Addr} {cm : Nat} (hm : MvsIn w (.slice om ms.length cm) ms) (_hcm : ms.length ≤ cm ∧ cm ≤ maxLen ∧ (om = none → cm = 0)) :
    Calls Try.prog 5 #[.agg #[.int .i64 a0, .int .i64 a1, .int .i64 a2, .int .i64 a3, .int .i64 a4, .int .i64 a5, .int .i64 a6], .slice om ms.length cm] w fun e w' => e = .returned (.bool true) ∧ Below w.heap.size w w' := by
  cases hok : okCfg a0 a1 a2 a3 a4 a5 a6 with
  | false => exact swaps_out _ _ _ _ _ _ _ (.inl hok)
  | true =>
    by_cases hl : 65536 < ms.length
    · exact swaps_out _ _ _ _ _ _ _ (.inr ⟨hok, hl⟩)
    · exact swaps_in _ _ _ _ _ _ _ hok (by omega) hm
end Go.Proofs.Ytjcggokhminmoaa
