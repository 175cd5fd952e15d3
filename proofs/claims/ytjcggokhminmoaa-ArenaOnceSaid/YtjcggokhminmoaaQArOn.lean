/-
ArenaOnce returns true.
-/
import Derived.Test.YtjcggokhminmoaaQArLw
namespace Go
open Go.RowKit
open Go.Proofs.Ytjcggokhminmoaa
theorem on_run {a0 a1 a2 a3 a4 a5 a6 : Int} (h : okCfg a0 a1 a2 a3 a4 a5 a6 = true) (ms : List Mv) :
    (∀ (j : Nat) (c : Cal), (arRun a0 a1 a2 a3 a4 a5 a6 ms).calls[j]? = some c → TakeTold c → 0 ≤ c.av ∧ c.av < a5) ∧
    (∀ (j j' : Nat) (c c' : Cal), (arRun a0 a1 a2 a3 a4 a5 a6 ms).calls[j]? = some c → (arRun a0 a1 a2 a3 a4 a5 a6 ms).calls[j']? = some c' → TakeTold c → TakeTold c' → j ≠ j' → c.av = c'.av → c.en ≤ c'.en → GivenBy (arRun a0 a1 a2 a3 a4 a5 a6 ms).calls j c c'.en) ∧
    (arRun a0 a1 a2 a3 a4 a5 a6 ms).calls.length ≤ 65536 := by
  obtain ⟨b0, b1, b2, b3, b4, b5, b6, bm⟩ := ok_bounds h
  have hA := arP_ah (ab := 0) (u := 0) h (by omega)
  have hI := OnceI.runs hA arP_once ms
  have hA2 := hA.runs ms
  have hg := arP_goodN (ab := 0) (u := 0) h ms
  refine ⟨fun j c hj ht => ?_, hI.two, Nat.le_trans hg.calls hg.top⟩
  obtain ⟨k, e, hk, _⟩ := hI.val j c hj ht
  have h5 : ((arP 0 a0 a1 a2 a3 a4 a5 a6 0).goes ms).s.c5 = a5 := by
    have key : ∀ (ms : List Mv) (p : PM (arK 0)), AH p → (p.goes ms).s.c5 = p.s.c5 := by
      intro ms
      induction ms with
      | nil => exact fun _ _ => rfl
      | cons m ms ih =>
        intro p hA
        show ((p.move m).1.goes ms).s.c5 = _
        rw [ih _ (hA.move m)]
        exact (AH.goes (I := fun q : PM (arK 0) => q.s.c5 = p.s.c5) (fun _ _ _ h => h) (fun q i se t o _ _ _ _ k _ h => by rw [k.s, (astep_same k.st).2.2.2.2.2.2]; exact h) (fun _ _ _ _ _ _ _ _ _ _ _ _ _ h => h) hA rfl m).2
    exact key ms _ hA
  have hs := hA2.pa.inv.ok.slots
  unfold ArS.n at hk
  omega
/-- is the slot given back, among the calls from i + 1 on, j of them looked at -/
def givC (c y z : Cal) : Bool := (z.op == 11) && ((z.arg == c.av) && ((z.th == c.th) && (decide (c.en < z.beg) && decide (z.beg < y.en))))
def givB (cs : List Cal) (c y : Cal) (i : Nat) : Nat → Bool
  | 0 => false
  | j + 1 => givB cs c y i j || (match cs[i + 1 + j]? with
    | some z => givC c y z
    | none => false)
theorem givB_mono (cs : List Cal) (c y : Cal) (i : Nat) : ∀ (j k : Nat), givB cs c y i j = true → givB cs c y i (j + k) = true
  | _, 0, h => h
  | j, k + 1, h => by
    show (givB cs c y i (j + k) || _) = true
    rw [givB_mono cs c y i j k h]
    rfl
theorem givB_yes {cs : List Cal} {c y : Cal} {i : Nat} (h : GivenBy cs i c y.en) : givB cs c y i (cs.length - (i + 1)) = true := by
  obtain ⟨g, z, h1, h2, h3, h4, h5, h6, h7⟩ := h
  have hl := (List.getElem?_eq_some_iff.1 h2).1
  have h8 : givB cs c y i (g - (i + 1) + 1) = true := by
    show (givB cs c y i (g - (i + 1)) || _) = true
    rw [show i + 1 + (g - (i + 1)) = g by omega, h2]
    simp [givC, h3, h4, h5, h6, h7]
  have := givB_mono cs c y i (g - (i + 1) + 1) (cs.length - (i + 1) - (g - (i + 1) + 1)) h8
  rwa [show g - (i + 1) + 1 + (cs.length - (i + 1) - (g - (i + 1) + 1)) = cs.length - (i + 1) by omega] at this
def givA (cs : List Cal) (c y : Cal) (i g : Nat) : Bool := givB cs c y i (g - (i + 1))
theorem givA_zero (cs : List Cal) (c y : Cal) (i : Nat) : givA cs c y i (i + 1) = false := by unfold givA; rw [Nat.sub_self]; rfl
theorem givB_next {cs : List Cal} {c y z : Cal} {i j : Nat} (h : cs[i + 1 + j]? = some z) : givB cs c y i (j + 1) = (givB cs c y i j || givC c y z) := by
  show (_ || _) = _
  rw [h]
theorem givA_next {cs : List Cal} {c y z : Cal} {i g : Nat} (hg : i + 1 ≤ g) (h : cs[g]? = some z) : givA cs c y i (g + 1) = (givA cs c y i g || givC c y z) := by
  unfold givA
  rw [show g + 1 - (i + 1) = (g - (i + 1)) + 1 by omega]
  exact givB_next (by rw [show i + 1 + (g - (i + 1)) = g by omega]; exact h)
end Go
namespace Go.Proofs.Ytjcggokhminmoaa
open Go.ChangeShapes Go.WideShapes Go.ChangeAt Go.RowKit Go.Shelf

set_option maxRecDepth 100000 in
set_option maxHeartbeats 2000000 in
theorem once_out {w : World} (a0 a1 a2 a3 a4 a5 a6 : Int) {om : Option Addr} {nm cm : Nat} (h : okCfg a0 a1 a2 a3 a4 a5 a6 = false ∨ (okCfg a0 a1 a2 a3 a4 a5 a6 = true ∧ 65536 < nm)) :
    Calls Try.prog 4 #[.agg #[.int .i64 a0, .int .i64 a1, .int .i64 a2, .int .i64 a3, .int .i64 a4, .int .i64 a5, .int .i64 a6], .slice om nm cm] w fun e w' => e = .returned (.bool true) ∧ Below w.heap.size w w' := by
  have HC := Lib.hid (fun w => config_any a0 a1 a2 a3 a4 a5 a6 w)
  have HW := Lib.hid awake_any
  rcases h with h | ⟨hok, h⟩
  · rw [h] at HC
    clear h
    go_enter Try.func4, Try.ntmps4
    go_wp2_with (first
      | (go_at_call 12; refine (HC.out _).mono ?_; rintro e w1 ⟨rfl, hb1⟩; obtain ⟨os, d, rfl⟩ := hb1.more; clear hb1)
      | (go_at_call 17; refine (HW.out _).mono ?_; rintro e w2 ⟨rfl, ho⟩; have HO := Lib.hid ho; clear ho))
    go_ret
    exact ⟨rfl, (Only.trans (Below.only0 (by repeat (first | exact Below.refl _ _ | apply Below.drew | apply Below.more1 | apply Below.alloc1 | (refine Below.setCell ?_ (by first | exact Nat.le_refl _ | (simp; done) | (simp; omega)) _)))) HO.out (fun _ x => x.elim)).belowF⟩
  · rw [hok] at HC
    have hd : decide ((65536 : Int) < (nm : Int)) = true := by simp; omega
    clear hok h
    go_enter Try.func4, Try.ntmps4
    go_wp2_with (first
      | (go_at_call 12; refine (HC.out _).mono ?_; rintro e w1 ⟨rfl, hb1⟩; obtain ⟨os, d, rfl⟩ := hb1.more; clear hb1)
      | (go_at_call 17; refine (HW.out _).mono ?_; rintro e w2 ⟨rfl, ho⟩; have HO := Lib.hid ho; clear ho))
    go_ret
    exact ⟨rfl, (Only.trans (Below.only0 (by repeat (first | exact Below.refl _ _ | apply Below.drew | apply Below.more1 | apply Below.alloc1 | (refine Below.setCell ?_ (by first | exact Nat.le_refl _ | (simp; done) | (simp; omega)) _)))) HO.out (fun _ x => x.elim)).belowF⟩

theorem moreT {a b c : World} (h : Only (fun _ => False) a b) (k : Below b.heap.size b c) : ∃ os d, c = a.more os d := RowKit.Below.more (h.belowF.trans (k.mono h.size))
/-- the cells of a call in a row -/
theorem cal_at {w : World} {base : Nat} {o : Option Addr} {l : List Cal} {c : Nat} (h : w.RowV base 50 9 (.slice o l.length c) l.length (cals l)) {i : Nat} (hi : i < l.length) : ∃ t, o = some ⟨t, 0, none⟩ ∧ l.length ≤ c ∧ t < w.heap.size ∧
    w.cell? ⟨t, i * 9, none⟩ = some (.int .i64 l[i].th) ∧ w.cell? ⟨t, i * 9 + 1, none⟩ = some (.int .i64 l[i].op) ∧ w.cell? ⟨t, i * 9 + 2, none⟩ = some (.int .i64 l[i].arg) ∧ w.cell? ⟨t, i * 9 + 3, none⟩ = some (.int .i64 l[i].data) ∧ w.cell? ⟨t, i * 9 + 4, none⟩ = some (.int .i64 l[i].beg) ∧
    w.cell? ⟨t, i * 9 + 5, none⟩ = some (.int .i64 l[i].en) ∧ w.cell? ⟨t, i * 9 + 6, none⟩ = some (.int .i64 l[i].pt) ∧ w.cell? ⟨t, i * 9 + 7, none⟩ = some (.int .i64 l[i].ak) ∧ w.cell? ⟨t, i * 9 + 8, none⟩ = some (.int .i64 l[i].av) := by
  obtain ⟨t, cap, e, t1, t2, t3, t4, t5, t6⟩ := h.some_form (by omega)
  cases e
  have fc : ∀ j, j < 9 → (cals l)[i * 9 + j]? = l[i].cells[j]? := fun j hj => flat_get (f := Cal.cells) (k := 9) (fun _ => rfl) l i j hi hj
  exact ⟨t, rfl, t1, t3, t6 _ _ (fc 0 (by omega)), t6 _ _ (fc 1 (by omega)), t6 _ _ (fc 2 (by omega)), t6 _ _ (fc 3 (by omega)), t6 _ _ (fc 4 (by omega)), t6 _ _ (fc 5 (by omega)), t6 _ _ (fc 6 (by omega)), t6 _ _ (fc 7 (by omega)), t6 _ _ (fc 8 (by omega))⟩

set_option maxRecDepth 100000 in
set_option maxHeartbeats 4000000 in
theorem once_in {w : World} (a0 a1 a2 a3 a4 a5 a6 : Int) {om : Option Addr} {cm : Nat} {ms : List Mv} (hok : okCfg a0 a1 a2 a3 a4 a5 a6 = true) (hl : ms.length ≤ 65536) (hm : MvsIn w (.slice om ms.length cm) ms) :
    Calls Try.prog 4 #[.agg #[.int .i64 a0, .int .i64 a1, .int .i64 a2, .int .i64 a3, .int .i64 a4, .int .i64 a5, .int .i64 a6], .slice om ms.length cm] w fun e w' => e = .returned (.bool true) ∧ Below w.heap.size w w' := by
  obtain ⟨hval, htwo, hlen⟩ := on_run hok ms
  have HC := Lib.hid (fun w => config_any a0 a1 a2 a3 a4 a5 a6 w)
  rw [hok] at HC
  have HW := Lib.hid awake_any
  have HP := Lib.hid (fun W (ho : Only (fun _ => False) w W) => arplay_ok _ _ _ _ _ _ _ hok (hm.only ho) hl)
  have hd : decide ((65536 : Int) < (ms.length : Int)) = false := by simp; omega
  obtain ⟨R, hR⟩ : ∃ R, R = arRun a0 a1 a2 a3 a4 a5 a6 ms := ⟨_, rfl⟩
  rw [← hR] at hval htwo hlen HP
  have HV := Lib.hid hval
  have HT := Lib.hid htwo
  clear hok hm hR hl hval htwo
  go_enter Try.func4, Try.ntmps4
  go_upto_region 3 with (go_at_call 12; refine (HC.out _).mono ?_; rintro e w1 ⟨rfl, hb1⟩; obtain ⟨os, d, rfl⟩ := hb1.more; clear hb1)
  refine gen_world ?_
  intro W0 hW0
  have HW0 : Hid (Only (fun _ => False) w W0) := Lib.hid (by rw [hW0]; exact (Below.only0 (by repeat (first | exact Below.refl _ _ | apply Below.drew | apply Below.more1 | apply Below.alloc1 | (refine Below.setCell ?_ (by first | exact Nat.le_refl _ | (simp; done) | (simp; omega)) _)))))
  have hcb : W0.heap[w.heap.size]? = some (cfgO a0 a1 a2 a3 a4 a5 a6) := by rw [hW0]; exact (World.heap_more _ _ _ _ (by simp)).trans (heap_alloc_new w _)
  obtain ⟨k0, k1, k2, k3, k4, k5, k6, kl⟩ := boxC hcb
  have HCB := Lib.hid hcb
  clear hW0 hcb HC
  go_upto_region 4 with (go_at_call 18; refine (HP.out _ HW0.out).mono ?_; rintro e w1 ⟨x, he, hra, hro⟩; obtain ⟨xa, xt, xb', xc⟩ := x; obtain ⟨oa, ca, e1, _, _⟩ := hra.wa.form; obtain ⟨ot, ct, e2, _, _⟩ := hra.wt.form; obtain ⟨ob, cb, e3, _, _⟩ := hra.wb.form; obtain ⟨oc, cc, e4, _, _⟩ := hra.wc.form; simp only at e1 e2 e3 e4; subst e1; subst e2; subst e3; subst e4; (unfold RunVs.v at he); subst he; have HRA := Lib.hid hra; have HRO := Lib.hid hro; clear hra hro)
  refine gen_world ?_
  intro W1 hW1
  have hrb : W1.heap[w1.heap.size]? = some (.cells #[.slice oa R.calls.length ca, .slice ot R.trace.length ct, .slice ob R.shifts.length cb, .slice oc R.words.length cc] 42 (0, 0)) := by rw [hW1]; exact heap_alloc_new _ _
  have oW : Only (fun _ => False) w1 W1 := by rw [hW1]; exact (Only.refl _ _).alloc _
  have HO01 := Lib.hid (HRO.out.trans oW (fun _ x => x.elim))
  have HWA := Lib.hid (HRA.out.wa.of_block (fun k hk => oW.block k (HRA.out.wa.lt k hk).2 (fun x => x)))
  have HRB := Lib.hid hrb
  clear hW1 oW hrb HRA HRO k0 k1 k2 k3 k4 k5 k6 kl HP
  generalize w1.heap.size = rb at *
  clear w1
  go_upto_region 6 with (first
    | (go_at_call 13; refine (num4_any _ _).mono ?_; rintro e wn ⟨rfl, rfl⟩)
    | (go_at_call 17; refine (HW.out _).mono ?_; rintro e w2 ⟨rfl, ho⟩; have HO2 := Lib.hid ho; clear ho))
  have hcb2 := HO2.out.blockF (HO01.out.blockF HCB.out (fun x => x)) (fun x => x)
  have hrb2 := HO2.out.blockF HRB.out (fun x => x)
  obtain ⟨k0, k1, k2, k3, k4, k5, k6, kl⟩ := boxC hcb2
  have r0 : w2.cell? ⟨rb, 0, none⟩ = some (.slice oa R.calls.length ca) := by simp [World.cell?, hrb2]
  have rl := (Array.getElem?_eq_some_iff.1 hrb2).1
  have HA2 := Lib.hid (HWA.out.of_block (fun k hk => HO2.out.block k (HWA.out.lt k hk).2 (fun x => x)))
  have HOW := Lib.hid (HW0.out.trans (HO01.out.trans HO2.out (fun _ x => x.elim)) (fun _ x => x.elim))
  clear hcb2 hrb2 HCB HRB HWA HO01 HO2 HW HW0 k0 k1 k2 k3 k4 k6

  generalize R.calls = cs at *
  obtain ⟨m, hm⟩ : ∃ m, m = cs.length := ⟨_, rfl⟩
  have HM := Lib.hid hm
  rw [← hm] at r0 hlen
  clear hm
  go_wp2
  go_loopg [7] m (fun gh s7 wr => ∃ i : Nat, i ≤ m ∧ m ≤ i + gh ∧ s7 = .int .i64 (i : Int) ∧ ∃ os d, wr = w2.more os d)
  case atStart => exact ⟨0, by omega, by omega, by go_num, #[], w2.drawn, by simp [World.more]⟩
  case round =>
    obtain ⟨i, hi1, hi2, rfl, os1, d1, rfl⟩ := hrel
    by_cases hlt : i < m
    · obtain ⟨t, e, hcap, tl, x0, x1, x2, x3, x4, x5, x6, x7, x8⟩ := cal_at HA2.out (i := i) (by rw [← HM.out]; exact hlt)
      subst e
      rw [← HM.out] at hcap
      have hci := List.getElem?_eq_getElem (show i < cs.length by rw [← HM.out]; exact hlt)
      have HCI := Lib.hid hci
      clear hci
      generalize hgc : cs[i]'(by rw [← HM.out]; exact hlt) = c at *
      clear hgc
      obtain ⟨cth, cop, carg, cdata, cbeg, cen, cpt, cak, cav⟩ := c
      simp only at x0 x1 x2 x3 x4 x5 x6 x7 x8
      by_cases hop : cop = 10
      · by_cases hak : cak = 2
        · subst hop
          subst hak
          obtain ⟨hv1, hv2⟩ := HV.out i _ HCI.out ⟨rfl, rfl⟩
          simp only at hv1 hv2
          have dv1 : decide (cav < 0) = false := decide_eq_false (by omega)
          have dv2 : decide (a5 ≤ cav) = false := decide_eq_false (by omega)
          go_upto_region 14 with (fail)
          refine gen_world ?_
          intro W2 hW2
          have HW2 : Hid (Only (fun _ => False) w2 W2) := Lib.hid (by rw [hW2]; exact (Below.only0 (by repeat (first | exact Below.refl _ _ | apply Below.drew | apply Below.more1 | apply Below.alloc1 | (refine Below.setCell ?_ (by first | exact Nat.le_refl _ | (simp; done) | (simp; omega)) _)))))
          have hxb : W2.heap[(w2.heap.size + os1.size)]? = some (.cells #[.int .i64 cth, .int .i64 10, .int .i64 carg, .int .i64 cdata, .int .i64 cbeg, .int .i64 cen, .int .i64 cpt, .int .i64 2, .int .i64 cav] 50 (0, 0)) := by rw [hW2]; exact heap_alloc_at (World.size_more _ _ _)
          have HXB := Lib.hid hxb
          have xl := (Array.getElem?_eq_some_iff.1 hxb).1
          have y0 : W2.cell? ⟨(w2.heap.size + os1.size), 0, none⟩ = some (.int .i64 cth) := by simp only [World.cell?, hxb]; rfl
          have y5 : W2.cell? ⟨(w2.heap.size + os1.size), 5, none⟩ = some (.int .i64 cen) := by simp only [World.cell?, hxb]; rfl
          have y8 : W2.cell? ⟨(w2.heap.size + os1.size), 8, none⟩ = some (.int .i64 cav) := by simp only [World.cell?, hxb]; rfl
          have r0' : W2.cell? ⟨rb, 0, none⟩ = some (.slice (some ⟨t, 0, none⟩) m ca) := (HW2.out.cellAt (p := ⟨rb, 0, none⟩) rl (fun x => x)).trans r0
          have rl' := Nat.lt_of_lt_of_le rl HW2.out.size
          have HB2 := Lib.hid (HA2.out.of_block (fun k hk => HW2.out.block k (HA2.out.lt k hk).2 (fun x => x)))
          have HOW2 := Lib.hid (HOW.out.trans HW2.out (fun _ x => x.elim))
          clear hxb hW2 x0 x1 x2 x3 x4 x5 x6 x7 x8 dv1 dv2 hv1 hv2
          generalize (w2.heap.size + os1.size) = xb at *
          clear os1 d1
          go_wp2
          go_loopg [9] m (fun gh s9 wr => ∃ j : Nat, j ≤ m ∧ m ≤ j + gh ∧ s9 = .int .i64 (j : Int) ∧ ∃ os d, wr = W2.more os d)
          case atStart => exact ⟨0, by omega, by omega, by go_num, #[], W2.drawn, by simp [World.more]⟩
          case round =>
            obtain ⟨j, hj1, hj2, rfl, os2, d2, rfl⟩ := hrel
            by_cases hjt : j < m
            · obtain ⟨t', e, _, tl', x0, x1, x2, x3, x4, x5, x6, x7, x8⟩ := cal_at HB2.out (i := j) (by rw [← HM.out]; exact hjt)
              cases e
              have hcj := List.getElem?_eq_getElem (show j < cs.length by rw [← HM.out]; exact hjt)
              have HCJ := Lib.hid hcj
              clear hcj
              generalize hgc : cs[j]'(by rw [← HM.out]; exact hjt) = y at *
              clear hgc
              obtain ⟨yth, yop, yarg, ydata, ybeg, yen, ypt, yak, yav⟩ := y
              simp only at x0 x1 x2 x3 x4 x5 x6 x7 x8
              by_cases hji : j = i
              · subst hji
                have e2 : ((j : Int) == (j : Int)) = true := by simp
                go_wp2
                go_roundg (m - (j + 1))
                case measure => omega
                case rel => exact ⟨j + 1, by omega, by omega, by go_num, RowKit.Below.more (by repeat (first | exact Below.refl _ _ | apply Below.drew | apply Below.more1 | apply Below.alloc1))⟩
              · have e1 : decide ((j : Int) = (i : Int)) = false := by simp; omega
                have e2 : ((j : Int) == (i : Int)) = false := by simp; omega
                by_cases p1 : yop = 10
                · subst p1
                  by_cases p2 : yak = 2
                  · subst p2
                    by_cases p3 : yav = cav
                    · subst p3
                      by_cases p4 : yen < cen
                      · have f4 : decide (yen < cen) = true := by simpa using p4
                        have f5 : (yav != yav) = false := by simp
                        clear p4
                        go_wp2
                        go_roundg (m - (j + 1))
                        case measure => omega
                        case rel => exact ⟨j + 1, by omega, by omega, by go_num, RowKit.Below.more (by repeat (first | exact Below.refl _ _ | apply Below.drew | apply Below.more1 | apply Below.alloc1))⟩
                      · clear e1 e2
                        have HGV := Lib.hid (givB_yes (HT.out i j _ _ HCI.out HCJ.out ⟨rfl, rfl⟩ ⟨rfl, rfl⟩ (fun e => hji (by rw [e])) (by simp only) (by simp only; omega)))
                        rw [← HM.out] at HGV
                        have e1 : decide ((j : Int) = (i : Int)) = false := by simp; omega
                        have e2 : ((j : Int) == (i : Int)) = false := by simp; omega
                        have e3 : (yav != yav) = false := by simp
                        have e4 : decide (yen < cen) = false := decide_eq_false (by omega)
                        go_upto_region 18 with (fail)
                        refine gen_world ?_
                        intro W3 hW3
                        have HW3 : Hid (Only (fun _ => False) W2 W3) := Lib.hid (by rw [hW3]; exact (Below.only0 (by repeat (first | exact Below.refl _ _ | apply Below.drew | apply Below.more1 | apply Below.alloc1 | (refine Below.setCell ?_ (by first | exact Nat.le_refl _ | (simp; done) | (simp; omega)) _)))))
                        have hyb : W3.heap[(W2.heap.size + os2.size)]? = some (.cells #[.int .i64 yth, .int .i64 10, .int .i64 yarg, .int .i64 ydata, .int .i64 ybeg, .int .i64 yen, .int .i64 ypt, .int .i64 2, .int .i64 yav] 50 (0, 0)) := by rw [hW3]; exact heap_alloc_at (World.size_more _ _ _)
                        have yl := (Array.getElem?_eq_some_iff.1 hyb).1
                        have z5 : W3.cell? ⟨(W2.heap.size + os2.size), 5, none⟩ = some (.int .i64 yen) := by simp only [World.cell?, hyb]; rfl
                        have y0' := (HW3.out.cellAt (p := ⟨xb, 0, none⟩) xl (fun x => x)).trans y0
                        have y5' := (HW3.out.cellAt (p := ⟨xb, 5, none⟩) xl (fun x => x)).trans y5
                        have y8' := (HW3.out.cellAt (p := ⟨xb, 8, none⟩) xl (fun x => x)).trans y8
                        have r0'' : W3.cell? ⟨rb, 0, none⟩ = some (.slice (some ⟨t, 0, none⟩) m ca) := (HW3.out.cellAt (p := ⟨rb, 0, none⟩) rl' (fun x => x)).trans r0'
                        have rl'' := Nat.lt_of_lt_of_le rl' HW3.out.size
                        have xl' := Nat.lt_of_lt_of_le xl HW3.out.size
                        have HB3 := Lib.hid (HB2.out.of_block (fun k hk => HW3.out.block k (HB2.out.lt k hk).2 (fun x => x)))
                        clear hyb hW3 x0 x1 x2 x3 x4 x5 x6 x7 x8 e1 e2 e3 e4
                        generalize (W2.heap.size + os2.size) = yb at *
                        clear os2 d2
                        have HGA : Hid (givA cs ⟨cth, 10, carg, cdata, cbeg, cen, cpt, 2, yav⟩ ⟨yth, 10, yarg, ydata, ybeg, yen, ypt, 2, yav⟩ i m = true) := HGV
                        go_wp2
                        go_loopg [11, 12] m (fun gh s11 s12 wr => ∃ g : Nat, i + 1 ≤ g ∧ g ≤ m ∧ m ≤ g + gh ∧ s11 = .bool (givA cs ⟨cth, 10, carg, cdata, cbeg, cen, cpt, 2, yav⟩ ⟨yth, 10, yarg, ydata, ybeg, yen, ypt, 2, yav⟩ i g) ∧ s12 = .int .i64 (g : Int) ∧ ∃ os d, wr = W3.more os d)
                        case atStart => exact ⟨i + 1, by omega, by omega, by omega, by rw [givA_zero], by go_num, #[], W3.drawn, by simp [World.more]⟩
                        case round =>
                          obtain ⟨g, hg0, hg1, hg2, rfl, rfl, os3, d3, rfl⟩ := hrel
                          by_cases hil : g < m
                          · skip
                            obtain ⟨t'', e, _, tl'', x0, x1, x2, x3, x4, x5, x6, x7, x8⟩ := cal_at HB3.out (i := g) (by rw [← HM.out]; exact hil)
                            cases e
                            have hcz := List.getElem?_eq_getElem (show g < cs.length by rw [← HM.out]; exact hil)
                            have HGN := Lib.hid (givA_next (c := ⟨cth, 10, carg, cdata, cbeg, cen, cpt, 2, yav⟩) (y := ⟨yth, 10, yarg, ydata, ybeg, yen, ypt, 2, yav⟩) hg0 hcz)
                            clear hcz
                            generalize hgc : cs[g]'(by rw [← HM.out]; exact hil) = z at *
                            clear hgc
                            obtain ⟨zth, zop, zarg, zdata, zbeg, zen, zpt, zak, zav⟩ := z
                            simp only at x0 x1 x2 x3 x4 x5 x6 x7 x8
                            unfold givC at HGN
                            simp only at HGN
                            obtain ⟨b, hb⟩ : ∃ b, b = givA cs ⟨cth, 10, carg, cdata, cbeg, cen, cpt, 2, yav⟩ ⟨yth, 10, yarg, ydata, ybeg, yen, ypt, 2, yav⟩ i g := ⟨_, rfl⟩
                            rw [← hb] at HGN ⊢
                            clear hb
                            cases b with
                            | true =>
                              rw [Bool.true_or] at HGN
                              go_wp2
                              go_roundg (m - (g + 1))
                              case measure => omega
                              case rel => exact ⟨g + 1, by omega, by omega, by omega, (by first | (rw [HGN.out]; done) | (rw [HGN.out]; rfl)), by go_num, RowKit.Below.more (by repeat (first | exact Below.refl _ _ | apply Below.drew | apply Below.more1 | apply Below.alloc1))⟩
                            | false =>
                              rw [Bool.false_or] at HGN
                              by_cases q1 : zop = 11
                              · subst q1
                                by_cases q2 : zarg = yav
                                · subst q2
                                  by_cases q3 : zth = cth
                                  · subst q3
                                    have v1 : ((11 : Int) == 11) = true := rfl
                                    have v2 : (zarg == zarg) = true := by simp
                                    have v3 : (zth == zth) = true := by simp
                                    by_cases q4 : cen < zbeg
                                    · have v4 : decide (cen < zbeg) = true := by simpa using q4
                                      by_cases q5 : zbeg < yen
                                      · have v5 : decide (zbeg < yen) = true := by simpa using q5
                                        rw [v1, v2, v3, v4, v5] at HGN
                                        clear q4 q5
                                        go_wp2
                                        go_roundg (m - (g + 1))
                                        case measure => omega
                                        case rel => exact ⟨g + 1, by omega, by omega, by omega, (by first | (rw [HGN.out]; done) | (rw [HGN.out]; rfl)), by go_num, RowKit.Below.more (by repeat (first | exact Below.refl _ _ | apply Below.drew | apply Below.more1 | apply Below.alloc1))⟩
                                      · have v5 : decide (zbeg < yen) = false := by simpa using q5
                                        rw [v1, v2, v3, v4, v5] at HGN
                                        clear q4 q5
                                        go_wp2
                                        go_roundg (m - (g + 1))
                                        case measure => omega
                                        case rel => exact ⟨g + 1, by omega, by omega, by omega, (by first | (rw [HGN.out]; done) | (rw [HGN.out]; rfl)), by go_num, RowKit.Below.more (by repeat (first | exact Below.refl _ _ | apply Below.drew | apply Below.more1 | apply Below.alloc1))⟩
                                    · have v4 : decide (cen < zbeg) = false := by simpa using q4
                                      rw [v1, v2, v3, v4] at HGN
                                      clear q4
                                      go_wp2
                                      go_roundg (m - (g + 1))
                                      case measure => omega
                                      case rel => exact ⟨g + 1, by omega, by omega, by omega, (by first | (rw [HGN.out]; done) | (rw [HGN.out]; rfl)), by go_num, RowKit.Below.more (by repeat (first | exact Below.refl _ _ | apply Below.drew | apply Below.more1 | apply Below.alloc1))⟩
                                  · have v3 : (zth == cth) = false := by simpa using q3
                                    have v3' : decide (zth = cth) = false := by simpa using q3
                                    have v2 : (zarg == zarg) = true := by simp
                                    rw [v3] at HGN
                                    simp only [Bool.false_and, Bool.and_false] at HGN
                                    clear q3
                                    go_wp2
                                    go_roundg (m - (g + 1))
                                    case measure => omega
                                    case rel => exact ⟨g + 1, by omega, by omega, by omega, (by first | (rw [HGN.out]; done) | (rw [HGN.out]; rfl)), by go_num, RowKit.Below.more (by repeat (first | exact Below.refl _ _ | apply Below.drew | apply Below.more1 | apply Below.alloc1))⟩
                                · have v2 : (zarg == yav) = false := by simpa using q2
                                  have v2' : decide (zarg = yav) = false := by simpa using q2
                                  rw [v2] at HGN
                                  simp only [Bool.false_and, Bool.and_false] at HGN
                                  clear q2
                                  go_wp2
                                  go_roundg (m - (g + 1))
                                  case measure => omega
                                  case rel => exact ⟨g + 1, by omega, by omega, by omega, (by first | (rw [HGN.out]; done) | (rw [HGN.out]; rfl)), by go_num, RowKit.Below.more (by repeat (first | exact Below.refl _ _ | apply Below.drew | apply Below.more1 | apply Below.alloc1))⟩
                              · have v1 : (zop == 11) = false := by simpa using q1
                                have v1' : decide (zop = 11) = false := by simpa using q1
                                rw [v1] at HGN
                                simp only [Bool.false_and] at HGN
                                clear q1
                                go_wp2
                                go_roundg (m - (g + 1))
                                case measure => omega
                                case rel => exact ⟨g + 1, by omega, by omega, by omega, (by first | (rw [HGN.out]; done) | (rw [HGN.out]; rfl)), by go_num, RowKit.Below.more (by repeat (first | exact Below.refl _ _ | apply Below.drew | apply Below.more1 | apply Below.alloc1))⟩
                          · obtain rfl : g = m := by omega
                            rw [HGA.out]
                            go_wp2
                            go_roundg (g - (j + 1))
                            case measure => omega
                            case rel => exact ⟨j + 1, by omega, by omega, by go_num, moreT HW3.out (by repeat (first | exact Below.refl _ _ | apply Below.drew | apply Below.more1 | apply Below.alloc1))⟩
                    · have f3 : (yav != cav) = true := by simpa using p3
                      have f3b : decide (yav = cav) = false := by simpa using p3
                      clear p3
                      go_wp2
                      go_roundg (m - (j + 1))
                      case measure => omega
                      case rel => exact ⟨j + 1, by omega, by omega, by go_num, RowKit.Below.more (by repeat (first | exact Below.refl _ _ | apply Below.drew | apply Below.more1 | apply Below.alloc1))⟩
                  · have f3 : (yak != 2) = true := by simpa using p2
                    have f3b : decide (yak = 2) = false := by simpa using p2
                    clear p2
                    go_wp2
                    go_roundg (m - (j + 1))
                    case measure => omega
                    case rel => exact ⟨j + 1, by omega, by omega, by go_num, RowKit.Below.more (by repeat (first | exact Below.refl _ _ | apply Below.drew | apply Below.more1 | apply Below.alloc1))⟩
                · have f3 : (yop != 10) = true := by simpa using p1
                  have f3b : decide (yop = 10) = false := by simpa using p1
                  clear p1
                  go_wp2
                  go_roundg (m - (j + 1))
                  case measure => omega
                  case rel => exact ⟨j + 1, by omega, by omega, by go_num, RowKit.Below.more (by repeat (first | exact Below.refl _ _ | apply Below.drew | apply Below.more1 | apply Below.alloc1))⟩
            · obtain rfl : j = m := by omega
              go_wp2
              go_roundg (j - (i + 1))
              case measure => omega
              case rel => exact ⟨i + 1, by omega, by omega, by go_num, moreT HW2.out (by repeat (first | exact Below.refl _ _ | apply Below.drew | apply Below.more1 | apply Below.alloc1))⟩
        · have d3 : (cak != 2) = true := by simpa using hak
          have d4 : decide (cak = 2) = false := by simpa using hak
          subst hop
          clear hak
          go_wp2
          go_roundg (m - (i + 1))
          case measure => omega
          case rel => exact ⟨i + 1, by omega, by omega, by go_num, RowKit.Below.more (by repeat (first | exact Below.refl _ _ | apply Below.drew | apply Below.more1 | apply Below.alloc1))⟩
      · have d3 : (cop != 10) = true := by simpa using hop
        have d4 : decide (cop = 10) = false := by simpa using hop
        clear hop
        go_wp2
        go_roundg (m - (i + 1))
        case measure => omega
        case rel => exact ⟨i + 1, by omega, by omega, by go_num, RowKit.Below.more (by repeat (first | exact Below.refl _ _ | apply Below.drew | apply Below.more1 | apply Below.alloc1))⟩
    · obtain rfl : i = m := by omega
      go_wp2
      go_ret
      exact ⟨rfl, (HOW.out.trans (Below.only0 (by repeat (first | exact Below.refl _ _ | apply Below.drew | apply Below.more1 | apply Below.alloc1 | (refine Below.setCell ?_ (by first | exact Nat.le_refl _ | (simp; done) | (simp; omega)) _)))) (fun _ x => x.elim)).belowF⟩
theorem once_walk (a0 a1 a2 a3 a4 a5 a6 : Int) {w : World} {ms : List Mv} {om : Option Addr} {cm : Nat} (hm : MvsIn w (.slice om ms.length cm) ms) (_hcm : ms.length ≤ cm ∧ cm ≤ maxLen ∧ (om = none → cm = 0)) :
    Calls Try.prog 4 #[.agg #[.int .i64 a0, .int .i64 a1, .int .i64 a2, .int .i64 a3, .int .i64 a4, .int .i64 a5, .int .i64 a6], .slice om ms.length cm] w fun e w' => e = .returned (.bool true) ∧ Below w.heap.size w w' := by
  cases hok : okCfg a0 a1 a2 a3 a4 a5 a6 with
  | false => exact once_out _ _ _ _ _ _ _ (.inl hok)
  | true =>
    by_cases hl : 65536 < ms.length
    · exact once_out _ _ _ _ _ _ _ (.inr ⟨hok, hl⟩)
    · exact once_in _ _ _ _ _ _ _ hok (by omega) hm
end Go.Proofs.Ytjcggokhminmoaa
