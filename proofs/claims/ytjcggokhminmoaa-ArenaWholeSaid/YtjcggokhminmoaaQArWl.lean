/-
reclaimlaw04: whole: it answers true as long as what always holds holds.
-/
import Derived.Test.YtjcggokhminmoaaQArWp
import Derived.Test.YtjcggokhminmoaaQArLw
import Derived.Test.YtjcggokhminmoaaQMixF
namespace Go.Proofs.Ytjcggokhminmoaa
open Go.ChangeShapes Go.WideShapes Go.ChangeAt Go.RowKit Go.Shelf

/-- a row of numbers -/
def RowW (w0 : World) (g N : Nat) (S : List Int) (wr : World) : Prop := wr.RowV w0.heap.size 3 1 (.slice (some ⟨g, 0, none⟩) N N) N (intsC (ind N S))
set_option maxRecDepth 100000 in
set_option maxHeartbeats 8000000 in
theorem whole_any {W0 w0 w : World} (a0 a1 a2 a3 a4 a5 a6 : Int) {tb ab xb : Nat} {kit : Value} {p : PM (arK ab)} (hok : okCfg a0 a1 a2 a3 a4 a5 a6 = true) (hL : LwI W0 a0 a1 a2 a3 a4 a5 a6 tb ab xb kit w0 p w) (hG : p.Good) (hA : PA p) (hc : p.s.c0 = a0 ∧ p.s.c1 = a1 ∧ p.s.c2 = a2 ∧ p.s.c4 = a4 ∧ p.s.c5 = a5 ∧ p.s.c6 = a6) (hsm : p.s.size ≤ 8192) :
    Calls Try.prog 20 #[.pointer (some ⟨tb, 0, none⟩)] w fun e w' => e = .returned (.bool true) ∧ Only (fun _ => False) w w' := by
  obtain ⟨hc0, hc1, hc2, hc4, hc5, hc6⟩ := hc
  obtain ⟨T, rfl⟩ : ∃ T : Nat, a0 = (T : Int) := ⟨a0.toNat, by have := (ok_bounds hok).1; omega⟩
  obtain ⟨N, rfl⟩ : ∃ N : Nat, a5 = (N : Int) := ⟨a5.toNat, by have := (ok_bounds hok).2.2.2.2.2.1; omega⟩
  have hT16 : 0 < T ∧ T ≤ 16 := by have := (ok_bounds hok).1; omega
  have hN10 : 0 < N ∧ N ≤ 1024 := by have := (ok_bounds hok).2.2.2.2.2.1; omega
  have hI := hA.inv
  obtain ⟨n1, n2, n3, n4, n5, n6, n7, n8, n9, n10, n11⟩ := ok_small hI.ok
  have hN : p.s.n = N := by have := hI.ok.slots; unfold ArS.n; omega
  have hTl : p.s.caches.length = T := by have := hI.ok.caches; omega
  obtain ⟨L, hCh, hNd, hFr⟩ := hI.free
  have hLn : ∀ k ∈ L, k < p.s.n := by
    have key : ∀ (L : List Nat) (x : Int), Chain p.s p.words x L → ∀ k ∈ L, k < p.s.n := by
      intro L
      induction L with
      | nil => exact fun _ _ k hk => by cases hk
      | cons k L ih =>
        intro x h j hj
        obtain ⟨h1, h2, h3⟩ := chain_step h
        rcases List.mem_cons.1 hj with rfl | hj
        · exact h2
        · exact ih _ h3 j hj
    exact key L _ hCh
  have hLl := nodup_le p.s.n L hNd hLn
  have HR := Lib.hid (tab_run hL.tab hG (by rw [hI.wl]; omega))
  have HSP := Lib.hid (fun (w1 : World) (g cap : Nat) (h1 : w1.Src 1 (.slice (some ⟨g, 0, none⟩) p.words.length cap) p.words.length (u64s p.words)) (h2 : g < w1.heap.size) (h3 : p.words.length ≤ cap ∧ cap ≤ maxLen) =>
    spares_any (w := w1) (T : Int) a1 a2 a3 a4 (N : Int) a6 hok (s := p.s) (W := p.words) hc5 hI.ok.slots (by rw [n8, hc1, hc2, hc5, hc6]) (by rw [n9, hc1, hc2, hc5, hc6]) hI.wl n6 hsm h1 h2 h3 hI.head.1 (fun k hk => (hI.spare k hk).1) hCh hNd hLn)
  have hwl : 0 < p.words.length := by rw [hI.wl]; omega
  obtain ⟨i0, ii, iz0, iz1, iz2⟩ := info_parts infoIntG
  have HII := Lib.hid ii
  have HZ0 := Lib.hid iz0
  have HZ1 := Lib.hid iz1
  have HZ2 := Lib.hid iz2
  have HI := Lib.hid hI
  have HPA := Lib.hid hA
  have HFR := Lib.hid hFr
  have HND := Lib.hid hNd
  have HLN := Lib.hid hLn
  have HL := Lib.hid hL
  have HN := Lib.hid hN
  have HTL := Lib.hid hTl
  have HC4 := Lib.hid hc4
  obtain ⟨k0, k1, k2, k3, k4, k5, k6, k7, k8, kl⟩ := boxT hL.blk
  have hll : L.length ≤ N := by omega
  clear hI hA hG hL hFr hNd hLn hCh hN hTl hc0 hc1 hc2 hc4 hc5 hc6 n1 n2 n3 n4 n5 n6 n7 n8 n9 n10 n11 hLl ii iz0 iz1 iz2 hok hsm
  go_enter Try.func20, Try.ntmps20
  go_upto_region 2 with (go_at_call 30; refine HR.out.mono ?_; rintro e w1 ⟨x, he, hra, hro⟩; obtain ⟨xa, xt, xb', xc⟩ := x; obtain ⟨oa, ca, e1, _, _⟩ := hra.wa.form; obtain ⟨ot, ct, e2, _, _⟩ := hra.wt.form; obtain ⟨ob, cb, e3, _, _⟩ := hra.wb.form; obtain ⟨g4, cc, e4, w1', w2', w3', w4', w5', w6'⟩ := hra.wc.some_form hwl; clear w2' w4' w5' w6'; have hcc := hra.wc.form; simp only at e1 e2 e3 e4; subst e1; subst e2; subst e3; subst e4; (unfold RunVs.v at he); subst he; have HRA := Lib.hid hra; have HRO := Lib.hid hro; clear hra hro)
  refine gen_world ?_
  intro W1 hW1
  have hrb : W1.heap[w1.heap.size]? = some (.cells #[.slice oa p.run.calls.length ca, .slice ot p.run.trace.length ct, .slice ob p.run.shifts.length cb, .slice (some ⟨g4, 0, none⟩) p.words.length cc] 42 (0, 0)) := by rw [hW1]; exact heap_alloc_new _ _
  have oW : Only (fun _ => False) w1 W1 := by rw [hW1]; exact (Only.refl _ _).alloc _
  have HO1 := Lib.hid (HRO.out.trans oW (fun _ x => x.elim))
  have HWC := Lib.hid (HRA.out.wc.of_block (fun k hk => oW.block k (HRA.out.wc.lt k hk).2 (fun x => x)))
  have hgl := Nat.lt_of_lt_of_le w3' oW.size
  have r3 : W1.cell? ⟨w1.heap.size, 3, none⟩ = some (.slice (some ⟨g4, 0, none⟩) p.words.length cc) := by simp [World.cell?, hrb]
  have rl := (Array.getElem?_eq_some_iff.1 hrb).1
  have HCC : Hid (p.words.length ≤ cc ∧ cc ≤ maxLen) := Lib.hid ⟨w1', by obtain ⟨_, _, e, _, h⟩ := hcc; cases e; exact h⟩
  clear hW1 oW hrb HRA HRO k0 k1 k2 k3 k4 k5 k6 k7 k8 kl hcc w1' w3' HR
  generalize w1.heap.size = rb at *
  clear w1
  obtain ⟨k0, k1, k2, k3, k4, k5, k6, k7, k8, kl⟩ := boxT (HO1.out.blockF HL.out.blk (fun x => x))
  have q0 := fun q : LaterF (fun _ => False) W1 => q.cell k0 kl (fun x => x)
  have q1 := fun q : LaterF (fun _ => False) W1 => q.cell k1 kl (fun x => x)
  have q2 := fun q : LaterF (fun _ => False) W1 => q.cell k2 kl (fun x => x)
  have q3 := fun q : LaterF (fun _ => False) W1 => q.cell k3 kl (fun x => x)
  have q4 := fun q : LaterF (fun _ => False) W1 => q.cell k4 kl (fun x => x)
  have q5 := fun q : LaterF (fun _ => False) W1 => q.cell k5 kl (fun x => x)
  have q6 := fun q : LaterF (fun _ => False) W1 => q.cell k6 kl (fun x => x)
  have q9 := fun q : LaterF (fun _ => False) W1 => q.cell r3 rl (fun x => x)
  clear k0 k1 k2 k3 k4 k5 k6 k7 k8 kl r3 rl
  refine wp_region_plan (fun wz => ∃ q : LaterF (fun _ => False) W1, wz = q.W) [6] [0, 1, 2, 3, 4, 5] (.fork 6 [7, 8, 9, 10] (.tail 11) .none) oper0 (by kernel_rfl) (by kernel_rfl) (laterF_in (Only.refl _ _).drew) ?_
  simp only [wpPlan, List.map_cons, List.map_nil, List.getD_cons_zero, List.getD_cons_succ, List.drop_succ_cons, List.drop_zero]
  repeat (first | go_big_quiet_skip | (go_big_quiet_want; go_big_quiet_op; go_big_quiet_on))
  refine wpQuiet_nil ?_
  refine ⟨?_, trivial⟩
  go_wp2_with (go_at_call 41; refine (HSP.out W1.drew g4 cc HWC.out.src.drew hgl HCC.out).mono ?_; rintro e w2 ⟨v, rfl, hv, ho2⟩; obtain ⟨ol, cl, rfl, hcl1, hcl2⟩ := hv.form; have HV := Lib.hid hv; have HO2 := Lib.hid ((Only.refl (fun _ => False) W1).drew.trans ho2 (fun _ x => x.elim)); clear hv ho2)
  refine strict_on ?_
  refine ⟨?_, ?_⟩
  · exact laterF_in HO2.out
  repeat (first | go_big_quiet_skip | (go_big_quiet_want; go_big_quiet_op; go_big_quiet_on))
  refine wpQuiet_nil ?_
  try with_reducible refine ⟨?_, trivial⟩
  have HOw2 := Lib.hid (HO1.out.trans HO2.out (fun _ x => x.elim))
  obtain ⟨k0, k1, k2, k3, k4, k5, k6, k7, k8, kl⟩ := boxT (HOw2.out.blockF HL.out.blk (fun x => x))
  have hb0 := tab_lt HL.out.tab
  have hsz2 := HOw2.out.size
  clear q0 q1 q2 q3 q4 q5 q6 q9 k1 k2 k3 k4 k6 k7 k8 HWC HSP HCC hgl
  unfold maxLen at hcl2
  go_upto_region 6 with (at_make; refine wpList_make_full _ rfl _ _ 53 rfl w0.heap.size 3 i0 (.int .i64 0) 1 Try.underlying53 HII.out HZ0.out HZ1.out _ _ _ _ N rfl rfl rfl rfl (by rw [HZ2.out]; omega) (by unfold maxLen; omega) (by omega) ?_; intro w3 hown hg; have HN3 := Lib.hid (World.RowV.fromOwns hown hN10.1); have HG3 := Lib.hid hg; clear hown hg)
  have o23 : Only (fun _ => False) w2 w3 := ⟨HG3.out.os, HG3.out.tape, HG3.out.output, HG3.out.size, fun k hk _ => HG3.out.block k hk (fun e => by cases e)⟩
  rw [show (madeCells (Value.int .i64 0).cells (N * 1)).toList = intsC (ind N []) by rw [ind_zero]; unfold madeCells; apply List.ext_getElem <;> simp [Value.cells, Nat.mod_one]] at HN3
  have HV3 := Lib.hid (HV.out.of_block (fun k hk => o23.block k (HV.out.lt k hk).2 (fun x => x)))
  have HVL := Lib.hid (fun k hk => (HV.out.lt k hk).2)
  have HOw3 := Lib.hid (HOw2.out.trans o23 (fun _ x => x.elim))
  have hgm := hsz2
  have hgml := (HN3.out.lt w2.heap.size (by simp only [Value.rowBlock]; rw [if_neg (by omega)])).2
  have HI3 : Hid (RowW w0 w2.heap.size N (natsI (L.take 0)) w3 ∧ Only (fun j => j = w2.heap.size) w3 w3) := Lib.hid ⟨HN3.out, Only.refl _ _⟩
  clear HN3 HG3 o23 HV k0 k5 kl HOw2 hsz2
  generalize w2.heap.size = gm at *
  go_wp2
  go_loopg [7] L.length (fun gh s7 wr => ∃ i : Nat, i ≤ L.length ∧ L.length ≤ i + gh ∧ s7 = .int .i64 (i : Int) ∧ Hid (RowW w0 gm N (natsI (L.take i)) wr ∧ Only (fun j => j = gm) w3 wr))
  case atStart => exact ⟨0, by omega, by omega, by go_num, HI3⟩
  case round =>
    clear HI3
    obtain ⟨i, hi1, hi2, rfl, hI⟩ := hrel
    by_cases hlt : i < L.length
    · have hv := HV3.out.of_block (w' := wr) (fun k hk => hI.out.2.block k (HV3.out.lt k hk).2 (by have := HVL.out k hk; omega))
      obtain ⟨gl, cap, e, t1, t2, t3, t4, t5, t6⟩ := hv.some_form (by omega)
      cases e
      obtain ⟨k, hk⟩ : ∃ k, k = L[i] := ⟨_, rfl⟩
      have hkN : k < N := by have := HLN.out L[i] (List.getElem_mem hlt); have := HN.out; omega
      have m0 := t6 i (.int .i64 (k : Int)) (by simp [intsC, natsI, hk, hlt])
      have hnew : ((k : Int) ∈ natsI (L.take i)) = False := by
        refine eq_false (fun h => ?_)
        obtain ⟨j, hj, e⟩ := List.getElem_of_mem (natsI_mem.1 h)
        rw [List.getElem_take] at e
        have hji : j < i := by simp at hj; omega
        exact absurd (e.trans hk) (List.pairwise_iff_getElem.1 HND.out j i (by omega) hlt hji)
      obtain ⟨gm', cg, e, u1, u2, u3, u4, u5, u6⟩ := hI.out.1.some_form hN10.1
      cases e
      have ui := u6 k _ (ind_cell N (natsI (L.take i)) k hkN)
      simp only [hnew, if_false] at ui
      have HNX : Hid (natsI (L.take (i + 1)) = natsI (L.take i) ++ [(k : Int)]) := Lib.hid (by rw [hk]; exact natsI_next hlt)
      have HRP := Lib.hid (hI.out.1.put (g := gm) u4 k (by omega) (.int .i64 1))
      rw [ind_set] at HRP
      clear t6 u6 hv hnew hk
      go_wp2
      go_roundg (L.length - (i + 1))
      case measure => omega
      case rel => exact ⟨i + 1, by omega, by omega, by go_num, by rw [HNX.out]; exact Lib.hid ⟨HRP.out, Only.set (F := fun j => j = gm) hI.out.2 (p := ⟨gm, k, none⟩) (.inl rfl) _⟩⟩
    · obtain rfl : i = L.length := by omega
      have HM := Lib.hid hI.out.1
      rw [List.take_length] at HM
      have HOr := Lib.hid (show Only (fun _ => False) w wr from HOw3.out.trans hI.out.2 (fun j hj => .inr (by omega)))
      obtain ⟨k0, k1, k2, k3, k4, k5, k6, k7, k8, kl⟩ := boxT (HOr.out.blockF HL.out.blk (fun x => x))
      have hbr : w0.heap.size ≤ wr.heap.size := Nat.le_trans hb0 HOr.out.size
      have hgr : gm < wr.heap.size := Nat.lt_of_lt_of_le hgml hI.out.2.size
      clear k0 k1 k2 k3 k4 k6 k7 k8 hI HV3 HVL HOw3 hlt hi1 hi2 HLN HND
      go_upto_region 11 with (at_make; refine wpList_make_full _ rfl _ _ 53 rfl w0.heap.size 3 i0 (.int .i64 0) 1 Try.underlying53 HII.out HZ0.out HZ1.out _ _ _ _ N rfl rfl rfl rfl (by rw [HZ2.out]; omega) (by unfold maxLen; omega) (by omega) ?_; intro w4 hown hg; have HN4 := Lib.hid (World.RowV.fromOwns hown hN10.1); have HG4 := Lib.hid hg; clear hown hg)
      have o34 : Only (fun _ => False) wr w4 := ⟨HG4.out.os, HG4.out.tape, HG4.out.output, HG4.out.size, fun k hk _ => HG4.out.block k hk (fun e => by cases e)⟩
      rw [show (madeCells (Value.int .i64 0).cells (N * 1)).toList = intsC (ind N []) by rw [ind_zero]; unfold madeCells; apply List.ext_getElem <;> simp [Value.cells, Nat.mod_one]] at HN4
      have HM4 := Lib.hid (HM.out.of_block (fun k hk => o34.block k (HM.out.lt k hk).2 (fun x => x)))
      have hgc : w.heap.size ≤ wr.heap.size := HOr.out.size
      have hgcl := (HN4.out.lt wr.heap.size (by simp only [Value.rowBlock]; rw [if_neg (by omega)])).2
      have HO4 := Lib.hid (HOr.out.trans o34 (fun _ x => x.elim))
      rw [← cseen_zero p.s.caches] at HN4
      have HI4 : Hid (RowW w0 wr.heap.size N (cseen p.s.caches 0 0) w4 ∧ Only (fun j => j = wr.heap.size) w4 w4) := Lib.hid ⟨HN4.out, Only.refl _ _⟩
      clear HN4 HG4 o34 HM k5 kl HOr hbr HII HZ0 HZ1 HZ2
      generalize wr.heap.size = gc at *
      go_wp2
      go_loopg [9] T (fun gh s9 wr => ∃ t : Nat, t ≤ T ∧ T ≤ t + gh ∧ s9 = .int .i64 (t : Int) ∧ Hid (RowW w0 gc N (cseen p.s.caches t 0) wr ∧ Only (fun j => j = gc) w4 wr))
      case atStart => exact ⟨0, by omega, by omega, by go_num, HI4⟩
      case round =>
        clear HI4
        obtain ⟨t, ht1, ht2, rfl, hI⟩ := hrel
        have HOr := Lib.hid (show Only (fun _ => False) w wr from HO4.out.trans hI.out.2 (fun j hj => .inr (by omega)))
        obtain ⟨k0, k1, k2, k3, k4, k5, k6, k7, k8, kl⟩ := boxT (HOr.out.blockF HL.out.blk (fun x => x))
        clear k1 k2 k3 k6 k8
        by_cases hlt : t < T
        · have htc : t < p.s.caches.length := by rw [HTL.out]; exact hlt
          obtain ⟨c, hc⟩ : ∃ c, p.s.caches[t]? = some c := ⟨_, List.getElem?_eq_getElem htc⟩
          have hce := (cache_eq hc).1
          obtain ⟨hcn, hcl, hcm⟩ := HI.out.cache t c hc
          rw [HC4.out] at hcl
          have HCA := Lib.hid (lw_cached (HL.out.only HOr.out) HPA.out t)
          rw [hce] at HCA
          have HNW := Lib.hid (fun i (hi : i < c.length) => cseen_new HI.out hc hi)
          have HNX := Lib.hid (fun i (hi : i < c.length) => cseen_next hc hi)
          have HTN := Lib.hid (cseen_turn hc)
          have hd : decide (a4 < (c.length : Int)) = false := by simp; omega
          have hc64 : c.length ≤ 1024 := by
            have h4 := (ok_small HI.out.ok).2.2.2.2.2.2.2.2.2.2
            rw [HC4.out] at h4
            omega
          have hgr2 : gc < wr.heap.size := Nat.lt_of_lt_of_le hgcl hI.out.2.size
          clear hc hce hcn hcl hcm htc
          go_upto_region 17 with (go_at_call 23; refine HCA.out.mono ?_; rintro e w5 ⟨o1, c1, rfl, y1, y2, y3, y4⟩; have HR5 := Lib.hid y3; have HO5 := Lib.hid y4; obtain ⟨z0, z1, z2, z3, z4, z5, z6, z7, z8, zl⟩ := boxT ((HOr.out.trans y4 (fun _ x => x.elim)).blockF HL.out.blk (fun x => x)); clear y3 y4 z0 z1 z2 z3 z5 z6 z7 z8)
          clear z4 zl k0 k4 k5 k7 kl HCA hd
          have HJ0 : Hid (RowW w0 gc N (cseen p.s.caches t 0) w5 ∧ Only (fun j => j = gc) w5 w5) := Lib.hid ⟨hI.out.1.of_block (fun k hk => HO5.out.block k (hI.out.1.lt k hk).2 (fun x => x)), Only.refl _ _⟩
          have HO45 := Lib.hid (hI.out.2.trans HO5.out (fun _ x => x.elim))
          have HCL := Lib.hid (fun k hk => (HR5.out.lt k hk).1)
          clear hI HOr HO5
          go_wp2
          go_loopg [11] c.length (fun gh s11 wr => ∃ i : Nat, i ≤ c.length ∧ c.length ≤ i + gh ∧ s11 = .int .i64 (i : Int) ∧ Hid (RowW w0 gc N (cseen p.s.caches t i) wr ∧ Only (fun j => j = gc) w5 wr))
          case atStart => exact ⟨0, by omega, by omega, by go_num, HJ0⟩
          case round =>
            clear HJ0
            obtain ⟨i, hi1, hi2, rfl, hJ⟩ := hrel
            have HO5r := Lib.hid (show Only (fun j => j = gc) w4 wr from HO45.out.trans hJ.out.2 (fun _ h => .inl h))
            by_cases hlt2 : i < c.length
            · have HOr := Lib.hid (show Only (fun _ => False) w wr from HO4.out.trans HO5r.out (fun j hj => .inr (by omega)))
              obtain ⟨k0, k1, k2, k3, k4, k5, k6, k7, k8, kl⟩ := boxT (HOr.out.blockF HL.out.blk (fun x => x))
              have hv := HR5.out.of_block (w' := wr) (fun k hk => hJ.out.2.block k (HR5.out.lt k hk).2 (by have := HCL.out k hk; omega))
              obtain ⟨gl, cap, e, t1, t2, t3, t4, t5, t6⟩ := hv.some_form (by omega)
              cases e
              obtain ⟨hnew, k, hk, hkn, hks⟩ := HNW.out i hlt2
              have hkN : k < N := by have := HN.out; omega
              have m0 := t6 i (.int .i64 (k : Int)) (by rw [← hk]; simp [intsC, hlt2])
              rw [hk] at hnew
              obtain ⟨gc', cg, e, u1, u2, u3, u4, u5, u6⟩ := hJ.out.1.some_form hN10.1
              cases e
              have ui := u6 k _ (ind_cell N (cseen p.s.caches t i) k hkN)
              rw [if_neg hnew] at ui
              have hnx := HNX.out i hlt2
              rw [hk] at hnx
              have HNXi := Lib.hid hnx
              have HRP := Lib.hid (hJ.out.1.put (g := gc) u4 k (by omega) (.int .i64 1))
              rw [ind_set] at HRP
              have hst : p.s.state (k : Int) = (1, (t : Int), 0) := by
                unfold ArS.state
                have hsl : p.s.slot (k : Int) = (1, (t : Int)) := by unfold ArS.slot; rw [Int.toNat_natCast]; exact getD_of hks
                rw [if_pos (by unfold ArS.has; unfold ArS.n at hkn; simp; omega), hsl]
              have HST := Lib.hid (fun w1 (h1 : Only (fun j => j = gc) wr w1) => lw_state (HL.out.only (HOr.out.trans h1 (fun j hj => .inr (by have := HOr.out.size; omega)))) (k : Int))
              rw [hst] at HST
              have dk1 : decide ((k : Int) < 0) = false := by simp
              have dk2 : decide ((N : Int) ≤ (k : Int)) = false := by simp; omega
              have dtt : ((t : Int) != (t : Int)) = false := by simp
              clear t6 u6 hv hnew hk hks hst hnx k0 k1 k2 k3 k4 k6 k8
              go_upto_region 20 with (fail)
              go_wp2
              refine wp_region_more_lit (by kernel_rfl) (by kernel_rfl) ?_
              repeat (first | go_big_quiet_skip | (go_big_quiet_want; go_big_quiet_op; first | go_big_quiet_on | (apply Exists.intro; refine ⟨fun _ => ?_, ?_⟩; (focus (fail)); go_big_quiet_on)))
              refine wpQuiet_nil ?_
              intro osq dq
              go_upto_region 23 with (fail)
              refine gen_world ?_
              intro W6 hW6
              have HR6 := Lib.hid (show RowW w0 gc N (cseen p.s.caches t i ++ [(k : Int)]) W6 by
                rw [hW6]
                first
                  | exact HRP.out.more _ _
                  | exact (by have := (hJ.out.1.more osq dq).put (g := gc) u4 k (by omega) (.int .i64 1); rw [ind_set] at this; exact this))
              have HO6 := Lib.hid (show Only (fun j => j = gc) wr W6 by
                rw [hW6]
                first
                  | exact (Only.set (F := fun j => j = gc) (Only.refl _ wr) (p := ⟨gc, k, none⟩) (.inl rfl) _).more _ _
                  | exact Only.set (F := fun j => j = gc) ((Only.refl _ wr).more _ _) (p := ⟨gc, k, none⟩) (.inl rfl) _)
              have hgl6 := Nat.lt_of_lt_of_le t3 HO6.out.size
              have m6 := (HO6.out.cellAt (p := ⟨gl, i, none⟩) t3 (by have := HCL.out gl t4; show ¬ gl = gc; omega)).trans m0
              have HS6 := Lib.hid (fun os d => HST.out _ (HO6.out.more os d))
              obtain ⟨z0, z1, z2, z3, z4, z5, z6, z7, z8, zl⟩ := boxT ((HOr.out.trans HO6.out (fun j hj => .inr (by have := HOr.out.size; omega))).blockF HL.out.blk (fun x => x))
              clear hW6 m0 k5 k7 kl z0 z1 z2 z3 z4 z5 z6 z8 ui t3 u5
              go_wp2
              refine wp_region_more_lit (by kernel_rfl) (by kernel_rfl) ?_
              repeat (first | go_big_quiet_skip | (go_big_quiet_want; go_big_quiet_op; first | go_big_quiet_on | (apply Exists.intro; refine ⟨fun _ => ?_, ?_⟩; (focus (go_at_call 28; exact Calls.more_of (HS6.out _ _))); go_big_quiet_on)))
              refine wpQuiet_nil ?_
              intro osq dq
              go_wp2
              go_roundg (c.length - (i + 1))
              case measure => omega
              case rel => exact ⟨i + 1, by omega, by omega, by go_num, by rw [HNXi.out]; exact Lib.hid ⟨HR6.out.more _ _, (hJ.out.2.trans HO6.out (fun _ h => .inl h)).more _ _⟩⟩
            · obtain rfl : i = c.length := by omega
              go_wp2
              go_roundg (T - (t + 1))
              case measure => omega
              case rel => exact ⟨t + 1, by omega, by omega, by go_num, by rw [← HTN.out]; exact Lib.hid ⟨hJ.out.1, HO5r.out⟩⟩
        · obtain rfl : t = T := by omega
          have HCR := Lib.hid hI.out.1
          rw [← HTL.out] at HCR
          have HMR := Lib.hid (HM4.out.of_block (w' := wr) (fun k hk => hI.out.2.block k (HM4.out.lt k hk).2 (by have : k = gm := (by simp only [Value.rowBlock] at hk; rw [if_neg (by omega)] at hk; exact (Option.some.inj hk).symm); omega)))
          have hcall := Lib.hid (fun (j : Nat) (hj : j < N) => cseen_all HI.out (k := j) (by have := HN.out; omega))
          go_upto_region 27 with (fail)
          clear hI HM4 HO4 k0 k4 k5 k7 kl hlt ht1 ht2
          refine gen_world ?_
          intro W7 hW7
          obtain rfl : W7 = wr := hW7
          go_loopg [15] N (fun gh s15 wr => ∃ j : Nat, j ≤ N ∧ N ≤ j + gh ∧ s15 = .int .i64 (j : Int) ∧ ∃ os d, wr = W7.more os d)
          case atStart => exact ⟨0, by omega, by omega, by go_num, #[], W7.drawn, by simp [World.more]⟩
          case round =>
            obtain ⟨j, hj1, hj2, rfl, os7, d7, rfl⟩ := hrel
            obtain ⟨k0, k1, k2, k3, k4, k5, k6, k7, k8, kl⟩ := boxT (HOr.out.blockF HL.out.blk (fun x => x))
            clear k0 k1 k2 k3 k4 k6 k8
            by_cases hlt : j < N
            · obtain ⟨gm', cg, e, u1, u2, u3, u4, u5, u6⟩ := HMR.out.some_form hN10.1
              cases e
              obtain ⟨gc', cg, e, v1, v2, v3, v4, v5, v6⟩ := HCR.out.some_form hN10.1
              cases e
              have um := u6 j _ (ind_cell N (natsI L) j hlt)
              have uc := v6 j _ (ind_cell N (cseen p.s.caches p.s.caches.length 0) j hlt)
              have hsj : p.s.state (j : Int) = (p.s.st j, (p.s.slot j).2, 0) := by
                have hn := HN.out
                unfold ArS.n at hn
                unfold ArS.state
                rw [if_pos (by unfold ArS.has; simp; omega)]
                unfold ArS.slot ArS.st
                rw [Int.toNat_natCast]
              have HST := Lib.hid (fun w1 (h1 : Only (fun _ => False) W7 w1) => lw_state (HL.out.only (HOr.out.trans h1 (fun _ x => x.elim))) (j : Int))
              rw [hsj] at HST
              have hf := HFR.out j (by have := HN.out; omega)
              have hcj := hcall.out j hlt
              generalize (p.s.slot j).2 = hd at *
              clear u6 v6 hsj
              by_cases s0 : p.s.st j = 0
              · have e1 : (j : Int) ∈ natsI L := natsI_mem.2 (hf.2 s0)
                have e2 : ¬ (j : Int) ∈ cseen p.s.caches p.s.caches.length 0 := fun h => by have := hcj.1 h; omega
                rw [if_pos e1] at um
                rw [if_neg e2] at uc
                rw [s0] at HST
                clear hf hcj e1 e2 s0
                go_wp2_with (first
                  | (go_at_call 28; refine (HST.out _ ((Only.refl _ W7).more _ _)).mono ?_; rintro e w1 ⟨rfl, hb1⟩; obtain ⟨os, d, rfl⟩ := hb1.more; clear hb1)
                  | (go_at_call 13; refine (num4_any _ _).mono ?_; rintro e wn ⟨rfl, rfl⟩))
                go_roundg (N - (j + 1))
                case measure => omega
                case rel => exact ⟨j + 1, by omega, by omega, by go_num, RowKit.Below.more (by repeat (first | exact Below.refl _ _ | apply Below.drew | apply Below.more1 | apply Below.alloc1))⟩
              · have e1 : ¬ (j : Int) ∈ natsI L := fun h => s0 (hf.1 (natsI_mem.1 h))
                rw [if_neg e1] at um
                by_cases s1 : p.s.st j = 1
                · have e2 := hcj.2 s1
                  rw [if_pos e2] at uc
                  rw [s1] at HST
                  clear hf hcj e1 e2 s0 s1
                  go_wp2_with (first
                    | (go_at_call 28; refine (HST.out _ ((Only.refl _ W7).more _ _)).mono ?_; rintro e w1 ⟨rfl, hb1⟩; obtain ⟨os, d, rfl⟩ := hb1.more; clear hb1)
                    | (go_at_call 13; refine (num4_any _ _).mono ?_; rintro e wn ⟨rfl, rfl⟩))
                  go_roundg (N - (j + 1))
                  case measure => omega
                  case rel => exact ⟨j + 1, by omega, by omega, by go_num, RowKit.Below.more (by repeat (first | exact Below.refl _ _ | apply Below.drew | apply Below.more1 | apply Below.alloc1))⟩
                · have e2 : ¬ (j : Int) ∈ cseen p.s.caches p.s.caches.length 0 := fun h => s1 (hcj.1 h)
                  rw [if_neg e2] at uc
                  have d0 : (p.s.st j == 0) = false := by simpa using s0
                  have d0b : decide (p.s.st j = 0) = false := by simpa using s0
                  have d1 : (p.s.st j == 1) = false := by simpa using s1
                  have d1b : decide (p.s.st j = 1) = false := by simpa using s1
                  clear hf hcj e1 e2 s0 s1
                  generalize p.s.st j = sj at *
                  go_wp2_with (first
                    | (go_at_call 28; refine (HST.out _ ((Only.refl _ W7).more _ _)).mono ?_; rintro e w1 ⟨rfl, hb1⟩; obtain ⟨os, d, rfl⟩ := hb1.more; clear hb1)
                    | (go_at_call 13; refine (num4_any _ _).mono ?_; rintro e wn ⟨rfl, rfl⟩))
                  go_roundg (N - (j + 1))
                  case measure => omega
                  case rel => exact ⟨j + 1, by omega, by omega, by go_num, RowKit.Below.more (by repeat (first | exact Below.refl _ _ | apply Below.drew | apply Below.more1 | apply Below.alloc1))⟩
            · obtain rfl : j = N := by omega
              go_wp2
              go_ret
              exact ⟨rfl, HOr.out.more _ _⟩
end Go.Proofs.Ytjcggokhminmoaa
