/-
MachineSteps returns true.
-/
import Derived.Test.YtbhbpfpggfcpgaaLawW
import Derived.Test.YtbhbpfpggfcpgaaStq
namespace Go.Proofs.Ytbhbpfpggfcpgaa
open Go.ChangeShapes Go.WideShapes Go.ChangeAt Go.RowKit Go.Shelf

theorem infoBool : (Try.prog.info? 4).map (fun i => (i.zero, i.size, i.bytes)) = some (some (.bool false), 1, 1) := by kernel_rfl
theorem _root_.Go.World.RowV.ofOwns {w : World} {base e size n : Nat} {v : Value} {xs : List Value} (h : w.ownsRow base e size v n xs) (hn : 0 < n) : w.RowV base e size v n xs := by
  refine ⟨h.1, ?_⟩
  rcases h.2 with ⟨_, h0⟩ | ⟨g, cap, cur, e1, hb, hg, h1, h2, h3, h4⟩
  · omega
  · exact .inr ⟨g, cap, cur, e1, hb, hg, h1, by omega, h2, by rw [h3]; exact Nat.le_refl _, h4⟩
def bools (l : List Bool) : List Value := l.map .bool
theorem made_bools (n : Nat) : (madeCells (Value.bool false).cells (n * 1)).toList = bools (List.replicate n false) := by
  unfold madeCells bools
  apply List.ext_getElem
  · simp
  · intro i h1 h2
    simp [Value.cells, Nat.mod_one]

set_option maxRecDepth 100000 in
set_option maxHeartbeats 4000000 in
theorem steps_walk {w : World} {v : Value} {th : Int} {l : List Int} {ms : List Mv} {ox : Option Addr} {cx : Nat} {om : Option Addr} {cm : Nat} (h : ScrIn w v th l ms ox cx om cm) : Calls Try.prog 7 #[v] w fun e w' => e = .returned (.bool true) ∧ Below w.heap.size w w' := by
  have HSI := Lib.hid h
  obtain ⟨rfl, hs0, hm0, hx0, hy0⟩ := h
  obtain ⟨l1, hl1⟩ : ∃ l1, l1 = l.take 8192 := ⟨_, rfl⟩
  obtain ⟨ms1, hms1⟩ : ∃ ms1, ms1 = ms.take 65536 := ⟨_, rfl⟩
  obtain ⟨o, ho⟩ : ∃ o, o = osOf l1 (fitN th) ms1 := ⟨_, rfl⟩
  have hml : ms1.length ≤ 65536 := by rw [hms1]; simp; omega
  have HINV : Hid (OS.Inv l1 (fitN th) ms1 o) := Lib.hid (by rw [ho]; exact inv_of _ _ _ hml)
  have HCL : Hid (o.calls.length ≤ 65536) := Lib.hid (by rw [ho]; exact calls_le _ _ _ hml)
  have HLL : Hid (o.log.length ≤ 65536) := Lib.hid (by rw [ho]; exact log_le _ _ _ hml)
  have HWL : Hid (o.words.length = l1.length) := Lib.hid HINV.out.wlen
  have hR : ownRun l1 (fitN th) ms1 = ⟨o.calls, o.log, [], o.words⟩ := by rw [ho]; exact own_os _ _ _
  have HPL : Hid (∀ S0 : Obj, Calls Try.prog 27 #[.agg #[.int .i64 th, .slice ox l.length cx, .slice om ms.length cm]] (w.alloc S0) (fun e w' => ∃ x : RunVs, e = .returned (.tuple #[.agg #[.int .i64 (fitN th : Int), .slice ox l1.length cx, .slice om ms1.length cm], x.v, .bool true]) ∧ RunAt w' (w.alloc S0).heap.size x ⟨o.calls, o.log, [], o.words⟩ ∧ Only (fun _ => False) (w.alloc S0) w')) := Lib.hid (fun S0 => by
    rw [← hR, hl1, hms1]
    exact played_ok ⟨rfl, hs0.alloc _, hm0.only ((Only.refl _ _).alloc _), hx0, hy0⟩)
  have hs1 : w.Src 1 (.slice ox l1.length cx) l1.length (u64s l1) := by
    have := hs0.take hx0.2.2 8192
    rw [show min l.length 8192 = (l.take 8192).length by simp; omega, ← hl1] at this
    exact this
  have hm1 : MvsIn w (.slice om ms1.length cm) ms1 := by
    have := hm0.take 65536
    rw [show min ms.length 65536 = (ms.take 65536).length by simp; omega, ← hms1] at this
    exact this
  have hll : l1.length ≤ 8192 := by rw [hl1]; simp; omega
  have HS1 := Lib.hid hs1
  have HM1 := Lib.hid hm1
  have HO := Lib.hid ho
  clear hs0 hm0 hx0 hy0 hl1 hms1 hs1 hm1 HSI hR ho
  go_enter Try.func7, Try.ntmps7
  go_upto_region 2 with (go_at_call 27; refine (HPL.out _).mono ?_; rintro e w1 ⟨⟨va, vt, vb, vc⟩, he, hra, ho⟩; obtain ⟨oa, ca, e1, a1, a2⟩ := hra.wa.form; obtain ⟨ot, ct, e2, t1, t2⟩ := hra.wt.form; obtain ⟨ob, cb, e3, _, _⟩ := hra.wb.form; obtain ⟨oc, cc, e4, c1, c2⟩ := hra.wc.form; simp only [List.length_nil] at e1 e2 e3 e4; rw [HWL.out] at e4; subst e1; subst e2; subst e3; subst e4; (unfold RunVs.v at he); subst he; have HRA := Lib.hid hra; clear hra; obtain ⟨os, d, rfl⟩ := (Only.below ho (fun _ h => h.elim) (Nat.le_refl _)).more; clear ho)
  refine gen_world ?_
  intro W hW
  have HL : Hid (LawW w W w.heap.size (w.heap.size + 1 + os.size) (fitN th) l1 ms1 ox cx om cm ⟨.slice oa o.calls.length ca, .slice ot o.log.length ct, .slice ob 0 cb, .slice oc l1.length cc⟩ ⟨o.calls, o.log, [], o.words⟩) := Lib.hid (by
    rw [hW]; exact LawW.of HRA.out HS1.out HM1.out)
  obtain ⟨Br, hBr⟩ : ∃ Br, Br = w.heap.size + 1 + os.size := ⟨_, rfl⟩
  obtain ⟨Bs, hBs⟩ : ∃ Bs, Bs = w.heap.size := ⟨_, rfl⟩
  rw [← hBr, ← hBs] at HL ⊢
  clear hW HRA hBr hBs HS1 HM1 HPL
  obtain ⟨s0, s1, s2, sl⟩ := HL.out.scells
  obtain ⟨r0, r1, r2, r3, rl⟩ := HL.out.rcells
  simp only at r0 r1 r2 r3
  obtain ⟨i0, ii, iz0, iz1, iz2⟩ := info_parts infoBool
  have HII := Lib.hid ii
  have HZ0 := Lib.hid iz0
  have HZ1 := Lib.hid iz1
  have HZ2 := Lib.hid iz2
  have HFN := Lib.hid (fitN_ok th)
  clear ii iz0 iz1 iz2
  obtain ⟨n, hn⟩ : ∃ n, n = fitN th := ⟨_, rfl⟩
  rw [← hn] at s0 HFN HINV HL HO ⊢
  have hn1 := HFN.out.1
  have hn2 := HFN.out.2
  have HNN := Lib.hid hn
  clear hn
  go_wp2_with (at_make; refine wpList_make_full _ rfl _ _ 68 rfl W.heap.size 4 i0 (.bool false) 1 Try.underlying68 HII.out HZ0.out HZ1.out _ _ _ _ n rfl rfl rfl rfl (by rw [HZ2.out]; omega) (by unfold maxLen; omega) (Nat.le_refl _) ?_; intro w5 hown hg; have HN5 := Lib.hid (World.RowV.ofOwns hown hn1); have HB5 : Hid (Below W.heap.size W w5) := Lib.hid ⟨hg.os, hg.tape, hg.output, hg.size, fun k hk => hg.block k hk (fun e => by cases e)⟩; clear hown hg; have b0 := (HB5.out.cell (p := ⟨Bs, 2, none⟩) sl).trans s2; have brl := Nat.lt_of_lt_of_le sl HB5.out.size)
  rw [made_bools] at HN5
  obtain ⟨o5, c5, hv5⟩ : ∃ o5 c5, (Value.slice (some ⟨W.heap.size, 0, none⟩) n n) = .slice o5 n c5 := ⟨_, _, rfl⟩
  rw [hv5] at HN5 ⊢
  clear hv5
  have HES := Lib.hid hml
  go_loopg [6, 7, 27] ms1.length (fun gh s6 s7 s27 wr => ∃ k : Nat, k ≤ ms1.length ∧ ms1.length ≤ k + gh ∧ s6 = .int .i64 ((osOf l1 n (ms1.take k)).calls.length : Int) ∧ s7 = .int .i64 ((osOf l1 n (ms1.take k)).log.length : Int) ∧ s27 = .int .i64 (k : Int) ∧
    Hid (Below W.heap.size W wr) ∧ Hid (wr.RowV W.heap.size 4 1 (.slice o5 n c5) n (bools (bz (osOf l1 n (ms1.take k))))))
  case atStart =>
    refine ⟨0, by omega, by omega, by go_num, by go_num, by go_num, HB5, Lib.hid ?_⟩
    have : bz (osOf l1 n (ms1.take 0)) = List.replicate n false := by simp [bz, osOf, OS.goes, OS.init]
    rw [this]
    exact HN5.out
  case round =>
    obtain ⟨k, hk1, hk2, rfl, rfl, rfl, hB, hN⟩ := hrel
    have lBs := Nat.lt_of_lt_of_le sl hB.out.size
    have lBr := Nat.lt_of_lt_of_le rl hB.out.size
    have hcl : ∀ (b p : Nat) (u : Value), b < W.heap.size → W.cell? ⟨b, p, none⟩ = some u → wr.cell? ⟨b, p, none⟩ = some u := fun b p u hb hc => (hB.out.cell (p := ⟨b, p, none⟩) hb).trans hc
    have d0 := hcl _ _ _ sl s0
    have d1 := hcl _ _ _ sl s1
    have d2 := hcl _ _ _ sl s2
    have e0 := hcl _ _ _ rl r0
    have e1 := hcl _ _ _ rl r1
    have e2 := hcl _ _ _ rl r2
    have hc16 := HCL.out
    have hl16 := HLL.out
    by_cases hlt : k < ms1.length
    · have hI := inv_of l1 n (ms1.take k) (by simp; omega)
      have hmk : (osOf l1 n (ms1.take k)).moves < 65536 := by rw [hI.moves]; simp; omega
      have hLt := later_of l1 n ms1 hml k (by omega)
      have hle := hLt.len
      rw [← HO.out] at hle
      have hsl := hI.slen
      have hbl : (bz (osOf l1 n (ms1.take k))).length = n := by unfold bz; rw [List.length_map]; exact hsl
      have SAME := Lib.hid (steps_same l1 n ms1 k hlt)
      have BEG := Lib.hid (fun i t => steps_begin l1 n ms1 hml k hlt (i := i) (t := t))
      have STP := Lib.hid (fun i se t => steps_step l1 n ms1 hml k hlt (i := i) (se := se) (t := t))
      rw [← HO.out] at BEG STP
      obtain ⟨om', cm', e, g1, g2, g3⟩ := HL.out.mvs
      cases e
      obtain ⟨mb, moff, rfl, mlt, m0, m1, m2, m3⟩ := g3 k hlt
      generalize ms1[k] = mk at *
      obtain ⟨mth, mop, marg, mdata⟩ := mk
      replace m0 := hcl _ _ _ mlt m0
      replace m1 := hcl _ _ _ mlt m1
      replace m2 := hcl _ _ _ mlt m2
      replace m3 := hcl _ _ _ mlt m3
      have lmb := Nat.lt_of_lt_of_le mlt hB.out.size
      simp only [Nat.add_zero] at m0 m1 m2 m3
      obtain ⟨gb, cb', e, x1, x2, x3, x4, x5, x6⟩ := hN.out.some_form hn1
      cases e
      have HX2 := Lib.hid x2
      have HX4 := Lib.hid x4
      have HX6 := Lib.hid x6
      generalize hP : osOf l1 n (ms1.take k) = P at *
      generalize hQ : osOf l1 n (ms1.take (k + 1)) = Q at *
      have hQ' := Lib.hid hQ
      have HI := Lib.hid hI
      have HLE := Lib.hid hle
      have HB := hB
      have HN := hN
      have HBL := Lib.hid hbl
      obtain ⟨nc, hnc⟩ : ∃ nc, P.calls.length = nc := ⟨_, rfl⟩
      obtain ⟨na, hna⟩ : ∃ na, P.log.length = na := ⟨_, rfl⟩
      rw [hnc, hna]
      have HNC := Lib.hid hnc
      have HNA := Lib.hid hna
      clear hQ hP hI hle hbl x2 x4 x6 g3 hB hN hcl hnc hna hLt HB5 HN5
      unfold maxLen at g2
      by_cases hout : mth < 0 ∨ (n : Int) ≤ mth
      · -- a thread that there is not
        have hS := Lib.hid (SAME.out (move_out hmk (by rw [hsl]; exact hout)))
        have hb : decide (mth < 0) = true ∨ (decide (mth < 0) = false ∧ decide ((n : Int) ≤ mth) = true) := by
          by_cases h0 : mth < 0
          · exact .inl (by simpa using h0)
          · exact .inr ⟨by simpa using h0, by simp; omega⟩
        clear hout
        rcases hb with b1 | ⟨b1, b2⟩
        all_goals as_aux_lemma =>
          go_wp2
          go_roundg (ms1.length - (k + 1))
          case measure => omega
          case rel =>
            refine ⟨k + 1, by omega, by omega, by rw [hQ'.out, hS.out.1, HNC.out], by rw [hQ'.out, hS.out.2.1, HNA.out], by go_num, Lib.hid (by repeat (first | exact HB.out | apply Below.drew | apply Below.more1 | apply Below.alloc1)), Lib.hid ?_⟩
            rw [hQ'.out, hS.out.2.2]
            repeat (first | exact HN.out | apply World.RowV.more | apply World.RowV.alloc)
      · obtain ⟨i, rfl⟩ : ∃ i : Nat, mth = i := ⟨mth.toNat, by omega⟩
        have hin : i < n := by omega
        have b2 : decide ((n : Int) ≤ (i : Int)) = false := by simp; omega
        obtain ⟨se, hse⟩ : ∃ se, P.seats[i]? = some se := ⟨_, List.getElem?_eq_getElem (by omega)⟩
        have hmv := move_in (size := (l1.length : Int)) hmk (mv := ⟨i, mop, marg, mdata⟩) rfl hse
        have hbg := bz_get hse
        have hbc : wr.cell? ⟨gb, i, none⟩ = some (.bool se.task.isSome) := HX6.out i _ (by unfold bools; rw [List.getElem?_map, hbg]; rfl)
        have hbz := x5 i
        have HSE := Lib.hid hse
        clear hse hbg x5 hout
        by_cases hdo : mop ≠ 0 ∧ se.task = none ∧ (mop = 1 ∨ mop = 2) ∧ 0 ≤ marg ∧ marg < (l1.length : Int)
        · -- a call begins
          obtain ⟨h1, h2, h3, h4, h5⟩ := hdo
          obtain ⟨t, ht⟩ := ownMake_yes (mv := ⟨i, mop, marg, mdata⟩) (size := (l1.length : Int)) h3 h4 h5
          rw [h2] at hmv hbc
          simp only [if_neg h1, ht] at hmv
          obtain ⟨⟨c, q1, q2, q3, q4, q5, q6⟩, q7, q8, q9⟩ := BEG.out i t rfl hmv
          rw [HNC.out] at q1 q7
          rw [HNA.out] at q8
          have HQ7 := Lib.hid q7
          have HQ8 := Lib.hid q8
          have HQ9 := Lib.hid q9
          have hcn := (List.getElem?_eq_some_iff.1 q1).1
          obtain ⟨gc, ccap, e, f1, f2, f3, f4, f5, f6⟩ := HL.out.run.wa.some_form (show 0 < o.calls.length by omega)
          cases e
          have hcc : o.calls[nc] = c := by rw [List.getElem?_eq_getElem hcn] at q1; exact Option.some.inj q1
          have hce : ∀ (b p : Nat) (u : Value), b < W.heap.size → W.cell? ⟨b, p, none⟩ = some u → wr.cell? ⟨b, p, none⟩ = some u := fun b p u hb hc => (HB.out.cell (p := ⟨b, p, none⟩) hb).trans hc
          have c0 := hce _ _ _ f3 (f6 (nc * 9 + 0) _ (cals_get o.calls nc 0 hcn (by omega)))
          have c1 := hce _ _ _ f3 (f6 (nc * 9 + 1) _ (cals_get o.calls nc 1 hcn (by omega)))
          have c2 := hce _ _ _ f3 (f6 (nc * 9 + 2) _ (cals_get o.calls nc 2 hcn (by omega)))
          have c3 := hce _ _ _ f3 (f6 (nc * 9 + 3) _ (cals_get o.calls nc 3 hcn (by omega)))
          have c4 := hce _ _ _ f3 (f6 (nc * 9 + 4) _ (cals_get o.calls nc 4 hcn (by omega)))
          rw [hcc] at c0 c1 c2 c3 c4
          obtain ⟨cth, cop, carg, cdata, cbeg, cen, cpt, cak, cav⟩ := c
          simp only at q2 q3 q4 q5 q6
          subst q2 q3 q4 q5 q6
          simp only [Nat.add_zero] at c0
          have lgc := Nat.lt_of_lt_of_le f3 HB.out.size
          have g9 : decide ((o.calls.length : Int) ≤ (nc : Int)) = false := by simp; omega
          have g9n : decide (o.calls.length ≤ nc) = false := by simp; omega
          obtain ⟨an, rfl⟩ : ∃ an : Nat, carg = an := ⟨carg.toNat, by omega⟩
          have g8 : decide ((an : Int) < (l1.length : Int)) = true := by simp; omega
          unfold maxLen at a2
          clear f1 f2 f4 f5 f6 hce q1 q7 q8 q9 hcc hmv ht h1 h2 h4 SAME BEG STP
          rcases h3 with rfl | rfl
          all_goals as_aux_lemma =>
            go_wp2
            go_wp2
            refine wp_region_more_lit (by kernel_rfl) (by kernel_rfl) ?_
            repeat (first | go_big_quiet_skip | (go_big_quiet_want; go_big_quiet_op; first | go_big_quiet_on | (apply Exists.intro; refine ⟨fun _ => ?_, ?_⟩; (focus (fail)); go_big_quiet_on)))
            refine wpQuiet_nil ?_
            intro osq dq
            go_wp2
            go_roundg (ms1.length - (k + 1))
            case measure => omega
            case rel =>
              refine ⟨k + 1, by omega, by omega, by rw [hQ'.out, HQ7.out]; go_num, by rw [hQ'.out, HQ8.out], by go_num, Lib.hid (by repeat (first | exact HB.out | apply Below.drew | apply Below.more1 | apply Below.alloc1 | (refine Below.setCell ?_ HX2.out _))), Lib.hid ?_⟩
              rw [hQ'.out, HQ9.out]
              have hrow := HN.out.put HX4.out i (by omega) (.bool true)
              rw [show (bools (bz P)).set i (.bool true) = bools ((bz P).set i true) by simp [bools, List.map_set]] at hrow
              repeat (first | exact hrow | apply World.RowV.more | apply World.RowV.alloc)
        · by_cases hst : mop = 0 ∧ se.task.isSome = true
          · -- a step
            obtain ⟨rfl, hsome⟩ := hst
            obtain ⟨t, hta⟩ := Option.isSome_iff_exists.1 hsome
            rw [hsome] at hbc
            rw [hta] at hmv
            simp only [if_true] at hmv
            obtain ⟨⟨a, q1, q2, q3⟩, q4, q5, q6⟩ := STP.out i se t HSE.out hta rfl hmv
            rw [HNA.out] at q1 q5
            rw [HNC.out] at q4
            have HQ4 := Lib.hid q4
            have HQ5 := Lib.hid q5
            have HQ6 := Lib.hid q6
            have hcn := (List.getElem?_eq_some_iff.1 q1).1
            obtain ⟨gt, tcap, e, f1, f2, f3, f4, f5, f6⟩ := HL.out.run.wt.some_form (show 0 < o.log.length by omega)
            cases e
            have hcc : o.log[na] = a := by rw [List.getElem?_eq_getElem hcn] at q1; exact Option.some.inj q1
            have hce : ∀ (b p : Nat) (u : Value), b < W.heap.size → W.cell? ⟨b, p, none⟩ = some u → wr.cell? ⟨b, p, none⟩ = some u := fun b p u hb hc => (HB.out.cell (p := ⟨b, p, none⟩) hb).trans hc
            have c0 := hce _ _ _ f3 (f6 (na * 7 + 0) _ (accs_get' o.log na 0 hcn (by omega)))
            have c1 := hce _ _ _ f3 (f6 (na * 7 + 1) _ (accs_get' o.log na 1 hcn (by omega)))
            rw [hcc] at c0 c1
            obtain ⟨amv, ath, akd, aad, aold, anw, asaw⟩ := a
            simp only at q2 q3
            subst q2 q3
            simp only [Nat.add_zero] at c0
            have lgt := Nat.lt_of_lt_of_le f3 HB.out.size
            have g9 : decide ((o.log.length : Int) ≤ (na : Int)) = false := by simp; omega
            have g9n : decide (o.log.length ≤ na) = false := by simp; omega
            unfold maxLen at t2
            clear f1 f2 f4 f5 f6 hce q1 q4 q5 q6 hcc hmv hta hsome SAME BEG STP hdo
            go_wp2
            go_wp2
            refine wp_region_more_lit (by kernel_rfl) (by kernel_rfl) ?_
            repeat (first | go_big_quiet_skip | (go_big_quiet_want; go_big_quiet_op; first | go_big_quiet_on | (apply Exists.intro; refine ⟨fun _ => ?_, ?_⟩; (focus (fail)); go_big_quiet_on)))
            refine wpQuiet_nil ?_
            intro osq dq
            go_wp2
            refine gen_world ?_
            intro W1 hW1
            have HB1 : Hid (Below W.heap.size W W1) := Lib.hid (by rw [hW1]; repeat (first | exact HB.out | apply Below.drew | apply Below.more1 | apply Below.alloc1))
            have HN1 : Hid (W1.RowV W.heap.size 4 1 (.slice (some ⟨gb, 0, none⟩) n c5) n (bools (bz P))) := Lib.hid (by rw [hW1]; repeat (first | exact HN.out | apply World.RowV.more | apply World.RowV.alloc))
            have hm9 : W1.heap[wr.heap.size]? = some (.cells #[.int .i64 (i : Int), .int .i64 0, .int .i64 marg, .int .i64 mdata] 34 (0, 0)) := by
              rw [hW1, World.heap_more _ _ _ _ (by simp)]
              exact heap_alloc_new wr _
            obtain ⟨b9, hb9⟩ : ∃ b9, b9 = wr.heap.size := ⟨_, rfl⟩
            rw [← hb9] at hm9 ⊢
            have n9 : b9 ≠ gb := by omega
            have k9 : W1.cell? ⟨b9, 0, none⟩ = some (.int .i64 (i : Int)) := by simp [World.cell?, hm9]
            have l9 := (Array.getElem?_eq_some_iff.1 hm9).1
            have lgW := HX2.out
            clear hW1 hm9 hb9 HB HN d0 d1 d2 e0 e1 e2 m0 m1 m2 m3 lBs lBr lmb c0 c1 lgt hbc hbz x3
            have HBP := Lib.hid HBL.out
            go_loopg [178] o.calls.length (fun gh sl wr2 => ∃ (j : Nat) (bs : List Bool), j ≤ o.calls.length ∧ o.calls.length ≤ j + gh ∧ sl = .int .i64 (j : Int) ∧ Hid (Only (fun k => k = gb) W1 wr2) ∧ Hid (wr2.RowV W.heap.size 4 1 (.slice (some ⟨gb, 0, none⟩) n c5) n (bools bs)) ∧
              Hid ((bs = bz P ∧ ∀ ci c, ci < j → o.calls[ci]? = some c → c.en ≠ (k : Int)) ∨ (bs = (bz P).set i false ∧ ∃ ci c, ci < j ∧ o.calls[ci]? = some c ∧ c.en = (k : Int))))
            case atStart => exact ⟨0, bz P, by omega, by omega, by go_num, Lib.hid (Only.refl _ _), HN1, Lib.hid (.inl ⟨rfl, fun ci c h => by omega⟩)⟩
            case round =>
              obtain ⟨j, bs, hj1, hj2, rfl, hO, hN, hst⟩ := hrel
              have hbe : ∀ (b p : Nat) (u : Value), b < W.heap.size → W.cell? ⟨b, p, none⟩ = some u → wr.cell? ⟨b, p, none⟩ = some u := fun b p u hb hc =>
                (hO.out.cellAt (p := ⟨b, p, none⟩) (Nat.lt_of_lt_of_le hb HB1.out.size) (by show ¬ b = gb; omega)).trans ((HB1.out.cell (p := ⟨b, p, none⟩) hb).trans hc)
              have k0 := (hO.out.cellAt (p := ⟨b9, 0, none⟩) l9 n9).trans k9
              have l0 := Nat.lt_of_lt_of_le l9 hO.out.size
              have hws := Nat.le_trans HB1.out.size hO.out.size
              by_cases hjl : j < o.calls.length
              · have hAj : o.calls[j]? = some o.calls[j] := List.getElem?_eq_getElem hjl
                obtain ⟨gc, ccap, e, f1, f2, f3, f4, f5, f6⟩ := HL.out.run.wa.some_form (show 0 < o.calls.length by omega)
                cases e
                have c0 := hbe _ _ _ f3 (f6 (j * 9 + 0) _ (cals_get o.calls j 0 hjl (by omega)))
                have c1 := hbe _ _ _ f3 (f6 (j * 9 + 1) _ (cals_get o.calls j 1 hjl (by omega)))
                have c2 := hbe _ _ _ f3 (f6 (j * 9 + 2) _ (cals_get o.calls j 2 hjl (by omega)))
                have c3 := hbe _ _ _ f3 (f6 (j * 9 + 3) _ (cals_get o.calls j 3 hjl (by omega)))
                have c4 := hbe _ _ _ f3 (f6 (j * 9 + 4) _ (cals_get o.calls j 4 hjl (by omega)))
                have c5' := hbe _ _ _ f3 (f6 (j * 9 + 5) _ (cals_get o.calls j 5 hjl (by omega)))
                have c6 := hbe _ _ _ f3 (f6 (j * 9 + 6) _ (cals_get o.calls j 6 hjl (by omega)))
                have c7 := hbe _ _ _ f3 (f6 (j * 9 + 7) _ (cals_get o.calls j 7 hjl (by omega)))
                have c8 := hbe _ _ _ f3 (f6 (j * 9 + 8) _ (cals_get o.calls j 8 hjl (by omega)))
                have lgc : gc < wr.heap.size := by omega
                unfold maxLen at a2
                generalize o.calls[j] = ca at *
                simp only [Nat.add_zero] at c0
                have HO2 := hO
                have HN2 := hN
                by_cases hen : ca.en = (k : Int)
                · have heq : (ca.en == (k : Int)) = true := by simpa using hen
                  obtain ⟨gb', cb'', e, x1, x2, x3, x4, x5, x6⟩ := hN.out.some_form hn1
                  cases e
                  have hbl2 : bs.length = n := by
                    have := hN.out.1
                    simpa [bools] using this
                  obtain ⟨u0, hu0⟩ : ∃ u0, wr.cell? ⟨gb, i, none⟩ = some u0 := ⟨_, x6 i _ (by unfold bools; rw [List.getElem?_map, List.getElem?_eq_getElem (by omega)]; rfl)⟩
                  have hz0 := x5 i
                  have HX4' := Lib.hid x4
                  have HST := Lib.hid (show bs.set i false = (bz P).set i false from by
                    rcases hst.out with ⟨h1, _⟩ | ⟨h1, _⟩
                    · rw [h1]
                    · rw [h1, List.set_set])
                  have HAJ := Lib.hid hAj
                  have HEN := Lib.hid hen
                  clear hst hAj f1 f2 f4 f5 f6 hbe hO hN x1 x2 x4 x5 x6 hen
                  as_aux_lemma =>
                  go_wp2
                  go_roundg (o.calls.length - (j + 1))
                  case measure => omega
                  case rel =>
                    refine ⟨j + 1, bs.set i false, by omega, by omega, by go_num, Lib.hid ?_, Lib.hid ?_, Lib.hid (.inr ⟨HST.out, j, ca, by omega, HAJ.out, HEN.out⟩)⟩
                    · repeat (first | exact HO2.out | exact Only.set HO2.out (Or.inl rfl) _ | apply Only.more | apply Only.drew | apply Only.alloc | (refine Only.set ?_ ?h _; rotate_left; exact Or.inl rfl))
                    · have hrow := HN2.out.put HX4'.out i (by omega) (.bool false)
                      rw [show (bools bs).set i (.bool false) = bools (bs.set i false) by simp [bools, List.map_set]] at hrow
                      repeat (first | exact hrow | apply World.RowV.more | apply World.RowV.alloc)
                · have heq : (ca.en == (k : Int)) = false := by simpa using hen
                  have HST := Lib.hid (show (bs = bz P ∧ ∀ ci c, ci < j + 1 → o.calls[ci]? = some c → c.en ≠ (k : Int)) ∨ (bs = (bz P).set i false ∧ ∃ ci c, ci < j + 1 ∧ o.calls[ci]? = some c ∧ c.en = (k : Int)) from by
                    rcases hst.out with ⟨h1, h2⟩ | ⟨h1, ci, c, h2, h3⟩
                    · refine .inl ⟨h1, fun ci c h3 h4 => ?_⟩
                      by_cases h5 : ci = j
                      · subst h5
                        rw [hAj] at h4
                        cases h4
                        exact hen
                      · exact h2 ci c (by omega) h4
                    · exact .inr ⟨h1, ci, c, by omega, h3⟩)
                  clear hst hAj f1 f2 f4 f5 f6 hbe hO hN hen
                  as_aux_lemma =>
                  go_wp2
                  go_roundg (o.calls.length - (j + 1))
                  case measure => omega
                  case rel =>
                    refine ⟨j + 1, bs, by omega, by omega, by go_num, Lib.hid ?_, Lib.hid ?_, HST⟩
                    · with_reducible repeat (first | exact HO2.out | apply Only.more | apply Only.drew | apply Only.alloc)
                    · repeat (first | exact HN2.out | apply World.RowV.more | apply World.RowV.alloc)
              · obtain rfl : j = o.calls.length := by omega
                have hbs : bs = bz Q := by
                  rcases hst.out with ⟨h1, h2⟩ | ⟨h1, ci, c, h2, h3, h4⟩
                  · rcases HQ6.out with ⟨_, ci, c, h6, h7⟩ | ⟨h5, _⟩
                    · exact absurd h7 (h2 ci c (List.getElem?_eq_some_iff.1 h6).1 h6)
                    · rw [h1, h5]
                  · rcases HQ6.out with ⟨h5, _⟩ | ⟨_, h5⟩
                    · rw [h1, h5]
                    · exact absurd h4 (h5 ci c h3)
                have HOf := hO
                have HNf := hN
                clear hst hO hN hbe
                as_aux_lemma =>
                go_wp2
                go_roundg (ms1.length - (k + 1))
                case measure => omega
                case rel =>
                  refine ⟨k + 1, by omega, by omega, by rw [hQ'.out, HQ4.out], by rw [hQ'.out, HQ5.out]; go_num, by go_num, Lib.hid ?_, ?_⟩
                  · exact HB1.out.trans (Below.mono (Only.below HOf.out (B := W.heap.size) (fun k hk => by subst hk; exact lgW) HB1.out.size) (Nat.le_refl _))
                  · rw [hQ'.out, ← hbs]; exact HNf
          · -- nothing
            have hsk : P.move (l1.length : Int) ⟨i, mop, marg, mdata⟩ = (P.skip, false) := by
              rw [hmv]
              cases hta : se.task with
              | some t =>
                have : mop ≠ 0 := fun e => hst ⟨e, by rw [hta]; rfl⟩
                simp only [if_neg this]
              | none =>
                by_cases h0 : mop = 0
                · simp only [if_pos h0]
                · have hnm : ownMake (l1.length : Int) ⟨i, mop, marg, mdata⟩ = none := by
                    refine ownMake_none ?_
                    by_cases h1 : mop = 1 ∨ mop = 2
                    · right
                      by_cases h2 : marg < 0
                      · exact .inl h2
                      · right
                        by_cases h3 : (l1.length : Int) ≤ marg
                        · exact h3
                        · exact absurd ⟨h0, hta, h1, by omega, by omega⟩ hdo
                    · exact .inl ⟨fun e => h1 (.inl e), fun e => h1 (.inr e)⟩
                  simp only [if_neg h0, hnm]
            have hS := Lib.hid (SAME.out hsk)
            obtain ⟨bb, hbb⟩ : ∃ bb, bb = se.task.isSome := ⟨_, rfl⟩
            rw [← hbb] at hbc hst
            have hcase : (mop = 0 ∧ bb = false) ∨ ((mop = 1 ∨ mop = 2) ∧ bb = true) ∨ ((mop = 1 ∨ mop = 2) ∧ bb = false ∧ decide (0 ≤ marg) = false) ∨ ((mop = 1 ∨ mop = 2) ∧ bb = false ∧ decide (0 ≤ marg) = true ∧ decide (marg < (l1.length : Int)) = false) ∨ ((mop == 0) = false ∧ (mop == 1) = false ∧ (mop == 2) = false) := by
              by_cases h0 : mop = 0
              · refine .inl ⟨h0, ?_⟩
                cases hb : bb
                · rfl
                · exact absurd ⟨h0, hb⟩ hst
              · by_cases h1 : mop = 1 ∨ mop = 2
                · cases hb : bb
                  · have hn : se.task = none := by rw [hb] at hbb; cases ht : se.task with | none => rfl | some t => rw [ht] at hbb; cases hbb
                    by_cases h2 : 0 ≤ marg
                    · by_cases h3 : marg < (l1.length : Int)
                      · exact absurd ⟨h0, hn, h1, h2, h3⟩ hdo
                      · exact .inr (.inr (.inr (.inl ⟨h1, rfl, by simpa using h2, by simpa using h3⟩)))
                    · exact .inr (.inr (.inl ⟨h1, rfl, by simpa using h2⟩))
                  · exact .inr (.inl ⟨h1, rfl⟩)
                · exact .inr (.inr (.inr (.inr ⟨by simpa using h0, by simp; exact fun e => h1 (.inl e), by simp; exact fun e => h1 (.inr e)⟩)))
            clear hdo hst hsk hbb hmv SAME BEG STP
            rcases hcase with ⟨rfl, rfl⟩ | ⟨rfl | rfl, rfl⟩ | ⟨rfl | rfl, rfl, a1⟩ | ⟨rfl | rfl, rfl, a1, a2⟩ | ⟨a1, a2, a3⟩
            all_goals as_aux_lemma =>
              go_wp2
              go_roundg (ms1.length - (k + 1))
              case measure => omega
              case rel =>
                refine ⟨k + 1, by omega, by omega, by rw [hQ'.out, hS.out.1, HNC.out], by rw [hQ'.out, hS.out.2.1, HNA.out], by go_num, Lib.hid (by repeat (first | exact HB.out | apply Below.drew | apply Below.more1 | apply Below.alloc1)), Lib.hid ?_⟩
                rw [hQ'.out, hS.out.2.2]
                repeat (first | exact HN.out | apply World.RowV.more | apply World.RowV.alloc)
    · obtain rfl : k = ms1.length := by omega
      rw [List.take_length, ← HO.out]
      have HB := hB
      clear hB hN HB5 HN5 hcl
      go_wp2
      go_ret
      refine ⟨rfl, HL.out.be.trans (Below.mono (by repeat (first | exact HB.out | apply Below.drew | apply Below.more1 | apply Below.alloc1)) HL.out.be.size)⟩
end Go.Proofs.Ytbhbpfpggfcpgaa
