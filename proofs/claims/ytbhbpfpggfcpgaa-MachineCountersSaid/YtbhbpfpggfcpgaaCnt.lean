/-
MachineCounters returns true.
-/
import Derived.Test.YtbhbpfpggfcpgaaLawW
import Derived.Test.YtbhbpfpggfcpgaaLtr
namespace Go.Proofs.Ytbhbpfpggfcpgaa
open Go.ChangeShapes Go.WideShapes Go.ChangeAt Go.RowKit Go.Shelf

/-- how many calls have their point ahead of a move -/
def ptsB (cs : List Cal) (k : Nat) : Nat := (cs.filter fun c => decide (0 ≤ c.pt ∧ c.pt < (k : Int))).length
def ptsA (cs : List Cal) (k j : Nat) : Nat := ((cs.take j).filter fun c => decide (c.pt = (k : Int))).length
theorem ptsB_zero (cs : List Cal) : ptsB cs 0 = 0 := by
  unfold ptsB
  rw [List.filter_eq_nil_iff.2 (fun c _ => by simp <;> omega)]; rfl
theorem ptsB_next (cs : List Cal) (k : Nat) : ptsB cs (k + 1) = ptsB cs k + ptsA cs k cs.length := by
  unfold ptsB ptsA
  rw [List.take_length]
  induction cs with
  | nil => rfl
  | cons c cs ih =>
    simp only [List.filter_cons]
    by_cases h1 : 0 ≤ c.pt ∧ c.pt < (k : Int)
    · have h2 : 0 ≤ c.pt ∧ c.pt < ((k + 1 : Nat) : Int) := by omega
      have h3 : ¬ c.pt = (k : Int) := by omega
      simp only [h1, h2, h3, and_self, decide_true, decide_false, if_true, Bool.false_eq_true, if_false, List.length_cons, ih]
      omega
    · by_cases h3 : c.pt = (k : Int)
      · have h2 : 0 ≤ c.pt ∧ c.pt < ((k + 1 : Nat) : Int) := by omega
        rw [if_pos (by simpa using h2), if_neg (by simpa using h1), if_pos (by simpa using h3), List.length_cons, List.length_cons, ih]
        omega
      · have h2 : ¬ (0 ≤ c.pt ∧ c.pt < ((k + 1 : Nat) : Int)) := by omega
        rw [if_neg (by simpa using h2), if_neg (by simpa using h1), if_neg (by simpa using h3), ih]
theorem ptsA_next (cs : List Cal) (k j : Nat) (hj : j < cs.length) : ptsA cs k (j + 1) = ptsA cs k j + if cs[j].pt = (k : Int) then 1 else 0 := by
  unfold ptsA
  rw [take_next cs j hj, List.filter_append, List.length_append]
  by_cases h : cs[j].pt = (k : Int) <;> simp [h]
theorem ptsA_le (cs : List Cal) (k j : Nat) : ptsA cs k j ≤ cs.length := Nat.le_trans (List.length_filter_le _ _) (by simp; omega)
theorem ptsB_le (cs : List Cal) (k : Nat) : ptsB cs k ≤ cs.length := List.length_filter_le _ _

set_option maxRecDepth 100000 in
set_option maxHeartbeats 4000000 in
theorem counters_walk {w : World} {v : Value} {th : Int} {l : List Int} {ms : List Mv} {ox : Option Addr} {cx : Nat} {om : Option Addr} {cm : Nat} (h : ScrIn w v th l ms ox cx om cm) : Calls Try.prog 5 #[v] w fun e w' => e = .returned (.bool true) ∧ Below w.heap.size w w' := by
  have HSI := Lib.hid h
  obtain ⟨rfl, hs0, hm0, hx0, hy0⟩ := h
  obtain ⟨l1, hl1⟩ : ∃ l1, l1 = l.take 8192 := ⟨_, rfl⟩
  obtain ⟨ms1, hms1⟩ : ∃ ms1, ms1 = ms.take 65536 := ⟨_, rfl⟩
  obtain ⟨o, ho⟩ : ∃ o, o = osOf l1 (fitN th) ms1 := ⟨_, rfl⟩
  have hml : ms1.length ≤ 65536 := by rw [hms1]; simp; omega
  have HINV : Hid (OS.Inv l1 (fitN th) ms1 o) := Lib.hid (by rw [ho]; exact inv_of _ _ _ hml)
  have HCL : Hid (o.calls.length ≤ 65536) := Lib.hid (by rw [ho]; exact calls_le _ _ _ hml)
  have HLL : Hid (o.log.length ≤ 65536) := Lib.hid (by rw [ho]; exact log_le _ _ _ hml)
  have HWL : Hid (o.words.length = l1.length) := Lib.hid HINV.out.wlen
  have hR : ownRun l1 (fitN th) ms1 = ⟨o.calls, o.log, [], o.words⟩ := by rw [ho]; exact own_os _ _ _
  have HPL : Hid (∀ S0 : Obj, Calls Try.prog 27 #[.agg #[.int .i64 th, .slice ox l.length cx, .slice om ms.length cm]] (w.alloc S0) (fun e w' => ∃ x : RunVs, e = .returned (.tuple #[.agg #[.int .i64 (fitN th : Int), .slice ox l1.length cx, .slice om ms1.length cm], x.v, .bool true]) ∧ RunAt w' (w.alloc S0).heap.size x ⟨o.calls, o.log, [], o.words⟩ ∧ Only (fun _ => False) (w.alloc S0) w')) := Lib.hid (fun S0 => by
    rw [← hR, hl1, hms1]
    exact played_ok ⟨rfl, hs0.alloc _, hm0.only ((Only.refl _ _).alloc _), hx0, hy0⟩)
  have hs1 : w.Src 1 (.slice ox l1.length cx) l1.length (u64s l1) := by
    have := hs0.take hx0.2.2 8192
    rw [show min l.length 8192 = (l.take 8192).length by simp; omega, ← hl1] at this
    exact this
  have hm1 : MvsIn w (.slice om ms1.length cm) ms1 := by
    have := hm0.take 65536
    rw [show min ms.length 65536 = (ms.take 65536).length by simp; omega, ← hms1] at this
    exact this
  have hll : l1.length ≤ 8192 := by rw [hl1]; simp; omega
  have HS1 := Lib.hid hs1
  have HM1 := Lib.hid hm1
  have HO := Lib.hid ho
  clear hs0 hm0 hx0 hy0 hl1 hms1 hs1 hm1 HSI hR ho
  go_enter Try.func5, Try.ntmps5
  go_upto_region 2 with (go_at_call 27; refine (HPL.out _).mono ?_; rintro e w1 ⟨⟨va, vt, vb, vc⟩, he, hra, ho⟩; obtain ⟨oa, ca, e1, a1, a2⟩ := hra.wa.form; obtain ⟨ot, ct, e2, t1, t2⟩ := hra.wt.form; obtain ⟨ob, cb, e3, _, _⟩ := hra.wb.form; obtain ⟨oc, cc, e4, c1, c2⟩ := hra.wc.form; simp only [List.length_nil] at e1 e2 e3 e4; rw [HWL.out] at e4; subst e1; subst e2; subst e3; subst e4; (unfold RunVs.v at he); subst he; have HRA := Lib.hid hra; clear hra; obtain ⟨os, d, rfl⟩ := (Only.below ho (fun _ h => h.elim) (Nat.le_refl _)).more; clear ho)
  refine gen_world ?_
  intro W hW
  have HL : Hid (LawW w W w.heap.size (w.heap.size + 1 + os.size) (fitN th) l1 ms1 ox cx om cm ⟨.slice oa o.calls.length ca, .slice ot o.log.length ct, .slice ob 0 cb, .slice oc l1.length cc⟩ ⟨o.calls, o.log, [], o.words⟩) := Lib.hid (by
    rw [hW]; exact LawW.of HRA.out HS1.out HM1.out)
  obtain ⟨Br, hBr⟩ : ∃ Br, Br = w.heap.size + 1 + os.size := ⟨_, rfl⟩
  obtain ⟨Bs, hBs⟩ : ∃ Bs, Bs = w.heap.size := ⟨_, rfl⟩
  rw [← hBr, ← hBs] at HL ⊢
  clear hW HRA hBr hBs HS1 HM1 HPL
  obtain ⟨s0, s1, s2, sl⟩ := HL.out.scells
  obtain ⟨r0, r1, r2, r3, rl⟩ := HL.out.rcells
  simp only at r0 r1 r2 r3
  obtain ⟨i0, ii, iz0, iz1, iz2⟩ := info_parts infoU64
  have HII := Lib.hid ii
  have HZ0 := Lib.hid iz0
  have HZ1 := Lib.hid iz1
  have HZ2 := Lib.hid iz2
  have S1 := Lib.hid (u64s_one l1)
  have S2 := Lib.hid (show 0 + l1.length ≤ maxLen by unfold maxLen; omega)
  have S3 := Lib.hid (show ((0 + l1.length) + (0 + l1.length) / 4 + 192) * 8 ≤ 281474976710656 by omega)
  clear ii iz0 iz1 iz2
  go_wp2_with (at_builtin; refine wpList_append_row _ rfl _ _ 28 rfl W.heap.size 27 i0 _ 1 8 Try.underlying28 HII.out HZ0.out HZ1.out HZ2.out rfl (.slice none 0 0) 0 [] rfl (World.RowV_none _ _ _ _ _) _ l1.length (u64s l1) rfl HL.out.src S1.out S2.out S3.out (Nat.le_refl _) ?_; intro v' w5 hown hout; obtain ⟨o5, c5, rfl, hn5, hm5⟩ := hown.form; simp only [Nat.zero_add, List.nil_append] at hown; have HN5 := Lib.hid hown; have HB5 := Lib.hid (Only.below (Only.out (F := fun _ => False) hout (by simp [Value.rowBlock])) (fun _ h => h.elim) (Nat.le_refl _)); clear hown hout; skip)
  have HEND := Lib.hid (fun k (hk : k < ms1.length) => ends_at l1 (fitN th) ms1 hml k hk)
  go_loopg [6, 7] ms1.length (fun gh s6 s7 wr => ∃ k : Nat, k ≤ ms1.length ∧ ms1.length ≤ k + gh ∧ s6 = .int .i64 (ptsB o.calls k : Int) ∧ s7 = .int .i64 (k : Int) ∧
    Hid (Below W.heap.size W wr) ∧ Hid (wr.RowV W.heap.size 27 1 (.slice o5 l1.length c5) l1.length (u64s (osOf l1 (fitN th) (ms1.take k)).words)))
  case atStart =>
    exact ⟨0, by omega, by omega, by rw [ptsB_zero]; go_num, by go_num, HB5, HN5⟩
  case round =>
    obtain ⟨k, hk1, hk2, rfl, rfl, hB, hN⟩ := hrel
    have lBs := Nat.lt_of_lt_of_le sl hB.out.size
    have lBr := Nat.lt_of_lt_of_le rl hB.out.size
    have d2 := (hB.out.cell (p := ⟨Bs, 2, none⟩) sl).trans s2
    have d3 := (hB.out.cell (p := ⟨Br, 0, none⟩) rl).trans r0
    have HNB := Lib.hid (ptsB_next o.calls k)
    have HLB := Lib.hid (ptsB_le o.calls k)
    have HCL2 := HCL.out
    by_cases hlt : k < ms1.length
    · generalize hpb : ptsB o.calls k = pb at *
      have HEK := Lib.hid (HEND.out k hlt)
      rw [← HO.out] at HEK
      have hwk : (osOf l1 (fitN th) (ms1.take k)).words.length = l1.length := OS.goes_len ..
      generalize (osOf l1 (fitN th) (ms1.take k)) = P at *
      generalize hW1 : (osOf l1 (fitN th) (ms1.take (k + 1))).words = w1s at *
      have HLB2 := HLB.out
      go_wp2
      go_loopg [6, 34] o.calls.length (fun gh s6 s34 wr => ∃ (j : Nat) (ws : List Int), j ≤ o.calls.length ∧ o.calls.length ≤ j + gh ∧ s6 = .int .i64 ((pb : Int) + (ptsA o.calls k j : Int)) ∧ s34 = .int .i64 (j : Int) ∧
        Hid (Below W.heap.size W wr) ∧ Hid (wr.RowV W.heap.size 27 1 (.slice o5 l1.length c5) l1.length (u64s ws)) ∧
        Hid ((ws = P.words ∧ ∀ ci c, ci < j → o.calls[ci]? = some c → c.en ≠ (k : Int)) ∨ (ws = w1s ∧ ∃ ci c, ci < j ∧ o.calls[ci]? = some c ∧ c.en = (k : Int))))
      case atStart =>
        exact ⟨0, P.words, by omega, by omega, by simp [ptsA], by go_num, hB, hN, Lib.hid (.inl ⟨rfl, fun ci c h => by omega⟩)⟩
      case round =>
        obtain ⟨j, ws, hj1, hj2, rfl, rfl, hBx, hNx, hst⟩ := hrel
        have hpj := ptsA_le o.calls k j
        have hcl := HCL.out
        by_cases hjl : j < o.calls.length
        · have hAj : o.calls[j]? = some o.calls[j] := List.getElem?_eq_getElem hjl
          have hC := HINV.out.call j _ hAj
          obtain ⟨gc, ccap, e, f1, f2, f3, f4, f5, f6⟩ := HL.out.run.wa.some_form (show 0 < o.calls.length by omega)
          cases e
          have hce : ∀ (b p : Nat) (u : Value), b < W.heap.size → W.cell? ⟨b, p, none⟩ = some u → wr.cell? ⟨b, p, none⟩ = some u := fun b p u hb hc => (hBx.out.cell (p := ⟨b, p, none⟩) hb).trans hc
          have c0 := hce _ _ _ f3 (f6 (j * 9 + 0) _ (cals_get o.calls j 0 hjl (by omega)))
          have c1 := hce _ _ _ f3 (f6 (j * 9 + 1) _ (cals_get o.calls j 1 hjl (by omega)))
          have c2 := hce _ _ _ f3 (f6 (j * 9 + 2) _ (cals_get o.calls j 2 hjl (by omega)))
          have c3 := hce _ _ _ f3 (f6 (j * 9 + 3) _ (cals_get o.calls j 3 hjl (by omega)))
          have c4 := hce _ _ _ f3 (f6 (j * 9 + 4) _ (cals_get o.calls j 4 hjl (by omega)))
          have c5 := hce _ _ _ f3 (f6 (j * 9 + 5) _ (cals_get o.calls j 5 hjl (by omega)))
          have c6 := hce _ _ _ f3 (f6 (j * 9 + 6) _ (cals_get o.calls j 6 hjl (by omega)))
          have c7 := hce _ _ _ f3 (f6 (j * 9 + 7) _ (cals_get o.calls j 7 hjl (by omega)))
          have c8 := hce _ _ _ f3 (f6 (j * 9 + 8) _ (cals_get o.calls j 8 hjl (by omega)))
          have lgc := Nat.lt_of_lt_of_le f3 hBx.out.size
          have HPN := Lib.hid (ptsA_next o.calls k j hjl)
          unfold maxLen at a2
          generalize o.calls[j] = ca at *
          generalize hpa : ptsA o.calls k j = pa at *
          simp only [Nat.add_zero] at c0
          obtain ⟨ti, t0, t3, t4, t5, t6, t7, t8, t9, t10⟩ := hC
          have hpe : ca.pt = ca.en := by rcases t10 with ⟨h1, h2, _⟩ | ⟨_, _, h3, _⟩ <;> omega
          by_cases hen : ca.en = (k : Int)
          · -- the call that ends here
            have hlft : ws = P.words := by
              rcases hst.out with h1 | ⟨_, ci, c, h2, h3, h4⟩
              · exact h1.1
              · exfalso
                rcases HEK.out with ⟨h5, _⟩ | ⟨cx, cc, _, _, h6, _⟩
                · exact h5 j ca hAj hen
                · have := h6 ci c h3 h4
                  have := h6 j ca hAj hen
                  omega
            have hav : ca.av = wrap64 (P.at ca.arg) ∧ w1s = if ca.op = 2 then P.words.set ca.arg.toNat (IntKind.u64.wrap (P.at ca.arg + 1)) else P.words := by
              rcases HEK.out with ⟨h5, _⟩ | ⟨cx, cc, h7, _, h6, h8, h9⟩
              · exact absurd hen (h5 j ca hAj)
              · have := h6 j ca hAj hen
                subst this
                rw [hAj] at h7
                cases h7
                exact ⟨h8, h9⟩
            have hak : ca.ak = 2 := by
              rcases t10 with ⟨h1, _⟩ | ⟨_, _, _, h4⟩
              · omega
              · exact h4
            have hbg : ca.beg < (k : Int) := by
              rcases t10 with ⟨h1, _⟩ | ⟨h2, _⟩ <;> omega
            obtain ⟨cth, cop, carg, cdata, cbeg, cen, cpt, cak, cav⟩ := ca
            simp only at hpe hen hak hbg hav t4 t5 t6 t7 HPN
            subst hpe
            subst hen
            subst hak
            obtain ⟨an, rfl⟩ : ∃ an : Nat, carg = an := ⟨carg.toNat, by omega⟩
            have han : an < l1.length := by omega
            subst hlft
            obtain ⟨gx, cx', e, x1, x2, x3, x4, x5, x6⟩ := hNx.out.some_form (by omega)
            cases e
            obtain ⟨y, hy⟩ : ∃ y, y = P.words.getD an 0 := ⟨_, rfl⟩
            have hPa : P.at (an : Int) = y := by rw [hy]; rfl
            have hxc : wr.cell? ⟨gx, an, none⟩ = some (.int .u64 y) := x6 an _ (by rw [hy]; simp [u64s, show an < P.words.length by omega])
            have hxz := x5 an
            rw [hPa] at hav
            obtain ⟨hav1, hav2⟩ := hav
            subst hav1
            have HX2 := Lib.hid x2
            have HX4 := Lib.hid x4
            have HAV := Lib.hid hav2
            have HAJ := Lib.hid hAj
            have g1 : decide ((k : Int) ≤ cbeg) = false := by simp only [decide_eq_false_iff_not]; omega
            rw [if_pos rfl] at HPN
            have HBX := hBx
            have HNX := hNx
            clear hst hAj hy hPa x2 x4 x5 x6 f1 f2 f4 f5 f6 hce hav2 hB hN hBx hNx t8 t9 t10 hbg
            rcases t4 with rfl | rfl
            · go_wp2
              go_wp2
              refine wp_region_more_lit (by kernel_rfl) (by kernel_rfl) ?_
              repeat (first | go_big_quiet_skip | (go_big_quiet_want; go_big_quiet_op; first | go_big_quiet_on | (apply Exists.intro; refine ⟨fun _ => ?_, ?_⟩; (focus (fail)); go_big_quiet_on)))
              refine wpQuiet_nil ?_
              intro osq dq
              go_wp2
              go_roundg (o.calls.length - (j + 1))
              case measure => omega
              case rel =>
                refine ⟨j + 1, P.words, by omega, by omega, by rw [HPN.out]; go_num, by go_num, Lib.hid (by repeat (first | exact HBX.out | apply Below.drew | apply Below.more1 | apply Below.alloc1)), Lib.hid (by repeat (first | exact HNX.out | apply World.RowV.more | apply World.RowV.alloc)), Lib.hid (.inr ⟨?_, j, _, by omega, HAJ.out, rfl⟩)⟩
                rw [HAV.out]; rfl
            · go_wp2
              go_wp2
              refine wp_region_more_lit (by kernel_rfl) (by kernel_rfl) ?_
              repeat (first | go_big_quiet_skip | (go_big_quiet_want; go_big_quiet_op; first | go_big_quiet_on | (apply Exists.intro; refine ⟨fun _ => ?_, ?_⟩; (focus (fail)); go_big_quiet_on)))
              refine wpQuiet_nil ?_
              intro osq dq
              go_wp2
              go_roundg (o.calls.length - (j + 1))
              case measure => omega
              case rel =>
                refine ⟨j + 1, P.words.set an (IntKind.u64.wrap (y + 1)), by omega, by omega, by rw [HPN.out]; go_num, by go_num, Lib.hid (by repeat (first | exact HBX.out | apply Below.drew | apply Below.more1 | apply Below.alloc1 | (refine Below.setCell ?_ HX2.out _))), Lib.hid ?_, Lib.hid (.inr ⟨?_, j, _, by omega, HAJ.out, rfl⟩)⟩
                · have hrow := HNX.out.put HX4.out an (by omega) (.int .u64 (IntKind.u64.wrap (y + 1)))
                  rw [show (u64s P.words).set an (.int .u64 (IntKind.u64.wrap (y + 1))) = u64s (P.words.set an (IntKind.u64.wrap (y + 1))) by simp [u64s, List.map_set]] at hrow
                  repeat (first | exact hrow | apply World.RowV.more | apply World.RowV.alloc)
                · rw [HAV.out]; rfl
          · -- another one
            have hne : (ca.pt == (k : Int)) = false := by simp only [beq_eq_false_iff_ne]; omega
            rw [if_neg (by omega)] at HPN
            have HST := Lib.hid (show (ws = P.words ∧ ∀ ci c, ci < j + 1 → o.calls[ci]? = some c → c.en ≠ (k : Int)) ∨ (ws = w1s ∧ ∃ ci c, ci < j + 1 ∧ o.calls[ci]? = some c ∧ c.en = (k : Int)) from by
              rcases hst.out with ⟨h1, h2⟩ | ⟨h1, ci, c, h2, h3⟩
              · refine .inl ⟨h1, fun ci c h3 h4 => ?_⟩
                by_cases h5 : ci = j
                · subst h5
                  rw [hAj] at h4
                  cases h4
                  exact hen
                · exact h2 ci c (by omega) h4
              · exact .inr ⟨h1, ci, c, by omega, h3⟩)
            have HBX := hBx
            have HNX := hNx
            clear hst hAj f1 f2 f4 f5 f6 hce hB hN hBx hNx t8 t9 t10 t0 t3 t4 t5 t6 t7 hpe hen
            go_wp2
            go_roundg (o.calls.length - (j + 1))
            case measure => omega
            case rel =>
              exact ⟨j + 1, ws, by omega, by omega, by rw [HPN.out]; go_num, by go_num, Lib.hid (by repeat (first | exact HBX.out | apply Below.drew | apply Below.more1 | apply Below.alloc1)), Lib.hid (by repeat (first | exact HNX.out | apply World.RowV.more | apply World.RowV.alloc)), HST⟩
        · obtain rfl : j = o.calls.length := by omega
          have hws : ws = w1s := by
            rcases hst.out with ⟨h1, h2⟩ | ⟨h1, _⟩
            · rcases HEK.out with ⟨_, h4⟩ | ⟨cx, cc, h7, h8, _⟩
              · rw [h1, h4]
              · exact absurd h8 (h2 cx cc (List.getElem?_eq_some_iff.1 h7).1 h7)
            · exact h1
          subst hws
          have HBX := hBx
          have HNX := hNx
          clear hst hB hN hBx hNx HEK
          go_wp2
          go_roundg (ms1.length - (k + 1))
          case measure => omega
          case rel =>
            refine ⟨k + 1, by omega, by omega, by rw [HNB.out]; go_num, by go_num, HBX, ?_⟩
            rw [hW1]; exact HNX
    · obtain rfl : k = ms1.length := by omega
      rw [List.take_length, ← HO.out] at hN
      have HB := hB
      have HN := hN
      have d4 := (hB.out.cell (p := ⟨Br, 3, none⟩) rl).trans r3
      have hpbl := HLB.out
      generalize hpb : ptsB o.calls ms1.length = pb at *
      clear hB hN HB5 HN5 HEND
      go_wp2
      go_loopg [108] o.calls.length (fun gh sl wr2 => ∃ k : Nat, k ≤ o.calls.length ∧ o.calls.length ≤ k + gh ∧ sl = .int .i64 (k : Int) ∧ ∃ os d, wr2 = wr.more os d)
      case atStart => exact ⟨0, by omega, by omega, by go_num, RowKit.Below.more (Below.refl _ _)⟩
      case round =>
        obtain ⟨j, hj1, hj2, rfl, os2, dd2, rfl⟩ := hrel
        by_cases hjl : j < o.calls.length
        · have hC := HINV.out.call j _ (List.getElem?_eq_getElem hjl)
          obtain ⟨gc, ccap, e, f1, f2, f3, f4, f5, f6⟩ := HL.out.run.wa.some_form (show 0 < o.calls.length by omega)
          cases e
          have hce : ∀ (b p : Nat) (u : Value), b < W.heap.size → W.cell? ⟨b, p, none⟩ = some u → wr.cell? ⟨b, p, none⟩ = some u := fun b p u hb hc => (HB.out.cell (p := ⟨b, p, none⟩) hb).trans hc
          have c0 := hce _ _ _ f3 (f6 (j * 9 + 0) _ (cals_get o.calls j 0 hjl (by omega)))
          have c1 := hce _ _ _ f3 (f6 (j * 9 + 1) _ (cals_get o.calls j 1 hjl (by omega)))
          have c2 := hce _ _ _ f3 (f6 (j * 9 + 2) _ (cals_get o.calls j 2 hjl (by omega)))
          have c3 := hce _ _ _ f3 (f6 (j * 9 + 3) _ (cals_get o.calls j 3 hjl (by omega)))
          have c4 := hce _ _ _ f3 (f6 (j * 9 + 4) _ (cals_get o.calls j 4 hjl (by omega)))
          have c5 := hce _ _ _ f3 (f6 (j * 9 + 5) _ (cals_get o.calls j 5 hjl (by omega)))
          have c6 := hce _ _ _ f3 (f6 (j * 9 + 6) _ (cals_get o.calls j 6 hjl (by omega)))
          have c7 := hce _ _ _ f3 (f6 (j * 9 + 7) _ (cals_get o.calls j 7 hjl (by omega)))
          have c8 := hce _ _ _ f3 (f6 (j * 9 + 8) _ (cals_get o.calls j 8 hjl (by omega)))
          have lgc := Nat.lt_of_lt_of_le f3 HB.out.size
          have hmo := HINV.out.moves
          unfold maxLen at a2
          generalize o.calls[j] = ca at *
          simp only [Nat.add_zero] at c0
          obtain ⟨ti, t0, t3, t4, t5, t6, t7, t8, t9, t10⟩ := hC
          have hcs : (decide (0 ≤ ca.en) = false ∧ decide ((ms1.length : Int) ≤ ca.pt) = false) ∨ (decide (0 ≤ ca.en) = true ∧ decide (ca.pt < 0) = false ∧ decide ((ms1.length : Int) ≤ ca.pt) = false) := by
            rcases t10 with ⟨h1, h2, _⟩ | ⟨h1, h2, h3, _⟩
            · exact .inl ⟨by simp only [decide_eq_false_iff_not]; omega, by simp only [decide_eq_false_iff_not]; omega⟩
            · exact .inr ⟨by simp only [decide_eq_true_eq]; omega, by simp only [decide_eq_false_iff_not]; omega, by simp only [decide_eq_false_iff_not]; omega⟩
          clear f1 f2 f4 f5 f6 hce t8 t9 t10 t0 t3 t4 t5 t6 t7
          rcases hcs with ⟨b1, b2⟩ | ⟨b1, b2, b3⟩
          · go_wp2
            go_roundg (o.calls.length - (j + 1))
            case measure => omega
            case rel => exact ⟨j + 1, by omega, by omega, by go_num, RowKit.Below.more (by repeat (first | exact Below.refl _ _ | apply Below.drew | apply Below.more1 | apply Below.alloc1))⟩
          · go_wp2
            go_roundg (o.calls.length - (j + 1))
            case measure => omega
            case rel => exact ⟨j + 1, by omega, by omega, by go_num, RowKit.Below.more (by repeat (first | exact Below.refl _ _ | apply Below.drew | apply Below.more1 | apply Below.alloc1))⟩
        · go_wp2
          go_loopg [12] l1.length (fun gh sl wr2 => ∃ k : Nat, k ≤ l1.length ∧ l1.length ≤ k + gh ∧ sl = .int .i64 (k : Int) ∧ ∃ os d, wr2 = wr.more os d)
          case atStart => exact ⟨0, by omega, by omega, by go_num, RowKit.Below.more (by repeat (first | exact Below.refl _ _ | apply Below.drew | apply Below.more1 | apply Below.alloc1))⟩
          case round =>
            obtain ⟨k, hk1, hk2, rfl, os2, dd2, rfl⟩ := hrel
            by_cases hlt : k < l1.length
            · obtain ⟨gx, cx', e, x1, x2, x3, x4, x5, x6⟩ := HN.out.some_form (by omega)
              cases e
              obtain ⟨gc, cc', e, y1, y2, y3, y4, y5, y6⟩ := HL.out.run.wc.some_form (show 0 < o.words.length by rw [HWL.out]; omega)
              simp only [Value.slice.injEq] at e
              obtain ⟨rfl, _, rfl⟩ := e
              obtain ⟨y, hy⟩ : ∃ y, (u64s o.words)[k]? = some (.int .u64 y) := ⟨o.words[k]'(by rw [HWL.out]; omega), by simp [u64s, show k < o.words.length by rw [HWL.out]; omega]⟩
              have q1 := x6 k _ hy
              have q2 := (HB.out.cell (p := ⟨gc, k, none⟩) y3).trans (y6 k _ hy)
              have q3 := Nat.lt_of_lt_of_le y3 HB.out.size
              clear x4 x5 x6 x2 y1 y2 y4 y5 y6 hy
              go_wp2
              go_wp2
              refine wp_region_more_lit (by kernel_rfl) (by kernel_rfl) ?_
              repeat (first | go_big_quiet_skip | (go_big_quiet_want; go_big_quiet_op; first | go_big_quiet_on | (apply Exists.intro; refine ⟨fun _ => ?_, ?_⟩; (focus (fail)); go_big_quiet_on)))
              refine wpQuiet_nil ?_
              intro osq dq
              go_wp2
              go_roundg (l1.length - (k + 1))
              case measure => omega
              case rel => exact ⟨k + 1, by omega, by omega, by go_num, RowKit.Below.more (by repeat (first | exact Below.refl _ _ | apply Below.drew | apply Below.more1 | apply Below.alloc1))⟩
            · have hfin : decide ((pb : Int) ≤ (o.calls.length : Int)) = true := by simp only [decide_eq_true_eq]; omega
              go_wp2
              go_ret
              refine ⟨rfl, HL.out.be.trans (Below.mono (by repeat (first | exact HB.out | apply Below.drew | apply Below.more1 | apply Below.alloc1)) HL.out.be.size)⟩
end Go.Proofs.Ytbhbpfpggfcpgaa
