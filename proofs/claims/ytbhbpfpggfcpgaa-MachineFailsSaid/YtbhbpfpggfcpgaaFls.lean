/-
MachineFails returns true.
-/
import Derived.Test.YtbhbpfpggfcpgaaMvl
import Derived.Test.YtbhbpfpggfcpgaaFlp
namespace Go.Proofs.Ytbhbpfpggfcpgaa
open Go.ChangeShapes Go.WideShapes Go.ChangeAt Go.RowKit Go.Shelf

set_option maxRecDepth 100000 in
set_option maxHeartbeats 4000000 in
theorem fails_walk {w : World} {v : Value} {th : Int} {l : List Int} {ms : List Mv} {ox : Option Addr} {cx : Nat} {om : Option Addr} {cm : Nat} (h : ScrIn w v th l ms ox cx om cm) (thr : Int) : Calls Try.prog 8 #[v, .int .i64 thr] w fun e w' => e = .returned (.bool true) ∧ Below w.heap.size w w' := by
  have HSI := Lib.hid h
  obtain ⟨rfl, hs0, hm0, hx0, hy0⟩ := h
  obtain ⟨l1, hl1⟩ : ∃ l1, l1 = l.take 8192 := ⟨_, rfl⟩
  obtain ⟨ms1, hms1⟩ : ∃ ms1, ms1 = ms.take 65536 := ⟨_, rfl⟩
  obtain ⟨o, ho⟩ : ∃ o, o = osOf l1 (fitN th) ms1 := ⟨_, rfl⟩
  have hml : ms1.length ≤ 65536 := by rw [hms1]; simp; omega
  have HINV : Hid (OS.Inv l1 (fitN th) ms1 o) := Lib.hid (by rw [ho]; exact inv_of _ _ _ hml)
  have HCL : Hid (o.calls.length ≤ 65536) := Lib.hid (by rw [ho]; exact calls_le _ _ _ hml)
  have HLL : Hid (o.log.length ≤ 65536) := Lib.hid (by rw [ho]; exact log_le _ _ _ hml)
  have HWL : Hid (o.words.length = l1.length) := Lib.hid HINV.out.wlen
  have hR : ownRun l1 (fitN th) ms1 = ⟨o.calls, o.log, [], o.words⟩ := by rw [ho]; exact own_os _ _ _
  have HPL : Hid (∀ S0 : Obj, Calls Try.prog 27 #[.agg #[.int .i64 th, .slice ox l.length cx, .slice om ms.length cm]] (w.alloc S0) (fun e w' => ∃ x : RunVs, e = .returned (.tuple #[.agg #[.int .i64 (fitN th : Int), .slice ox l1.length cx, .slice om ms1.length cm], x.v, .bool true]) ∧ RunAt w' (w.alloc S0).heap.size x ⟨o.calls, o.log, [], o.words⟩ ∧ Only (fun _ => False) (w.alloc S0) w')) := Lib.hid (fun S0 => by
    rw [← hR, hl1, hms1]
    exact played_ok ⟨rfl, hs0.alloc _, hm0.only ((Only.refl _ _).alloc _), hx0, hy0⟩)
  have hs1 : w.Src 1 (.slice ox l1.length cx) l1.length (u64s l1) := by
    have := hs0.take hx0.2.2 8192
    rw [show min l.length 8192 = (l.take 8192).length by simp; omega, ← hl1] at this
    exact this
  have hm1 : MvsIn w (.slice om ms1.length cm) ms1 := by
    have := hm0.take 65536
    rw [show min ms.length 65536 = (ms.take 65536).length by simp; omega, ← hms1] at this
    exact this
  have hll : l1.length ≤ 8192 := by rw [hl1]; simp; omega
  have HS1 := Lib.hid hs1
  have HM1 := Lib.hid hm1
  have HFL : Hid (OS.Fl l1 o) := Lib.hid (by rw [ho]; exact fl_of _ _ _ hml)
  have HMN := Lib.hid (show om = none → cm = 0 from hy0.2.2)
  clear hs0 hm0 hx0 hy0 hl1 hms1 hs1 hm1 HSI hR ho
  go_enter Try.func8, Try.ntmps8
  go_upto_region 2 with (go_at_call 27; refine (HPL.out _).mono ?_; rintro e w1 ⟨⟨va, vt, vb, vc⟩, he, hra, ho⟩; obtain ⟨oa, ca, e1, a1, a2⟩ := hra.wa.form; obtain ⟨ot, ct, e2, t1, t2⟩ := hra.wt.form; obtain ⟨ob, cb, e3, _, _⟩ := hra.wb.form; obtain ⟨oc, cc, e4, c1, c2⟩ := hra.wc.form; simp only [List.length_nil] at e1 e2 e3 e4; rw [HWL.out] at e4; subst e1; subst e2; subst e3; subst e4; (unfold RunVs.v at he); subst he; have HRA := Lib.hid hra; clear hra; obtain ⟨os, d, rfl⟩ := (Only.below ho (fun _ h => h.elim) (Nat.le_refl _)).more; clear ho)
  refine gen_world ?_
  intro W hW
  have HL : Hid (LawW w W w.heap.size (w.heap.size + 1 + os.size) (fitN th) l1 ms1 ox cx om cm ⟨.slice oa o.calls.length ca, .slice ot o.log.length ct, .slice ob 0 cb, .slice oc l1.length cc⟩ ⟨o.calls, o.log, [], o.words⟩) := Lib.hid (by
    rw [hW]; exact LawW.of HRA.out HS1.out HM1.out)
  obtain ⟨Br, hBr⟩ : ∃ Br, Br = w.heap.size + 1 + os.size := ⟨_, rfl⟩
  obtain ⟨Bs, hBs⟩ : ∃ Bs, Bs = w.heap.size := ⟨_, rfl⟩
  have HBrw := Lib.hid (show w.heap.size ≤ Br by omega)
  rw [← hBr, ← hBs] at HL ⊢
  clear hW HRA hBr hBs HS1 HM1 HPL
  obtain ⟨s0, s1, s2, sl⟩ := HL.out.scells
  obtain ⟨r0, r1, r2, r3, rl⟩ := HL.out.rcells
  simp only at r0 r1 r2 r3
  have HML := Lib.hid hml
  go_wp2
  go_loopg [28] o.log.length (fun gh s28 wr => ∃ k : Nat, k ≤ o.log.length ∧ o.log.length ≤ k + gh ∧ s28 = .int .i64 (k : Int) ∧ Hid (Below W.heap.size W wr))
  case atStart => exact ⟨0, by omega, by omega, by go_num, Lib.hid (by repeat (first | exact Below.refl _ _ | apply Below.drew | apply Below.more1 | apply Below.alloc1))⟩
  case round =>
    obtain ⟨k, hk1, hk2, rfl, hB⟩ := hrel
    have hl16 := HLL.out
    have lBs := Nat.lt_of_lt_of_le sl hB.out.size
    have lBr := Nat.lt_of_lt_of_le rl hB.out.size
    have hcl : ∀ (b p : Nat) (u : Value), b < W.heap.size → W.cell? ⟨b, p, none⟩ = some u → wr.cell? ⟨b, p, none⟩ = some u := fun b p u hb hc => (hB.out.cell (p := ⟨b, p, none⟩) hb).trans hc
    have d0 := hcl _ _ _ sl s0
    have d1 := hcl _ _ _ sl s1
    have d2 := hcl _ _ _ sl s2
    have e0 := hcl _ _ _ rl r0
    have e1 := hcl _ _ _ rl r1
    by_cases hlt : k < o.log.length
    · have hAk : o.log[k]? = some o.log[k] := List.getElem?_eq_getElem hlt
      have hA := HINV.out.log k _ hAk
      have hF := HFL.out.log k _ hAk
      obtain ⟨gt, tcap, e, f1, f2, f3, f4, f5, f6⟩ := HL.out.run.wt.some_form (show 0 < o.log.length by omega)
      cases e
      have c0 := hcl _ _ _ f3 (f6 (k * 7 + 0) _ (accs_get' o.log k 0 hlt (by omega)))
      have c1 := hcl _ _ _ f3 (f6 (k * 7 + 1) _ (accs_get' o.log k 1 hlt (by omega)))
      have c2 := hcl _ _ _ f3 (f6 (k * 7 + 2) _ (accs_get' o.log k 2 hlt (by omega)))
      have c3 := hcl _ _ _ f3 (f6 (k * 7 + 3) _ (accs_get' o.log k 3 hlt (by omega)))
      have c4 := hcl _ _ _ f3 (f6 (k * 7 + 4) _ (accs_get' o.log k 4 hlt (by omega)))
      have c5 := hcl _ _ _ f3 (f6 (k * 7 + 5) _ (accs_get' o.log k 5 hlt (by omega)))
      have c6 := hcl _ _ _ f3 (f6 (k * 7 + 6) _ (accs_get' o.log k 6 hlt (by omega)))
      have lgt := Nat.lt_of_lt_of_le f3 hB.out.size
      have HF6 := Lib.hid f6
      generalize o.log[k] = a at *
      obtain ⟨amv, ath, akd, aad, aold, anw, asaw⟩ := a
      have hkd := hA.kd
      simp only at hkd
      simp only [Nat.add_zero] at c0
      unfold maxLen at t2
      have HB := hB
      have HF := Lib.hid hF
      clear hA hAk f4 f5 f6 f1 f2 hcl hB hF
      rcases hkd with ⟨rfl, rfl, rfl⟩ | rfl
      · as_aux_lemma =>
        go_wp2
        go_roundg (o.log.length - (k + 1))
        case measure => omega
        case rel => exact ⟨k + 1, by omega, by omega, by go_num, Lib.hid (by repeat (first | exact HB.out | apply Below.drew | apply Below.more1 | apply Below.alloc1))⟩
      · by_cases hold : asaw = aold
        · subst hold
          as_aux_lemma =>
          go_wp2
          go_roundg (o.log.length - (k + 1))
          case measure => omega
          case rel => exact ⟨k + 1, by omega, by omega, by go_num, Lib.hid (by repeat (first | exact HB.out | apply Below.drew | apply Below.more1 | apply Below.alloc1))⟩
        · have heq : (asaw == aold) = false := by simpa using hold
          obtain ⟨J, b, hJ1, hJ2, hJ3, hJ4, hJ5, hJ6⟩ := HF.out rfl hold
          have HJ := Lib.hid (And.intro hJ2 (And.intro hJ3 (And.intro hJ4 (And.intro hJ5 hJ6))))
          clear hJ2 hJ3 hJ4 hJ5 hJ6 HF
          go_wp2
          refine gen_world ?_
          intro W1 hW1
          have HB1 : Hid (Below W.heap.size W W1) := Lib.hid (by rw [hW1]; repeat (first | exact HB.out | apply Below.drew | apply Below.more1 | apply Below.alloc1))
          have hm9 : W1.heap[wr.heap.size]? = some (.cells #[.int .i64 amv, .int .i64 ath, .int .i64 3, .int .i64 aad, .int .u64 aold, .int .u64 anw, .int .u64 asaw] 66 (0, 0)) := by
            rw [hW1]
            first | exact heap_alloc_new wr _ | (rw [World.heap_more _ _ _ _ (by simp)]; exact heap_alloc_new wr _)
          obtain ⟨b9, hb9⟩ : ∃ b9, b9 = wr.heap.size := ⟨_, rfl⟩
          rw [← hb9] at hm9 ⊢
          have k0 : W1.cell? ⟨b9, 0, none⟩ = some (.int .i64 amv) := by simp [World.cell?, hm9]
          have k1 : W1.cell? ⟨b9, 1, none⟩ = some (.int .i64 ath) := by simp [World.cell?, hm9]
          have k2 : W1.cell? ⟨b9, 2, none⟩ = some (.int .i64 3) := by simp [World.cell?, hm9]
          have k3 : W1.cell? ⟨b9, 3, none⟩ = some (.int .i64 aad) := by simp [World.cell?, hm9]
          have k4 : W1.cell? ⟨b9, 4, none⟩ = some (.int .u64 aold) := by simp [World.cell?, hm9]
          have k5 : W1.cell? ⟨b9, 5, none⟩ = some (.int .u64 anw) := by simp [World.cell?, hm9]
          have k6 : W1.cell? ⟨b9, 6, none⟩ = some (.int .u64 asaw) := by simp [World.cell?, hm9]
          have l9 := (Array.getElem?_eq_some_iff.1 hm9).1
          have lBr1 := Nat.lt_of_lt_of_le rl HB1.out.size
          have g1 := (HB1.out.cell (p := ⟨Br, 1, none⟩) rl).trans r1
          have lgt1 := Nat.lt_of_lt_of_le f3 HB1.out.size
          clear hW1 hm9 hb9 HB d0 d1 d2 e0 e1 lBs lBr c0 c1 c2 c3 c4 c5 c6 lgt
          go_loopg [9, 10] k (fun gh s9 s10 wr2 => ∃ (j : Int) (ov : Bool), -1 ≤ j ∧ j < (k : Int) ∧ j < (gh : Int) ∧ s9 = .bool ov ∧ s10 = .int .i64 j ∧ Hid (ov = false → (J : Int) ≤ j) ∧ ∃ os d, wr2 = W1.more os d)
          case atStart => exact ⟨(k : Int) - 1, false, by omega, by omega, by omega, rfl, by go_num, Lib.hid (fun _ => by omega), RowKit.Below.more (Below.refl _ _)⟩
          case round =>
            obtain ⟨j, ov, hj1, hj2, hj3, rfl, rfl, hov, os3, dd3, rfl⟩ := hrel
            by_cases hj0 : j < 0
            · have hfin : ov = true := by
                cases ov
                · have := hov.out rfl; omega
                · rfl
              subst hfin
              have hjd : decide (0 ≤ j) = false := by simp; omega
              as_aux_lemma =>
              go_wp2
              go_wp2
              refine wp_region_more_lit (by kernel_rfl) (by kernel_rfl) ?_
              repeat (first | go_big_quiet_skip | (go_big_quiet_want; go_big_quiet_op; first | go_big_quiet_on | (apply Exists.intro; refine ⟨fun _ => ?_, ?_⟩; (focus (fail)); go_big_quiet_on)))
              refine wpQuiet_nil ?_
              intro osq dq
              go_wp2
              go_roundg (o.log.length - (k + 1))
              case measure => omega
              case rel => exact ⟨k + 1, by omega, by omega, by go_num, Lib.hid (by repeat (first | exact HB1.out | apply Below.drew | apply Below.more1 | apply Below.alloc1))⟩
            · obtain ⟨jn, rfl⟩ : ∃ jn : Nat, j = jn := ⟨j.toNat, by omega⟩
              have hjn : jn < o.log.length := by omega
              have hjd : decide ((0 : Int) ≤ (jn : Int)) = true := by simp
              have hBk : o.log[jn]? = some o.log[jn] := List.getElem?_eq_getElem hjn
              have hcl1 : ∀ (b p : Nat) (u : Value), b < W.heap.size → W.cell? ⟨b, p, none⟩ = some u → W1.cell? ⟨b, p, none⟩ = some u := fun b p u hb hc => (HB1.out.cell (p := ⟨b, p, none⟩) hb).trans hc
              have x0 := hcl1 _ _ _ f3 (HF6.out (jn * 7 + 0) _ (accs_get' o.log jn 0 hjn (by omega)))
              have x1 := hcl1 _ _ _ f3 (HF6.out (jn * 7 + 1) _ (accs_get' o.log jn 1 hjn (by omega)))
              have x2 := hcl1 _ _ _ f3 (HF6.out (jn * 7 + 2) _ (accs_get' o.log jn 2 hjn (by omega)))
              have x3 := hcl1 _ _ _ f3 (HF6.out (jn * 7 + 3) _ (accs_get' o.log jn 3 hjn (by omega)))
              have x4 := hcl1 _ _ _ f3 (HF6.out (jn * 7 + 4) _ (accs_get' o.log jn 4 hjn (by omega)))
              have x5 := hcl1 _ _ _ f3 (HF6.out (jn * 7 + 5) _ (accs_get' o.log jn 5 hjn (by omega)))
              have x6 := hcl1 _ _ _ f3 (HF6.out (jn * 7 + 6) _ (accs_get' o.log jn 6 hjn (by omega)))
              have HBJ := Lib.hid (show jn = J → o.log[jn] = b from fun e => by subst e; have := HJ.out.1; rw [hBk] at this; exact Option.some.inj this)
              have HBN := Lib.hid (show J ≤ jn → o.log[jn].th ≠ ath from fun h => HJ.out.2.2.2.2 jn _ h (by omega) hBk)
              have hbkd := (HINV.out.log jn _ hBk).kd
              generalize o.log[jn] = y at *
              obtain ⟨ymv, yth, ykd, yad, yold, ynw, ysaw⟩ := y
              simp only [Nat.add_zero] at x0
              simp only at hbkd
              by_cases hth : yth = ath
              · have hfin : ov = true := by
                  cases ov
                  · exact absurd hth (HBN.out (by have := hov.out rfl; omega))
                  · rfl
                subst hfin hth
                clear hcl1 hBk hbkd
                as_aux_lemma =>
                go_wp2
                go_wp2
                refine wp_region_more_lit (by kernel_rfl) (by kernel_rfl) ?_
                repeat (first | go_big_quiet_skip | (go_big_quiet_want; go_big_quiet_op; first | go_big_quiet_on | (apply Exists.intro; refine ⟨fun _ => ?_, ?_⟩; (focus (fail)); go_big_quiet_on)))
                refine wpQuiet_nil ?_
                intro osq dq
                go_wp2
                go_roundg (o.log.length - (k + 1))
                case measure => omega
                case rel => exact ⟨k + 1, by omega, by omega, by go_num, Lib.hid (by repeat (first | exact HB1.out | apply Below.drew | apply Below.more1 | apply Below.alloc1))⟩
              · have hthd : (yth != ath) = true := by simpa using hth
                have hnj : (ykd = 1 ∨ (ykd = 3 ∧ (yad == aad) = false) ∨ (ykd = 3 ∧ (yad == aad) = true ∧ (ysaw == yold) = false)) ∨ (ykd = 3 ∧ (yad == aad) = true ∧ (ysaw == yold) = true) := by
                  rcases hbkd with ⟨h1, _⟩ | h1
                  · exact .inl (.inl h1)
                  · by_cases h2 : yad = aad
                    · by_cases h3 : ysaw = yold
                      · exact .inr ⟨h1, by simpa using h2, by simpa using h3⟩
                      · exact .inl (.inr (.inr ⟨h1, by simpa using h2, by simpa using h3⟩))
                    · exact .inl (.inr (.inl ⟨h1, by simpa using h2⟩))
                rcases hnj with hnj | ⟨rfl, h2, h3⟩
                · have HOV := Lib.hid (show ov = false → (J : Int) ≤ (jn : Int) - 1 from fun h => by
                    have h1 := hov.out h
                    by_cases hJ : jn = J
                    · exfalso
                      have hb := HBJ.out hJ
                      obtain ⟨_, q1, q2, q3, _⟩ := HJ.out
                      rw [← hb] at q1 q2 q3
                      simp only at q1 q2 q3
                      rcases hnj with h | ⟨_, h⟩ | ⟨_, _, h⟩
                      · omega
                      · simp [q2] at h
                      · simp [q3] at h
                    · omega)
                  clear hcl1 hBk hbkd hov HBN HBJ
                  rcases hnj with rfl | ⟨rfl, h2⟩ | ⟨rfl, h2, h3⟩
                  all_goals as_aux_lemma =>
                    go_wp2
                    go_wp2
                    refine wp_region_more_lit (by kernel_rfl) (by kernel_rfl) ?_
                    repeat (first | go_big_quiet_skip | (go_big_quiet_want; go_big_quiet_op; first | go_big_quiet_on | (apply Exists.intro; refine ⟨fun _ => ?_, ?_⟩; (focus (fail)); go_big_quiet_on)))
                    refine wpQuiet_nil ?_
                    intro osq dq
                    go_wp2
                    go_roundg jn
                    case measure => omega
                    case rel => exact ⟨(jn : Int) - 1, ov, by omega, by omega, by omega, rfl, by go_num, HOV, RowKit.Below.more (by repeat (first | exact Below.refl _ _ | apply Below.drew | apply Below.more1 | apply Below.alloc1))⟩
                · clear hcl1 hBk hbkd hov HBN HBJ
                  as_aux_lemma =>
                  go_wp2
                  go_wp2
                  refine wp_region_more_lit (by kernel_rfl) (by kernel_rfl) ?_
                  repeat (first | go_big_quiet_skip | (go_big_quiet_want; go_big_quiet_op; first | go_big_quiet_on | (apply Exists.intro; refine ⟨fun _ => ?_, ?_⟩; (focus (fail)); go_big_quiet_on)))
                  refine wpQuiet_nil ?_
                  intro osq dq
                  go_wp2
                  go_roundg jn
                  case measure => omega
                  case rel => exact ⟨(jn : Int) - 1, true, by omega, by omega, by omega, rfl, by go_num, Lib.hid (fun h => by cases h), RowKit.Below.more (by repeat (first | exact Below.refl _ _ | apply Below.drew | apply Below.more1 | apply Below.alloc1))⟩
    · obtain rfl : k = o.log.length := by omega
      have HB := hB
      clear hB hcl
      have hcase : decide (thr < 0) = true ∨ (decide (thr < 0) = false ∧ decide ((fitN th : Int) ≤ thr) = true) ∨ (decide (thr < 0) = false ∧ decide ((fitN th : Int) ≤ thr) = false ∧ decide ((60000 : Int) < (ms1.length : Int)) = true) ∨ (decide (thr < 0) = false ∧ decide ((fitN th : Int) ≤ thr) = false ∧ decide ((60000 : Int) < (ms1.length : Int)) = false) := by
        by_cases h1 : thr < 0
        · exact .inl (by simpa using h1)
        · by_cases h2 : (fitN th : Int) ≤ thr
          · exact .inr (.inl ⟨by simpa using h1, by simpa using h2⟩)
          · by_cases h3 : (60000 : Int) < (ms1.length : Int)
            · exact .inr (.inr (.inl ⟨by simpa using h1, by simpa using h2, by simpa using h3⟩))
            · exact .inr (.inr (.inr ⟨by simpa using h1, by simpa using h2, by simpa using h3⟩))
      rcases hcase with q1 | ⟨q1, q2⟩ | ⟨q1, q2, q3⟩ | ⟨q1, q2, q3⟩
      · as_aux_lemma =>
        go_wp2
        go_ret
        exact ⟨rfl, HL.out.be.trans (Below.mono (by repeat (first | exact HB.out | apply Below.drew | apply Below.more1 | apply Below.alloc1)) HL.out.be.size)⟩
      · as_aux_lemma =>
        go_wp2
        go_ret
        exact ⟨rfl, HL.out.be.trans (Below.mono (by repeat (first | exact HB.out | apply Below.drew | apply Below.more1 | apply Below.alloc1)) HL.out.be.size)⟩
      · as_aux_lemma =>
        go_wp2
        go_ret
        exact ⟨rfl, HL.out.be.trans (Below.mono (by repeat (first | exact HB.out | apply Below.drew | apply Below.more1 | apply Below.alloc1)) HL.out.be.size)⟩
      · have hthr0 : ¬ thr < 0 := by simpa using q1
        obtain ⟨tn, rfl⟩ : ∃ tn : Nat, thr = tn := ⟨thr.toNat, by omega⟩
        clear hthr0
        have htn : tn < fitN th := by
          have : ¬ ((fitN th : Int) ≤ (tn : Int)) := by simpa using q2
          omega
        have h60 : ms1.length ≤ 60000 := by
          have : ¬ ((60000 : Int) < (ms1.length : Int)) := by simpa using q3
          omega
        obtain ⟨i0, ii, iz0, iz1, iz2⟩ := info_parts infoMove
        have HII := Lib.hid ii
        have HZ0 := Lib.hid iz0
        have HZ1 := Lib.hid iz1
        have HZ2 := Lib.hid iz2
        have HFN := Lib.hid (fitN_ok th)
        have S1 := Lib.hid (mvsC_one ms1)
        have S2 := Lib.hid (show 0 + ms1.length ≤ maxLen by unfold maxLen; omega)
        have S3 := Lib.hid (show ((0 + ms1.length) + (0 + ms1.length) / 4 + 192) * 32 ≤ 281474976710656 by omega)
        have HSR : Hid (wr.Src 4 (.slice om ms1.length cm) ms1.length (mvsC ms1)) := Lib.hid (MvsIn.src (HL.out.mvs.of_block HB.out.block HB.out.size) HMN.out)
        clear ii iz0 iz1 iz2
        go_wp2_with (at_builtin; refine wpList_append_row _ rfl _ _ 22 rfl W.heap.size 34 i0 _ 4 32 Try.underlying22 HII.out HZ0.out HZ1.out HZ2.out rfl (.slice none 0 0) 0 [] rfl (World.RowV_none _ _ _ _ _) _ ms1.length (mvsC ms1) rfl HSR.out S1.out S2.out S3.out (by have := HB.out.size; omega) ?_; intro v' w5 hown hout; obtain ⟨o5, c5, rfl, hn5, hm5⟩ := hown.form; simp only [Nat.zero_add, List.nil_append] at hown; have HN5 := Lib.hid hown; have HB5 : Hid (Below W.heap.size W w5) := Lib.hid (HB.out.trans (Below.mono (Only.below (Only.out (F := fun _ => False) hout (by simp [Value.rowBlock])) (fun _ h => h.elim) (Nat.le_refl _)) HB.out.size)); clear hown hout)
        have T1 := Lib.hid (mvsC_one [oneMv tn])
        go_loopg [12, 13] 3 (fun gh s12 s13 wx => ∃ (q : Nat) (ov : Option Addr) (cv : Nat), q ≤ 3 ∧ 3 ≤ q + gh ∧ s12 = .slice ov (ms1.length + q) cv ∧ s13 = .int .i64 (q : Int) ∧ ms1.length + q ≤ cv ∧ cv ≤ maxLen ∧
          Hid (Below W.heap.size W wx) ∧ Hid (wx.RowV W.heap.size 34 4 (.slice ov (ms1.length + q) cv) (ms1.length + q) (mvsC (ms1 ++ List.replicate q (oneMv tn)))))
        case atStart => exact ⟨0, o5, c5, by omega, by omega, rfl, by go_num, by simpa using hn5, hm5, HB5, Lib.hid (by simpa using HN5.out)⟩
        case round =>
          obtain ⟨q, ov, cv, hq1, hq2, rfl, rfl, hcv1, hcv2, hBx, hNx⟩ := hrel
          by_cases hq3 : q < 3
          · have S5 := Lib.hid (show (ms1.length + q) + 1 ≤ maxLen by unfold maxLen; omega)
            have S6 := Lib.hid (show (((ms1.length + q) + 1) + ((ms1.length + q) + 1) / 4 + 192) * 32 ≤ 281474976710656 by omega)
            have HRP := Lib.hid (show mvsC (ms1 ++ List.replicate q (oneMv tn)) ++ [.int .i64 (tn : Int), .int .i64 0, .int .i64 0, .int .i64 0] = mvsC (ms1 ++ List.replicate (q + 1) (oneMv tn)) by
              rw [List.replicate_succ', ← List.append_assoc, mvsC_app _ [oneMv tn]]; rfl)
            have hBx2 := hBx
            have hNx2 := hNx
            clear hBx hNx HN5 HB5
            go_wp2_with (at_builtin; go_must (refine wpList_append_row _ rfl _ _ 22 rfl W.heap.size 34 i0 _ 4 32 Try.underlying22 HII.out HZ0.out HZ1.out HZ2.out rfl (.slice ov (ms1.length + q) cv) (ms1.length + q) _ rfl (by repeat (first | exact hNx2.out | apply World.RowV.more | apply World.RowV.alloc)) _ 1 _ rfl (World.Src.one rfl rfl) T1.out S5.out S6.out (by have := hBx2.out.size; simp; omega) ?_; intro v' w6 hown hout; obtain ⟨o6, c6, rfl, hn6, hm6⟩ := hown.form; have HN6 := Lib.hid hown; have HB6 : Hid (Below W.heap.size W w6) := Lib.hid (Only.below (F := fun k => (Value.slice ov (ms1.length + q) cv).rowBlock = some k) (Only.trans (Only.alloc (Only.of_below hBx2.out) _) (Only.out hout (fun k hk => hk)) (fun i hi => .inl hi)) (fun k hk => (hNx2.out.lt k hk).1) (Nat.le_refl _)); clear hown hout))
            go_roundg (3 - (q + 1))
            case measure => omega
            case rel => exact ⟨q + 1, o6, c6, by omega, by omega, by rw [Nat.add_assoc], by go_num, by omega, hm6, HB6, Lib.hid (by rw [← HRP.out, ← Nat.add_assoc]; exact HN6.out)⟩
          · obtain rfl : q = 3 := by omega
            have hA3 : ms1 ++ List.replicate 3 (oneMv tn) = alone3 ms1 tn := rfl
            have hlA : (alone3 ms1 tn).length = ms1.length + 3 := by simp [alone3]
            rw [hA3] at hNx
            obtain ⟨O3, hO3⟩ : ∃ O3, O3 = osOf l1 (fitN th) (alone3 ms1 tn) := ⟨_, rfl⟩
            have HC3 : Hid (O3.calls.length ≤ 65536) := Lib.hid (by rw [hO3]; exact calls_le _ _ _ (by omega))
            have HEN3 : Hid (∀ (ci : Nat) (c : Cal), O3.calls[ci]? = some c → c.th = (tn : Int) → 0 ≤ c.en) := Lib.hid (by rw [hO3]; exact alone_ends l1 (fitN th) ms1 h60 tn htn)
            have HPL3 : Hid (∀ Wp : World, Only (fun _ => False) wr Wp → Calls Try.prog 21 #[.int .i64 (fitN th : Int), .slice ox l1.length cx, .slice ov (ms1.length + 3) cv] Wp (fun e w' => ∃ x : RunVs, e = .returned (.tuple #[x.v, .int .i64 0]) ∧ RunAt w' Wp.heap.size x ⟨O3.calls, O3.log, [], O3.words⟩ ∧ Only (fun _ => False) Wp w')) := Lib.hid (fun Wp hWp => by
              have hsx : Wp.Src 1 (.slice ox l1.length cx) l1.length (u64s l1) := (HL.out.src.below hBx.out).only hWp
              have hmx : MvsIn Wp (.slice ov (ms1.length + 3) cv) (alone3 ms1 tn) := (MvsIn.of_row (by rw [hlA]; exact hNx.out)).only hWp
              have := play_ok (w := Wp) (fitN th) hsx (by omega) hmx (by omega) HFN.out.1 HFN.out.2
              unfold PlayRes at this
              rw [own_os, ← hO3] at this
              exact this)
            have d0 := (hBx.out.cell (p := ⟨Bs, 0, none⟩) sl).trans s0
            have d1 := (hBx.out.cell (p := ⟨Bs, 1, none⟩) sl).trans s1
            have e0 := (hBx.out.cell (p := ⟨Br, 0, none⟩) rl).trans r0
            have e1 := (hBx.out.cell (p := ⟨Br, 1, none⟩) rl).trans r1
            have e2 := (hBx.out.cell (p := ⟨Br, 2, none⟩) rl).trans r2
            have e3 := (hBx.out.cell (p := ⟨Br, 3, none⟩) rl).trans r3
            have hbk : wr.heap[Br]? = _ := (hBx.out.block Br rl).trans HL.out.rbx
            have z0 : wr.frozen? ⟨Br, 0, none⟩ = false := by simp [World.frozen?, hbk]
            have z1 : wr.frozen? ⟨Br, 1, none⟩ = false := by simp [World.frozen?, hbk]
            have z2 : wr.frozen? ⟨Br, 2, none⟩ = false := by simp [World.frozen?, hbk]
            have z3 : wr.frozen? ⟨Br, 3, none⟩ = false := by simp [World.frozen?, hbk]
            have HBK := Lib.hid hbk
            have lBs := Nat.lt_of_lt_of_le sl hBx.out.size
            have lBr := Nat.lt_of_lt_of_le rl hBx.out.size
            have hBx2 := hBx
            clear hbk
            clear hO3 hA3 hNx hBx HN5 HB5
            go_wp2_with (go_at_call 21; refine (HPL3.out _ (Below.only0 (by repeat (first | exact Below.refl _ _ | apply Below.drew | apply Below.more1 | apply Below.alloc1 | (refine Below.setCell ?_ (by first | exact Nat.le_refl _ | (simp; done) | (simp; omega)) _))))).mono ?_; rintro e w1 ⟨⟨va, vt, vb, vc⟩, he, hra, ho⟩; obtain ⟨oa3, ca3, e1, a1, a2⟩ := hra.wa.form; obtain ⟨ot3, ct3, e2, _, _⟩ := hra.wt.form; obtain ⟨ob3, cb3, e3, _, _⟩ := hra.wb.form; obtain ⟨oc3, cc3, e4, _, _⟩ := hra.wc.form; simp only [List.length_nil] at e1 e2 e3 e4; subst e1; subst e2; subst e3; subst e4; (unfold RunVs.v at he); subst he; have HRA := Lib.hid hra; clear hra; obtain ⟨os, d, rfl⟩ := (Only.below ho (fun _ h => h.elim) (Nat.le_refl _)).more; clear ho)
            refine gen_world ?_
            intro W2 hW2
            have hk2 : ∀ k, k ≠ Br → W2.heap[k]? = (wr.more os d).heap[k]? := by
              intro k hk
              rw [hW2]
              by_cases hl : k < wr.heap.size
              · rw [World.heap_more _ _ _ _ (by simpa using hl), World.heap_more _ _ _ _ hl]
                repeat rw [Below.heap_setCell _ _ _ _ hk]
              · rw [World.heap_more_ge _ _ _ _ (by simp; omega), World.heap_more_ge _ _ _ _ (by omega)]
                simp
            have hR3 : W2.RowV wr.heap.size 63 9 (.slice oa3 O3.calls.length ca3) O3.calls.length (cals O3.calls) := HRA.out.wa.of_block fun k hk => hk2 k (by have := (HRA.out.wa.lt k hk).1; omega)
            have HR3 := Lib.hid hR3
            have e0' : W2.cell? ⟨Br, 0, none⟩ = some (.slice oa3 O3.calls.length ca3) := by
              rw [hW2]
              rw [World.cell?_of_block (w := ((((wr.setCell ⟨Br, 0, none⟩ (.slice oa3 O3.calls.length ca3)).setCell ⟨Br, 1, none⟩ (.slice ot3 O3.log.length ct3)).setCell ⟨Br, 2, none⟩ (.slice ob3 0 cb3)).setCell ⟨Br, 3, none⟩ (.slice oc3 O3.words.length cc3))) (World.heap_more _ _ _ _ (by simpa using lBr))]
              simp [World.cell?, World.setCell, Array.getElem?_modify, HBK.out]
            have l2 : Br < W2.heap.size := by rw [hW2]; simp [World.size_more]; omega
            have HB2 : Hid (Below w.heap.size w W2) := Lib.hid (by
              have h1 : Below w.heap.size w wr := HL.out.be.trans (Below.mono hBx2.out HL.out.be.size)
              rw [hW2]
              apply Below.more1
              repeat (first | exact h1 | (refine Below.setCell ?_ HBrw.out _)))
            clear hW2 hk2 hR3 HRA HBK z0 z1 z2 z3 e0 e1 e2 e3 d0 d1 lBs lBr hBx2 HPL3
            have HC3x := HC3.out
            go_wp2
            go_loopg [125] O3.calls.length (fun gh s125 wx => ∃ j : Nat, j ≤ O3.calls.length ∧ O3.calls.length ≤ j + gh ∧ s125 = .int .i64 (j : Int) ∧ ∃ os d, wx = W2.more os d)
            case atStart => exact ⟨0, by omega, by omega, by go_num, RowKit.Below.more (Below.refl _ _)⟩
            case round =>
              obtain ⟨j, hj1, hj2, rfl, os4, dd4, rfl⟩ := hrel
              by_cases hjl : j < O3.calls.length
              · have hAj : O3.calls[j]? = some O3.calls[j] := List.getElem?_eq_getElem hjl
                have hen := HEN3.out j _ hAj
                obtain ⟨gc, ccap, e, f1, f2, f3, f4, f5, f6⟩ := HR3.out.some_form (show 0 < O3.calls.length by omega)
                cases e
                have c0 := f6 (j * 9 + 0) _ (cals_get O3.calls j 0 hjl (by omega))
                have c1 := f6 (j * 9 + 1) _ (cals_get O3.calls j 1 hjl (by omega))
                have c2 := f6 (j * 9 + 2) _ (cals_get O3.calls j 2 hjl (by omega))
                have c3 := f6 (j * 9 + 3) _ (cals_get O3.calls j 3 hjl (by omega))
                have c4 := f6 (j * 9 + 4) _ (cals_get O3.calls j 4 hjl (by omega))
                have c5 := f6 (j * 9 + 5) _ (cals_get O3.calls j 5 hjl (by omega))
                have c6 := f6 (j * 9 + 6) _ (cals_get O3.calls j 6 hjl (by omega))
                have c7 := f6 (j * 9 + 7) _ (cals_get O3.calls j 7 hjl (by omega))
                have c8 := f6 (j * 9 + 8) _ (cals_get O3.calls j 8 hjl (by omega))
                generalize O3.calls[j] = cc at *
                simp only [Nat.add_zero] at c0
                have hcs : (cc.th == (tn : Int)) = false ∨ ((cc.th == (tn : Int)) = true ∧ decide (cc.en < 0) = false) := by
                  by_cases ht : cc.th = (tn : Int)
                  · exact .inr ⟨by simpa using ht, by simpa using hen ht⟩
                  · exact .inl (by simpa using ht)
                clear hAj hen f1 f2 f4 f5 f6
                rcases hcs with q5 | ⟨q5, q6⟩
                all_goals as_aux_lemma =>
                  go_wp2
                  go_roundg (O3.calls.length - (j + 1))
                  case measure => omega
                  case rel => exact ⟨j + 1, by omega, by omega, by go_num, RowKit.Below.more (by repeat (first | exact Below.refl _ _ | apply Below.drew | apply Below.more1 | apply Below.alloc1))⟩
              · obtain rfl : j = O3.calls.length := by omega
                go_wp2
                go_ret
                exact ⟨rfl, by repeat (first | exact HB2.out | apply Below.drew | apply Below.more1 | apply Below.alloc1)⟩
end Go.Proofs.Ytbhbpfpggfcpgaa
