/-
MachineBegins returns true.
-/
import Derived.Test.YtbhbpfpggfcpgaaMvl
import Derived.Test.YtbhbpfpggfcpgaaBgp
import Derived.Test.YtbhbpfpggfcpgaaPln
namespace Go.Proofs.Ytbhbpfpggfcpgaa
open Go.ChangeShapes Go.WideShapes Go.ChangeAt Go.RowKit Go.Shelf

/-- a run's box and its rows, behind the making of it -/
structure PartAt (W w : World) (b : Nat) (x : RunVs) (r : RunS) : Prop where
  box : w.heap[b]? = some (.cells #[x.va, x.vt, x.vb, x.vc] 41 (0, 0))
  run : RunAt w W.heap.size x r
  on : Only (fun _ => False) W w
theorem PartAt.ofA {W : World} {Z0 : Obj} {os : Array Obj} {d : Nat} {x : RunVs} {r : RunS} (h : RunAt ((W.alloc Z0).drew.more os d) (W.alloc Z0).drew.heap.size x r) :
    PartAt W ((W.alloc (.cells #[x.va, x.vt, x.vb, x.vc] 41)).drew.more os d) W.heap.size x r := by
  have hs : (W.alloc Z0).drew.heap.size = W.heap.size + 1 := World.size_alloc _ _
  have hs2 : (W.alloc (.cells #[x.va, x.vt, x.vb, x.vc] 41)).drew.heap.size = W.heap.size + 1 := World.size_alloc _ _
  refine ⟨?_, ?_, by repeat (first | exact Only.refl _ _ | apply Only.alloc | apply Only.drew | apply Only.more)⟩
  · rw [World.heap_more _ _ _ _ (by omega)]
    exact heap_alloc_new W _
  · refine (h.of_block fun k hk => ?_).base_mono (by omega)
    have := (h.lt k hk).1
    rw [World.heap_more_ge _ _ _ _ (by omega), World.heap_more_ge _ _ _ _ (by omega), hs, hs2]
theorem PartAt.ofB {W : World} {os : Array Obj} {d : Nat} {x : RunVs} {r : RunS} (h : RunAt (W.drew.more os d) W.drew.heap.size x r) :
    PartAt W ((W.drew.more os d).alloc (.cells #[x.va, x.vt, x.vb, x.vc] 41)) (W.heap.size + os.size) x r := by
  refine ⟨?_, h.of_block fun k hk => Below.heap_alloc _ _ _ (h.lt k hk).2, by repeat (first | exact Only.refl _ _ | apply Only.alloc | apply Only.drew | apply Only.more)⟩
  exact heap_alloc_at (by rw [World.size_more]; rfl)

set_option maxRecDepth 100000 in
set_option maxHeartbeats 4000000 in
theorem begins_walk {w : World} {v : Value} {th : Int} {l : List Int} {ms : List Mv} {ox : Option Addr} {cx : Nat} {om : Option Addr} {cm : Nat} (h : ScrIn w v th l ms ox cx om cm) (up : Int) : Calls Try.prog 9 #[v, .int .i64 up] w fun e w' => e = .returned (.bool true) ∧ Below w.heap.size w w' := by
  have HSI := Lib.hid h
  obtain ⟨rfl, hs0, hm0, hx0, hy0⟩ := h
  obtain ⟨l1, hl1⟩ : ∃ l1, l1 = l.take 8192 := ⟨_, rfl⟩
  obtain ⟨ms1, hms1⟩ : ∃ ms1, ms1 = ms.take 65536 := ⟨_, rfl⟩
  obtain ⟨o, ho⟩ : ∃ o, o = osOf l1 (fitN th) ms1 := ⟨_, rfl⟩
  have hml : ms1.length ≤ 65536 := by rw [hms1]; simp; omega
  have HINV : Hid (OS.Inv l1 (fitN th) ms1 o) := Lib.hid (by rw [ho]; exact inv_of _ _ _ hml)
  have HCL : Hid (o.calls.length ≤ 65536) := Lib.hid (by rw [ho]; exact calls_le _ _ _ hml)
  have HLL : Hid (o.log.length ≤ 65536) := Lib.hid (by rw [ho]; exact log_le _ _ _ hml)
  have HWL : Hid (o.words.length = l1.length) := Lib.hid HINV.out.wlen
  have hR : ownRun l1 (fitN th) ms1 = ⟨o.calls, o.log, [], o.words⟩ := by rw [ho]; exact own_os _ _ _
  have HPL : Hid (∀ S0 : Obj, Calls Try.prog 27 #[.agg #[.int .i64 th, .slice ox l.length cx, .slice om ms.length cm]] (w.alloc S0) (fun e w' => ∃ x : RunVs, e = .returned (.tuple #[.agg #[.int .i64 (fitN th : Int), .slice ox l1.length cx, .slice om ms1.length cm], x.v, .bool true]) ∧ RunAt w' (w.alloc S0).heap.size x ⟨o.calls, o.log, [], o.words⟩ ∧ Only (fun _ => False) (w.alloc S0) w')) := Lib.hid (fun S0 => by
    rw [← hR, hl1, hms1]
    exact played_ok ⟨rfl, hs0.alloc _, hm0.only ((Only.refl _ _).alloc _), hx0, hy0⟩)
  have hs1 : w.Src 1 (.slice ox l1.length cx) l1.length (u64s l1) := by
    have := hs0.take hx0.2.2 8192
    rw [show min l.length 8192 = (l.take 8192).length by simp; omega, ← hl1] at this
    exact this
  have hm1 : MvsIn w (.slice om ms1.length cm) ms1 := by
    have := hm0.take 65536
    rw [show min ms.length 65536 = (ms.take 65536).length by simp; omega, ← hms1] at this
    exact this
  have hll : l1.length ≤ 8192 := by rw [hl1]; simp; omega
  have HS1 := Lib.hid hs1
  have HM1 := Lib.hid hm1
  have HO := Lib.hid ho
  have HMN := Lib.hid hy0.2
  have HMC := Lib.hid (show ms1.length ≤ cm by have := hy0.1; rw [hms1]; simp; omega)
  clear hs0 hm0 hx0 hy0 hl1 hms1 hs1 hm1 HSI hR ho
  go_enter Try.func9, Try.ntmps9
  go_upto_region 2 with (go_at_call 27; refine (HPL.out _).mono ?_; rintro e w1 ⟨⟨va, vt, vb, vc⟩, he, hra, ho⟩; obtain ⟨oa, ca, e1, a1, a2⟩ := hra.wa.form; obtain ⟨ot, ct, e2, t1, t2⟩ := hra.wt.form; obtain ⟨ob, cb, e3, _, _⟩ := hra.wb.form; obtain ⟨oc, cc, e4, c1, c2⟩ := hra.wc.form; simp only [List.length_nil] at e1 e2 e3 e4; rw [HWL.out] at e4; subst e1; subst e2; subst e3; subst e4; (unfold RunVs.v at he); subst he; have HRA := Lib.hid hra; clear hra; obtain ⟨os, d, rfl⟩ := (Only.below ho (fun _ h => h.elim) (Nat.le_refl _)).more; clear ho)
  refine gen_world ?_
  intro W hW
  have HL : Hid (LawW w W w.heap.size (w.heap.size + 1 + os.size) (fitN th) l1 ms1 ox cx om cm ⟨.slice oa o.calls.length ca, .slice ot o.log.length ct, .slice ob 0 cb, .slice oc l1.length cc⟩ ⟨o.calls, o.log, [], o.words⟩) := Lib.hid (by
    rw [hW]; exact LawW.of HRA.out HS1.out HM1.out)
  obtain ⟨Br, hBr⟩ : ∃ Br, Br = w.heap.size + 1 + os.size := ⟨_, rfl⟩
  obtain ⟨Bs, hBs⟩ : ∃ Bs, Bs = w.heap.size := ⟨_, rfl⟩
  rw [← hBr, ← hBs] at HL ⊢
  clear hW HRA hBr hBs HS1 HM1 HPL
  obtain ⟨s0, s1, s2, sl⟩ := HL.out.scells
  obtain ⟨r0, r1, r2, r3, rl⟩ := HL.out.rcells
  simp only at r0 r1 r2 r3
  have HML := Lib.hid hml
  have HFN := Lib.hid (fitN_ok th)
  have hmx := HMN.out.1
  have hmn := HMC.out
  unfold maxLen at hmx
  go_upto_region 4 with (fail)
  go_cut [29] from 21 to 29 (fun s29 wx => s29 = .bool (decide (up < 0) || decide ((ms1.length : Int) < up)) ∧ W = wx)
  case first =>
    have hcase : decide (up < 0) = true ∨ (decide (up < 0) = false ∧ decide ((ms1.length : Int) < up) = true) ∨ (decide (up < 0) = false ∧ decide ((ms1.length : Int) < up) = false) := by
      by_cases h1 : up < 0
      · exact .inl (by simpa using h1)
      · by_cases h2 : (ms1.length : Int) < up
        · exact .inr (.inl ⟨by simpa using h1, by simpa using h2⟩)
        · exact .inr (.inr ⟨by simpa using h1, by simpa using h2⟩)
    rcases hcase with q1 | ⟨q1, q2⟩ | ⟨q1, q2⟩
    · go_wp2
      go_meet
      exact ⟨by rw [q1]; rfl, rfl⟩
    · go_wp2
      go_meet
      exact ⟨by rw [q1, q2]; rfl, rfl⟩
    · go_wp2
      go_meet
      exact ⟨by rw [q1, q2]; rfl, rfl⟩
  case rest =>
  obtain ⟨rfl, rfl⟩ := hcut
  obtain ⟨bb, hbb⟩ : ∃ bb, (decide (up < 0) || decide ((ms1.length : Int) < up)) = bb := ⟨_, rfl⟩
  rw [hbb]
  go_upto_if 29 with (fail)
  go_cut [1] from 30 to 33 (fun s1 wx => ∃ u : Nat, s1 = .int .i64 (u : Int) ∧ u ≤ ms1.length ∧ W = wx)
  case first =>
    cases bb
    · go_wp2
      go_meet
      simp only [Bool.or_eq_false_iff, decide_eq_false_iff_not] at hbb
      exact ⟨up.toNat, by rw [show ((up.toNat : Nat) : Int) = up by omega], by omega, rfl⟩
    · go_wp2
      go_meet
      exact ⟨ms1.length / 2, by go_num, by omega, rfl⟩
  case rest =>
    obtain ⟨u, rfl, hu, rfl⟩ := hcut
    clear hbb
    obtain ⟨O2, hO2⟩ : ∃ O2, O2 = osOf l1 (fitN th) (ms1.take u) := ⟨_, rfl⟩
    have hC2 : O2.calls.length ≤ 65536 := by rw [hO2]; exact calls_le _ _ _ (by simp; omega)
    have hL2 : O2.log.length ≤ 65536 := by rw [hO2]; exact log_le _ _ _ (by simp; omega)
    have hLE := begins_len l1 (fitN th) ms1 hml u hu
    have HBC := Lib.hid (begins_call l1 (fitN th) ms1 hml u hu)
    have HBA := Lib.hid (begins_acc l1 (fitN th) ms1 hml u hu)
    rw [← HO.out, ← hO2] at hLE HBC HBA
    have HPL2 : Hid (∀ Wp : World, Only (fun _ => False) W Wp → Calls Try.prog 21 #[.int .i64 (fitN th : Int), .slice ox l1.length cx, .slice om u cm] Wp (fun e w' => ∃ x : RunVs, e = .returned (.tuple #[x.v, .int .i64 0]) ∧ RunAt w' Wp.heap.size x ⟨O2.calls, O2.log, [], O2.words⟩ ∧ Only (fun _ => False) Wp w')) := Lib.hid (fun Wp hWp => by
      have hsx : Wp.Src 1 (.slice ox l1.length cx) l1.length (u64s l1) := HL.out.src.only hWp
      have hmx : MvsIn Wp (.slice om u cm) (ms1.take u) := by
        have := (HL.out.mvs.only hWp).take u
        rwa [show min ms1.length u = u by omega] at this
      have := play_ok (w := Wp) (fitN th) hsx (by omega) hmx (by simp; omega) HFN.out.1 HFN.out.2
      unfold PlayRes at this
      rw [own_os, ← hO2] at this
      exact this)
    clear hO2
    have hud : decide ((u : Int) ≤ (cm : Int)) = true := by simp; omega
    have f0 := fun g : LaterF (fun _ => False) W => g.cell s0 sl (fun x => x)
    have f1 := fun g : LaterF (fun _ => False) W => g.cell s1 sl (fun x => x)
    have f2 := fun g : LaterF (fun _ => False) W => g.cell s2 sl (fun x => x)
    go_upto_region 6 with (fail)
    go_cut [7, 8] from 7 to 45 (fun s7 s8 wx => ∃ (b7 : Nat) (x : RunVs), s7 = .pointer (some ⟨b7, 0, none⟩) ∧ s8 = .int .i64 0 ∧ Hid (PartAt W wx b7 x ⟨O2.calls, O2.log, [], O2.words⟩))
    case first =>
      go_wp2
      refine wp_region_plan (fun wz => ∃ g : LaterF (fun _ => False) W, wz = g.W) [8, 12, 13] [0, 1, 2, 3, 4, 5, 6, 7] (.fork 8 [9, 10, 11] (.fork 12 [] (.fork 13 [] (.tail 14) .none) .none) (.fork 12 [] (.fork 8 [9, 10, 11] (.fork 13 [] (.tail 14) .none) .none) .none)) oper0 (by kernel_rfl) (by kernel_rfl) (laterF_in (Only.refl _ _).drew) ?_
      simp only [wpPlan, List.map_cons, List.map_nil, List.getD_cons_zero, List.getD_cons_succ, List.drop_succ_cons, List.drop_zero]
      repeat (first | go_big_quiet_skip | (go_big_quiet_want; go_big_quiet_op; go_big_quiet_on))
      refine wpQuiet_nil ?_
      refine ⟨?_, ?_, trivial⟩
      ·
        go_wp2_with (go_at_call 21; refine (HPL2.out _ (by repeat (first | exact Only.refl _ _ | apply Only.alloc | apply Only.drew | apply Only.more))).mono ?_; rintro e w1 ⟨⟨va, vt, vb, vc⟩, he, hra, ho⟩; obtain ⟨oa3, ca3, e1, _, _⟩ := hra.wa.form; obtain ⟨ot3, ct3, e2, _, _⟩ := hra.wt.form; obtain ⟨ob3, cb3, e3, _, _⟩ := hra.wb.form; obtain ⟨oc3, cc3, e4, _, _⟩ := hra.wc.form; simp only [List.length_nil] at e1 e2 e3 e4; subst e1; subst e2; subst e3; subst e4; (unfold RunVs.v at he); subst he; have HRA := Lib.hid hra; clear hra; obtain ⟨os, d, rfl⟩ := (Only.below ho (fun _ h => h.elim) (Nat.le_refl _)).more; clear ho)
        refine strict_on ?_
        refine ⟨?_, ?_⟩
        · exact laterF_in (by repeat (first | exact Only.refl _ _ | apply Only.alloc | apply Only.drew | apply Only.more | (refine Only.set ?_ (.inr (by simp [World.size_more] <;> omega)) _)))
        repeat (first | go_big_quiet_skip | (go_big_quiet_want; go_big_quiet_op; go_big_quiet_on))
        refine wpQuiet_nil ?_
        refine ⟨?_, trivial⟩
        go_wp2_with fail
        refine strict_on ?_
        refine ⟨?_, ?_⟩
        · exact laterF_in (by repeat (first | exact Only.refl _ _ | apply Only.alloc | apply Only.drew | apply Only.more | (refine Only.set ?_ (.inr (by simp [World.size_more] <;> omega)) _)))
        repeat (first | go_big_quiet_skip | (go_big_quiet_want; go_big_quiet_op; go_big_quiet_on))
        refine wpQuiet_nil ?_
        refine ⟨?_, trivial⟩
        go_wp2_with fail
        refine strict_on ?_
        refine ⟨?_, ?_⟩
        · exact laterF_in (by repeat (first | exact Only.refl _ _ | apply Only.alloc | apply Only.drew | apply Only.more | (refine Only.set ?_ (.inr (by simp [World.size_more] <;> omega)) _)))
        repeat (first | go_big_quiet_skip | (go_big_quiet_want; go_big_quiet_op; go_big_quiet_on))
        refine wpQuiet_nil ?_
        go_wp2
        go_meet
        exact ⟨_, ⟨_, _, _, _⟩, rfl, rfl, Lib.hid (PartAt.ofB HRA.out)⟩
      ·
        go_wp2_with fail
        refine strict_on ?_
        refine ⟨?_, ?_⟩
        · exact laterF_in (by repeat (first | exact Only.refl _ _ | apply Only.alloc | apply Only.drew | apply Only.more | (refine Only.set ?_ (.inr (by simp [World.size_more] <;> omega)) _)))
        repeat (first | go_big_quiet_skip | (go_big_quiet_want; go_big_quiet_op; go_big_quiet_on))
        refine wpQuiet_nil ?_
        refine ⟨?_, trivial⟩
        go_wp2_with (go_at_call 21; refine (HPL2.out _ (by repeat (first | exact Only.refl _ _ | apply Only.alloc | apply Only.drew | apply Only.more))).mono ?_; rintro e w1 ⟨⟨va, vt, vb, vc⟩, he, hra, ho⟩; obtain ⟨oa3, ca3, e1, _, _⟩ := hra.wa.form; obtain ⟨ot3, ct3, e2, _, _⟩ := hra.wt.form; obtain ⟨ob3, cb3, e3, _, _⟩ := hra.wb.form; obtain ⟨oc3, cc3, e4, _, _⟩ := hra.wc.form; simp only [List.length_nil] at e1 e2 e3 e4; subst e1; subst e2; subst e3; subst e4; (unfold RunVs.v at he); subst he; have HRA := Lib.hid hra; clear hra; obtain ⟨os, d, rfl⟩ := (Only.below ho (fun _ h => h.elim) (Nat.le_refl _)).more; clear ho)
        refine strict_on ?_
        refine ⟨?_, ?_⟩
        · exact laterF_in (by repeat (first | exact Only.refl _ _ | apply Only.alloc | apply Only.drew | apply Only.more | (refine Only.set ?_ (.inr (by simp [World.size_more] <;> omega)) _)))
        repeat (first | go_big_quiet_skip | (go_big_quiet_want; go_big_quiet_op; go_big_quiet_on))
        refine wpQuiet_nil ?_
        refine ⟨?_, trivial⟩
        go_wp2_with fail
        refine strict_on ?_
        refine ⟨?_, ?_⟩
        · exact laterF_in (by repeat (first | exact Only.refl _ _ | apply Only.alloc | apply Only.drew | apply Only.more | (refine Only.set ?_ (.inr (by simp [World.size_more] <;> omega)) _)))
        repeat (first | go_big_quiet_skip | (go_big_quiet_want; go_big_quiet_op; go_big_quiet_on))
        refine wpQuiet_nil ?_
        go_wp2
        go_meet
        exact ⟨_, ⟨_, _, _, _⟩, rfl, rfl, Lib.hid (PartAt.ofA HRA.out)⟩
    case rest =>
      obtain ⟨b7, ⟨va, vt, vb, vc⟩, rfl, rfl, HP⟩ := hcut
      obtain ⟨oa3, ca3, e1, a3, a4⟩ := HP.out.run.wa.form
      obtain ⟨ot3, ct3, e2, t3, t4⟩ := HP.out.run.wt.form
      obtain ⟨ob3, cb3, e3, _, _⟩ := HP.out.run.wb.form
      obtain ⟨oc3, cc3, e4, _, _⟩ := HP.out.run.wc.form
      simp only [List.length_nil] at e1 e2 e3 e4
      subst e1 e2 e3 e4
      have hBc : Below W.heap.size W wc := Only.below HP.out.on (fun _ h => h.elim) (Nat.le_refl _)
      have HBC2 := Lib.hid hBc
      have bx := HP.out.box
      simp only at bx
      have p0 : wc.cell? ⟨b7, 0, none⟩ = some (.slice oa3 O2.calls.length ca3) := by simp [World.cell?, bx]
      have p1 : wc.cell? ⟨b7, 1, none⟩ = some (.slice ot3 O2.log.length ct3) := by simp [World.cell?, bx]
      have lb7 := (Array.getElem?_eq_some_iff.1 bx).1
      have e0 := (hBc.cell (p := ⟨Br, 0, none⟩) rl).trans r0
      have e1 := (hBc.cell (p := ⟨Br, 1, none⟩) rl).trans r1
      have lBr := Nat.lt_of_lt_of_le rl hBc.size
      have q1 : decide ((o.calls.length : Int) < (O2.calls.length : Int)) = false := by simp; omega
      have q2 : decide ((o.log.length : Int) < (O2.log.length : Int)) = false := by simp; omega
      have q3 : decide (o.calls.length < O2.calls.length) = false := by simp; omega
      have q4 : decide (o.log.length < O2.log.length) = false := by simp; omega
      have hc16 := HCL.out
      have hl16 := HLL.out
      unfold maxLen at a2 t2 a4 t4
      clear f0 f1 f2 bx hBc HPL2 hud
      go_wp2
      go_loopg [69] o.calls.length (fun gh s69 wx => ∃ j : Nat, j ≤ o.calls.length ∧ o.calls.length ≤ j + gh ∧ s69 = .int .i64 (j : Int) ∧ ∃ os d, wx = wc.more os d)
      case atStart => exact ⟨0, by omega, by omega, by go_num, RowKit.Below.more (Below.refl _ _)⟩
      case round =>
        obtain ⟨j, hj1, hj2, rfl, os4, dd4, rfl⟩ := hrel
        by_cases hjl : j < o.calls.length
        · have hAj : o.calls[j]? = some o.calls[j] := List.getElem?_eq_getElem hjl
          have hcs := HBC.out j _ hAj
          obtain ⟨gc, ccap, e, f1, f2, f3, f4, f5, f6⟩ := HL.out.run.wa.some_form (show 0 < o.calls.length by omega)
          cases e
          have hce : ∀ (b p : Nat) (v : Value), b < W.heap.size → W.cell? ⟨b, p, none⟩ = some v → wc.cell? ⟨b, p, none⟩ = some v := fun b p v hb hc => (HBC2.out.cell (p := ⟨b, p, none⟩) hb).trans hc
          have c0 := hce _ _ _ f3 (f6 (j * 9 + 0) _ (cals_get o.calls j 0 hjl (by omega)))
          have c1 := hce _ _ _ f3 (f6 (j * 9 + 1) _ (cals_get o.calls j 1 hjl (by omega)))
          have c2 := hce _ _ _ f3 (f6 (j * 9 + 2) _ (cals_get o.calls j 2 hjl (by omega)))
          have c3 := hce _ _ _ f3 (f6 (j * 9 + 3) _ (cals_get o.calls j 3 hjl (by omega)))
          have c4 := hce _ _ _ f3 (f6 (j * 9 + 4) _ (cals_get o.calls j 4 hjl (by omega)))
          have c5 := hce _ _ _ f3 (f6 (j * 9 + 5) _ (cals_get o.calls j 5 hjl (by omega)))
          have c6 := hce _ _ _ f3 (f6 (j * 9 + 6) _ (cals_get o.calls j 6 hjl (by omega)))
          have c7 := hce _ _ _ f3 (f6 (j * 9 + 7) _ (cals_get o.calls j 7 hjl (by omega)))
          have c8 := hce _ _ _ f3 (f6 (j * 9 + 8) _ (cals_get o.calls j 8 hjl (by omega)))
          have lgc := Nat.lt_of_lt_of_le f3 HBC2.out.size
          generalize o.calls[j] = cc at *
          obtain ⟨cth, cop, carg, cdata, cbeg, cen, cpt, cak, cav⟩ := cc
          simp only [Nat.add_zero] at c0 hcs
          clear hAj f1 f2 f4 f5 f6 hce
          rcases hcs with ⟨h1, h2⟩ | ⟨h1, h2, d, h3, h4⟩
          · have g1 : decide ((u : Int) ≤ cbeg) = true := by simpa using h1
            have g2 : decide ((j : Int) < (O2.calls.length : Int)) = false := by simp; omega
            have g3 : decide (j < O2.calls.length) = false := by simp; omega
            as_aux_lemma =>
            go_wp2
            go_roundg (o.calls.length - (j + 1))
            case measure => omega
            case rel => exact ⟨j + 1, by omega, by omega, by go_num, RowKit.Below.more (by repeat (first | exact Below.refl _ _ | apply Below.drew | apply Below.more1 | apply Below.alloc1))⟩
          · have g1 : decide ((u : Int) ≤ cbeg) = false := by simp; omega
            have g2 : decide ((O2.calls.length : Int) ≤ (j : Int)) = false := by simp; omega
            have g3 : decide (O2.calls.length ≤ j) = false := by simp; omega
            obtain ⟨gq, qcap, e, f1, f2, f3, f4, f5, f6⟩ := HP.out.run.wa.some_form (show 0 < O2.calls.length by omega)
            cases e
            have hdj : O2.calls[j] = d := by rw [List.getElem?_eq_getElem h2] at h3; exact Option.some.inj h3
            have y0 := f6 (j * 9 + 0) _ (cals_get O2.calls j 0 h2 (by omega))
            have y1 := f6 (j * 9 + 1) _ (cals_get O2.calls j 1 h2 (by omega))
            have y2 := f6 (j * 9 + 2) _ (cals_get O2.calls j 2 h2 (by omega))
            have y3 := f6 (j * 9 + 3) _ (cals_get O2.calls j 3 h2 (by omega))
            have y4 := f6 (j * 9 + 4) _ (cals_get O2.calls j 4 h2 (by omega))
            have y5 := f6 (j * 9 + 5) _ (cals_get O2.calls j 5 h2 (by omega))
            have y6 := f6 (j * 9 + 6) _ (cals_get O2.calls j 6 h2 (by omega))
            have y7 := f6 (j * 9 + 7) _ (cals_get O2.calls j 7 h2 (by omega))
            have y8 := f6 (j * 9 + 8) _ (cals_get O2.calls j 8 h2 (by omega))
            rw [hdj] at y0 y1 y2 y3 y4 y5 y6 y7 y8
            simp only [Nat.add_zero] at y0
            clear f1 f2 f4 f5 f6 h3 hdj
            rcases h4 with ⟨h5, h6, rfl⟩ | ⟨h5, h6, rfl⟩
            · have g5 : decide ((u : Int) ≤ cen) = false := by simp; omega
              have g6 : decide ((u : Int) ≤ cpt) = false := by simp; omega
              simp only at y0 y1 y2 y3 y4 y5 y6 y7 y8
              as_aux_lemma =>
              go_wp2
              go_wp2
              refine wp_region_more_lit (by kernel_rfl) (by kernel_rfl) ?_
              repeat (first | go_big_quiet_skip | (go_big_quiet_want; go_big_quiet_op; first | go_big_quiet_on | (apply Exists.intro; refine ⟨fun _ => ?_, ?_⟩; (focus (fail)); go_big_quiet_on)))
              refine wpQuiet_nil ?_
              intro osq dq
              go_wp2
              go_roundg (o.calls.length - (j + 1))
              case measure => omega
              case rel => exact ⟨j + 1, by omega, by omega, by go_num, RowKit.Below.more (by repeat (first | exact Below.refl _ _ | apply Below.drew | apply Below.more1 | apply Below.alloc1))⟩
            · have g5 : decide ((u : Int) ≤ cen) = true := by simp; omega
              have g6 : decide ((u : Int) ≤ cpt) = true := by simp; omega
              simp only at y0 y1 y2 y3 y4 y5 y6 y7 y8
              as_aux_lemma =>
              go_wp2
              go_wp2
              refine wp_region_more_lit (by kernel_rfl) (by kernel_rfl) ?_
              repeat (first | go_big_quiet_skip | (go_big_quiet_want; go_big_quiet_op; first | go_big_quiet_on | (apply Exists.intro; refine ⟨fun _ => ?_, ?_⟩; (focus (fail)); go_big_quiet_on)))
              refine wpQuiet_nil ?_
              intro osq dq
              go_wp2
              go_roundg (o.calls.length - (j + 1))
              case measure => omega
              case rel => exact ⟨j + 1, by omega, by omega, by go_num, RowKit.Below.more (by repeat (first | exact Below.refl _ _ | apply Below.drew | apply Below.more1 | apply Below.alloc1))⟩
        · obtain rfl : j = o.calls.length := by omega
          go_wp2
          go_loopg [113] o.log.length (fun gh s113 wx => ∃ j : Nat, j ≤ o.log.length ∧ o.log.length ≤ j + gh ∧ s113 = .int .i64 (j : Int) ∧ ∃ os d, wx = wc.more os d)
          case atStart => exact ⟨0, by omega, by omega, by go_num, RowKit.Below.more (by repeat (first | exact Below.refl _ _ | apply Below.drew | apply Below.more1 | apply Below.alloc1))⟩
          case round =>
            obtain ⟨j, hj1, hj2, rfl, os5, dd5, rfl⟩ := hrel
            by_cases hjl : j < o.log.length
            · have hAj : o.log[j]? = some o.log[j] := List.getElem?_eq_getElem hjl
              have hcs := HBA.out j _ hAj
              obtain ⟨gc, ccap, e, f1, f2, f3, f4, f5, f6⟩ := HL.out.run.wt.some_form (show 0 < o.log.length by omega)
              cases e
              have hce : ∀ (b p : Nat) (v : Value), b < W.heap.size → W.cell? ⟨b, p, none⟩ = some v → wc.cell? ⟨b, p, none⟩ = some v := fun b p v hb hc => (HBC2.out.cell (p := ⟨b, p, none⟩) hb).trans hc
              have c0 := hce _ _ _ f3 (f6 (j * 7 + 0) _ (accs_get' o.log j 0 hjl (by omega)))
              have c1 := hce _ _ _ f3 (f6 (j * 7 + 1) _ (accs_get' o.log j 1 hjl (by omega)))
              have c2 := hce _ _ _ f3 (f6 (j * 7 + 2) _ (accs_get' o.log j 2 hjl (by omega)))
              have c3 := hce _ _ _ f3 (f6 (j * 7 + 3) _ (accs_get' o.log j 3 hjl (by omega)))
              have c4 := hce _ _ _ f3 (f6 (j * 7 + 4) _ (accs_get' o.log j 4 hjl (by omega)))
              have c5 := hce _ _ _ f3 (f6 (j * 7 + 5) _ (accs_get' o.log j 5 hjl (by omega)))
              have c6 := hce _ _ _ f3 (f6 (j * 7 + 6) _ (accs_get' o.log j 6 hjl (by omega)))
              have lgc := Nat.lt_of_lt_of_le f3 HBC2.out.size
              generalize o.log[j] = aa at *
              obtain ⟨amv, ath, akd, aad, aold, anw, asaw⟩ := aa
              simp only [Nat.add_zero] at c0 hcs
              clear hAj f1 f2 f4 f5 f6 hce
              rcases hcs with ⟨h1, h2⟩ | ⟨h1, h2, h3⟩
              · have g1 : decide (amv < (u : Int)) = false := by simp; omega
                have g2 : decide ((j : Int) < (O2.log.length : Int)) = false := by simp; omega
                have g3 : decide (j < O2.log.length) = false := by simp; omega
                as_aux_lemma =>
                go_wp2
                go_wp2
                refine wp_region_more_lit (by kernel_rfl) (by kernel_rfl) ?_
                repeat (first | go_big_quiet_skip | (go_big_quiet_want; go_big_quiet_op; first | go_big_quiet_on | (apply Exists.intro; refine ⟨fun _ => ?_, ?_⟩; (focus (fail)); go_big_quiet_on)))
                refine wpQuiet_nil ?_
                intro osq dq
                go_wp2
                go_roundg (o.log.length - (j + 1))
                case measure => omega
                case rel => exact ⟨j + 1, by omega, by omega, by go_num, RowKit.Below.more (by repeat (first | exact Below.refl _ _ | apply Below.drew | apply Below.more1 | apply Below.alloc1))⟩
              · have g1 : decide (amv < (u : Int)) = true := by simp; omega
                have g2 : decide ((j : Int) < (O2.log.length : Int)) = true := by simp; omega
                have g3 : decide (j < O2.log.length) = true := by simp; omega
                obtain ⟨gq, qcap, e, f1, f2, f3, f4, f5, f6⟩ := HP.out.run.wt.some_form (show 0 < O2.log.length by omega)
                cases e
                have hdj : O2.log[j] = ⟨amv, ath, akd, aad, aold, anw, asaw⟩ := by rw [List.getElem?_eq_getElem h2] at h3; exact Option.some.inj h3
                have y0 := f6 (j * 7 + 0) _ (accs_get' O2.log j 0 h2 (by omega))
                have y1 := f6 (j * 7 + 1) _ (accs_get' O2.log j 1 h2 (by omega))
                have y2 := f6 (j * 7 + 2) _ (accs_get' O2.log j 2 h2 (by omega))
                have y3 := f6 (j * 7 + 3) _ (accs_get' O2.log j 3 h2 (by omega))
                have y4 := f6 (j * 7 + 4) _ (accs_get' O2.log j 4 h2 (by omega))
                have y5 := f6 (j * 7 + 5) _ (accs_get' O2.log j 5 h2 (by omega))
                have y6 := f6 (j * 7 + 6) _ (accs_get' O2.log j 6 h2 (by omega))
                rw [hdj] at y0 y1 y2 y3 y4 y5 y6
                simp only [Nat.add_zero] at y0
                clear f1 f2 f4 f5 f6 h3 hdj
                as_aux_lemma =>
                go_wp2
                go_wp2
                refine wp_region_more_lit (by kernel_rfl) (by kernel_rfl) ?_
                repeat (first | go_big_quiet_skip | (go_big_quiet_want; go_big_quiet_op; first | go_big_quiet_on | (apply Exists.intro; refine ⟨fun _ => ?_, ?_⟩; (focus (fail)); go_big_quiet_on)))
                refine wpQuiet_nil ?_
                intro osq dq
                go_wp2
                go_roundg (o.log.length - (j + 1))
                case measure => omega
                case rel => exact ⟨j + 1, by omega, by omega, by go_num, RowKit.Below.more (by repeat (first | exact Below.refl _ _ | apply Below.drew | apply Below.more1 | apply Below.alloc1))⟩
            · obtain rfl : j = o.log.length := by omega
              go_wp2
              go_ret
              exact ⟨rfl, HL.out.be.trans (Below.mono (by repeat (first | exact HBC2.out | apply Below.drew | apply Below.more1 | apply Below.alloc1)) HL.out.be.size)⟩
end Go.Proofs.Ytbhbpfpggfcpgaa
