/-
MachineAccounts returns true.
-/
import Derived.Test.YtbhbpfpggfcpgaaLawW
namespace Go.Proofs.Ytbhbpfpggfcpgaa
open Go.ChangeShapes Go.WideShapes Go.ChangeAt Go.RowKit Go.Shelf

set_option maxRecDepth 100000 in
set_option maxHeartbeats 4000000 in
theorem accounts_walk {w : World} {v : Value} {th : Int} {l : List Int} {ms : List Mv} {ox : Option Addr} {cx : Nat} {om : Option Addr} {cm : Nat} (h : ScrIn w v th l ms ox cx om cm) : Calls Try.prog 6 #[v] w fun e w' => e = .returned (.bool true) ∧ Below w.heap.size w w' := by
  have HSI := Lib.hid h
  obtain ⟨rfl, hs0, hm0, hx0, hy0⟩ := h
  obtain ⟨l1, hl1⟩ : ∃ l1, l1 = l.take 8192 := ⟨_, rfl⟩
  obtain ⟨ms1, hms1⟩ : ∃ ms1, ms1 = ms.take 65536 := ⟨_, rfl⟩
  obtain ⟨o, ho⟩ : ∃ o, o = osOf l1 (fitN th) ms1 := ⟨_, rfl⟩
  have hml : ms1.length ≤ 65536 := by rw [hms1]; simp; omega
  have HINV : Hid (OS.Inv l1 (fitN th) ms1 o) := Lib.hid (by rw [ho]; exact inv_of _ _ _ hml)
  have HCL : Hid (o.calls.length ≤ 65536) := Lib.hid (by rw [ho]; exact calls_le _ _ _ hml)
  have HLL : Hid (o.log.length ≤ 65536) := Lib.hid (by rw [ho]; exact log_le _ _ _ hml)
  have HWL : Hid (o.words.length = l1.length) := Lib.hid HINV.out.wlen
  have hR : ownRun l1 (fitN th) ms1 = ⟨o.calls, o.log, [], o.words⟩ := by rw [ho]; exact own_os _ _ _
  have HPL : Hid (∀ S0 : Obj, Calls Try.prog 27 #[.agg #[.int .i64 th, .slice ox l.length cx, .slice om ms.length cm]] (w.alloc S0) (fun e w' => ∃ x : RunVs, e = .returned (.tuple #[.agg #[.int .i64 (fitN th : Int), .slice ox l1.length cx, .slice om ms1.length cm], x.v, .bool true]) ∧ RunAt w' (w.alloc S0).heap.size x ⟨o.calls, o.log, [], o.words⟩ ∧ Only (fun _ => False) (w.alloc S0) w')) := Lib.hid (fun S0 => by
    rw [← hR, hl1, hms1]
    exact played_ok ⟨rfl, hs0.alloc _, hm0.only ((Only.refl _ _).alloc _), hx0, hy0⟩)
  have hs1 : w.Src 1 (.slice ox l1.length cx) l1.length (u64s l1) := by
    have := hs0.take hx0.2.2 8192
    rw [show min l.length 8192 = (l.take 8192).length by simp; omega, ← hl1] at this
    exact this
  have hm1 : MvsIn w (.slice om ms1.length cm) ms1 := by
    have := hm0.take 65536
    rw [show min ms.length 65536 = (ms.take 65536).length by simp; omega, ← hms1] at this
    exact this
  have hll : l1.length ≤ 8192 := by rw [hl1]; simp; omega
  have HS1 := Lib.hid hs1
  have HM1 := Lib.hid hm1
  clear hs0 hm0 hx0 hy0 hl1 hms1 hs1 hm1 HSI hR ho
  go_enter Try.func6, Try.ntmps6
  go_upto_region 2 with (go_at_call 27; refine (HPL.out _).mono ?_; rintro e w1 ⟨⟨va, vt, vb, vc⟩, he, hra, ho⟩; obtain ⟨oa, ca, e1, a1, a2⟩ := hra.wa.form; obtain ⟨ot, ct, e2, t1, t2⟩ := hra.wt.form; obtain ⟨ob, cb, e3, _, _⟩ := hra.wb.form; obtain ⟨oc, cc, e4, c1, c2⟩ := hra.wc.form; simp only [List.length_nil] at e1 e2 e3 e4; rw [HWL.out] at e4; subst e1; subst e2; subst e3; subst e4; (unfold RunVs.v at he); subst he; have HRA := Lib.hid hra; clear hra; obtain ⟨os, d, rfl⟩ := (Only.below ho (fun _ h => h.elim) (Nat.le_refl _)).more; clear ho)
  refine gen_world ?_
  intro W hW
  have HL : Hid (LawW w W w.heap.size (w.heap.size + 1 + os.size) (fitN th) l1 ms1 ox cx om cm ⟨.slice oa o.calls.length ca, .slice ot o.log.length ct, .slice ob 0 cb, .slice oc l1.length cc⟩ ⟨o.calls, o.log, [], o.words⟩) := Lib.hid (by
    rw [hW]; exact LawW.of HRA.out HS1.out HM1.out)
  obtain ⟨Br, hBr⟩ : ∃ Br, Br = w.heap.size + 1 + os.size := ⟨_, rfl⟩
  obtain ⟨Bs, hBs⟩ : ∃ Bs, Bs = w.heap.size := ⟨_, rfl⟩
  rw [← hBr, ← hBs] at HL ⊢
  clear hW HRA hBr hBs HS1 HM1 HPL
  obtain ⟨s0, s1, s2, sl⟩ := HL.out.scells
  obtain ⟨r0, r1, r2, r3, rl⟩ := HL.out.rcells
  simp only at r0 r1 r2 r3
  obtain ⟨i0, ii, iz0, iz1, iz2⟩ := info_parts infoU64
  have HII := Lib.hid ii
  have HZ0 := Lib.hid iz0
  have HZ1 := Lib.hid iz1
  have HZ2 := Lib.hid iz2
  have S1 := Lib.hid (u64s_one l1)
  have S2 := Lib.hid (show 0 + l1.length ≤ maxLen by unfold maxLen; omega)
  have S3 := Lib.hid (show ((0 + l1.length) + (0 + l1.length) / 4 + 192) * 8 ≤ 281474976710656 by omega)
  clear ii iz0 iz1 iz2
  go_wp2_with (at_builtin; refine wpList_append_row _ rfl _ _ 28 rfl W.heap.size 27 i0 _ 1 8 Try.underlying28 HII.out HZ0.out HZ1.out HZ2.out rfl (.slice none 0 0) 0 [] rfl (World.RowV_none _ _ _ _ _) _ l1.length (u64s l1) rfl HL.out.src S1.out S2.out S3.out (Nat.le_refl _) ?_; intro v' w5 hown hout; obtain ⟨o5, c5, rfl, hn5, hm5⟩ := hown.form; simp only [Nat.zero_add, List.nil_append] at hown; have HN5 := Lib.hid hown; have HB5 := Lib.hid (Only.below (Only.out (F := fun _ => False) hout (by simp [Value.rowBlock])) (fun _ h => h.elim) (Nat.le_refl _)); clear hown hout; have b0 := (HB5.out.cell (p := ⟨Br, 1, none⟩) rl).trans r1; have brl := Nat.lt_of_lt_of_le rl HB5.out.size)
  go_loopg [6, 35] o.log.length (fun gh s6 s35 wr => ∃ (k : Nat) (last : Int), k ≤ o.log.length ∧ o.log.length ≤ k + gh ∧ s6 = .int .i64 last ∧ s35 = .int .i64 (k : Int) ∧ Hid (∀ a, o.log[k]? = some a → last < a.mv) ∧
    Hid (Below W.heap.size W wr) ∧ Hid (wr.RowV W.heap.size 27 1 (.slice o5 l1.length c5) l1.length (u64s ((o.log.take k).foldl wrA l1))))
  case atStart =>
    refine ⟨0, -1, by omega, by omega, by go_num, by go_num, Lib.hid (fun a ha => ?_), HB5, HN5⟩
    have := (HINV.out.log 0 a ha).mv
    omega
  case round =>
    obtain ⟨k, last, hk1, hk2, rfl, rfl, hlast, hB, hN⟩ := hrel
    by_cases hlt : k < o.log.length
    · have hAk : o.log[k]? = some o.log[k] := List.getElem?_eq_getElem hlt
      have hA := HINV.out.log k _ hAk
      have hlast' := hlast.out _ (List.getElem?_eq_getElem hlt)
      have HNX := Lib.hid (show ∀ a, o.log[k + 1]? = some a → o.log[k].mv < a.mv from fun a ha => HINV.out.mono k (k + 1) _ a (by omega) hAk ha)
      have HTK := Lib.hid (show (o.log.take (k + 1)).foldl wrA l1 = wrA ((o.log.take k).foldl wrA l1) o.log[k] by rw [take_next o.log k hlt, List.foldl_append]; rfl)
      have hWL : ((o.log.take k).foldl wrA l1).length = l1.length := foldl_wrA_len _ _
      have hsaw : o.log[k].saw = ((o.log.take k).foldl wrA l1).getD o.log[k].ad.toNat 0 := hA.saw
      obtain ⟨gt, ct', e, f1, f2, f3, f4, f5, f6⟩ := HL.out.run.wt.some_form (show 0 < o.log.length by omega)
      cases e
      have hcl : ∀ (b o : Nat) (u : Value), b < W.heap.size → W.cell? ⟨b, o, none⟩ = some u → wr.cell? ⟨b, o, none⟩ = some u := fun b o u hb hc => (hB.out.cell (p := ⟨b, o, none⟩) hb).trans hc
      have c0 := hcl _ _ _ f3 (f6 (k * 7 + 0) _ (accs_get' o.log k 0 hlt (by omega)))
      have c1 := hcl _ _ _ f3 (f6 (k * 7 + 1) _ (accs_get' o.log k 1 hlt (by omega)))
      have c2 := hcl _ _ _ f3 (f6 (k * 7 + 2) _ (accs_get' o.log k 2 hlt (by omega)))
      have c3 := hcl _ _ _ f3 (f6 (k * 7 + 3) _ (accs_get' o.log k 3 hlt (by omega)))
      have c4 := hcl _ _ _ f3 (f6 (k * 7 + 4) _ (accs_get' o.log k 4 hlt (by omega)))
      have c5 := hcl _ _ _ f3 (f6 (k * 7 + 5) _ (accs_get' o.log k 5 hlt (by omega)))
      have c6 := hcl _ _ _ f3 (f6 (k * 7 + 6) _ (accs_get' o.log k 6 hlt (by omega)))
      have d0 := hcl _ _ _ sl s0
      have d1 := hcl _ _ _ sl s1
      have d2 := hcl _ _ _ sl s2
      have d3 := hcl _ _ _ rl r0
      have d4 := hcl _ _ _ rl r3
      have lBs := Nat.lt_of_lt_of_le sl hB.out.size
      have lBr := Nat.lt_of_lt_of_le rl hB.out.size
      have lgt := Nat.lt_of_lt_of_le f3 hB.out.size
      generalize hws : (o.log.take k).foldl wrA l1 = ws at *
      generalize o.log[k] = a at *
      obtain ⟨amv, ath, akd, aad, aold, anw, asaw⟩ := a
      obtain ⟨am, rfl⟩ : ∃ am : Nat, amv = am := ⟨amv.toNat, by have := hA.mv.1; simp only at this; omega⟩
      obtain ⟨an, rfl⟩ : ∃ an : Nat, aad = an := ⟨aad.toNat, by have := hA.ad.1; simp only at this; omega⟩
      obtain ⟨mk, hmk, e1, e2⟩ := hA.pre
      simp only [Int.toNat_natCast] at hmk e1
      have hml2 := (List.getElem?_eq_some_iff.1 hmk).1
      obtain ⟨om', cm', e, g1, g2, g3⟩ := HL.out.mvs
      cases e
      obtain ⟨mb, moff, rfl, mlt, m0, m1, m2, m3⟩ := g3 am hml2
      have hmk' : ms1[am] = mk := by rw [List.getElem?_eq_getElem hml2] at hmk; exact Option.some.inj hmk
      rw [hmk'] at m0 m1 m2 m3
      obtain ⟨mth, mop, marg, mdata⟩ := mk
      simp only at e1 e2
      subst e1
      subst e2
      replace m0 := hcl _ _ _ mlt m0
      replace m1 := hcl _ _ _ mlt m1
      replace m2 := hcl _ _ _ mlt m2
      replace m3 := hcl _ _ _ mlt m3
      have lmb := Nat.lt_of_lt_of_le mlt hB.out.size
      have han : an < l1.length := by have := hA.ad.2; simp only at this; omega
      obtain ⟨gx, cx', e, x1, x2, x3, x4, x5, x6⟩ := hN.out.some_form (by omega)
      cases e
      have hsx : asaw = ws.getD an 0 := by simpa using hsaw
      have hxc : wr.cell? ⟨gx, an, none⟩ = some (.int .u64 asaw) := x6 an _ (by rw [hsx]; simp [u64s, show an < ws.length by omega])
      clear hsx
      have HX2 := Lib.hid x2
      have HX4 := Lib.hid x4
      have hxz := x5 an
      have HIN := Lib.hid (fun (W' : World) (hb : Below W.heap.size W W') => incall_ok (w := W') (va := .slice oa o.calls.length ca) (base := w.heap.size) (cs := o.calls) (HL.out.run.wa.of_block fun j hj => hb.block j (HL.out.run.wa.lt j hj).2) (by have := HCL.out; omega) mth am hA.call)
      have g1' : decide ((am : Int) ≤ last) = false := by simp only [decide_eq_false_iff_not]; simp only at hlast'; omega
      have hmo := HINV.out.moves
      have hkd := hA.kd
      simp only [Nat.add_zero] at c0 m0
      unfold maxLen at g2 t2
      have HB := hB
      have HN := hN
      clear hA hAk hlast hlast' f4 f5 f6 f2 x4 x5 x6 x2 g3 hmk hmk' hsaw hcl hB hN
      simp only at hkd
      rcases hkd with ⟨rfl, rfl, rfl⟩ | rfl
      · go_wp2_with (go_at_call 28; refine (HIN.out _ (by repeat (first | exact HB.out | apply Below.drew | apply Below.more1 | apply Below.alloc1))).mono ?_; rintro e w7 ⟨rfl, hb⟩; obtain ⟨os1, dd1, rfl⟩ := hb.more; clear hb)
        go_roundg (o.log.length - (k + 1))
        case measure => omega
        case rel =>
          refine ⟨k + 1, am, by omega, by omega, by go_num, by go_num, HNX, Lib.hid (by repeat (first | exact HB.out | apply Below.drew | apply Below.more1 | apply Below.alloc1)), Lib.hid ?_⟩
          rw [HTK.out, show wrA ws ⟨am, mth, 1, an, 0, 0, asaw⟩ = ws by simp [wrA]]
          repeat (first | exact HN.out | apply World.RowV.more | apply World.RowV.alloc)
      · by_cases hold : aold = asaw
        · subst hold
          go_wp2_with (go_at_call 28; refine (HIN.out _ (by repeat (first | exact HB.out | apply Below.drew | apply Below.more1 | apply Below.alloc1))).mono ?_; rintro e w7 ⟨rfl, hb⟩; obtain ⟨os1, dd1, rfl⟩ := hb.more; clear hb)
          go_roundg (o.log.length - (k + 1))
          case measure => omega
          case rel =>
            refine ⟨k + 1, am, by omega, by omega, by go_num, by go_num, HNX, Lib.hid (by repeat (first | exact HB.out | apply Below.drew | apply Below.more1 | apply Below.alloc1 | (refine Below.setCell ?_ HX2.out _))), Lib.hid ?_⟩
            rw [HTK.out, show wrA ws ⟨am, mth, 3, an, aold, anw, aold⟩ = ws.set an anw by simp [wrA]]
            have hrow := HN.out.put HX4.out an (by omega) (.int .u64 anw)
            rw [show (u64s ws).set an (.int .u64 anw) = u64s (ws.set an anw) by simp [u64s, List.map_set]] at hrow
            repeat (first | exact hrow | apply World.RowV.more | apply World.RowV.alloc)
        · have heq2 : (aold == asaw) = false := by simpa using hold
          go_wp2_with (go_at_call 28; refine (HIN.out _ (by repeat (first | exact HB.out | apply Below.drew | apply Below.more1 | apply Below.alloc1))).mono ?_; rintro e w7 ⟨rfl, hb⟩; obtain ⟨os1, dd1, rfl⟩ := hb.more; clear hb)
          go_roundg (o.log.length - (k + 1))
          case measure => omega
          case rel =>
            refine ⟨k + 1, am, by omega, by omega, by go_num, by go_num, HNX, Lib.hid (by repeat (first | exact HB.out | apply Below.drew | apply Below.more1 | apply Below.alloc1)), Lib.hid ?_⟩
            rw [HTK.out, show wrA ws ⟨am, mth, 3, an, aold, anw, asaw⟩ = ws by simp [wrA, hold]]
            repeat (first | exact HN.out | apply World.RowV.more | apply World.RowV.alloc)
    · obtain rfl : k = o.log.length := by omega
      rw [List.take_length, ← HINV.out.words] at hN
      have HB := hB
      have HN := hN
      have d4 := (hB.out.cell (p := ⟨Br, 3, none⟩) rl).trans r3
      have lBr := Nat.lt_of_lt_of_le rl hB.out.size
      clear hlast hB hN b0 brl HB5 HN5
      go_wp2
      go_loopg [11] l1.length (fun gh sl wx => ∃ k : Nat, k ≤ l1.length ∧ l1.length ≤ k + gh ∧ sl = .int .i64 (k : Int) ∧ ∃ os d, wx = wr.more os d)
      case atStart => exact ⟨0, by omega, by omega, by go_num, RowKit.Below.more (Below.refl _ _)⟩
      case round =>
        obtain ⟨k, hk1, hk2, rfl, os2, dd2, rfl⟩ := hrel
        by_cases hlt : k < l1.length
        · obtain ⟨gx, cx', e, x1, x2, x3, x4, x5, x6⟩ := HN.out.some_form (by omega)
          cases e
          obtain ⟨gc, cc', e, y1, y2, y3, y4, y5, y6⟩ := HL.out.run.wc.some_form (show 0 < o.words.length by rw [HWL.out]; omega)
          simp only [Value.slice.injEq] at e
          obtain ⟨rfl, _, rfl⟩ := e
          obtain ⟨y, hy⟩ : ∃ y, (u64s o.words)[k]? = some (.int .u64 y) := ⟨o.words[k]'(by rw [HWL.out]; omega), by simp [u64s, show k < o.words.length by rw [HWL.out]; omega]⟩
          have q1 := x6 k _ hy
          have q2 := (HB.out.cell (p := ⟨gc, k, none⟩) y3).trans (y6 k _ hy)
          have q3 := Nat.lt_of_lt_of_le y3 HB.out.size
          clear x4 x5 x6 x2 y1 y2 y4 y5 y6 hy
          go_wp2
          go_wp2
          refine wp_region_more_lit (by kernel_rfl) (by kernel_rfl) ?_
          repeat (first | go_big_quiet_skip | (go_big_quiet_want; go_big_quiet_op; first | go_big_quiet_on | (apply Exists.intro; refine ⟨fun _ => ?_, ?_⟩; (focus (fail)); go_big_quiet_on)))
          refine wpQuiet_nil ?_
          intro osq dq
          go_wp2
          go_roundg (l1.length - (k + 1))
          case measure => omega
          case rel => exact ⟨k + 1, by omega, by omega, by go_num, RowKit.Below.more (by repeat (first | exact Below.refl _ _ | apply Below.drew | apply Below.more1 | apply Below.alloc1))⟩
        · go_wp2
          go_ret
          refine ⟨rfl, HL.out.be.trans (Below.mono (by repeat (first | exact HB.out | apply Below.drew | apply Below.more1 | apply Below.alloc1)) HL.out.be.size)⟩
end Go.Proofs.Ytbhbpfpggfcpgaa
