/-
MemoryFresh returns true.
-/
import Derived.Test.YtpmadfokpimjcaaFreP
namespace Go.Proofs.Ytpmadfokpimjcaa
open Go.ChangeShapes Go.WideShapes Go.ChangeAt Go.RowKit

set_option maxRecDepth 100000 in
set_option maxHeartbeats 16000000 in
theorem fre_ok {w : World} {vx va : Value} {l : List Int} {ops : List OpS} (hs : w.Src 1 vx l.length (u64s l)) (hn : l.length ≤ 8192) (ho : OpsIn w va ops) (hm : ops.length ≤ 2999999999999) : Calls Try.prog 5 #[vx, va] w fun e w' => e = .returned (.bool true) ∧ Below w.heap.size w w' := by
  have HS := Lib.hid hs
  obtain ⟨ox, cx, rfl⟩ : ∃ o c, vx = .slice o l.length c := by
    rcases hs.2 with ⟨rfl, h0⟩ | ⟨ad, c, rfl, hc, _⟩
    · exact ⟨none, 0, by rw [h0]⟩
    · exact ⟨some ad, c, rfl⟩
  obtain ⟨oo, co, rfl, hops⟩ := ho
  have HO := Lib.hid hops
  clear hs hops
  obtain ⟨i0, hi, hz0, hz1, hz2⟩ := info_parts infoU64
  have HI0 := Lib.hid hi
  have HZ0 := Lib.hid hz0
  have HZ1 := Lib.hid hz1
  have HZ2 := Lib.hid hz2
  have S1 := Lib.hid (u64s_one l)
  have S2 := Lib.hid (show 0 + l.length ≤ maxLen by unfold maxLen; omega)
  have S3 := Lib.hid (show ((0 + l.length) + (0 + l.length) / 4 + 192) * 8 ≤ 281474976710656 by omega)
  have S4 := Lib.hid (show ∀ u ∈ [Value.int .u64 77], u.oneCell' = true by simp [Value.oneCell'])
  have S5 := Lib.hid (show l.length + 1 ≤ maxLen by unfold maxLen; omega)
  have S6 := Lib.hid (show ((l.length + 1) + (l.length + 1) / 4 + 192) * 8 ≤ 281474976710656 by omega)
  clear hi hz0 hz1 hz2
  go_enter Try.func5, Try.ntmps5
  go_wp2_with (first
    | (at_builtin; refine wpList_append_row _ rfl _ _ 22 rfl w.heap.size 23 i0 _ 1 8 Try.underlying22 HI0.out HZ0.out HZ1.out HZ2.out rfl (.slice (some ⟨w.heap.size, 0, none⟩) 0 0) 0 [] rfl (World.RowV_none _ _ _ _ _) _ l.length (u64s l) rfl (HS.out.alloc _) S1.out S2.out S3.out (by simp) ?_; intro v' w1 hown hout; simp only [Nat.zero_add, List.nil_append] at hown; obtain ⟨o1, c1, rfl, hn1, hm1⟩ := hown.form; have HN1 := Lib.hid hown; have HO1 := Lib.hid hout; clear hown hout; unfold maxLen at hm1)
    | (at_builtin; refine wpList_append_row _ rfl _ _ 22 rfl w.heap.size 23 i0 _ 1 8 Try.underlying22 HI0.out HZ0.out HZ1.out HZ2.out rfl (.slice o1 l.length c1) l.length (u64s l) rfl (HN1.out.alloc _) _ 1 _ rfl (World.Src.one rfl rfl) S4.out S5.out S6.out (by have := HO1.out.size; simp at this ⊢; omega) ?_; intro v' w2 hown hout; obtain ⟨o2, c2, rfl, hn2, hm2⟩ := hown.form; have HN2 := Lib.hid hown; have HO2 := Lib.hid hout; clear hown hout; unfold maxLen at hm2))
  have hb2 : Below w.heap.size w w2 := by
    have h1 : Below w.heap.size w w1 := by
      have ho : w1.os = w.os ∧ w1.tape = w.tape ∧ w1.output = w.output := by
        rcases HO1.out with ⟨_, _, _, hg⟩ | ⟨_, _, hg⟩ <;> exact ⟨hg.os, hg.tape, hg.output⟩
      have hs1 := HO1.out.size
      simp at hs1
      exact ⟨ho.1, ho.2.1, ho.2.2, by omega, fun k hk => by rw [HO1.out.block (by simp; omega) (by simp [Value.rowBlock]), Below.heap_alloc _ _ _ hk]⟩
    have h2 : Below w.heap.size w1 w2 := by
      have ho : w2.os = w1.os ∧ w2.tape = w1.tape ∧ w2.output = w1.output := by
        rcases HO2.out with ⟨_, _, _, hg⟩ | ⟨_, _, hg⟩ <;> exact ⟨hg.os, hg.tape, hg.output⟩
      have hs2 := HO2.out.size
      have hs1 := h1.size
      simp at hs2
      exact ⟨ho.1, ho.2.1, ho.2.2, by omega, fun k hk => by rw [HO2.out.block (by simp; omega) (fun hx => by have := (HN1.out.lt k hx).1; omega), Below.heap_alloc _ _ _ (by omega)]⟩
    exact h1.trans h2
  have HB2 := Lib.hid hb2
  have hsrc : w2.Src 1 (.slice o2 l.length c2) l.length (u64s l) := by
    have h1 := (HN2.out.shorter (c := l.length) (by omega)).src
    rw [List.take_left' (by simp [u64s])] at h1
    exact h1
  have HM := Lib.hid (made_ok hsrc hn)
  have ho2 : ∃ g2, o2 = some ⟨g2, 0, none⟩ := by
    obtain ⟨g, d, e, _⟩ := HN2.out.some_form (by omega)
    cases e
    exact ⟨g, rfl⟩
  obtain ⟨g2, rfl⟩ := ho2
  clear hb2 hsrc HO1 HO2 HN1
  go_wp2_with fail
  refine HM.out.mono ?_
  rintro e w3 ⟨mb, v, rfl, hM, hb3⟩
  have H3 := Lib.hid hM
  have B3 := Lib.hid hb3
  have HG3 := Lib.hid (HN2.out.of_block fun k hk => hb3.block k (HN2.out.lt k hk).2)
  have HGL := Lib.hid (show g2 < w2.heap.size from (HN2.out.lt g2 (by simp [Value.rowBlock]; omega)).2)
  clear hM hb3 HM
  go_wp2
  have HB3 : Hid (Below w.heap.size w w3) := HB2.out.trans (B3.out.mono HB2.out.size)
  go_loopg [7] l.length (fun g sl wr => ∃ k : Nat, k ≤ l.length ∧ l.length ≤ k + g ∧ sl = .int .i64 (k : Int) ∧ Hid (∃ xs, Giv l k xs ∧ wr.RowV w.heap.size 23 1 (.slice (some ⟨g2, 0, none⟩) (l.length + 1) c2) (l.length + 1) (u64s xs)) ∧ Hid (MemAt wr w2.heap.size mb ⟨l, [], [], 0⟩ v) ∧ Hid (Below w.heap.size w wr))
  case atStart => exact ⟨0, by omega, by omega, rfl, Lib.hid ⟨l ++ [77], Giv.start l, by simpa [u64s] using HG3.out⟩, H3, HB3⟩
  case round =>
    obtain ⟨k, hk, hg, rfl, hRk, hMk, hBk⟩ := hrel
    by_cases hlk : k < l.length
    · obtain ⟨xs, hx, hR⟩ := hRk.out
      obtain ⟨g3, d3, e3, _, b3, s3, t3, f3, x3⟩ := hR.some_form (by omega)
      cases e3
      have y3 := x3 k _ (u64s_get (by rw [hx.len]; omega))
      have f3' := f3 k
      have T3 := Lib.hid t3
      have B3 := Lib.hid b3
      have HR := Lib.hid hR
      have HX := Lib.hid hx
      have HST : Hid (Giv l (k + 1) (xs.set k (IntKind.u64.wrap (xs.getD k 0 + 1)))) := hx.step hlk
      generalize xs.getD k 0 = y at *
      clear x3 f3 t3 b3 hR hx
      go_wp2
      go_roundg (l.length - (k + 1))
      case measure => omega
      case rel =>
        refine ⟨k + 1, by omega, by omega, by go_num, Lib.hid ⟨_, HST.out, ?_⟩, Lib.hid ?_, Lib.hid ?_⟩
        · have := HR.out.put T3.out k (by omega) (.int .u64 (IntKind.u64.wrap (y + 1)))
          simpa [u64s, List.map_set] using this
        · exact hMk.out.set_other (fun hx => by have := (hMk.out.lt _ hx).1; have := HGL.out; have : w2.heap.size ≤ g2 := (hMk.out.lt _ hx).1; omega) _
        · exact hBk.out.setCell (by show w.heap.size ≤ g2; exact B3.out) _
    · obtain rfl : k = l.length := by omega
      obtain ⟨xs, hx, hR⟩ := hRk.out
      have HX := Lib.hid hx
      have HR := Lib.hid hR
      clear hR hx hRk
      go_wp2
      go_loopg [8] ops.length (fun g sl wz => ∃ k : Nat, k ≤ ops.length ∧ ops.length ≤ k + g ∧ sl = .int .i64 (k : Int) ∧ Hid (∃ v, MemAt wz w2.heap.size mb (accs1 l (ops.take k)) v) ∧ Hid (wz.RowV w.heap.size 23 1 (.slice (some ⟨g2, 0, none⟩) (l.length + 1) c2) (l.length + 1) (u64s xs)) ∧ Hid (Below w.heap.size w wz))
      case atStart => exact ⟨0, by omega, by omega, rfl, ⟨v, hMk.out⟩, HR, hBk⟩
      case round =>
        clear hMk hBk HR
        obtain ⟨k, hk, hg, rfl, hMk, hRk, hBk⟩ := hrel
        by_cases hlk : k < ops.length
        · obtain ⟨b, off, rfl, hlt, p0, p1, p2, p3, p4, p5⟩ := HO.out k hlk
          have tr : ∀ j u, w.cell? ⟨b, j, none⟩ = some u → wr.cell? ⟨b, j, none⟩ = some u := fun j u hu => (hBk.out.cell (p := ⟨b, j, none⟩) hlt).trans hu
          have d0 := tr _ _ p0
          have d1 := tr _ _ p1
          have d2 := tr _ _ p2
          have d3 := tr _ _ p3
          have d4 := tr _ _ p4
          have d5 := tr _ _ p5
          simp only [Nat.add_zero] at d0
          clear p0 p1 p2 p3 p4 p5 tr
          obtain ⟨vk, hMk'⟩ := hMk.out
          have hln := accs1_len l (ops.take k)
          rw [List.length_take] at hln
          have hga := (accs1_good l (ops.take k)).ahead
          have HA := Lib.hid (access_any hMk' (by omega) (by omega) ops[k].kd ops[k].th ops[k].ad ops[k].n ops[k].old ops[k].w)
          have hnx : accF (accs1 l (ops.take k)) ⟨ops[k].kd, ops[k].th, ops[k].ad, ops[k].n, ops[k].old, ops[k].w⟩ = accs1 l (ops.take (k + 1)) := by
            rw [take_next ops k hlk, accs_snocF]
          have HN := Lib.hid hnx
          have HK := Lib.hid hMk'
          clear hMk' hln hga hnx
          generalize ops[k].kd = z0 at *
          generalize ops[k].th = z1 at *
          generalize ops[k].ad = z2 at *
          generalize ops[k].n = z3 at *
          generalize ops[k].old = z4 at *
          generalize ops[k].w = z5 at *
          go_wp2_with fail
          refine HA.out.mono ?_
          rintro e wb ⟨rfl, v2, k1, k2, k3⟩
          rw [HN.out] at k1
          have hbb : Below w.heap.size w wb := hBk.out.trans (k2.below (fun i hi => Nat.le_trans HB2.out.size (HK.out.lt i hi).1) hBk.out.size)
          have hrb := hRk.out.of_block fun i hi => k2.block i (hRk.out.lt i hi).2 (fun hx => by
            have h1 := (HK.out.lt i hx).1
            have h2 : i = g2 := by simp [Value.rowBlock] at hi; omega
            have := HGL.out
            omega)
          have K1 := Lib.hid k1
          have BB := Lib.hid hbb
          have RB := Lib.hid hrb
          clear k1 k2 k3 hbb hrb
          go_wp2
          go_roundg (ops.length - (k + 1))
          case measure => omega
          case rel => exact ⟨k + 1, by omega, by omega, by go_num, ⟨v2, K1.out⟩, RB, BB⟩
        · obtain rfl : k = ops.length := by omega
          obtain ⟨vk, hMk'⟩ := hMk.out
          rw [List.take_length] at hMk'
          have hln := accs1_len l ops
          have HG := Lib.hid (accs1_good l ops)
          generalize accs1 l ops = st at *
          have HK := Lib.hid hMk'
          have HSr := Lib.hid (HS.out.below hBk.out)
          clear hMk' hMk
          go_wp2
          go_loopg [9] l.length (fun g sl wz => ∃ k : Nat, k ≤ l.length ∧ l.length ≤ k + g ∧ sl = .int .i64 (k : Int) ∧ ∃ os d, wz = wr.more os d)
          case atStart => exact ⟨0, by omega, by omega, rfl, #[], wr.drawn, by simp [World.more]⟩
          case round =>
            obtain ⟨k, hk, hg, rfl, os, d, rfl⟩ := hrel
            by_cases hlk : k < l.length
            · rcases HSr.out.2 with ⟨e1, h0⟩ | ⟨ax, cx', e1, hcx, hsx⟩
              · omega
              · cases e1
                have p1 := hsx k _ (u64s_get hlk)
                obtain ⟨g3, d3, e3, _, b3, s3, t3, f3, x3⟩ := hRk.out.some_form (by omega)
                cases e3
                have p2 := x3 k _ (u64s_get (by rw [HX.out.len]; omega))
                rw [HX.out.new k hlk hlk] at p2
                obtain ⟨bx, ofx, spx⟩ := ax
                obtain rfl : spx = none := by
                  have := World.cell?_spot (hsx 0 _ (u64s_get (by omega)))
                  simpa [Addr.add] using this
                rw [show (⟨bx, ofx, none⟩ : Addr).add k = ⟨bx, ofx + k, none⟩ by unfold Addr.add; split <;> simp_all] at p1
                have hlt : bx < wr.heap.size := World.block_lt_of_cell? wr _ p1
                generalize l.getD k 0 = y at *
                clear x3 f3 t3 b3 hsx
                have q1 : (IntKind.u64.wrap (y + 1) != IntKind.u64.wrap (y + 1)) = false := by simp
                go_wp2
                refine wp_region_more_lit (by kernel_rfl) (by kernel_rfl) ?_
                repeat (first | go_big_quiet_skip | (go_big_quiet_want; go_big_quiet_op; first | go_big_quiet_on | (apply Exists.intro; refine ⟨fun _ => ?_, ?_⟩; (focus (fail)); go_big_quiet_on)))
                refine wpQuiet_nil ?_
                intro osq dq
                go_wp2
                go_roundg (l.length - (k + 1))
                case measure => omega
                case rel => exact ⟨k + 1, by omega, by omega, by go_num, RowKit.Below.more (by repeat (first | exact Below.refl _ _ | apply Below.drew | apply Below.more1 | apply Below.alloc1))⟩
            · obtain rfl : k = l.length := by omega
              have hM5 := HK.out.more os d
              have hR5 := hRk.out.more os d
              have hB5 : Below w.heap.size w (wr.more os d) := hBk.out.more1 _ _
              have HL := Lib.hid (logged_full hM5 (by omega) ((ops.length : Int) + 1) (by omega))
              have HM5 := Lib.hid hM5
              have HR5 := Lib.hid hR5
              have HB5 := Lib.hid hB5
              clear hM5 hR5 hB5
              go_wp2_with fail
              refine HL.out.mono ?_
              rintro e w6 ⟨on, cn, ol, cl, rfl, n1, n2, n3, n4, hr1, hr2, hb6⟩
              have hM6 : MemAt w6 w2.heap.size mb st vk := HM5.out.of_block fun i hi => hb6.block i (HM5.out.lt i hi).2
              have hR6 := HR5.out.of_block fun i hi => hb6.block i (HR5.out.lt i hi).2
              have hB6 : Below w.heap.size w w6 := HB5.out.trans (hb6.mono HB5.out.size)
              have hbe := behind_ok (HS.out.below hB6) (by omega) hr2 (fun a ha => by
                obtain ⟨i, hi, rfl⟩ := List.mem_iff_getElem.1 ha
                obtain ⟨s1, s2, _⟩ := HG.out.saw i _ (List.getElem?_eq_getElem hi)
                rw [foldl_wrF_len] at s2
                exact ⟨s1, s2⟩)
              rw [← HG.out.words] at hbe
              have HBE := Lib.hid hbe
              have HM6 := Lib.hid hM6
              have HR6 := Lib.hid hR6
              have HB6 := Lib.hid hB6
              clear hM6 hR6 hB6 hbe hr1 hr2 hb6 HM5 HR5 HB5 HL
              go_wp2_with fail
              refine HBE.out.mono ?_
              rintro e w7 ⟨ow, cw, rfl, m1, m2, hw7, hb7⟩
              have hM7 : MemAt w7 w2.heap.size mb st vk := HM6.out.of_block fun i hi => hb7.block i (HM6.out.lt i hi).2
              have hR7 := HR6.out.of_block fun i hi => hb7.block i (HR6.out.lt i hi).2
              have hB7 : Below w.heap.size w w7 := HB6.out.trans (hb7.mono HB6.out.size)
              obtain ⟨g3, d3, e3, _, b3, s3, t3, f3, x3⟩ := hR7.some_form (by omega)
              cases e3
              have p2 := x3 l.length _ (u64s_get (by rw [HX.out.len]; omega))
              rw [HX.out.last] at p2
              have hW7 := words_mem hM7 (by rw [HG.out.len]; omega)
              rw [HG.out.len] at hW7
              have HW7 := Lib.hid hW7
              have HM7 := Lib.hid hM7
              have HB7 := Lib.hid hB7
              have HV7 := Lib.hid (hw7.base_mono HB6.out.size)
              clear hM7 hR7 hB7 hW7 hw7 hb7 x3 f3 t3 b3 HM6 HR6 HB6
              go_wp2_with fail
              refine HW7.out.mono ?_
              rintro e w8 ⟨oa, ca, rfl, na, ma, hra, hoa⟩
              have hM8 := HM7.out.only hoa (fun _ _ x => x)
              have hV8 := HV7.out.of_block fun i hi => hoa.block i (HV7.out.lt i hi).2 (fun x => x)
              have hB8 : Below w.heap.size w w8 := HB7.out.trans (hoa.below (fun _ h => h.elim) HB7.out.size)
              have hW8 := words_mem hM8 (by rw [HG.out.len]; omega)
              rw [HG.out.len] at hW8
              have HW8 := Lib.hid hW8
              have HM8 := Lib.hid hM8
              have HV8 := Lib.hid hV8
              have HB8 := Lib.hid hB8
              have HA8 := Lib.hid hra
              have HS8 := Lib.hid hoa.size
              clear hM8 hV8 hB8 hW8 hra hoa p2 s3
              go_wp2_with fail
              refine HW8.out.mono ?_
              rintro e w9 ⟨ob, cb, rfl, nb, mb', hrb, hob⟩
              have hM9 := HM8.out.only hob (fun _ _ x => x)
              have hV9 := HV8.out.of_block fun i hi => hob.block i (HV8.out.lt i hi).2 (fun x => x)
              have hA9 := HA8.out.of_block fun i hi => hob.block i (HA8.out.lt i hi).2 (fun x => x)
              have hB9 : Below w.heap.size w w9 := HB8.out.trans (hob.below (fun _ h => h.elim) HB8.out.size)
              have hba : Below w7.heap.size w8 w9 := hob.below (fun _ h => h.elim) HS8.out
              have HSA := Lib.hid (sameWords_yes hA9 hV9)
              have HSB : Hid (∀ os d, Calls Try.prog 23 #[.slice ob l.length cb, .slice ow l.length cw] (w9.more os d) fun e w' => e = .returned (.bool true) ∧ Below (w9.more os d).heap.size (w9.more os d) w') := fun os d => sameWords_yes (hrb.more os d) (hV9.more os d)
              have HM9 := Lib.hid hM9
              have HV9 := Lib.hid hV9
              have HA9 := Lib.hid hA9
              have HR9 := Lib.hid hrb
              have HB9 := Lib.hid hB9
              have HS9 := Lib.hid hob.size
              clear hM9 hV9 hA9 hB9 hrb hob hba
              go_wp2_with fail
              refine HSA.out.mono ?_
              rintro e wy ⟨rfl, hby⟩
              obtain ⟨osa, da, rfl⟩ := hby.more
              clear hby
              go_wp2_with fail
              refine (HSB.out osa da).mono ?_
              rintro e wy ⟨rfl, hby⟩
              obtain ⟨osb, db, rfl⟩ := hby.more
              clear hby
              go_wp2
              go_loopg [17] l.length (fun g sl wz => ∃ k : Nat, k ≤ l.length ∧ l.length ≤ k + g ∧ sl = .int .i64 (k : Int) ∧ Hid (wz.RowV w7.heap.size 23 1 (.slice oa l.length ca) l.length (u64s (fillL 1000 k st.words))) ∧ Hid (wz.RowV w8.heap.size 23 1 (.slice ob l.length cb) l.length (u64s (fillL 2000 k st.words))) ∧ Hid (Below w7.heap.size w9 wz))
              case atStart =>
                refine ⟨0, by omega, by omega, rfl, Lib.hid ?_, Lib.hid ?_, Lib.hid ?_⟩
                · have : fillL 1000 0 st.words = st.words := by simp [fillL]
                  rw [this]
                  exact (HA9.out.more _ _).more _ _
                · have : fillL 2000 0 st.words = st.words := by simp [fillL]
                  rw [this]
                  exact (HR9.out.more _ _).more _ _
                · have h9 : w7.heap.size ≤ w9.heap.size := Nat.le_trans HS8.out HS9.out
                  exact (show Below w9.heap.size w9 ((w9.more osa da).more osb db) from (by repeat (first | exact Below.refl _ _ | apply Below.drew | apply Below.more1 | apply Below.alloc1))).mono h9
              case round =>
                clear HSA HSB
                obtain ⟨k, hk, hg, rfl, hAk, hBk', hWk⟩ := hrel
                by_cases hlk : k < l.length
                · obtain ⟨ga, da, ea, _, ba, sa, ta, fa, xa⟩ := hAk.out.some_form (by omega)
                  obtain ⟨gb, db, eb, _, bb, sb, tb, fb, xb⟩ := hBk'.out.some_form (by omega)
                  cases ea
                  cases eb
                  have hlen := HG.out.len
                  have ya := xa k _ (u64s_get (by rw [fillL_len _ _ _ (by omega)]; omega))
                  have yb := xb k _ (u64s_get (by rw [fillL_len _ _ _ (by omega)]; omega))
                  have fa' := fa k
                  have fb' := fb k
                  have hga : ga < w8.heap.size := (HA8.out.lt ga ta).2
                  have TA := Lib.hid ta
                  have TB := Lib.hid tb
                  have BA := Lib.hid ba
                  have F1 := Lib.hid (fillL_step 1000 k st.words (by omega))
                  have F2 := Lib.hid (fillL_step 2000 k st.words (by omega))
                  generalize (fillL 1000 k st.words).getD k 0 = u1 at ya
                  generalize (fillL 2000 k st.words).getD k 0 = u2 at yb
                  clear xa xb fa fb ta tb ba hlen
                  have hne : ga ≠ gb := by omega
                  have e8 := HS8.out
                  go_wp2
                  go_roundg (l.length - (k + 1))
                  case measure => omega
                  case rel =>
                    refine ⟨k + 1, by omega, by omega, by go_num, Lib.hid ?_, Lib.hid ?_, Lib.hid ?_⟩
                    · rw [← F1.out]
                      have h1 := (hAk.out.put TA.out k (by omega) (.int .u64 1000)).set (p := ⟨gb, k, none⟩) (fun i hi e => by
                        rw [TA.out] at hi
                        cases hi
                        exact hne e) (.int .u64 2000)
                      simpa [u64s, List.map_set] using h1
                    · rw [← F2.out]
                      have h1 := (hBk'.out.set (p := ⟨ga, k, none⟩) (fun i hi e => by
                        rw [TB.out] at hi
                        cases hi
                        exact hne e.symm) (.int .u64 1000)).put TB.out k (by omega) (.int .u64 2000)
                      simpa [u64s, List.map_set] using h1
                    · exact (hWk.out.setCell (p := ⟨ga, k, none⟩) (by show w7.heap.size ≤ ga; exact BA.out) _).setCell (p := ⟨gb, k, none⟩) (by show w7.heap.size ≤ gb; omega) _
                · obtain rfl : k = l.length := by omega
                  have e1 : fillL 1000 l.length st.words = List.replicate l.length 1000 := by rw [← HG.out.len]; exact fillL_all _ _
                  have e2 : fillL 2000 l.length st.words = List.replicate l.length 2000 := by rw [← HG.out.len]; exact fillL_all _ _
                  have hA := hAk.out
                  have hB := hBk'.out
                  rw [e1] at hA
                  rw [e2] at hB
                  have hdis : ∀ k, (Value.slice oa l.length ca).rowBlock = some k → (Value.slice ob l.length cb).rowBlock ≠ some k := fun k h1 h2 => by
                    have := (HA8.out.lt k h1).2
                    have := (hB.lt k h2).1
                    omega
                  have hT : TwoRow wr 23 w7.heap.size l.length (.slice oa l.length ca) (.slice ob l.length cb) (.slice oa (l.length + 0) ca) (.slice ob (l.length + 0) cb) 1000 2000 3000 4000 0 0 :=
                    ⟨hA, hB.base_mono HS8.out, by simpa using hA, by simpa using hB.base_mono HS8.out, .inl ⟨oa, ca, rfl, rfl⟩, .inl ⟨ob, cb, rfl, rfl⟩, hdis, hdis, fun k h1 h2 => hdis k h2 h1⟩
                  have HT := Lib.hid hT
                  have hs7 : w7.heap.size ≤ wr.heap.size := Nat.le_trans (Nat.le_trans HS8.out HS9.out) hWk.out.size
                  have HS7 := Lib.hid hs7
                  clear hA hB hdis hT e1 e2 hAk hBk' hs7
                  go_wp2
                  go_loopg [18, 19, 20] 40 (fun g s1 s2 s3 wz => ∃ (k : Nat) (o3 : Option Addr) (c3 : Nat) (o4 : Option Addr) (c4 : Nat), k ≤ 40 ∧ 40 ≤ k + g ∧ s1 = .slice o3 (l.length + k) c3 ∧ s2 = .slice o4 (l.length + k) c4 ∧ s3 = .int .i64 (k : Int) ∧ Hid (TwoRow wz 23 w7.heap.size l.length (.slice oa l.length ca) (.slice ob l.length cb) (.slice o3 (l.length + k) c3) (.slice o4 (l.length + k) c4) 1000 2000 3000 4000 k k) ∧ Hid (Below w7.heap.size w9 wz ∧ w7.heap.size ≤ wz.heap.size))
                  case atStart => exact ⟨0, oa, ca, ob, cb, by omega, by omega, rfl, rfl, rfl, HT, Lib.hid ⟨hWk.out, HS7.out⟩⟩
                  case round =>
                    clear hWk HT HS7
                    obtain ⟨k, o3, c3, o4, c4, hk, hg, rfl, rfl, rfl, HT, hWk⟩ := hrel
                    by_cases hlk : k < 40
                    · have R1 := Lib.hid (show ∀ u ∈ [Value.int .u64 3000], u.oneCell' = true by simp [Value.oneCell'])
                      have R2 := Lib.hid (show ∀ u ∈ [Value.int .u64 4000], u.oneCell' = true by simp [Value.oneCell'])
                      have R3 := Lib.hid (show l.length + k + 1 ≤ maxLen by unfold maxLen; omega)
                      have R4 := Lib.hid (show ((l.length + k + 1) + (l.length + k + 1) / 4 + 192) * 8 ≤ 281474976710656 by omega)
                      go_wp2_with (first
                        | (at_builtin; refine wpList_append_row _ rfl _ _ 22 rfl w7.heap.size 23 i0 _ 1 8 Try.underlying22 HI0.out HZ0.out HZ1.out HZ2.out rfl (.slice o3 (l.length + k) c3) (l.length + k) _ rfl (HT.out.x.alloc _) _ 1 _ rfl (World.Src.one rfl rfl) R1.out R3.out R4.out (by have := hWk.out.2; simp; omega) ?_; intro v' wx hown hout; obtain ⟨o5, c5, rfl, hn5, hm5⟩ := hown.form; have HT1 := Lib.hid (HT.out.stepX hown hout); have HW1 := Lib.hid (hout.below (fun i hi => (HT.out.x.lt i hi).1) hWk.out.2); clear hown hout; unfold maxLen at hm5)
                        | (at_builtin; refine wpList_append_row _ rfl _ _ 22 rfl w7.heap.size 23 i0 _ 1 8 Try.underlying22 HI0.out HZ0.out HZ1.out HZ2.out rfl (.slice o4 (l.length + k) c4) (l.length + k) _ rfl (HT1.out.y.alloc _) _ 1 _ rfl (World.Src.one rfl rfl) R2.out R3.out R4.out (by have := hWk.out.2; have := HW1.out.size; simp; omega) ?_; intro v' wy hown hout; obtain ⟨o6, c6, rfl, hn6, hm6⟩ := hown.form; have HT2 := Lib.hid (HT1.out.stepY hown hout); have HW2 := Lib.hid (hout.below (fun i hi => (HT1.out.y.lt i hi).1) (Nat.le_trans hWk.out.2 HW1.out.size)); clear hown hout; unfold maxLen at hm6))
                      go_roundg (40 - (k + 1))
                      case measure => omega
                      case rel => exact ⟨k + 1, o5, c5, o6, c6, by omega, by omega, rfl, rfl, by go_num, HT2, Lib.hid ⟨(hWk.out.1.trans HW1.out).trans HW2.out, Nat.le_trans hWk.out.2 (Nat.le_trans HW1.out.size HW2.out.size)⟩⟩
                    · obtain rfl : k = 40 := by omega
                      have hM10 : MemAt wr w2.heap.size mb st vk := HM9.out.of_block fun i hi => hWk.out.1.block i (HM7.out.lt i hi).2
                      have hV10 := HV9.out.of_block fun i hi => hWk.out.1.block i (HV7.out.lt i hi).2
                      have HM10 := Lib.hid hM10
                      have HV10 := Lib.hid hV10
                      have hB10 : Below w.heap.size w wr := HB9.out.trans (hWk.out.1.mono HB7.out.size)
                      have HB10 := Lib.hid hB10
                      obtain ⟨_, _, e3, h3a, h3b⟩ := HT.out.x.form
                      obtain ⟨_, _, e4, h4a, h4b⟩ := HT.out.y.form
                      cases e3
                      cases e4
                      unfold maxLen at h3b h4b
                      clear hM10 hV10 hB10
                      go_wp2
                      go_loopg [21] l.length (fun g sl wz => ∃ i : Nat, i ≤ l.length ∧ l.length ≤ i + g ∧ sl = .int .i64 (i : Int) ∧ wz = wr)
                      case atStart => exact ⟨0, by omega, by omega, rfl, rfl⟩
                      case round =>
                        obtain ⟨i, hi, hgi, rfl, rfl⟩ := hrel
                        by_cases hil : i < l.length
                        · obtain ⟨g1, j1, f1, _, _, s1, _, _, x1⟩ := HT.out.a.some_form (by omega)
                          obtain ⟨g4, j2, f2, _, _, s2, _, _, x2⟩ := HT.out.b.some_form (by omega)
                          obtain ⟨g5, j3, f3, _, _, s3, _, _, x3⟩ := HT.out.x.some_form (by omega)
                          obtain ⟨g6, j4, f4, _, _, s4, _, _, x4⟩ := HT.out.y.some_form (by omega)
                          cases f1
                          cases f2
                          cases f3
                          cases f4
                          have y1 := x1 i (.int .u64 1000) (by simp [u64s, hil])
                          have y2 := x2 i (.int .u64 2000) (by simp [u64s, hil])
                          have y3 := x3 i (.int .u64 1000) (by simp [u64s, List.getElem?_append_left, hil])
                          have y4 := x4 i (.int .u64 2000) (by simp [u64s, List.getElem?_append_left, hil])
                          clear x1 x2 x3 x4
                          go_wp2
                          go_roundg (l.length - (i + 1))
                          case measure => omega
                          case rel => exact ⟨i + 1, by omega, by omega, by go_num, rfl⟩
                        · obtain rfl : i = l.length := by omega
                          go_wp2
                          go_loopg [22] 40 (fun g sl wz => ∃ i : Nat, l.length ≤ i ∧ i ≤ l.length + 40 ∧ l.length + 40 ≤ i + g ∧ sl = .int .i64 (i : Int) ∧ wz = wr)
                          case atStart => exact ⟨l.length, by omega, by omega, by omega, rfl, rfl⟩
                          case round =>
                            obtain ⟨i, hi0, hi, hgi, rfl, rfl⟩ := hrel
                            by_cases hil : i < l.length + 40
                            · obtain ⟨g5, j3, f3, _, _, s3, _, _, x3⟩ := HT.out.x.some_form (by omega)
                              obtain ⟨g6, j4, f4, _, _, s4, _, _, x4⟩ := HT.out.y.some_form (by omega)
                              cases f3
                              cases f4
                              have y3 := x3 i (.int .u64 3000) (two_right _ _ _ _ _ hi0 hil)
                              have y4 := x4 i (.int .u64 4000) (two_right _ _ _ _ _ hi0 hil)
                              clear x3 x4
                              go_wp2
                              go_roundg (l.length + 40 - (i + 1))
                              case measure => omega
                              case rel => exact ⟨i + 1, by omega, by omega, by omega, by go_num, rfl⟩
                            · obtain rfl : i = l.length + 40 := by omega
                              have hW := words_mem HM10.out (by rw [HG.out.len]; omega)
                              rw [HG.out.len] at hW
                              have HW := Lib.hid hW
                              clear hW
                              go_wp2_with fail
                              refine HW.out.mono ?_
                              rintro e wz ⟨oz, cz, rfl, nz, mz, hrz, hoz⟩
                              have HZ := Lib.hid (sameWords_yes hrz (HV10.out.of_block fun i hi => hoz.block i (HV10.out.lt i hi).2 (fun x => x)))
                              have HBZ : Hid (Below w.heap.size w wz) := HB10.out.trans (hoz.below (fun _ h => h.elim) HB10.out.size)
                              clear hrz hoz
                              go_wp2_with fail
                              refine HZ.out.mono ?_
                              rintro e wy ⟨rfl, hby⟩
                              have HBY : Hid (Below w.heap.size w wy) := HBZ.out.trans (hby.mono HBZ.out.size)
                              clear hby
                              go_wp2
                              go_ret
                              exact ⟨rfl, HBY.out⟩

set_option maxRecDepth 100000 in
theorem fre_long {w : World} {va : Value} (o : Option Addr) (n c : Nat) (hn : 8192 < n) (hm : n ≤ 9223372036854775807) : Calls Try.prog 5 #[.slice o n c, va] w fun e w' => e = .returned (.bool true) ∧ Below w.heap.size w w' := by
  go_enter Try.func5, Try.ntmps5
  go_wp2_with (go_at_call 18; refine (awake_any _).mono ?_; rintro e w1 ⟨rfl, hb1⟩; obtain ⟨os, d, rfl⟩ := hb1.more; clear hb1)
  go_ret
  exact ⟨rfl, (by repeat (first | exact Below.refl _ _ | apply Below.drew | apply Below.more1 | apply Below.alloc1))⟩

theorem memoryFresh_walk {w : World} {vx va : Value} {l : List Int} {ops : List OpS} (hs : w.Src 1 vx l.length (u64s l)) (hl : l.length ≤ maxLen) (ho : OpsIn w va ops) (hm : ops.length ≤ 2999999999999) : Calls Try.prog 5 #[vx, va] w fun e w' => e = .returned (.bool true) ∧ Below w.heap.size w w' := by
  by_cases hn : l.length ≤ 8192
  · exact fre_ok hs hn ho hm
  · unfold maxLen at hl
    rcases hs.2 with ⟨rfl, h0⟩ | ⟨a, c, rfl, hc, _⟩
    · omega
    · exact fre_long (some a) l.length c (by omega) (by omega)
end Go.Proofs.Ytpmadfokpimjcaa
