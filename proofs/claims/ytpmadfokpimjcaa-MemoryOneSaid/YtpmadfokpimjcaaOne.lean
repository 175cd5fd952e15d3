/-
MemoryOne returns true.
-/
import Derived.Test.YtpmadfokpimjcaaOneP
namespace Go.Proofs.Ytpmadfokpimjcaa
open Go.ChangeShapes Go.WideShapes Go.ChangeAt Go.RowKit

set_option maxRecDepth 100000 in
set_option maxHeartbeats 8000000 in
theorem one_ok {w : World} {vx va : Value} {l : List Int} {ops : List OpS} (hs : w.Src 1 vx l.length (u64s l)) (hn : l.length ≤ 8192) (ho : OpsIn w va ops) (hm : ops.length ≤ 2999999999999) : Calls Try.prog 6 #[vx, va] w fun e w' => e = .returned (.bool true) ∧ Below w.heap.size w w' := by
  have HM := Lib.hid (made_ok hs hn)
  obtain ⟨ox, cx, rfl⟩ : ∃ o c, vx = .slice o l.length c := by
    rcases hs.2 with ⟨rfl, h0⟩ | ⟨ad, c, rfl, hc, _⟩
    · exact ⟨none, 0, by rw [h0]⟩
    · exact ⟨some ad, c, rfl⟩
  obtain ⟨oo, co, rfl, hops⟩ := ho
  have HO := Lib.hid hops
  clear hs hops
  go_enter Try.func6, Try.ntmps6
  go_wp2_with fail
  refine HM.out.mono ?_
  rintro e w1 ⟨mb, v, rfl, hM, hb⟩
  have H1 := Lib.hid hM
  have B1 := Lib.hid hb
  clear hM hb HM
  go_wp2
  go_loopg [6] ops.length (fun g sl wr => ∃ k : Nat, k ≤ ops.length ∧ ops.length ≤ k + g ∧ sl = .int .i64 (k : Int) ∧ Hid (OneSt w mb l.length k wr) ∧ Hid (Below w.heap.size w wr))
  case atStart => exact ⟨0, by omega, by omega, rfl, ⟨_, v, H1.out, rfl, Nat.le_refl _, rfl⟩, B1⟩
  case round =>
    obtain ⟨k, hk, hg, rfl, hMk, hBk⟩ := hrel
    by_cases hlk : k < ops.length
    · obtain ⟨b, off, rfl, hlt, c0, c1, c2, c3, c4, c5⟩ := HO.out k hlk
      have tr : ∀ j u, w.cell? ⟨b, j, none⟩ = some u → wr.cell? ⟨b, j, none⟩ = some u := fun j u hu => (hBk.out.cell (p := ⟨b, j, none⟩) hlt).trans hu
      have d0 := tr _ _ c0
      have d1 := tr _ _ c1
      have d2 := tr _ _ c2
      have d3 := tr _ _ c3
      have d4 := tr _ _ c4
      have d5 := tr _ _ c5
      simp only [Nat.add_zero] at d0
      clear c0 c1 c2 c3 c4 c5 tr
      generalize ops[k].kd = z0 at *
      generalize ops[k].th = z1 at *
      generalize ops[k].ad = z2 at *
      generalize ops[k].n = z3 at *
      generalize ops[k].old = z4 at *
      generalize ops[k].w = z5 at *
      obtain ⟨st, vk, hM0, hwl, hll, hal⟩ := hMk.out
      have HMk := Lib.hid hM0
      have HWL := Lib.hid hwl
      have HAL := Lib.hid hal
      obtain ⟨N, hN⟩ : ∃ N, N = st.log.length := ⟨_, rfl⟩
      have HN := Lib.hid hN
      have hNk : N ≤ k := by omega
      have hMA := hM0.alloc (.cells #[.int .i64 z0, .int .i64 z1, .int .i64 z2, .int .i64 z3, .int .u64 z4, .int .u64 z5] 38)
      have hwA := words_mem hMA (by omega)
      rw [hwl] at hwA
      have HWA := Lib.hid hwA
      have HMA := Lib.hid hMA
      have HBX := Lib.hid (heap_alloc_new wr (.cells #[.int .i64 z0, .int .i64 z1, .int .i64 z2, .int .i64 z3, .int .u64 z4, .int .u64 z5] 38))
      clear hwA hMA hM0 hwl hll hal hN hMk
      go_wp2_with fail
      refine HWA.out.mono ?_
      rintro e w2 ⟨o2, c2, rfl, n2, m2, hr2, ho2⟩
      have hM2 := HMA.out.only ho2 (fun _ _ x => x)
      have hb2 := box_only HBX.out ho2 (fun x => x)
      have hc2 := count_mem hM2
      rw [← HN.out] at hc2
      have HC2 := Lib.hid hc2
      have HN2 := Lib.hid (now_mem hM2 z3)
      have HM2 := Lib.hid hM2
      have HB2 := Lib.hid hb2
      have HR2 := Lib.hid hr2
      have HO2 := Lib.hid ho2
      obtain ⟨y0, y1, y2, y3, y4, y5, y6⟩ := boxO hb2
      clear hM2 hb2 hc2 hr2 ho2
      go_wp2_with (go_at_call 17; refine HC2.out.mono ?_; rintro e w4 ⟨rfl, rfl⟩)
      refine HN2.out.mono ?_
      rintro e w3 ⟨rfl, hM3, ho3⟩
      have hno : ∀ i, vk.own mb i → w.heap.size ≤ i ∧ i < wr.heap.size := fun i hi => HMk.out.lt i hi
      have HNO := Lib.hid hno
      have hb3 := box_only HB2.out ho3 (fun hx => by have := (hno _ hx).2; omega)
      have hr3 : w3.RowV wr.heap.size 23 1 (.slice o2 l.length c2) l.length (u64s st.words) := (HR2.out.of_block fun i hi => ho3.block i (HR2.out.lt i hi).2 (fun hx => by have h1 := (hno _ hx).2; have h2 := (HR2.out.lt i hi).1; simp at h2; omega)).base_mono (by simp)
      have hB3 : Below w.heap.size w w3 := ((hBk.out.alloc1 _).trans (HO2.out.below (fun _ hx => hx.elim) (by have := hBk.out.size; simp; omega))).trans (ho3.below (fun i hi => (hno i hi).1) (by have h1 := hBk.out.size; have h2 := HO2.out.size; simp at h2; omega))
      have HA := Lib.hid (access_any hM3 (by show st.log.length ≤ _; rw [← HN.out]; omega) (by show st.ahead.length ≤ _; rw [HAL.out, ← HN.out]; omega) z0 z1 z2 z3 z4 z5)
      obtain ⟨x0, x1, x2, x3, x4, x5, x6⟩ := boxO hb3
      have HB3 := Lib.hid hb3
      have HR3 := Lib.hid hr3
      have HBel3 := Lib.hid hB3
      have HM3 := Lib.hid hM3
      clear hM3 ho3 hno hb3 hr3 hB3 y0 y1 y2 y3 y4 y5 y6 HC2 HN2 HM2 HB2 HR2 HO2 HWA HMA HBX
      go_wp2_with fail
      refine HA.out.mono ?_
      rintro e w5 ⟨rfl, v5, hM5, ho5, hf5⟩
      have hb5 := box_only HB3.out ho5 (fun hx => by have := (HNO.out _ hx).2; omega)
      have hr5 : w5.RowV wr.heap.size 23 1 (.slice o2 l.length c2) l.length (u64s st.words) := HR3.out.of_block fun i hi => ho5.block i (HR3.out.lt i hi).2 (fun hx => by have h1 := (HNO.out _ hx).2; have h2 := (HR3.out.lt i hi).1; omega)
      have hB5 : Below w.heap.size w w5 := HBel3.out.trans (ho5.below (fun i hi => (HNO.out i hi).1) HBel3.out.size)
      by_cases hth : 0 ≤ z2 ∧ z2 < (l.length : Int)
      · obtain ⟨j, rfl⟩ : ∃ j : Nat, z2 = (j : Int) := ⟨z2.toNat, by omega⟩
        have hj : j < l.length := by omega
        obtain ⟨kd, old, nw, saw, ahd, e1, e2, e3, e4, e5⟩ := accF_yes { st with move := z3 } ⟨z0, z1, (j : Int), z3, z4, z5⟩ j rfl (by rw [HWL.out]; exact hj)
        generalize accF { st with move := z3 } ⟨z0, z1, (j : Int), z3, z4, z5⟩ = st' at *
        simp only at e1 e2 e3 e4 e5
        have hwl' : st'.words.length = l.length := by rw [e5]; split <;> simp [HWL.out]
        have hll' : st'.log.length = N + 1 := by rw [e1, HN.out]; simp
        have hal' : st'.ahead.length = st'.log.length := by rw [e2, hll', HN.out]; simp [HAL.out]
        have hw5 := words_mem hM5 (by omega)
        rw [hwl'] at hw5
        have HW5 := Lib.hid hw5
        have HM5 := Lib.hid hM5
        have HB5 := Lib.hid hb5
        have HR5 := Lib.hid hr5
        have HBel5 := Lib.hid hB5
        have E1 := Lib.hid e1
        have E5 := Lib.hid e5
        have HWL' := Lib.hid hwl'
        have HLL' := Lib.hid hll'
        have HAL' := Lib.hid hal'
        clear hw5 hM5 hb5 hr5 hB5 e1 e2 e3 e4 e5 hwl' hll' hal' hth ho5 hf5 x0 x1 x2 x3 x4 x5 x6 HA HB3 HR3 HBel3 HM3
        go_wp2_with fail
        refine HW5.out.mono ?_
        rintro e w6 ⟨o6, c6, rfl, n6, m6, hr6, ho6⟩
        have hM6 := HM5.out.only ho6 (fun _ _ x => x)
        have hb6 := box_only HB5.out ho6 (fun x => x)
        have hr2 : w6.RowV wr.heap.size 23 1 (.slice o2 l.length c2) l.length (u64s st.words) := HR5.out.of_block fun i hi => ho6.block i (HR5.out.lt i hi).2 (fun x => x)
        have hB6 : Below w.heap.size w w6 := HBel5.out.trans (ho6.below (fun _ hx => hx.elim) HBel5.out.size)
        have hc6 := count_mem hM6
        rw [HLL'.out, show ((N + 1 : Nat) : Int) = (N : Int) + 1 by omega] at hc6
        have HC6 := Lib.hid hc6
        obtain ⟨x0, x1, x2, x3, x4, x5, x6⟩ := boxO hb6
        have HM6 := Lib.hid hM6
        have HB6 := Lib.hid hb6
        have HR6 := Lib.hid hr6
        have HR2 := Lib.hid hr2
        have HBel6 := Lib.hid hB6
        clear hM6 hb6 hr6 hr2 hB6 hc6 ho6 HW5 HM5 HB5 HR5 HBel5
        have q1 : decide ((0 : Int) ≤ (j : Int)) = true := by simp
        have q2 : decide ((j : Int) < (l.length : Int)) = true := by simp; omega
        have q3 : decide (j < l.length) = true := by simp; omega
        have q4 : ((l.length : Int) != (l.length : Int)) = false := by simp
        have q5 : ((N : Int) + 1 != (N : Int) + 1) = false := by simp
        go_wp2_with (go_at_call 17; refine HC6.out.mono ?_; rintro e w7 ⟨rfl, rfl⟩)
        clear q1 q2 q3 q4 q5
        go_loopg [12] l.length (fun g sl wz => ∃ i : Nat, i ≤ l.length ∧ l.length ≤ i + g ∧ sl = .int .i64 (i : Int) ∧ ∃ os d, wz = w6.more os d)
        case atStart => exact ⟨0, by omega, by omega, rfl, #[], w6.drawn, by simp [World.more]⟩
        case round =>
          obtain ⟨i, hi, hgi, rfl, os, d, rfl⟩ := hrel
          by_cases hil : i < l.length
          · obtain ⟨g6, d6, e6, _, _, s6, _, _, y6⟩ := HR6.out.some_form (by omega)
            obtain ⟨g2, d2, e2, _, _, s2, _, _, y2⟩ := HR2.out.some_form (by omega)
            cases e6
            cases e2
            have p6 := y6 i _ (u64s_get (by have := HWL'.out; omega))
            have p2 := y2 i _ (u64s_get (by have := HWL.out; omega))
            have hsame : i ≠ j → st'.words.getD i 0 = st.words.getD i 0 := fun hne => by
              rw [E5.out]
              split
              · simp [List.getD, Ne.symm hne]
              · rfl
            generalize st'.words.getD i 0 = u6 at *
            generalize st.words.getD i 0 = u2 at *
            clear y6 y2
            by_cases hij : i = j
            · subst hij
              clear hsame
              have q6 : ((i : Int) != (i : Int)) = false := by simp
              by_cases huu : u6 = u2
              · subst huu
                have q7 : (u6 != u6) = false := by simp
                go_wp2
                refine wp_region_more_lit (by kernel_rfl) (by kernel_rfl) ?_
                repeat (first | go_big_quiet_skip | (go_big_quiet_want; go_big_quiet_op; first | go_big_quiet_on | (apply Exists.intro; refine ⟨fun _ => ?_, ?_⟩; (focus (fail)); go_big_quiet_on)))
                refine wpQuiet_nil ?_
                intro osq dq
                go_wp2
                go_roundg (l.length - (i + 1))
                case measure => omega
                case rel => exact ⟨i + 1, by omega, by omega, by go_num, RowKit.Below.more (by repeat (first | exact Below.refl _ _ | apply Below.drew | apply Below.more1 | apply Below.alloc1))⟩
              · have q7 : (u6 != u2) = true := by simpa using huu
                clear huu
                go_wp2
                refine wp_region_more_lit (by kernel_rfl) (by kernel_rfl) ?_
                repeat (first | go_big_quiet_skip | (go_big_quiet_want; go_big_quiet_op; first | go_big_quiet_on | (apply Exists.intro; refine ⟨fun _ => ?_, ?_⟩; (focus (fail)); go_big_quiet_on)))
                refine wpQuiet_nil ?_
                intro osq dq
                go_wp2
                go_roundg (l.length - (i + 1))
                case measure => omega
                case rel => exact ⟨i + 1, by omega, by omega, by go_num, RowKit.Below.more (by repeat (first | exact Below.refl _ _ | apply Below.drew | apply Below.more1 | apply Below.alloc1))⟩
            · have huu := hsame hij
              subst huu
              have q7 : (u6 != u6) = false := by simp
              clear hsame hij
              go_wp2
              refine wp_region_more_lit (by kernel_rfl) (by kernel_rfl) ?_
              repeat (first | go_big_quiet_skip | (go_big_quiet_want; go_big_quiet_op; first | go_big_quiet_on | (apply Exists.intro; refine ⟨fun _ => ?_, ?_⟩; (focus (fail)); go_big_quiet_on)))
              refine wpQuiet_nil ?_
              intro osq dq
              go_wp2
              go_roundg (l.length - (i + 1))
              case measure => omega
              case rel => exact ⟨i + 1, by omega, by omega, by go_num, RowKit.Below.more (by repeat (first | exact Below.refl _ _ | apply Below.drew | apply Below.more1 | apply Below.alloc1))⟩
          · obtain rfl : i = l.length := by omega
            have hL := logged_one (HM6.out.more os d) (by rw [HLL'.out]; omega) E1.out
            rw [← HN.out] at hL
            have HL := Lib.hid hL
            clear hL
            go_wp2_with fail
            refine HL.out.mono ?_
            rintro e w7 ⟨on, cn, ol, cl, rfl, n1, n2, n3, n4, hn7, hl7, hb7⟩
            have hM7 : MemAt w7 w.heap.size mb st' v5 := (HM6.out.more os d).of_block fun i hi => hb7.block i ((HM6.out.more os d).lt i hi).2
            have hx7 : w7.heap[wr.heap.size]? = some (.cells #[.int .i64 z0, .int .i64 z1, .int .i64 (j : Int), .int .i64 z3, .int .u64 z4, .int .u64 z5] 38 (0, 0)) := by
              rw [hb7.block _ (by simp [World.more]; omega), World.heap_more _ _ _ _ x6]
              exact HB6.out
            have hr6 := (HR6.out.more os d).of_block fun i hi => hb7.block i ((HR6.out.more os d).lt i hi).2
            have hr2 := (HR2.out.more os d).of_block fun i hi => hb7.block i ((HR2.out.more os d).lt i hi).2
            have hB7 : Below w.heap.size w w7 := (HBel6.out.more1 os d).trans (hb7.mono (by have := HBel6.out.size; simp [World.more]; omega))
            clear x0 x1 x2 x3 x4 x5 x6 HC6 hb7
            obtain ⟨x0, x1, x2, x3, x4, x5, x6⟩ := boxO hx7
            obtain ⟨g6, d6, e6, _, _, s6, _, _, y6⟩ := hr6.some_form (by omega)
            obtain ⟨g2, d2, e2, _, _, s2, _, _, y2⟩ := hr2.some_form (by omega)
            obtain ⟨g8, d8, e8, _, _, s8, _, _, y8⟩ := hn7.some_form (by omega)
            obtain ⟨g9, d9, e9, _, _, s9, _, _, y9⟩ := hl7.some_form (by omega)
            cases e6
            cases e2
            cases e8
            cases e9
            have p6 := y6 j _ (u64s_get (by have := HWL'.out; omega))
            have p2 := y2 j _ (u64s_get (by have := HWL.out; omega))
            have p8 := y8 0 _ rfl
            have p90 := y9 0 _ rfl
            have p91 := y9 1 _ rfl
            have p92 := y9 2 _ rfl
            have p93 := y9 3 _ rfl
            have p94 := y9 4 _ rfl
            have p95 := y9 5 _ rfl
            have p96 := y9 6 _ rfl
            simp only at p90 p91 p92 p93 p94 p95 p96
            have HM7 := Lib.hid hM7
            have HB7 := Lib.hid hB7
            have hval : st'.words.getD j 0 = if accWr ⟨z3, z1, kd, (j : Int), old, nw, saw⟩ = true then nw else st.words.getD j 0 := by
              rw [E5.out]
              split
              · have := HWL.out
                simp [List.getD, show j < st.words.length by omega]
              · rfl
            have k0 : ((1 : Int) != 1) = false := by simp
            have k1 : ((N : Int) != (N : Int)) = false := by simp
            have k2 : (z1 != z1) = false := by simp
            have k3 : ((j : Int) != (j : Int)) = false := by simp
            have k4 : (z3 != z3) = false := by simp
            clear y6 y2 y8 y9 hn7 hl7 hr6 hr2 hM7 hB7 hx7
            cases hb : accWr ⟨z3, z1, kd, (j : Int), old, nw, saw⟩
            · rw [hb] at hval
              simp only [Bool.false_eq_true, ↓reduceIte] at hval
              have HWR : Hid (∀ W, Calls Try.prog 22 #[.agg #[.int .i64 z3, .int .i64 z1, .int .i64 kd, .int .i64 (j : Int), .int .u64 old, .int .u64 nw, .int .u64 saw]] W fun e w' => e = .returned (.bool false) ∧ Below W.heap.size W w') := fun W => by
                have h := writes_any ⟨z3, z1, kd, (j : Int), old, nw, saw⟩ W
                rw [hb] at h
                exact h
              rw [hval] at p6
              clear hb hval
              generalize st.words.getD j 0 = u2 at *
              have k5 : (u2 != u2) = false := by simp
              go_wp2
              go_wp2
              refine wp_region_more_lit (by kernel_rfl) (by kernel_rfl) ?_
              repeat (first | go_big_quiet_skip | (go_big_quiet_want; go_big_quiet_op; first | go_big_quiet_on | (apply Exists.intro; refine ⟨fun _ => ?_, ?_⟩; (focus (fail)); go_big_quiet_on)))
              refine wpQuiet_nil ?_
              intro osq dq
              go_wp2
              refine wp_region_more_lit (by kernel_rfl) (by kernel_rfl) ?_
              repeat (first | go_big_quiet_skip | (go_big_quiet_want; go_big_quiet_op; first | go_big_quiet_on | (apply Exists.intro; refine ⟨fun _ => ?_, ?_⟩; (focus (go_at_call 22; exact Calls.more_of (HWR.out _))); go_big_quiet_on)))
              refine wpQuiet_nil ?_
              intro osq dq
              go_wp2
              go_roundg (ops.length - (k + 1))
              case measure => omega
              case rel => exact ⟨k + 1, by omega, by omega, by go_num, Lib.hid ⟨st', v5, (HM7.out.more _ _).more _ _, HWL'.out, by rw [HLL'.out]; omega, HAL'.out⟩, Lib.hid ((HB7.out.more1 _ _).more1 _ _)⟩
            · rw [hb] at hval
              simp only [↓reduceIte] at hval
              have HWR : Hid (∀ W, Calls Try.prog 22 #[.agg #[.int .i64 z3, .int .i64 z1, .int .i64 kd, .int .i64 (j : Int), .int .u64 old, .int .u64 nw, .int .u64 saw]] W fun e w' => e = .returned (.bool true) ∧ Below W.heap.size W w') := fun W => by
                have h := writes_any ⟨z3, z1, kd, (j : Int), old, nw, saw⟩ W
                rw [hb] at h
                exact h
              rw [hval] at p6
              clear hb hval
              generalize st.words.getD j 0 = u2 at *
              have k5 : (nw != nw) = false := by simp
              go_wp2
              go_wp2
              refine wp_region_more_lit (by kernel_rfl) (by kernel_rfl) ?_
              repeat (first | go_big_quiet_skip | (go_big_quiet_want; go_big_quiet_op; first | go_big_quiet_on | (apply Exists.intro; refine ⟨fun _ => ?_, ?_⟩; (focus (fail)); go_big_quiet_on)))
              refine wpQuiet_nil ?_
              intro osq dq
              go_wp2
              refine wp_region_more_lit (by kernel_rfl) (by kernel_rfl) ?_
              repeat (first | go_big_quiet_skip | (go_big_quiet_want; go_big_quiet_op; first | go_big_quiet_on | (apply Exists.intro; refine ⟨fun _ => ?_, ?_⟩; (focus (go_at_call 22; exact Calls.more_of (HWR.out _))); go_big_quiet_on)))
              refine wpQuiet_nil ?_
              intro osq dq
              go_wp2
              go_roundg (ops.length - (k + 1))
              case measure => omega
              case rel => exact ⟨k + 1, by omega, by omega, by go_num, Lib.hid ⟨st', v5, (HM7.out.more _ _).more _ _, HWL'.out, by rw [HLL'.out]; omega, HAL'.out⟩, Lib.hid ((HB7.out.more1 _ _).more1 _ _)⟩
      · have hz : z2 < 0 ∨ (l.length : Int) ≤ z2 := by omega
        have he := accF_no { st with move := z3 } ⟨z0, z1, z2, z3, z4, z5⟩ (by show z2 < 0 ∨ (st.words.length : Int) ≤ z2; rw [HWL.out]; exact hz)
        rw [he] at hM5
        have hw5 := words_mem hM5 (by show st.words.length ≤ _; rw [HWL.out]; omega)
        have hwl := HWL.out
        simp only [hwl] at hw5
        have HW5 := Lib.hid hw5
        have HM5 := Lib.hid hM5
        have HB5 := Lib.hid hb5
        have HR5 := Lib.hid hr5
        have HBel5 := Lib.hid hB5
        clear hw5 hM5 hb5 hr5 hB5 hth ho5 hf5 x0 x1 x2 x3 x4 x5 x6 HA HB3 HR3 HBel3 HM3 he hwl
        go_wp2_with fail
        refine HW5.out.mono ?_
        rintro e w6 ⟨o6, c6, rfl, n6, m6, hr6, ho6⟩
        have hM6 := HM5.out.only ho6 (fun _ _ x => x)
        have hb6 := box_only HB5.out ho6 (fun x => x)
        have hr2 : w6.RowV wr.heap.size 23 1 (.slice o2 l.length c2) l.length (u64s st.words) := HR5.out.of_block fun i hi => ho6.block i (HR5.out.lt i hi).2 (fun x => x)
        have hB6 : Below w.heap.size w w6 := HBel5.out.trans (ho6.below (fun _ hx => hx.elim) HBel5.out.size)
        have hc6 := count_mem hM6
        simp only [← HN.out] at hc6
        have HC6 := Lib.hid hc6
        obtain ⟨x0, x1, x2, x3, x4, x5, x6⟩ := boxO hb6
        have HM6 := Lib.hid hM6
        have HR6 := Lib.hid hr6
        have HR2 := Lib.hid hr2
        have HBel6 := Lib.hid hB6
        clear hM6 hb6 hr6 hr2 hB6 hc6 ho6 HW5 HM5 HB5 HR5 HBel5
        have q4 : ((l.length : Int) != (l.length : Int)) = false := by simp
        have q5 : ((N : Int) != (N : Int)) = false := by simp
        rcases hz with hz | hz
        all_goals
          go_wp2_with (go_at_call 17; refine HC6.out.mono ?_; rintro e w7 ⟨rfl, rfl⟩)
          go_loopg [12] l.length (fun g sl wz => ∃ i : Nat, i ≤ l.length ∧ l.length ≤ i + g ∧ sl = .int .i64 (i : Int) ∧ ∃ os d, wz = w6.more os d)
          case atStart => exact ⟨0, by omega, by omega, rfl, #[], w6.drawn, by simp [World.more]⟩
          case round =>
            obtain ⟨i, hi, hgi, rfl, os, d, rfl⟩ := hrel
            by_cases hil : i < l.length
            · obtain ⟨g6, d6, e6, _, _, s6, _, _, y6⟩ := HR6.out.some_form (by omega)
              obtain ⟨g2, d2, e2, _, _, s2, _, _, y2⟩ := HR2.out.some_form (by omega)
              cases e6
              cases e2
              have p6 := y6 i _ (u64s_get (by have := HWL.out; show i < st.words.length; omega))
              have p2 := y2 i _ (u64s_get (by have := HWL.out; omega))
              generalize st.words.getD i 0 = u2 at *
              have q7 : (u2 != u2) = false := by simp
              clear y6 y2
              go_wp2
              refine wp_region_more_lit (by kernel_rfl) (by kernel_rfl) ?_
              repeat (first | go_big_quiet_skip | (go_big_quiet_want; go_big_quiet_op; first | go_big_quiet_on | (apply Exists.intro; refine ⟨fun _ => ?_, ?_⟩; (focus (fail)); go_big_quiet_on)))
              refine wpQuiet_nil ?_
              intro osq dq
              go_wp2
              go_roundg (l.length - (i + 1))
              case measure => omega
              case rel => exact ⟨i + 1, by omega, by omega, by go_num, RowKit.Below.more (by repeat (first | exact Below.refl _ _ | apply Below.drew | apply Below.more1 | apply Below.alloc1))⟩
            · obtain rfl : i = l.length := by omega
              go_wp2
              go_roundg (ops.length - (k + 1))
              case measure => omega
              case rel => exact ⟨k + 1, by omega, by omega, by go_num, Lib.hid ⟨_, v5, HM6.out.more _ _, HWL.out, by show st.log.length ≤ _; rw [← HN.out]; omega, HAL.out⟩, Lib.hid (HBel6.out.more1 _ _)⟩
    · obtain rfl : k = ops.length := by omega
      go_wp2
      go_ret
      exact ⟨rfl, hBk.out⟩

set_option maxRecDepth 100000 in
theorem one_long {w : World} {va : Value} (o : Option Addr) (n c : Nat) (hn : 8192 < n) (hm : n ≤ 9223372036854775807) : Calls Try.prog 6 #[.slice o n c, va] w fun e w' => e = .returned (.bool true) ∧ Below w.heap.size w w' := by
  go_enter Try.func6, Try.ntmps6
  go_wp2_with (go_at_call 18; refine (awake_any _).mono ?_; rintro e w1 ⟨rfl, hb1⟩; obtain ⟨os, d, rfl⟩ := hb1.more; clear hb1)
  go_ret
  exact ⟨rfl, (by repeat (first | exact Below.refl _ _ | apply Below.drew | apply Below.more1 | apply Below.alloc1))⟩

theorem memoryOne_walk {w : World} {vx va : Value} {l : List Int} {ops : List OpS} (hs : w.Src 1 vx l.length (u64s l)) (hl : l.length ≤ maxLen) (ho : OpsIn w va ops) (hm : ops.length ≤ 2999999999999) : Calls Try.prog 6 #[vx, va] w fun e w' => e = .returned (.bool true) ∧ Below w.heap.size w w' := by
  by_cases hn : l.length ≤ 8192
  · exact one_ok hs hn ho hm
  · unfold maxLen at hl
    rcases hs.2 with ⟨rfl, h0⟩ | ⟨a, c, rfl, hc, _⟩
    · omega
    · exact one_long (some a) l.length c (by omega) (by omega)
end Go.Proofs.Ytpmadfokpimjcaa
