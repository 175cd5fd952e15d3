/-
reclaimlaw02.doc: the log, whole or its beginning.
-/
import Derived.Test.YtpmadfokpimjcaaDocC
import Derived.WalkSpells
namespace Go.Proofs.Ytpmadfokpimjcaa
open Go.ChangeShapes Go.WideShapes Go.ChangeAt Go.RowKit

set_option maxRecDepth 100000 in
set_option maxHeartbeats 8000000 in
theorem doc8 {w : World} {base rb : Nat} {l : List Int} {st : MemS} {v : RefV} (h : RefAt w base rb l st v) (t n old x : Int) (a : Int) (s : Nat) (hs : (n = (s : Int)) ∨ (n < 0 ∧ s = 0)) (m : Nat) (hm : m = (min (st.log.length - s) (stopF a))) (hl1 : st.log.length ≤ 2999999999999) :
    Calls Try.prog 34 #[.pointer (some ⟨rb, 0, none⟩), .agg #[.int .i64 8, .int .i64 t, .int .i64 a, .int .i64 n, .int .u64 old, .int .u64 x]] w fun e w' =>
    TellAt w.heap.size ⟨0, numsL st.log s m, [], logL st.log s m⟩ e w' ∧ RefOut w base rb v l st w' := by
  have HH := Lib.hid h
  obtain ⟨ow, cw, ol, cl, oa, ca, rfl, l1, l2, l3, m1, m2, m3⟩ := h.slices
  have hI0 : DocI w (askW w (.int .i64 8) (.int .i64 t) (.int .i64 a) (.int .i64 n) (.int .u64 old) (.int .u64 x)) 8 t a n old x st.log s 0 0 (.slice none 0 0) (.slice none 0 0) :=
    ⟨AskBox.start _ _ _ _ _ _ _ _ _ _ _ _ _ _ _, by rw [numsL_zero]; exact World.RowV_none _ _ _ _ _, by rw [logL_zero]; exact World.RowV_none _ _ _ _ _, by simp [Value.rowBlock], by unfold askW; exact (by repeat (first | exact Below.refl _ _ | apply Below.drew | apply Below.more1 | apply Below.alloc1))⟩
  have HI0 := Lib.hid hI0
  have HM := Lib.hid hm
  have hml : s + m ≤ st.log.length ∨ m = 0 := by rw [hm]; omega
  have hmm : m ≤ st.log.length := by rw [hm]; omega
  have lt := h.head.2.2.2.2.2
  have HST : Hid (∀ W, Calls Try.prog 45 #[.agg #[.int .i64 8, .int .i64 t, .int .i64 a, .int .i64 n, .int .u64 old, .int .u64 x]] W fun e w' => e = .returned (.int .i64 (stopF a : Int)) ∧ Below W.heap.size W w') := fun W => stop_any 8 t a n old x W
  obtain ⟨i0, hi, hz0, hz1, hz2⟩ := info_parts infoInt
  have J0 := Lib.hid hi
  have J1 := Lib.hid hz0
  have J2 := Lib.hid hz1
  have J3 := Lib.hid hz2
  obtain ⟨j0, ji, jz0, jz1, jz2⟩ := info_parts infoAcc
  have A0 := Lib.hid ji
  have A1 := Lib.hid jz0
  have A2 := Lib.hid jz1
  have A3 := Lib.hid jz2
  clear h hI0 hm hi hz0 hz1 hz2 ji jz0 jz1 jz2
  have hs'' : (n = (s : Int) ∧ 0 < s ∧ Hid (s = s)) ∨ (n = 0 ∧ 0 ≤ s ∧ Hid (s = 0)) ∨ (n < 0 ∧ 0 ≤ s ∧ Hid (s = 0)) := by
    rcases hs with h1 | ⟨h1, h2⟩
    · by_cases h0 : s = 0
      · exact .inr (.inl ⟨by omega, Nat.zero_le _, Lib.hid h0⟩)
      · exact .inl ⟨h1, by omega, Lib.hid rfl⟩
    · exact .inr (.inr ⟨h1, Nat.zero_le _, Lib.hid h2⟩)
  clear hs
  rcases hs'' with ⟨rfl, hs0, hs1'⟩ | ⟨rfl, hs0, hs1'⟩ | ⟨hfr, hs0, hs1'⟩
  · go_enter Try.func34, Try.ntmps34
    go_wp2
    go_loopg [14] m (fun g sl wr => ∃ (k : Nat) (vn vl : Value), k ≤ m ∧ m ≤ k + g ∧ sl = .int .i64 ((s + k : Nat) : Int) ∧ Hid (DocI w wr 8 t a (s : Int) old x st.log s k k vn vl))
    case atStart =>
      refine ⟨0, _, _, by omega, by omega, ?_, HI0⟩
      first
      | rfl
      | (rw [hs1'.out]; rfl)
    case round =>
      obtain ⟨k, vn, vl, hk, hg, rfl, HI⟩ := hrel
      generalize hik : s + k = i at *
      have HIK := Lib.hid hik
      obtain ⟨⟨d0, d1, d2, d3, d4, d5⟩, ⟨e0, e1, e2, e3⟩, ⟨f0, f1, f2, f3⟩, fb, fc, flt⟩ := HI.out.bx.cells
      have hRf := HH.out.of_block fun i hi => HI.out.be.block i (HH.out.lt i hi).2
      obtain ⟨c0, c1x, c2, c3, z, rlt⟩ := hRf.head
      simp only at c0 c1x c2 c3
      obtain ⟨on, cn, rfl, b1, b2⟩ := HI.out.rn.form
      obtain ⟨ol2, cl2, rfl, b3, b4⟩ := HI.out.rl.form
      unfold maxLen at b2 b4
      have HRf := Lib.hid hRf
      clear hRf
      by_cases hkm : k < m
      · have hsl : i < st.log.length := by omega
        clear hik
        have q1 : decide ((i : Int) < (st.log.length : Int)) = true := by simp; omega
        have q2 : decide (i < st.log.length) = true := by simp; omega
        have hks : k < stopF a := by have := HM.out; omega
        have q3 : decide ((k : Int) < (stopF a : Int)) = true := by simp; omega
        have q4 : decide (k < stopF a) = true := by simp; omega
        go_wp2
        refine wp_region_more_lit (by kernel_rfl) (by kernel_rfl) ?_
        repeat (first | go_big_quiet_skip | (go_big_quiet_want; go_big_quiet_op; first | go_big_quiet_on | (apply Exists.intro; refine ⟨fun _ => ?_, ?_⟩; (focus (go_at_call 45; exact Calls.more_of (HST.out _))); go_big_quiet_on)))
        refine wpQuiet_nil ?_
        intro osq dq
        have him := HI.out.more osq dq
        have hz0 : (wr.more osq dq).heap.size = wr.heap.size + osq.size := World.size_more _ _ _
        have HIm := Lib.hid him
        have R1 := Lib.hid (show ∀ u ∈ [Value.int .i64 (i : Int)], u.oneCell' = true by simp [Value.oneCell'])
        have R2 := Lib.hid (show k + 1 ≤ maxLen by unfold maxLen; omega)
        have R3 := Lib.hid (show ((k + 1) + (k + 1) / 4 + 192) * 8 ≤ 281474976710656 by omega)
        have R5 := Lib.hid (show ((k + 1) + (k + 1) / 4 + 192) * 56 ≤ 281474976710656 by omega)
        have hz : ∃ z : Acc, st.log.getD i default = z := ⟨_, rfl⟩
        obtain ⟨⟨mv, th, zkd, zad, zold, znw, zsaw⟩, hz⟩ := hz
        have HZ := Lib.hid hz
        have R4 := Lib.hid (show ∀ u ∈ [Value.int .i64 mv, .int .i64 th, .int .i64 zkd, .int .i64 zad, .int .u64 zold, .int .u64 znw, .int .u64 zsaw], u.oneCell' = true by simp [Value.oneCell'])
        clear him hz hz0
        go_upto_region 28 with (at_builtin; go_must (refine wpList_append_row _ rfl _ _ 39 rfl (w.heap.size + 1 + 1 + 1) 3 i0 _ 1 8 Try.underlying39 J0.out J1.out J2.out J3.out rfl (.slice on k cn) k (i64s (numsL st.log s k)) rfl (HIm.out.rn.alloc _) _ 1 _ rfl (World.Src.one rfl (by first | exact World.size_more _ _ _ | rfl)) R1.out R2.out R3.out (by have := HIm.out.sz; rw [World.size_alloc]; omega) ?_); intro v' w1 hown hout; obtain ⟨o1, c1, rfl, hn1, hm1⟩ := hown.form; have hI2 := (HIm.out.alloc _).stepN (by rw [HIK.out]; exact hown) hout; obtain ⟨g1, g3, gf, glt⟩ := (HIm.out.alloc (.cells #[.int .i64 (i : Int)] 3)).cellsAfter hout (fun i hi => (HIm.out.rn.lt i hi).1); have HI2 := Lib.hid hI2; clear hown hout hI2; unfold maxLen at hm1)
        have hI2 := HI2.out
        obtain ⟨W2, hW2⟩ : ∃ W2, W2 = w1.setCell ⟨w.heap.size + 1 + 1, 1, none⟩ (.slice o1 (k + 1) c1) := ⟨_, rfl⟩
        rw [← hW2] at hI2 ⊢
        clear d0 d1 d2 d3 d4 d5 e0 e1 e2 e3 f0 f1 f2 f3 fb fc flt c0 c1x c2 c3 z rlt g1 g3 gf glt hW2 HI2
        obtain ⟨⟨d0, d1, d2, d3, d4, d5⟩, ⟨e0, e1, e2, e3⟩, ⟨f0, f1, f2, f3⟩, fb, fc, flt⟩ := hI2.bx.cells
        have hRf := HH.out.of_block fun i hi => hI2.be.block i (HH.out.lt i hi).2
        obtain ⟨c0, c1x, c2, c3, z, rlt⟩ := hRf.head
        simp only at c0 c1x c2 c3
        obtain ⟨gt, dt, et, _, _, st2, _, _, xt⟩ := hRf.rt.some_form (by show 0 < st.log.length; omega)
        simp only at et
        cases et
        have xa : ∀ j u, (⟨mv, th, zkd, zad, zold, znw, zsaw⟩ : Acc).cells[j]? = some u → j < 7 → W2.cell? ⟨gt, i * 7 + j, none⟩ = some u := fun j u hu hj => xt (i * 7 + j) u (by rw [accs_get st.log i j hsl hj, HZ.out]; exact hu)
        have y0 := xa 0 _ rfl (by omega)
        have y1 := xa 1 _ rfl (by omega)
        have y2 := xa 2 _ rfl (by omega)
        have y3 := xa 3 _ rfl (by omega)
        have y4 := xa 4 _ rfl (by omega)
        have y5 := xa 5 _ rfl (by omega)
        have y6 := xa 6 _ rfl (by omega)
        simp only [Nat.add_zero] at y0
        have HI3 := Lib.hid hI2
        have n1 : rb ≠ W2.heap.size := by omega
        have n2 : w.heap.size + 1 + 1 ≠ W2.heap.size := by omega
        have n3 : gt ≠ W2.heap.size := by omega
        have n4 : rb ≠ w.heap.size + 1 + 1 := by omega
        clear xa xt hRf hI2
        go_region_law ((refine step_append_row _ (by rfl) _ _ 40 (by rfl) (w.heap.size + 1 + 1 + 1) 45 j0 _ 7 56 Try.underlying40 A0.out A1.out A2.out A3.out rfl (.slice ol2 k cl2) k (accs (logL st.log s k)) (by rfl) (by repeat (first | exact HI3.out.rl | apply World.RowV.alloc | apply World.RowV.drew)) _ 1 _ (by rfl) (by repeat (first | apply World.Src.drew | exact World.Src.one rfl rfl)) R4.out R2.out R5.out (by have := HI3.out.sz; simp; omega) ?_; intro v' w3 hown hout; obtain ⟨o3, c3', rfl, hn3, hm3⟩ := hown.form; obtain ⟨g1, g3, gf, glt⟩ := (DocI.cellsAfter (by repeat (first | exact HI3.out | apply DocI.alloc | apply DocI.drew)) hout (fun i hi => (HI3.out.rl.lt i hi).1)); have H3 := Lib.hid (DocI.stepL (by repeat (first | exact HI3.out | apply DocI.alloc | apply DocI.drew)) (by rw [HIK.out, HZ.out]; exact hown) hout); clear hown hout hm3))
        all_goals
          go_wp2
          go_roundg (m - (k + 1))
          case measure => omega
          case rel => exact ⟨k + 1, _, _, by omega, by omega, by rw [show s + (k + 1) = i + 1 by have := HIK.out; omega]; go_num, H3⟩
      · by_cases hsl : i < st.log.length
        · have q1 : decide ((i : Int) < (st.log.length : Int)) = true := by simp; omega
          have q2 : decide (i < st.log.length) = true := by simp; omega
          have hks : stopF a ≤ k := by have := HM.out; omega
          have q3 : decide ((k : Int) < (stopF a : Int)) = false := by simp; omega
          have q4 : decide (k < stopF a) = false := by simp; omega
          obtain rfl : k = m := by omega
          go_wp2
          refine wp_region_more_lit (by kernel_rfl) (by kernel_rfl) ?_
          repeat (first | go_big_quiet_skip | (go_big_quiet_want; go_big_quiet_op; first | go_big_quiet_on | (apply Exists.intro; refine ⟨fun _ => ?_, ?_⟩; (focus (go_at_call 45; exact Calls.more_of (HST.out _))); go_big_quiet_on)))
          refine wpQuiet_nil ?_
          intro osq dq
          go_wp2
          refine bodyPost_ret (v := .agg #[.int .i64 0, .slice on k cn, .slice none 0 0, .slice ol2 k cl2]) (by simp [results, Try.results34, go_sem, ↓IntWalk.iteOmega, e0, e1, e2, e3]) rfl ?_
          have hfin := fun wf hf => HI.out.tell (W' := wf) hf
          refine ⟨(hfin _ ?_).1, ref_below HH.out (hfin _ ?_).2⟩
          all_goals repeat (first | with_reducible exact Only.refl _ _ | with_reducible apply askF1 | with_reducible apply askF2 | with_reducible apply Only.more)
        · have q1 : decide ((i : Int) < (st.log.length : Int)) = false := by simp; omega
          have q2 : decide (i < st.log.length) = false := by simp; omega
          obtain rfl : k = m := by omega
          go_wp2
          refine wp_region_more_lit (by kernel_rfl) (by kernel_rfl) ?_
          repeat (first | go_big_quiet_skip | (go_big_quiet_want; go_big_quiet_op; first | go_big_quiet_on | (apply Exists.intro; refine ⟨fun _ => ?_, ?_⟩; (focus (go_at_call 45; exact Calls.more_of (HST.out _))); go_big_quiet_on)))
          refine wpQuiet_nil ?_
          intro osq dq
          go_wp2
          refine bodyPost_ret (v := .agg #[.int .i64 0, .slice on k cn, .slice none 0 0, .slice ol2 k cl2]) (by simp [results, Try.results34, go_sem, ↓IntWalk.iteOmega, e0, e1, e2, e3]) rfl ?_
          have hfin := fun wf hf => HI.out.tell (W' := wf) hf
          refine ⟨(hfin _ ?_).1, ref_below HH.out (hfin _ ?_).2⟩
          all_goals repeat (first | with_reducible exact Only.refl _ _ | with_reducible apply askF1 | with_reducible apply askF2 | with_reducible apply Only.more)
  · go_enter Try.func34, Try.ntmps34
    go_wp2
    go_loopg [14] m (fun g sl wr => ∃ (k : Nat) (vn vl : Value), k ≤ m ∧ m ≤ k + g ∧ sl = .int .i64 ((s + k : Nat) : Int) ∧ Hid (DocI w wr 8 t a (0 : Int) old x st.log s k k vn vl))
    case atStart =>
      refine ⟨0, _, _, by omega, by omega, ?_, HI0⟩
      first
      | rfl
      | (rw [hs1'.out]; rfl)
    case round =>
      obtain ⟨k, vn, vl, hk, hg, rfl, HI⟩ := hrel
      generalize hik : s + k = i at *
      have HIK := Lib.hid hik
      obtain ⟨⟨d0, d1, d2, d3, d4, d5⟩, ⟨e0, e1, e2, e3⟩, ⟨f0, f1, f2, f3⟩, fb, fc, flt⟩ := HI.out.bx.cells
      have hRf := HH.out.of_block fun i hi => HI.out.be.block i (HH.out.lt i hi).2
      obtain ⟨c0, c1x, c2, c3, z, rlt⟩ := hRf.head
      simp only at c0 c1x c2 c3
      obtain ⟨on, cn, rfl, b1, b2⟩ := HI.out.rn.form
      obtain ⟨ol2, cl2, rfl, b3, b4⟩ := HI.out.rl.form
      unfold maxLen at b2 b4
      have HRf := Lib.hid hRf
      clear hRf
      by_cases hkm : k < m
      · have hsl : i < st.log.length := by omega
        clear hik
        have q1 : decide ((i : Int) < (st.log.length : Int)) = true := by simp; omega
        have q2 : decide (i < st.log.length) = true := by simp; omega
        have hks : k < stopF a := by have := HM.out; omega
        have q3 : decide ((k : Int) < (stopF a : Int)) = true := by simp; omega
        have q4 : decide (k < stopF a) = true := by simp; omega
        go_wp2
        refine wp_region_more_lit (by kernel_rfl) (by kernel_rfl) ?_
        repeat (first | go_big_quiet_skip | (go_big_quiet_want; go_big_quiet_op; first | go_big_quiet_on | (apply Exists.intro; refine ⟨fun _ => ?_, ?_⟩; (focus (go_at_call 45; exact Calls.more_of (HST.out _))); go_big_quiet_on)))
        refine wpQuiet_nil ?_
        intro osq dq
        have him := HI.out.more osq dq
        have hz0 : (wr.more osq dq).heap.size = wr.heap.size + osq.size := World.size_more _ _ _
        have HIm := Lib.hid him
        have R1 := Lib.hid (show ∀ u ∈ [Value.int .i64 (i : Int)], u.oneCell' = true by simp [Value.oneCell'])
        have R2 := Lib.hid (show k + 1 ≤ maxLen by unfold maxLen; omega)
        have R3 := Lib.hid (show ((k + 1) + (k + 1) / 4 + 192) * 8 ≤ 281474976710656 by omega)
        have R5 := Lib.hid (show ((k + 1) + (k + 1) / 4 + 192) * 56 ≤ 281474976710656 by omega)
        have hz : ∃ z : Acc, st.log.getD i default = z := ⟨_, rfl⟩
        obtain ⟨⟨mv, th, zkd, zad, zold, znw, zsaw⟩, hz⟩ := hz
        have HZ := Lib.hid hz
        have R4 := Lib.hid (show ∀ u ∈ [Value.int .i64 mv, .int .i64 th, .int .i64 zkd, .int .i64 zad, .int .u64 zold, .int .u64 znw, .int .u64 zsaw], u.oneCell' = true by simp [Value.oneCell'])
        clear him hz hz0
        go_upto_region 28 with (at_builtin; go_must (refine wpList_append_row _ rfl _ _ 39 rfl (w.heap.size + 1 + 1 + 1) 3 i0 _ 1 8 Try.underlying39 J0.out J1.out J2.out J3.out rfl (.slice on k cn) k (i64s (numsL st.log s k)) rfl (HIm.out.rn.alloc _) _ 1 _ rfl (World.Src.one rfl (by first | exact World.size_more _ _ _ | rfl)) R1.out R2.out R3.out (by have := HIm.out.sz; rw [World.size_alloc]; omega) ?_); intro v' w1 hown hout; obtain ⟨o1, c1, rfl, hn1, hm1⟩ := hown.form; have hI2 := (HIm.out.alloc _).stepN (by rw [HIK.out]; exact hown) hout; obtain ⟨g1, g3, gf, glt⟩ := (HIm.out.alloc (.cells #[.int .i64 (i : Int)] 3)).cellsAfter hout (fun i hi => (HIm.out.rn.lt i hi).1); have HI2 := Lib.hid hI2; clear hown hout hI2; unfold maxLen at hm1)
        have hI2 := HI2.out
        obtain ⟨W2, hW2⟩ : ∃ W2, W2 = w1.setCell ⟨w.heap.size + 1 + 1, 1, none⟩ (.slice o1 (k + 1) c1) := ⟨_, rfl⟩
        rw [← hW2] at hI2 ⊢
        clear d0 d1 d2 d3 d4 d5 e0 e1 e2 e3 f0 f1 f2 f3 fb fc flt c0 c1x c2 c3 z rlt g1 g3 gf glt hW2 HI2
        obtain ⟨⟨d0, d1, d2, d3, d4, d5⟩, ⟨e0, e1, e2, e3⟩, ⟨f0, f1, f2, f3⟩, fb, fc, flt⟩ := hI2.bx.cells
        have hRf := HH.out.of_block fun i hi => hI2.be.block i (HH.out.lt i hi).2
        obtain ⟨c0, c1x, c2, c3, z, rlt⟩ := hRf.head
        simp only at c0 c1x c2 c3
        obtain ⟨gt, dt, et, _, _, st2, _, _, xt⟩ := hRf.rt.some_form (by show 0 < st.log.length; omega)
        simp only at et
        cases et
        have xa : ∀ j u, (⟨mv, th, zkd, zad, zold, znw, zsaw⟩ : Acc).cells[j]? = some u → j < 7 → W2.cell? ⟨gt, i * 7 + j, none⟩ = some u := fun j u hu hj => xt (i * 7 + j) u (by rw [accs_get st.log i j hsl hj, HZ.out]; exact hu)
        have y0 := xa 0 _ rfl (by omega)
        have y1 := xa 1 _ rfl (by omega)
        have y2 := xa 2 _ rfl (by omega)
        have y3 := xa 3 _ rfl (by omega)
        have y4 := xa 4 _ rfl (by omega)
        have y5 := xa 5 _ rfl (by omega)
        have y6 := xa 6 _ rfl (by omega)
        simp only [Nat.add_zero] at y0
        have HI3 := Lib.hid hI2
        have n1 : rb ≠ W2.heap.size := by omega
        have n2 : w.heap.size + 1 + 1 ≠ W2.heap.size := by omega
        have n3 : gt ≠ W2.heap.size := by omega
        have n4 : rb ≠ w.heap.size + 1 + 1 := by omega
        clear xa xt hRf hI2
        go_region_law ((refine step_append_row _ (by rfl) _ _ 40 (by rfl) (w.heap.size + 1 + 1 + 1) 45 j0 _ 7 56 Try.underlying40 A0.out A1.out A2.out A3.out rfl (.slice ol2 k cl2) k (accs (logL st.log s k)) (by rfl) (by repeat (first | exact HI3.out.rl | apply World.RowV.alloc | apply World.RowV.drew)) _ 1 _ (by rfl) (by repeat (first | apply World.Src.drew | exact World.Src.one rfl rfl)) R4.out R2.out R5.out (by have := HI3.out.sz; simp; omega) ?_; intro v' w3 hown hout; obtain ⟨o3, c3', rfl, hn3, hm3⟩ := hown.form; obtain ⟨g1, g3, gf, glt⟩ := (DocI.cellsAfter (by repeat (first | exact HI3.out | apply DocI.alloc | apply DocI.drew)) hout (fun i hi => (HI3.out.rl.lt i hi).1)); have H3 := Lib.hid (DocI.stepL (by repeat (first | exact HI3.out | apply DocI.alloc | apply DocI.drew)) (by rw [HIK.out, HZ.out]; exact hown) hout); clear hown hout hm3))
        all_goals
          go_wp2
          go_roundg (m - (k + 1))
          case measure => omega
          case rel => exact ⟨k + 1, _, _, by omega, by omega, by rw [show s + (k + 1) = i + 1 by have := HIK.out; omega]; go_num, H3⟩
      · by_cases hsl : i < st.log.length
        · have q1 : decide ((i : Int) < (st.log.length : Int)) = true := by simp; omega
          have q2 : decide (i < st.log.length) = true := by simp; omega
          have hks : stopF a ≤ k := by have := HM.out; omega
          have q3 : decide ((k : Int) < (stopF a : Int)) = false := by simp; omega
          have q4 : decide (k < stopF a) = false := by simp; omega
          obtain rfl : k = m := by omega
          go_wp2
          refine wp_region_more_lit (by kernel_rfl) (by kernel_rfl) ?_
          repeat (first | go_big_quiet_skip | (go_big_quiet_want; go_big_quiet_op; first | go_big_quiet_on | (apply Exists.intro; refine ⟨fun _ => ?_, ?_⟩; (focus (go_at_call 45; exact Calls.more_of (HST.out _))); go_big_quiet_on)))
          refine wpQuiet_nil ?_
          intro osq dq
          go_wp2
          refine bodyPost_ret (v := .agg #[.int .i64 0, .slice on k cn, .slice none 0 0, .slice ol2 k cl2]) (by simp [results, Try.results34, go_sem, ↓IntWalk.iteOmega, e0, e1, e2, e3]) rfl ?_
          have hfin := fun wf hf => HI.out.tell (W' := wf) hf
          refine ⟨(hfin _ ?_).1, ref_below HH.out (hfin _ ?_).2⟩
          all_goals repeat (first | with_reducible exact Only.refl _ _ | with_reducible apply askF1 | with_reducible apply askF2 | with_reducible apply Only.more)
        · have q1 : decide ((i : Int) < (st.log.length : Int)) = false := by simp; omega
          have q2 : decide (i < st.log.length) = false := by simp; omega
          obtain rfl : k = m := by omega
          go_wp2
          refine wp_region_more_lit (by kernel_rfl) (by kernel_rfl) ?_
          repeat (first | go_big_quiet_skip | (go_big_quiet_want; go_big_quiet_op; first | go_big_quiet_on | (apply Exists.intro; refine ⟨fun _ => ?_, ?_⟩; (focus (go_at_call 45; exact Calls.more_of (HST.out _))); go_big_quiet_on)))
          refine wpQuiet_nil ?_
          intro osq dq
          go_wp2
          refine bodyPost_ret (v := .agg #[.int .i64 0, .slice on k cn, .slice none 0 0, .slice ol2 k cl2]) (by simp [results, Try.results34, go_sem, ↓IntWalk.iteOmega, e0, e1, e2, e3]) rfl ?_
          have hfin := fun wf hf => HI.out.tell (W' := wf) hf
          refine ⟨(hfin _ ?_).1, ref_below HH.out (hfin _ ?_).2⟩
          all_goals repeat (first | with_reducible exact Only.refl _ _ | with_reducible apply askF1 | with_reducible apply askF2 | with_reducible apply Only.more)
  · go_enter Try.func34, Try.ntmps34
    go_wp2
    go_loopg [14] m (fun g sl wr => ∃ (k : Nat) (vn vl : Value), k ≤ m ∧ m ≤ k + g ∧ sl = .int .i64 ((s + k : Nat) : Int) ∧ Hid (DocI w wr 8 t a n old x st.log s k k vn vl))
    case atStart =>
      refine ⟨0, _, _, by omega, by omega, ?_, HI0⟩
      first
      | rfl
      | (rw [hs1'.out]; rfl)
    case round =>
      obtain ⟨k, vn, vl, hk, hg, rfl, HI⟩ := hrel
      generalize hik : s + k = i at *
      have HIK := Lib.hid hik
      obtain ⟨⟨d0, d1, d2, d3, d4, d5⟩, ⟨e0, e1, e2, e3⟩, ⟨f0, f1, f2, f3⟩, fb, fc, flt⟩ := HI.out.bx.cells
      have hRf := HH.out.of_block fun i hi => HI.out.be.block i (HH.out.lt i hi).2
      obtain ⟨c0, c1x, c2, c3, z, rlt⟩ := hRf.head
      simp only at c0 c1x c2 c3
      obtain ⟨on, cn, rfl, b1, b2⟩ := HI.out.rn.form
      obtain ⟨ol2, cl2, rfl, b3, b4⟩ := HI.out.rl.form
      unfold maxLen at b2 b4
      have HRf := Lib.hid hRf
      clear hRf
      by_cases hkm : k < m
      · have hsl : i < st.log.length := by omega
        clear hik
        have q1 : decide ((i : Int) < (st.log.length : Int)) = true := by simp; omega
        have q2 : decide (i < st.log.length) = true := by simp; omega
        have hks : k < stopF a := by have := HM.out; omega
        have q3 : decide ((k : Int) < (stopF a : Int)) = true := by simp; omega
        have q4 : decide (k < stopF a) = true := by simp; omega
        go_wp2
        refine wp_region_more_lit (by kernel_rfl) (by kernel_rfl) ?_
        repeat (first | go_big_quiet_skip | (go_big_quiet_want; go_big_quiet_op; first | go_big_quiet_on | (apply Exists.intro; refine ⟨fun _ => ?_, ?_⟩; (focus (go_at_call 45; exact Calls.more_of (HST.out _))); go_big_quiet_on)))
        refine wpQuiet_nil ?_
        intro osq dq
        have him := HI.out.more osq dq
        have hz0 : (wr.more osq dq).heap.size = wr.heap.size + osq.size := World.size_more _ _ _
        have HIm := Lib.hid him
        have R1 := Lib.hid (show ∀ u ∈ [Value.int .i64 (i : Int)], u.oneCell' = true by simp [Value.oneCell'])
        have R2 := Lib.hid (show k + 1 ≤ maxLen by unfold maxLen; omega)
        have R3 := Lib.hid (show ((k + 1) + (k + 1) / 4 + 192) * 8 ≤ 281474976710656 by omega)
        have R5 := Lib.hid (show ((k + 1) + (k + 1) / 4 + 192) * 56 ≤ 281474976710656 by omega)
        have hz : ∃ z : Acc, st.log.getD i default = z := ⟨_, rfl⟩
        obtain ⟨⟨mv, th, zkd, zad, zold, znw, zsaw⟩, hz⟩ := hz
        have HZ := Lib.hid hz
        have R4 := Lib.hid (show ∀ u ∈ [Value.int .i64 mv, .int .i64 th, .int .i64 zkd, .int .i64 zad, .int .u64 zold, .int .u64 znw, .int .u64 zsaw], u.oneCell' = true by simp [Value.oneCell'])
        clear him hz hz0
        go_upto_region 28 with (at_builtin; go_must (refine wpList_append_row _ rfl _ _ 39 rfl (w.heap.size + 1 + 1 + 1) 3 i0 _ 1 8 Try.underlying39 J0.out J1.out J2.out J3.out rfl (.slice on k cn) k (i64s (numsL st.log s k)) rfl (HIm.out.rn.alloc _) _ 1 _ rfl (World.Src.one rfl (by first | exact World.size_more _ _ _ | rfl)) R1.out R2.out R3.out (by have := HIm.out.sz; rw [World.size_alloc]; omega) ?_); intro v' w1 hown hout; obtain ⟨o1, c1, rfl, hn1, hm1⟩ := hown.form; have hI2 := (HIm.out.alloc _).stepN (by rw [HIK.out]; exact hown) hout; obtain ⟨g1, g3, gf, glt⟩ := (HIm.out.alloc (.cells #[.int .i64 (i : Int)] 3)).cellsAfter hout (fun i hi => (HIm.out.rn.lt i hi).1); have HI2 := Lib.hid hI2; clear hown hout hI2; unfold maxLen at hm1)
        have hI2 := HI2.out
        obtain ⟨W2, hW2⟩ : ∃ W2, W2 = w1.setCell ⟨w.heap.size + 1 + 1, 1, none⟩ (.slice o1 (k + 1) c1) := ⟨_, rfl⟩
        rw [← hW2] at hI2 ⊢
        clear d0 d1 d2 d3 d4 d5 e0 e1 e2 e3 f0 f1 f2 f3 fb fc flt c0 c1x c2 c3 z rlt g1 g3 gf glt hW2 HI2
        obtain ⟨⟨d0, d1, d2, d3, d4, d5⟩, ⟨e0, e1, e2, e3⟩, ⟨f0, f1, f2, f3⟩, fb, fc, flt⟩ := hI2.bx.cells
        have hRf := HH.out.of_block fun i hi => hI2.be.block i (HH.out.lt i hi).2
        obtain ⟨c0, c1x, c2, c3, z, rlt⟩ := hRf.head
        simp only at c0 c1x c2 c3
        obtain ⟨gt, dt, et, _, _, st2, _, _, xt⟩ := hRf.rt.some_form (by show 0 < st.log.length; omega)
        simp only at et
        cases et
        have xa : ∀ j u, (⟨mv, th, zkd, zad, zold, znw, zsaw⟩ : Acc).cells[j]? = some u → j < 7 → W2.cell? ⟨gt, i * 7 + j, none⟩ = some u := fun j u hu hj => xt (i * 7 + j) u (by rw [accs_get st.log i j hsl hj, HZ.out]; exact hu)
        have y0 := xa 0 _ rfl (by omega)
        have y1 := xa 1 _ rfl (by omega)
        have y2 := xa 2 _ rfl (by omega)
        have y3 := xa 3 _ rfl (by omega)
        have y4 := xa 4 _ rfl (by omega)
        have y5 := xa 5 _ rfl (by omega)
        have y6 := xa 6 _ rfl (by omega)
        simp only [Nat.add_zero] at y0
        have HI3 := Lib.hid hI2
        have n1 : rb ≠ W2.heap.size := by omega
        have n2 : w.heap.size + 1 + 1 ≠ W2.heap.size := by omega
        have n3 : gt ≠ W2.heap.size := by omega
        have n4 : rb ≠ w.heap.size + 1 + 1 := by omega
        clear xa xt hRf hI2
        go_region_law ((refine step_append_row _ (by rfl) _ _ 40 (by rfl) (w.heap.size + 1 + 1 + 1) 45 j0 _ 7 56 Try.underlying40 A0.out A1.out A2.out A3.out rfl (.slice ol2 k cl2) k (accs (logL st.log s k)) (by rfl) (by repeat (first | exact HI3.out.rl | apply World.RowV.alloc | apply World.RowV.drew)) _ 1 _ (by rfl) (by repeat (first | apply World.Src.drew | exact World.Src.one rfl rfl)) R4.out R2.out R5.out (by have := HI3.out.sz; simp; omega) ?_; intro v' w3 hown hout; obtain ⟨o3, c3', rfl, hn3, hm3⟩ := hown.form; obtain ⟨g1, g3, gf, glt⟩ := (DocI.cellsAfter (by repeat (first | exact HI3.out | apply DocI.alloc | apply DocI.drew)) hout (fun i hi => (HI3.out.rl.lt i hi).1)); have H3 := Lib.hid (DocI.stepL (by repeat (first | exact HI3.out | apply DocI.alloc | apply DocI.drew)) (by rw [HIK.out, HZ.out]; exact hown) hout); clear hown hout hm3))
        all_goals
          go_wp2
          go_roundg (m - (k + 1))
          case measure => omega
          case rel => exact ⟨k + 1, _, _, by omega, by omega, by rw [show s + (k + 1) = i + 1 by have := HIK.out; omega]; go_num, H3⟩
      · by_cases hsl : i < st.log.length
        · have q1 : decide ((i : Int) < (st.log.length : Int)) = true := by simp; omega
          have q2 : decide (i < st.log.length) = true := by simp; omega
          have hks : stopF a ≤ k := by have := HM.out; omega
          have q3 : decide ((k : Int) < (stopF a : Int)) = false := by simp; omega
          have q4 : decide (k < stopF a) = false := by simp; omega
          obtain rfl : k = m := by omega
          go_wp2
          refine wp_region_more_lit (by kernel_rfl) (by kernel_rfl) ?_
          repeat (first | go_big_quiet_skip | (go_big_quiet_want; go_big_quiet_op; first | go_big_quiet_on | (apply Exists.intro; refine ⟨fun _ => ?_, ?_⟩; (focus (go_at_call 45; exact Calls.more_of (HST.out _))); go_big_quiet_on)))
          refine wpQuiet_nil ?_
          intro osq dq
          go_wp2
          refine bodyPost_ret (v := .agg #[.int .i64 0, .slice on k cn, .slice none 0 0, .slice ol2 k cl2]) (by simp [results, Try.results34, go_sem, ↓IntWalk.iteOmega, e0, e1, e2, e3]) rfl ?_
          have hfin := fun wf hf => HI.out.tell (W' := wf) hf
          refine ⟨(hfin _ ?_).1, ref_below HH.out (hfin _ ?_).2⟩
          all_goals repeat (first | with_reducible exact Only.refl _ _ | with_reducible apply askF1 | with_reducible apply askF2 | with_reducible apply Only.more)
        · have q1 : decide ((i : Int) < (st.log.length : Int)) = false := by simp; omega
          have q2 : decide (i < st.log.length) = false := by simp; omega
          obtain rfl : k = m := by omega
          go_wp2
          refine wp_region_more_lit (by kernel_rfl) (by kernel_rfl) ?_
          repeat (first | go_big_quiet_skip | (go_big_quiet_want; go_big_quiet_op; first | go_big_quiet_on | (apply Exists.intro; refine ⟨fun _ => ?_, ?_⟩; (focus (go_at_call 45; exact Calls.more_of (HST.out _))); go_big_quiet_on)))
          refine wpQuiet_nil ?_
          intro osq dq
          go_wp2
          refine bodyPost_ret (v := .agg #[.int .i64 0, .slice on k cn, .slice none 0 0, .slice ol2 k cl2]) (by simp [results, Try.results34, go_sem, ↓IntWalk.iteOmega, e0, e1, e2, e3]) rfl ?_
          have hfin := fun wf hf => HI.out.tell (W' := wf) hf
          refine ⟨(hfin _ ?_).1, ref_below HH.out (hfin _ ?_).2⟩
          all_goals repeat (first | with_reducible exact Only.refl _ _ | with_reducible apply askF1 | with_reducible apply askF2 | with_reducible apply Only.more)
end Go.Proofs.Ytpmadfokpimjcaa
