/-
WordOwn returns true.
-/
import Derived.Test.YtaokjiajceefaaaFirstW
import Derived.Test.YtaokjiajceefaaaOwnP
import Derived.Deep.DeepCutAuto
import Derived.Deep.Cut
namespace Go.Proofs.Ytaokjiajceefaaa
open Go.ChangeShapes Go.WideShapes Go.ChangeAt Go.RowKit

/-- the configuration or the number of used slots may not be: the small one is taken -/
def notSo (a0 a1 a2 a3 a4 a5 a6 u : Int) : Bool := !okCfg a0 a1 a2 a3 a4 a5 a6 || decide (u < 0) || decide (a5 < u)

set_option maxRecDepth 100000 in
set_option maxHeartbeats 2000000 in
theorem wordOwn_walk (a0 a1 a2 a3 a4 a5 a6 u : Int) (w : World) : Calls Try.prog 11 #[.agg #[.int .i64 a0, .int .i64 a1, .int .i64 a2, .int .i64 a3, .int .i64 a4, .int .i64 a5, .int .i64 a6], .int .i64 u] w fun e w' => e = .returned (.bool true) ∧ Below w.heap.size w w' := by
  go_enter Try.func11, Try.ntmps11
  go_upto_region 1 with (fail)
  go_cut [30] (fun t wx => t = .bool (notSo a0 a1 a2 a3 a4 a5 a6 u) ∧ ∃ os d, wx = (w.alloc (.cells #[.int .i64 a0, .int .i64 a1, .int .i64 a2, .int .i64 a3, .int .i64 a4, .int .i64 a5, .int .i64 a6] 28)).more os d)
  case first =>
    have e2 : cfgErr a0 a1 a2 a3 a4 a5 a6 = if okCfg a0 a1 a2 a3 a4 a5 a6 then 0 else 1 := rfl
    cases hok : okCfg a0 a1 a2 a3 a4 a5 a6
    all_goals
      simp only [hok, Bool.false_eq_true, ↓reduceIte] at e2
    · have E := Lib.hid (show notSo a0 a1 a2 a3 a4 a5 a6 u = true by simp [notSo, hok])
      go_wp2_with (go_at_call 16; refine (check_any _ _ _ _ _ _ _ _).mono ?_; rintro e w1 ⟨rfl, hb1⟩; obtain ⟨os, d, rfl⟩ := hb1.more; clear hb1)
      go_meet
      exact ⟨by rw [E.out], RowKit.Below.more (by repeat (first | exact Below.refl _ _ | apply Below.drew | apply Below.more1 | apply Below.alloc1))⟩
    · have hcase : u < 0 ∨ (0 ≤ u ∧ a5 < u) ∨ (0 ≤ u ∧ u ≤ a5) := by omega
      rcases hcase with hu | ⟨hu0, hu⟩ | ⟨hu0, hu⟩
      · have E := Lib.hid (show notSo a0 a1 a2 a3 a4 a5 a6 u = true by simp [notSo, hok, hu])
        go_wp2_with (go_at_call 16; refine (check_any _ _ _ _ _ _ _ _).mono ?_; rintro e w1 ⟨rfl, hb1⟩; obtain ⟨os, d, rfl⟩ := hb1.more; clear hb1)
        go_meet
        exact ⟨by rw [E.out], RowKit.Below.more (by repeat (first | exact Below.refl _ _ | apply Below.drew | apply Below.more1 | apply Below.alloc1))⟩
      · have E := Lib.hid (show notSo a0 a1 a2 a3 a4 a5 a6 u = true by simp [notSo, hok, hu])
        go_wp2_with (go_at_call 16; refine (check_any _ _ _ _ _ _ _ _).mono ?_; rintro e w1 ⟨rfl, hb1⟩; obtain ⟨os, d, rfl⟩ := hb1.more; clear hb1)
        go_meet
        exact ⟨by rw [E.out], RowKit.Below.more (by repeat (first | exact Below.refl _ _ | apply Below.drew | apply Below.more1 | apply Below.alloc1))⟩
      · have E := Lib.hid (show notSo a0 a1 a2 a3 a4 a5 a6 u = false by simp [notSo, hok]; omega)
        have d1 : decide (u < 0) = false := by simp; omega
        have d2 : decide (a5 < u) = false := by simp; omega
        go_wp2_with (go_at_call 16; refine (check_any _ _ _ _ _ _ _ _).mono ?_; rintro e w1 ⟨rfl, hb1⟩; obtain ⟨os, d, rfl⟩ := hb1.more; clear hb1)
        go_meet
        exact ⟨by rw [E.out], RowKit.Below.more (by repeat (first | exact Below.refl _ _ | apply Below.drew | apply Below.more1 | apply Below.alloc1))⟩
  case rest =>
    obtain ⟨rfl, os, d, rfl⟩ := hcut
    go_upto_if 30 with (fail)
    go_cut [1] (fun t wx => ∃ (b0 b1 b2 b3 b4 b5 b6 : Int) (v : Nat), t = .int .i64 (v : Int) ∧ okCfg b0 b1 b2 b3 b4 b5 b6 = true ∧ (v : Int) ≤ b5 ∧ ∃ os d, wx = (w.alloc (.cells #[.int .i64 b0, .int .i64 b1, .int .i64 b2, .int .i64 b3, .int .i64 b4, .int .i64 b5, .int .i64 b6] 28)).more os d)
    case first =>
      cases hns : notSo a0 a1 a2 a3 a4 a5 a6 u
      · have hns' := hns
        simp only [notSo, Bool.or_eq_false_iff, Bool.not_eq_false', decide_eq_false_iff_not] at hns'
        obtain ⟨v, rfl⟩ : ∃ v : Nat, u = (v : Int) := ⟨u.toNat, by omega⟩
        have hok := Lib.hid hns'.1.1
        have hv : (v : Int) ≤ a5 := by omega
        clear hns'
        go_wp2
        go_meet
        exact ⟨_, _, _, _, _, _, _, _, rfl, hok.out, hv, RowKit.Below.more (by repeat (first | exact Below.refl _ _ | apply Below.drew | apply Below.more1 | apply Below.alloc1))⟩
      · go_wp2_with (go_at_call 17; refine (small_any _).mono ?_; rintro e w1 ⟨rfl, hb1⟩; obtain ⟨os, d, rfl⟩ := hb1.more; clear hb1)
        go_meet
        exact ⟨2, 2, 3, 1, 0, 4, 2, 0, rfl, by decide, by omega, RowKit.Below.more (by repeat (first | exact Below.refl _ _ | apply Below.drew | apply Below.more1 | apply Below.alloc1))⟩
    case rest =>
      obtain ⟨a0, a1, a2, a3, a4, a5, a6, u, rfl, hok, hu, os, d, rfl⟩ := hcut
      obtain ⟨b, n, s, hs, hn, hb, h1, h2, h3, h4⟩ := first_nums hok
      have HF := Lib.hid (fun w => first_ok a0 a1 a2 a3 a4 a5 a6 u b n s hok hs (by have := hs.out; omega) hn hb h1 h2 h3 w)
      have Hok := Lib.hid hok
      clear hok
      have hn6 : 6 ≤ n := by omega
      have hus := Lib.hid hu
      clear hu
      obtain ⟨i0, hi, hz0, hz1, hz2⟩ := info_parts infoU64
      go_wp2_with fail
      refine (HF.out _).mono ?_; rintro e w1 ⟨osA, dA, osA', dA', rfl, rfl⟩
      go_wp2_with fail
      refine (HF.out _).mono ?_; rintro e w1 ⟨osB, dB, osB', dB', rfl, rfl⟩
      go_wp2_with (at_builtin; refine wpList_append_out _ rfl _ _ 59 rfl 0 23 i0 (.int .u64 0) 1 8 Try.underlying59 hi hz0 hz1 hz2 rfl (by decide) _ 0 [] rfl (World.ownsRow_nil _ _ _ _) ⟨w.heap.size + 1 + os.size + osA.size, 0, none⟩ n n (rowL n (firstW b u s)) rfl ?c1 ?c2 ?c3 ?c4 ?c5 ?c6 ?_)
      case c1 => rw [rowL_len]; omega
      case c2 => exact RowAt.news (by repeat (first | (refine RowAt.made _ _ _ _ ?_; simp [go_sem]; done) | apply RowAt.more | apply RowAt.alloc))
      case c3 => exact rowL_one _ _
      case c4 => unfold maxLen; omega
      case c5 => omega
      case c6 => exact Nat.zero_le _
      intro v' w1 hown hout
      obtain ⟨C, cap, hC, rfl, rC, hg⟩ := want_of (by omega) hown hout
      have st := OwnSt.begin (w0 := w) (x := w.heap.size) (A := w.heap.size + 1 + os.size + osA.size) (B := w.heap.size + 1 + os.size + osA.size + 1 + osA'.size + osB.size) hg (by repeat (first | (refine RowX.made _ _ _ _ ?_; simp [go_sem]; done) | apply RowX.more | apply RowX.alloc)) (by repeat (first | (refine RowAt.made _ _ _ _ ?_; simp [go_sem]; done) | apply RowAt.more | apply RowAt.alloc)) rC (by repeat (first | exact heap_alloc_new _ _ | rw [World.heap_more _ _ _ _ (by simp [go_sem] <;> omega)] | rw [Below.heap_alloc _ _ _ (by simp [go_sem] <;> omega)])) ((by repeat (first | exact Below.refl _ _ | apply Below.drew | apply Below.more1 | apply Below.alloc1)))
      have hC' : w.heap.size + 1 + os.size + osA.size + 1 + osA'.size + osB.size < C := by rw [hC]; simp [go_sem] <;> omega
      clear hg hown hout hC rC hi hz0 hz1 hz2 i0
      have hAx : w.heap.size < w.heap.size + 1 + os.size + osA.size := by omega
      have hAB : w.heap.size + 1 + os.size + osA.size < w.heap.size + 1 + os.size + osA.size + 1 + osA'.size + osB.size := by omega
      generalize w.heap.size + 1 + os.size + osA.size + 1 + osA'.size + osB.size = B at *
      generalize w.heap.size + 1 + os.size + osA.size = A at *
      go_wp2
      go_loopg [10] n (fun g sl wr => ∃ k : Nat, k ≤ n ∧ n ≤ k + g ∧ sl = .int .i64 (k : Int) ∧ OwnSt 23 w w.heap.size A B C n (.cells #[.int .i64 a0, .int .i64 a1, .int .i64 a2, .int .i64 a3, .int .i64 a4, .int .i64 a5, .int .i64 a6] 28) (overF newA (firstW b u s) k) (firstW b u s) (firstW b u s) wr)
      case atStart => exact ⟨0, by omega, by omega, rfl, by rw [overF_zero]; exact st⟩
      case round =>
        obtain ⟨k, hk, hg, rfl, st⟩ := hrel
        by_cases hlk : k < n
        · obtain ⟨cA, cB, cC, zA, zB, lA, lB, lC⟩ := st.fact k hlk
          rw [overF_at] at cA
          go_wp2
          refine wp_region_more_lit (by kernel_rfl) (by kernel_rfl) ?_
          repeat (first | go_big_quiet_skip | (go_big_quiet_want; go_big_quiet_op; first | go_big_quiet_on | (apply Exists.intro; refine ⟨fun _ => ?_, ?_⟩; (focus (fail)); go_big_quiet_on)))
          refine wpQuiet_nil ?_
          intro osq dq
          go_wp2
          go_roundg (n - (k + 1))
          case measure => omega
          case rel => exact ⟨k + 1, by omega, by omega, by go_num, by rw [← overF_next newA _ k (77 + (k : Int)) rfl]; exact (st.setA hAx (by omega) (by omega) (by omega) _ _).more _ _⟩
        · obtain rfl : n = k := by omega
          replace st := st.congrA (overF_end newA (firstW b u s))
          obtain ⟨i0, hi, hz0, hz1, hz2⟩ := info_parts infoU64
          have HI := Lib.hid hi
          have HZ0 := Lib.hid hz0
          have HZ1 := Lib.hid hz1
          have HZ2 := Lib.hid hz2
          clear hi hz0 hz1 hz2
          have lA := st.rA.lt
          have lB := st.rB.lt
          have lC := st.rC.lt
          have lH : wr.heap.size ≤ wr.heap.size := Nat.le_refl _
          have gr := GrownIs.start st lH (by unfold maxLen; omega)
          generalize wr.heap.size = H at lA lB lC gr
          clear lH
          go_wp2
          go_loopg [11, 12] 70 (fun g gv sl wx => ∃ k : Nat, k ≤ 70 ∧ 70 ≤ k + g ∧ sl = .int .i64 (k : Int) ∧ OwnSt 23 w w.heap.size A B C n (.cells #[.int .i64 a0, .int .i64 a1, .int .i64 a2, .int .i64 a3, .int .i64 a4, .int .i64 a5, .int .i64 a6] 28) newA (firstW b u s) (firstW b u s) wx ∧ GrownIs 23 wx A H n k newA gv)
          case atStart => exact ⟨0, by omega, by omega, rfl, st, gr⟩
          case round =>
            clear st gr
            obtain ⟨k, hk, hg, rfl, st, gr⟩ := hrel
            by_cases hlk : k < 70
            · have gr2 := gr
              obtain ⟨g', cap', rfl, ho, hgc, hHs⟩ := gr2
              have S2 := Lib.hid (show ∀ u ∈ [Value.int .u64 99], u.oneCell' = true by simp; rfl)
              have S3 := Lib.hid (show n + k + 1 ≤ maxLen by unfold maxLen; omega)
              have S4 := Lib.hid (show (n + k + 1) * 8 ≤ 140737488355328 by omega)
              go_wp2_with (at_builtin; (refine wpList_append_out _ rfl _ _ 59 rfl 0 23 i0 (.int .u64 0) 1 8 Try.underlying59 HI.out HZ0.out HZ1.out HZ2.out rfl (by decide) _ (n + k) (rowL n newA ++ List.replicate k (.int .u64 99)) rfl (ho.alloc _) ⟨wr.heap.size, 0, none⟩ 1 1 [.int .u64 99] rfl rfl (cell_one_new _ _ _) S2.out S3.out S4.out (Nat.zero_le _) ?_; intro v' w2 hown hout; obtain ⟨st2, gr2⟩ := GrownIs.next st gr _ (by omega) lA lB lC (by omega) hown hout; clear hown hout st gr ho hgc))
              go_roundg (70 - (k + 1))
              case measure => omega
              case rel => exact ⟨k + 1, by omega, by omega, by go_num, st2, gr2⟩
            · obtain rfl : k = 70 := by omega
              obtain ⟨g, cap2, rfl, rG, hgc⟩ := gr.row
              clear gr
              have bx : ∀ j, wr.cell? ⟨w.heap.size, j, none⟩ = (#[Value.int .i64 a0, .int .i64 a1, .int .i64 a2, .int .i64 a3, .int .i64 a4, .int .i64 a5, .int .i64 a6] : Array Value)[j]? := by
                intro j; simp [World.cell?, st.box]
              have x0 := bx 0
              have x1 := bx 1
              have x2 := bx 2
              have x3 := bx 3
              have x4 := bx 4
              have x5 := bx 5
              have x6 := bx 6
              simp at x0 x1 x2 x3 x4 x5 x6
              clear bx
              have lB' := st.rB.lt
              have lG := rG.lt
              have hBg : B ≠ g := by omega
              have HBg := Lib.hid hBg
              have HGC := Lib.hid hgc
              clear hBg hgc
              go_wp2_with fail
              refine (HF.out _).mono ?_; rintro e w1 ⟨osD, dD, osD', dD', rfl, rfl⟩
              have st3 := ((st.more osD dD).alloc (.cells (intCells .u64 n (firstW b u s)) 23)).more osD' dD'
              have rG3 := ((rG.more osD dD).alloc (.cells (intCells .u64 n (firstW b u s)) 23)).more osD' dD'
              have rD3 : RowAt (((wr.more osD dD).alloc (.cells (intCells .u64 n (firstW b u s)) 23)).more osD' dD') (wr.heap.size + osD.size) n (firstW b u s) := by repeat (first | (refine RowAt.made _ _ _ _ ?_; simp [go_sem]; done) | apply RowAt.more | apply RowAt.alloc)
              have lD : B < wr.heap.size + osD.size := by omega
              clear st rG x0 x1 x2 x3 x4 x5 x6
              generalize wr.heap.size + osD.size = D at *
              generalize ((wr.more osD dD).alloc (.cells (intCells .u64 n (firstW b u s)) 23)).more osD' dD' = wy at *
              go_wp2
              go_loopg [15] n (fun gh sl wz => ∃ k : Nat, k ≤ n ∧ n ≤ k + gh ∧ sl = .int .i64 (k : Int) ∧ OwnSt 23 w w.heap.size A B C n (.cells #[.int .i64 a0, .int .i64 a1, .int .i64 a2, .int .i64 a3, .int .i64 a4, .int .i64 a5, .int .i64 a6] 28) newA (firstW b u s) (firstW b u s) wz ∧ RowAt wz g n newA ∧ RowAt wz D n (firstW b u s))
              case atStart => exact ⟨0, by omega, by omega, rfl, st3, rG3, rD3⟩
              case round =>
                clear st3 rG3 rD3
                obtain ⟨k, hk, hgh, rfl, st, rG, rD⟩ := hrel
                by_cases hlk : k < n
                · obtain ⟨cA, cB, cC, zA, zB, lA', lB'', lC'⟩ := st.fact k hlk
                  have cD := rD.cell k hlk
                  have lD' := rD.lt
                  go_wp2
                  refine wp_region_more_lit (by kernel_rfl) (by kernel_rfl) ?_
                  repeat (first | go_big_quiet_skip | (go_big_quiet_want; go_big_quiet_op; first | go_big_quiet_on | (apply Exists.intro; refine ⟨fun _ => ?_, ?_⟩; (focus (fail)); go_big_quiet_on)))
                  refine wpQuiet_nil ?_
                  intro osq dq
                  go_wp2
                  go_roundg (n - (k + 1))
                  case measure => omega
                  case rel => exact ⟨k + 1, by omega, by omega, by go_num, st.more _ _, rG.more _ _, rD.more _ _⟩
                · obtain rfl : n = k := by omega
                  go_wp2
                  go_loopg [16] n (fun gh sl wz => ∃ k : Nat, k ≤ n ∧ n ≤ k + gh ∧ sl = .int .i64 (k : Int) ∧ OwnSt 23 w w.heap.size A B C n (.cells #[.int .i64 a0, .int .i64 a1, .int .i64 a2, .int .i64 a3, .int .i64 a4, .int .i64 a5, .int .i64 a6] 28) newA (overF newB (firstW b u s) k) (firstW b u s) wz ∧ RowAt wz g n newA ∧ RowAt wz D n (firstW b u s))
                  case atStart => exact ⟨0, by omega, by omega, rfl, by rw [overF_zero]; exact st, rG, rD⟩
                  case round =>
                    clear st rG rD
                    obtain ⟨k, hk, hgh, rfl, st, rG, rD⟩ := hrel
                    by_cases hlk : k < n
                    · obtain ⟨cA, cB, cC, zA, zB, lA', lB'', lC'⟩ := st.fact k hlk
                      rw [overF_at] at cB
                      go_wp2
                      go_roundg (n - (k + 1))
                      case measure => omega
                      case rel => exact ⟨k + 1, by omega, by omega, by go_num, by rw [← overF_next newB _ k 11 rfl]; exact st.setB (by omega) (by omega) (by omega) (by omega) _ _, rG.set_other (Ne.symm HBg.out) _, rD.set_other (by simp; omega) _⟩
                    · obtain rfl : n = k := by omega
                      go_wp2
                      go_loopg [17] n (fun gh sl wz => ∃ k : Nat, k ≤ n ∧ n ≤ k + gh ∧ sl = .int .i64 (k : Int) ∧ OwnSt 23 w w.heap.size A B C n (.cells #[.int .i64 a0, .int .i64 a1, .int .i64 a2, .int .i64 a3, .int .i64 a4, .int .i64 a5, .int .i64 a6] 28) newA (overF newB (firstW b u s) n) (firstW b u s) wz ∧ RowAt wz g n newA ∧ RowAt wz D n (firstW b u s))
                      case atStart => exact ⟨0, by omega, by omega, rfl, st, rG, rD⟩
                      case round =>
                        clear st rG rD
                        obtain ⟨k, hk, hgh, rfl, st, rG, rD⟩ := hrel
                        by_cases hlk : k < n
                        · obtain ⟨cA, cB, cC, zA, zB, lA', lB'', lC'⟩ := st.fact k hlk
                          have cD := rD.cell k hlk
                          have lD' := rD.lt
                          have cG := rG.cell k hlk
                          have lG' := rG.lt
                          have eA : newA k = 77 + (k : Int) := rfl
                          rw [eA] at cA cG
                          clear eA cB
                          go_wp2
                          refine wp_region_more_lit (by kernel_rfl) (by kernel_rfl) ?_
                          repeat (first | go_big_quiet_skip | (go_big_quiet_want; go_big_quiet_op; first | go_big_quiet_on | (apply Exists.intro; refine ⟨fun _ => ?_, ?_⟩; (focus (fail)); go_big_quiet_on)))
                          refine wpQuiet_nil ?_
                          intro osq dq
                          go_wp2
                          go_roundg (n - (k + 1))
                          case measure => omega
                          case rel => exact ⟨k + 1, by omega, by omega, by go_num, st.more _ _, rG.more _ _, rD.more _ _⟩
                        · obtain rfl : n = k := by omega
                          go_wp2
                          go_ret
                          exact ⟨rfl, st.bel⟩
end Go.Proofs.Ytaokjiajceefaaa
