/-
reclaimlaw04: SameRun answers true at two runs that are the same.
-/
import Derived.Test.YtjcggokhminmoaaQSrcP
namespace Go.Proofs.Ytjcggokhminmoaa
open Go.ChangeShapes Go.WideShapes Go.ChangeAt Go.RowKit Go.Shelf

set_option maxRecDepth 100000 in
set_option maxHeartbeats 4000000 in
theorem sameRun4_yes {w : World} {x y : RunVs} {r : RunS} (h1 : RunSrc w x r) (h2 : RunSrc w y r) (n1 : r.calls.length ≤ 1000000) (n2 : r.trace.length ≤ 1000000) (n3 : r.shifts.length ≤ 1000000) (n4 : r.words.length ≤ 1000000) :
    Calls Try.prog 22 #[x.v, y.v] w fun e w' => e = .returned (.bool true) ∧ Below w.heap.size w w' := by
  obtain ⟨x1, x2, x3, x4⟩ := x
  obtain ⟨y1, y2, y3, y4⟩ := y
  obtain ⟨o1, c1, e1⟩ := h1.wa.form
  obtain ⟨o2, c2, e2⟩ := h1.wt.form
  obtain ⟨o3, c3, e3⟩ := h1.wb.form
  obtain ⟨o4, c4, e4⟩ := h1.wc.form
  obtain ⟨u1, d1, f1⟩ := h2.wa.form
  obtain ⟨u2, d2, f2⟩ := h2.wt.form
  obtain ⟨u3, d3, f3⟩ := h2.wb.form
  obtain ⟨u4, d4, f4⟩ := h2.wc.form
  simp only at e1 e2 e3 e4 f1 f2 f3 f4
  subst e1 e2 e3 e4 f1 f2 f3 f4
  unfold RunVs.v
  obtain ⟨lc, lt, ls, lw⟩ := r
  simp only at n1 n2 n3 n4 ⊢
  have H1 := Lib.hid h1
  have H2 := Lib.hid h2
  have e1 : ((lc.length : Int) != (lc.length : Int)) = false := by simp
  have e2 : ((lt.length : Int) != (lt.length : Int)) = false := by simp
  have e3 : ((ls.length : Int) != (ls.length : Int)) = false := by simp
  have e4 : ((lw.length : Int) != (lw.length : Int)) = false := by simp
  clear h1 h2
  go_enter Try.func22, Try.ntmps22
  go_upto_region 4 with (fail)
  refine gen_world ?_
  intro W1 hW1
  have HW1 : Hid (Below w.heap.size w W1) := Lib.hid (by rw [hW1]; exact (by repeat (first | exact Below.refl _ _ | apply Below.drew | apply Below.more1 | apply Below.alloc1)))
  have hb1 : W1.heap[w.heap.size]? = some (.cells #[.slice o1 lc.length c1, .slice o2 lt.length c2, .slice o3 ls.length c3, .slice o4 lw.length c4] 42 (0, 0)) := by rw [hW1]; exact (Below.heap_alloc _ _ _ (by simp)).trans (heap_alloc_new w _)
  have hb2 : W1.heap[w.heap.size + 1]? = some (.cells #[.slice u1 lc.length d1, .slice u2 lt.length d2, .slice u3 ls.length d3, .slice u4 lw.length d4] 42 (0, 0)) := by rw [hW1]; exact heap_alloc_at (by simp)
  have bb0 : W1.cell? ⟨w.heap.size, 0, none⟩ = some (.slice o1 lc.length c1) := by simp [World.cell?, hb1]
  have gg0 : W1.cell? ⟨w.heap.size + 1, 0, none⟩ = some (.slice u1 lc.length d1) := by simp [World.cell?, hb2]
  have bb1 : W1.cell? ⟨w.heap.size, 1, none⟩ = some (.slice o2 lt.length c2) := by simp [World.cell?, hb1]
  have gg1 : W1.cell? ⟨w.heap.size + 1, 1, none⟩ = some (.slice u2 lt.length d2) := by simp [World.cell?, hb2]
  have bb2 : W1.cell? ⟨w.heap.size, 2, none⟩ = some (.slice o3 ls.length c3) := by simp [World.cell?, hb1]
  have gg2 : W1.cell? ⟨w.heap.size + 1, 2, none⟩ = some (.slice u3 ls.length d3) := by simp [World.cell?, hb2]
  have bb3 : W1.cell? ⟨w.heap.size, 3, none⟩ = some (.slice o4 lw.length c4) := by simp [World.cell?, hb1]
  have gg3 : W1.cell? ⟨w.heap.size + 1, 3, none⟩ = some (.slice u4 lw.length d4) := by simp [World.cell?, hb2]
  have bl := (Array.getElem?_eq_some_iff.1 hb1).1
  have gl := (Array.getElem?_eq_some_iff.1 hb2).1
  have K1 := Lib.hid (H1.out.below HW1.out)
  have K2 := Lib.hid (H2.out.below HW1.out)
  clear hW1 hb1 hb2 H1 H2
  generalize w.heap.size + 1 = b' at *
  obtain ⟨b, hb⟩ : ∃ b, b = w.heap.size := ⟨_, rfl⟩
  rw [← hb] at bb0 bb1 bb2 bb3 bl HW1
  rw [← hb]
  have HBW := Lib.hid hb
  clear hb
  go_wp2
  go_loopg [5] lc.length (fun g sl wr => ∃ k : Nat, k ≤ lc.length ∧ lc.length ≤ k + g ∧ sl = .int .i64 (k : Int) ∧ ∃ os d, wr = W1.more os d)
  case atStart => exact ⟨0, by omega, by omega, by go_num, #[], W1.drawn, by simp [World.more]⟩
  case round =>
    obtain ⟨k, hk, hg, rfl, os, d, rfl⟩ := hrel
    by_cases hlk : k < lc.length
    · obtain ⟨g1, f1, q1, p1, s1, x1⟩ := K1.out.wa.some_form (by simp only; omega) (by omega)
      obtain ⟨g2, f2, q2, p2, s2, x2⟩ := K2.out.wa.some_form (by simp only; omega) (by omega)
      cases p1
      cases p2
      have xa : ∀ j u, lc[k].cells[j]? = some u → j < 9 → W1.cell? ⟨g1, f1 + k * 9 + j, none⟩ = some u := fun j u hu hj => by rw [Nat.add_assoc]; exact x1 (k * 9 + j) u (by simp only; rw [cals_get3 lc k j hlk hj]; exact hu)
      have xb : ∀ j u, lc[k].cells[j]? = some u → j < 9 → W1.cell? ⟨g2, f2 + k * 9 + j, none⟩ = some u := fun j u hu hj => by rw [Nat.add_assoc]; exact x2 (k * 9 + j) u (by simp only; rw [cals_get3 lc k j hlk hj]; exact hu)
      generalize lc[k] = z at *
      obtain ⟨th, op, arg, data, beg, en, pt, ak, av⟩ := z
      have z0 := xa 0 _ rfl (by omega)
      have y0 := xb 0 _ rfl (by omega)
      have z1 := xa 1 _ rfl (by omega)
      have y1 := xb 1 _ rfl (by omega)
      have z2 := xa 2 _ rfl (by omega)
      have y2 := xb 2 _ rfl (by omega)
      have z3 := xa 3 _ rfl (by omega)
      have y3 := xb 3 _ rfl (by omega)
      have z4 := xa 4 _ rfl (by omega)
      have y4 := xb 4 _ rfl (by omega)
      have z5 := xa 5 _ rfl (by omega)
      have y5 := xb 5 _ rfl (by omega)
      have z6 := xa 6 _ rfl (by omega)
      have y6 := xb 6 _ rfl (by omega)
      have z7 := xa 7 _ rfl (by omega)
      have y7 := xb 7 _ rfl (by omega)
      have z8 := xa 8 _ rfl (by omega)
      have y8 := xb 8 _ rfl (by omega)
      simp only [Nat.add_zero] at z0 y0
      simp only at z0 y0 z1 y1 z2 y2 z3 y3 z4 y4 z5 y5 z6 y6 z7 y7 z8 y8
      clear x1 x2 xa xb
      go_wp2
      refine wp_region_more_lit (by kernel_rfl) (by kernel_rfl) ?_
      repeat (first | go_big_quiet_skip | (go_big_quiet_want; go_big_quiet_op; first | go_big_quiet_on | (apply Exists.intro; refine ⟨fun _ => ?_, ?_⟩; (focus (fail)); go_big_quiet_on)))
      refine wpQuiet_nil ?_
      intro osq dq
      go_wp2
      go_roundg (lc.length - (k + 1))
      case measure => omega
      case rel => exact ⟨k + 1, by omega, by omega, by go_num, RowKit.Below.more (by repeat (first | exact Below.refl _ _ | apply Below.drew | apply Below.more1 | apply Below.alloc1))⟩
    · obtain rfl : k = lc.length := by omega
      clear hk hg hlk
      go_wp2
      go_loopg [6] lt.length (fun g sl wr => ∃ k : Nat, k ≤ lt.length ∧ lt.length ≤ k + g ∧ sl = .int .i64 (k : Int) ∧ ∃ os d, wr = W1.more os d)
      case atStart => exact ⟨0, by omega, by omega, by go_num, RowKit.Below.more (by repeat (first | exact Below.refl _ _ | apply Below.drew | apply Below.more1 | apply Below.alloc1))⟩
      case round =>
        obtain ⟨k, hk, hg, rfl, os, d, rfl⟩ := hrel
        by_cases hlk : k < lt.length
        · obtain ⟨g1, f1, q1, p1, s1, x1⟩ := K1.out.wt.some_form (by simp only; omega) (by omega)
          obtain ⟨g2, f2, q2, p2, s2, x2⟩ := K2.out.wt.some_form (by simp only; omega) (by omega)
          cases p1
          cases p2
          have xa : ∀ j u, lt[k].cells[j]? = some u → j < 7 → W1.cell? ⟨g1, f1 + k * 7 + j, none⟩ = some u := fun j u hu hj => by rw [Nat.add_assoc]; exact x1 (k * 7 + j) u (by simp only; rw [accs_get3 lt k j hlk hj]; exact hu)
          have xb : ∀ j u, lt[k].cells[j]? = some u → j < 7 → W1.cell? ⟨g2, f2 + k * 7 + j, none⟩ = some u := fun j u hu hj => by rw [Nat.add_assoc]; exact x2 (k * 7 + j) u (by simp only; rw [accs_get3 lt k j hlk hj]; exact hu)
          generalize lt[k] = z at *
          obtain ⟨mv, th, kd, ad, old, nw, saw⟩ := z
          have z0 := xa 0 _ rfl (by omega)
          have y0 := xb 0 _ rfl (by omega)
          have z1 := xa 1 _ rfl (by omega)
          have y1 := xb 1 _ rfl (by omega)
          have z2 := xa 2 _ rfl (by omega)
          have y2 := xb 2 _ rfl (by omega)
          have z3 := xa 3 _ rfl (by omega)
          have y3 := xb 3 _ rfl (by omega)
          have z4 := xa 4 _ rfl (by omega)
          have y4 := xb 4 _ rfl (by omega)
          have z5 := xa 5 _ rfl (by omega)
          have y5 := xb 5 _ rfl (by omega)
          have z6 := xa 6 _ rfl (by omega)
          have y6 := xb 6 _ rfl (by omega)
          simp only [Nat.add_zero] at z0 y0
          simp only at z0 y0 z1 y1 z2 y2 z3 y3 z4 y4 z5 y5 z6 y6
          clear x1 x2 xa xb
          go_wp2
          refine wp_region_more_lit (by kernel_rfl) (by kernel_rfl) ?_
          repeat (first | go_big_quiet_skip | (go_big_quiet_want; go_big_quiet_op; first | go_big_quiet_on | (apply Exists.intro; refine ⟨fun _ => ?_, ?_⟩; (focus (fail)); go_big_quiet_on)))
          refine wpQuiet_nil ?_
          intro osq dq
          go_wp2
          go_roundg (lt.length - (k + 1))
          case measure => omega
          case rel => exact ⟨k + 1, by omega, by omega, by go_num, RowKit.Below.more (by repeat (first | exact Below.refl _ _ | apply Below.drew | apply Below.more1 | apply Below.alloc1))⟩
        · obtain rfl : k = lt.length := by omega
          clear hk hg hlk
          go_wp2
          go_loopg [7] ls.length (fun g sl wr => ∃ k : Nat, k ≤ ls.length ∧ ls.length ≤ k + g ∧ sl = .int .i64 (k : Int) ∧ ∃ os d, wr = W1.more os d)
          case atStart => exact ⟨0, by omega, by omega, by go_num, RowKit.Below.more (by repeat (first | exact Below.refl _ _ | apply Below.drew | apply Below.more1 | apply Below.alloc1))⟩
          case round =>
            obtain ⟨k, hk, hg, rfl, os, d, rfl⟩ := hrel
            by_cases hlk : k < ls.length
            · obtain ⟨g1, f1, q1, p1, s1, x1⟩ := K1.out.wb.some_form (by simp only; omega) (by omega)
              obtain ⟨g2, f2, q2, p2, s2, x2⟩ := K2.out.wb.some_form (by simp only; omega) (by omega)
              cases p1
              cases p2
              have xa : ∀ j u, ls[k].cells[j]? = some u → j < 5 → W1.cell? ⟨g1, f1 + k * 5 + j, none⟩ = some u := fun j u hu hj => by rw [Nat.add_assoc]; exact x1 (k * 5 + j) u (by simp only; rw [shfs_get3 ls k j hlk hj]; exact hu)
              have xb : ∀ j u, ls[k].cells[j]? = some u → j < 5 → W1.cell? ⟨g2, f2 + k * 5 + j, none⟩ = some u := fun j u hu hj => by rw [Nat.add_assoc]; exact x2 (k * 5 + j) u (by simp only; rw [shfs_get3 ls k j hlk hj]; exact hu)
              generalize ls[k] = z at *
              obtain ⟨mv, th, sl, fr, tgt⟩ := z
              have z0 := xa 0 _ rfl (by omega)
              have y0 := xb 0 _ rfl (by omega)
              have z1 := xa 1 _ rfl (by omega)
              have y1 := xb 1 _ rfl (by omega)
              have z2 := xa 2 _ rfl (by omega)
              have y2 := xb 2 _ rfl (by omega)
              have z3 := xa 3 _ rfl (by omega)
              have y3 := xb 3 _ rfl (by omega)
              have z4 := xa 4 _ rfl (by omega)
              have y4 := xb 4 _ rfl (by omega)
              simp only [Nat.add_zero] at z0 y0
              simp only at z0 y0 z1 y1 z2 y2 z3 y3 z4 y4
              clear x1 x2 xa xb
              go_wp2
              refine wp_region_more_lit (by kernel_rfl) (by kernel_rfl) ?_
              repeat (first | go_big_quiet_skip | (go_big_quiet_want; go_big_quiet_op; first | go_big_quiet_on | (apply Exists.intro; refine ⟨fun _ => ?_, ?_⟩; (focus (fail)); go_big_quiet_on)))
              refine wpQuiet_nil ?_
              intro osq dq
              go_wp2
              go_roundg (ls.length - (k + 1))
              case measure => omega
              case rel => exact ⟨k + 1, by omega, by omega, by go_num, RowKit.Below.more (by repeat (first | exact Below.refl _ _ | apply Below.drew | apply Below.more1 | apply Below.alloc1))⟩
            · obtain rfl : k = ls.length := by omega
              clear hk hg hlk
              go_wp2
              go_loopg [8] lw.length (fun g sl wr => ∃ k : Nat, k ≤ lw.length ∧ lw.length ≤ k + g ∧ sl = .int .i64 (k : Int) ∧ ∃ os d, wr = W1.more os d)
              case atStart => exact ⟨0, by omega, by omega, by go_num, RowKit.Below.more (by repeat (first | exact Below.refl _ _ | apply Below.drew | apply Below.more1 | apply Below.alloc1))⟩
              case round =>
                obtain ⟨k, hk, hg, rfl, os, d, rfl⟩ := hrel
                by_cases hlk : k < lw.length
                · obtain ⟨g1, f1, q1, p1, s1, x1⟩ := K1.out.wc.some_form (by simp only; omega) (by omega)
                  obtain ⟨g2, f2, q2, p2, s2, x2⟩ := K2.out.wc.some_form (by simp only; omega) (by omega)
                  cases p1
                  cases p2
                  have y1 := x1 k _ (u64s_at lw k hlk)
                  have y2 := x2 k _ (u64s_at lw k hlk)
                  clear x1 x2
                  generalize lw[k] = z at y1 y2
                  go_wp2
                  refine wp_region_more_lit (by kernel_rfl) (by kernel_rfl) ?_
                  repeat (first | go_big_quiet_skip | (go_big_quiet_want; go_big_quiet_op; first | go_big_quiet_on | (apply Exists.intro; refine ⟨fun _ => ?_, ?_⟩; (focus (fail)); go_big_quiet_on)))
                  refine wpQuiet_nil ?_
                  intro osq dq
                  go_wp2
                  go_roundg (lw.length - (k + 1))
                  case measure => omega
                  case rel => exact ⟨k + 1, by omega, by omega, by go_num, RowKit.Below.more (by repeat (first | exact Below.refl _ _ | apply Below.drew | apply Below.more1 | apply Below.alloc1))⟩
                · obtain rfl : k = lw.length := by omega
                  clear hk hg hlk
                  go_wp2
                  go_ret
                  exact ⟨rfl, by have h := HW1.out; rw [HBW.out] at h; exact h.trans (Below.mono (by repeat (first | exact Below.refl _ _ | apply Below.drew | apply Below.more1 | apply Below.alloc1)) h.size)⟩
end Go.Proofs.Ytjcggokhminmoaa
