/-
WordFirst returns true.
-/
import Derived.Test.YtaokjiajceefaaaRFirst
import Derived.Test.YtaokjiajceefaaaCfg
import Derived.Test.YtaokjiajceefaaaPlace
namespace Go.Proofs.Ytaokjiajceefaaa
open Go.ChangeShapes Go.WideShapes Go.ChangeAt Go.RowKit

theorem first_nums {a0 a1 a2 a3 a4 a5 a6 : Int} (h : okCfg a0 a1 a2 a3 a4 a5 a6 = true) : ∃ b n s : Nat, Hid (a5 = (s : Int)) ∧ Hid (baseF a1 a2 a5 a6 13 = (n : Int)) ∧ Hid (addrAt a1 a2 a5 a6 10 0 0 = (b : Int)) ∧ 5 ≤ b ∧ b + s ≤ n ∧ n ≤ 13312 ∧ 1 ≤ s := by
  obtain ⟨b0, b1, b2, b3, b4, b5, b6, bm⟩ := ok_bounds h
  have e9 : addrAt a1 a2 a5 a6 10 0 0 = 6 + a6 + a1 + a1 * a2 := by
    simp [addrAt, baseF, manyI]
  have e13 := @size_sum a1 a2 a5 a6
  refine ⟨(6 + a6 + a1 + a1 * a2).toNat, (6 + a6 + a1 + a1 * a2 + 4 * a5).toNat, a5.toNat, Lib.hid (by omega), Lib.hid (by rw [e13]; omega), Lib.hid (by rw [e9]; omega), by omega, by omega, by omega, by omega⟩

theorem firstSmall (w : World) : Calls Try.prog 37 #[.agg #[.int .i64 2, .int .i64 2, .int .i64 3, .int .i64 1, .int .i64 0, .int .i64 4, .int .i64 2], .int .i64 1] w (RowPost 32 (firstW 16 1 4) w) :=
  first_ok 2 2 3 1 0 4 2 1 16 32 4 (by decide) (Lib.hid (by decide)) (by omega) (Lib.hid (by decide)) (Lib.hid (by decide)) (by omega) (by omega) (by omega) w

set_option maxRecDepth 100000 in
set_option maxHeartbeats 1000000 in
theorem firstW_cfg (a0 a1 a2 a3 a4 a5 a6 u : Int) (hok : okCfg a0 a1 a2 a3 a4 a5 a6 = false) (w : World) : Calls Try.prog 10 #[.agg #[.int .i64 a0, .int .i64 a1, .int .i64 a2, .int .i64 a3, .int .i64 a4, .int .i64 a5, .int .i64 a6], .int .i64 u] w fun e w' => e = .returned (.bool true) ∧ Below w.heap.size w w' := by
  have f0 : firstW 16 1 4 0 = 2 := by decide
  have f3 : firstW 16 1 4 3 = 1 := by decide
  have f4 : firstW 16 1 4 4 = 1 := by decide
  have HS := Lib.hid firstSmall
  go_enter Try.func10, Try.ntmps10
  go_wp2_with (first
    | (go_at_call 17; refine (small_any _).mono ?_; rintro e w1 ⟨rfl, hb1⟩; obtain ⟨os, d, rfl⟩ := hb1.more; clear hb1)
    | (go_at_call 37; (with_reducible refine (HS.out _).mono ?_); rintro e w1 ⟨osA, dA, osA', dA', rfl, rfl⟩)
    | (go_at_call 37; (with_reducible refine (first_cfg _ _ _ _ _ _ _ _ hok _).mono ?_); rintro e w1 ⟨rfl, hb1⟩; obtain ⟨os, d, rfl⟩ := hb1.more; clear hb1)
    | (go_at_call 18; refine (config_any _ _ _ _ _ _ _ _).mono ?_; rintro e w1 ⟨rfl, hb1⟩; obtain ⟨os, d, rfl⟩ := hb1.more; clear hb1))
  go_ret
  exact ⟨rfl, (by repeat (first | exact Below.refl _ _ | apply Below.drew | apply Below.more1 | apply Below.alloc1))⟩

set_option maxRecDepth 100000 in
set_option maxHeartbeats 1000000 in
theorem firstW_bad (a0 a1 a2 a3 a4 a5 a6 u : Int) (hok : okCfg a0 a1 a2 a3 a4 a5 a6 = true) (hu : u < 0 ∨ a5 < u) (w : World) : Calls Try.prog 10 #[.agg #[.int .i64 a0, .int .i64 a1, .int .i64 a2, .int .i64 a3, .int .i64 a4, .int .i64 a5, .int .i64 a6], .int .i64 u] w fun e w' => e = .returned (.bool true) ∧ Below w.heap.size w w' := by
  have f0 : firstW 16 1 4 0 = 2 := by decide
  have f3 : firstW 16 1 4 3 = 1 := by decide
  have f4 : firstW 16 1 4 4 = 1 := by decide
  have HS := Lib.hid firstSmall
  have HU := Lib.hid hu
  have hu' : u < 0 ∨ (0 ≤ u ∧ a5 < u) := by omega
  clear hu
  rcases hu' with hu | ⟨hu0, hu⟩
  all_goals
    go_enter Try.func10, Try.ntmps10
    go_wp2_with (first
      | (go_at_call 17; refine (small_any _).mono ?_; rintro e w1 ⟨rfl, hb1⟩; obtain ⟨os, d, rfl⟩ := hb1.more; clear hb1)
      | (go_at_call 37; (with_reducible refine (HS.out _).mono ?_); rintro e w1 ⟨osA, dA, osA', dA', rfl, rfl⟩)
      | (go_at_call 37; (with_reducible refine (first_bad _ _ _ _ _ _ _ _ hok HU.out _).mono ?_); rintro e w1 ⟨rfl, hb1⟩; obtain ⟨os, d, rfl⟩ := hb1.more; clear hb1)
      | (go_at_call 18; refine (config_any _ _ _ _ _ _ _ _).mono ?_; rintro e w1 ⟨rfl, hb1⟩; obtain ⟨os, d, rfl⟩ := hb1.more; clear hb1))
    go_ret
    exact ⟨rfl, (by repeat (first | exact Below.refl _ _ | apply Below.drew | apply Below.more1 | apply Below.alloc1))⟩

theorem row_facts {W0 : World} {n : Nat} {f : Nat → Int} {os os' : Array Obj} {d d' : Nat} {t : TypeId} :
    ∀ j, (((W0.more os d).alloc (.cells (intCells .u64 n f) t)).more os' d').cell? ⟨W0.heap.size + os.size, j, none⟩ = if j < n then some (.int .u64 (f j)) else none := by
  intro j
  simp [go_sem]

set_option maxRecDepth 100000 in
set_option maxHeartbeats 1000000 in
theorem firstW_ok (a0 a1 a2 a3 a4 a5 a6 : Int) (u b n s : Nat) (hok : okCfg a0 a1 a2 a3 a4 a5 a6 = true) (hs : Hid (a5 = (s : Int))) (hu : u ≤ s) (hn : Hid (baseF a1 a2 a5 a6 13 = (n : Int))) (hb : Hid (addrAt a1 a2 a5 a6 10 0 0 = (b : Int))) (hb5 : 5 ≤ b) (hbn : b + s ≤ n) (hn2 : n ≤ 13312) (w : World) :
    Calls Try.prog 10 #[.agg #[.int .i64 a0, .int .i64 a1, .int .i64 a2, .int .i64 a3, .int .i64 a4, .int .i64 a5, .int .i64 a6], .int .i64 (u : Int)] w fun e w' => e = .returned (.bool true) ∧ Below w.heap.size w w' := by
  have f0 : firstW 16 1 4 0 = 2 := by decide
  have f3 : firstW 16 1 4 3 = 1 := by decide
  have f4 : firstW 16 1 4 4 = 1 := by decide
  have HS := Lib.hid firstSmall
  have HF := Lib.hid (fun w => first_ok a0 a1 a2 a3 a4 a5 a6 u b n s hok hs hu hn hb hb5 hbn hn2 w)
  have HR := Lib.hid (fun w => rfirst_ok a0 a1 a2 a3 a4 a5 a6 u b n s hok hs hu hn hb hb5 hbn hn2 w)
  have hus : (u : Int) ≤ a5 := by have := hs.out; omega
  go_enter Try.func10, Try.ntmps10
  go_wp2_with (first
    | (go_at_call 17; refine (small_any _).mono ?_; rintro e w1 ⟨rfl, hb1⟩; obtain ⟨os, d, rfl⟩ := hb1.more; clear hb1)
    | (go_at_call 37; (with_reducible refine (HS.out _).mono ?_); rintro e w1 ⟨osA, dA, osA', dA', rfl, rfl⟩)
    | (go_at_call 37; (with_reducible refine (HF.out _).mono ?_); rintro e w1 ⟨osB, dB, osB', dB', rfl, rfl⟩)
    | (go_at_call 38; (with_reducible refine (HR.out _).mono ?_); rintro e w1 ⟨osC, dC, osC', dC', rfl, rfl⟩)
    | (go_at_call 18; refine (config_any _ _ _ _ _ _ _ _).mono ?_; rintro e w1 ⟨rfl, hb1⟩; obtain ⟨osK, dK, rfl⟩ := hb1.more; clear hb1))
  refine gen_world (fun W hW => ?_)
  have g1 : ∀ j, W.cell? ⟨w.heap.size + 1 + os.size + osA.size + 1 + osA'.size + osB.size, j, none⟩ = if j < n then some (.int .u64 (firstW b u s j)) else none := by
    intro j; rw [hW]; simp [go_sem, ↓IntWalk.iteOmega]
  have g2 : ∀ j, W.cell? ⟨w.heap.size + 1 + os.size + osA.size + 1 + osA'.size + osB.size + 1 + osB'.size + osK.size + osC.size, j, none⟩ = if j < n then some (.int .u64 (firstW b u s j)) else none := by
    intro j; rw [hW]; simp [go_sem]
  have hsz : W.heap.size = w.heap.size + 1 + os.size + osA.size + 1 + osA'.size + osB.size + 1 + osB'.size + osK.size + osC.size + 1 + osC'.size := by
    rw [hW]; simp [go_sem]
  have hlt1 : w.heap.size + 1 + os.size + osA.size + 1 + osA'.size + osB.size < W.heap.size := by omega
  have hlt2 : w.heap.size + 1 + os.size + osA.size + 1 + osA'.size + osB.size + 1 + osB'.size + osK.size + osC.size < W.heap.size := by omega
  have hbl : Below w.heap.size w W := by rw [hW]; exact (by repeat (first | exact Below.refl _ _ | apply Below.drew | apply Below.more1 | apply Below.alloc1))
  clear hW hsz
  go_loopg [10] n (fun g sl wr => ∃ k : Nat, k ≤ n ∧ n ≤ k + g ∧ sl = .int .i64 (k : Int) ∧ ∃ os d, wr = W.more os d)
  case atStart => exact ⟨0, by omega, by omega, rfl, #[], W.drawn, by simp [World.more]⟩
  case round =>
    obtain ⟨k, hk, hg, rfl, os1, d1, rfl⟩ := hrel
    by_cases hlk : k < n
    ·
      go_wp2
      refine wp_region_more_lit (by kernel_rfl) (by kernel_rfl) ?_
      repeat (first | go_big_quiet_skip | (go_big_quiet_want; go_big_quiet_op; first | go_big_quiet_on | (apply Exists.intro; refine ⟨fun _ => ?_, ?_⟩; (focus (fail)); go_big_quiet_on)))
      refine wpQuiet_nil ?_
      intro osq dq
      go_wp2
      go_roundg (n - (k + 1))
      case measure => omega
      case rel => exact ⟨k + 1, by omega, by omega, by go_num, RowKit.Below.more (by repeat (first | exact Below.refl _ _ | apply Below.drew | apply Below.more1 | apply Below.alloc1))⟩
    · go_wp2
      go_ret
      exact ⟨rfl, hbl.more1 _ _⟩

theorem wordFirst_walk (a0 a1 a2 a3 a4 a5 a6 u : Int) (w : World) : Calls Try.prog 10 #[.agg #[.int .i64 a0, .int .i64 a1, .int .i64 a2, .int .i64 a3, .int .i64 a4, .int .i64 a5, .int .i64 a6], .int .i64 u] w fun e w' => e = .returned (.bool true) ∧ Below w.heap.size w w' := by
  cases hok : okCfg a0 a1 a2 a3 a4 a5 a6
  · exact firstW_cfg a0 a1 a2 a3 a4 a5 a6 u hok w
  by_cases hu : u < 0 ∨ a5 < u
  · exact firstW_bad a0 a1 a2 a3 a4 a5 a6 u hok hu w
  obtain ⟨b, n, s, hs, hn, hb, h1, h2, h3, h4⟩ := first_nums hok
  obtain ⟨v, rfl⟩ : ∃ v : Nat, u = (v : Int) := ⟨u.toNat, by omega⟩
  exact firstW_ok a0 a1 a2 a3 a4 a5 a6 v b n s hok hs (by have := hs.out; omega) hn hb h1 h2 h3 w

end Go.Proofs.Ytaokjiajceefaaa
