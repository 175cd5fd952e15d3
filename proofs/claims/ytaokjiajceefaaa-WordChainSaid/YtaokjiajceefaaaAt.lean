/-
word.At: the place at an address.
-/
import Derived.Test.YtaokjiajceefaaaAddr
import Derived.RegionTactic
import Derived.BigRegion
import Derived.Test.YtaokjiajceefaaaTail
import Derived.Deep.LoopGhost
namespace Go.Proofs.Ytaokjiajceefaaa
open Go.ChangeShapes Go.WideShapes Go.ChangeAt Go.RowKit

theorem baseF_mono {a1 a2 a5 a6 : Int} (h1 : 1 ≤ a1 ∧ a1 ≤ 16) (h5 : 1 ≤ a5 ∧ a5 ≤ 1024) (h6 : 1 ≤ a6 ∧ a6 ≤ 64) (hm : 3 ≤ a1 * a2 ∧ a1 * a2 ≤ 128) {k n : Nat} (h : k ≤ n) : baseF a1 a2 a5 a6 k ≤ baseF a1 a2 a5 a6 n := by
  induction n with
  | zero => obtain rfl : k = 0 := by omega
            exact Int.le_refl _
  | succ n ih =>
    by_cases e : k = n + 1
    · subst e; exact Int.le_refl _
    · have := ih (by omega)
      have := manyI_bd h1 h5 h6 hm (n + 1)
      simp only [baseF]
      omega

/-- address 'at' lies in region n + 1 -/
def inReg (a1 a2 a5 a6 : Int) (n : Nat) (adr : Int) : Prop := baseF a1 a2 a5 a6 n ≤ adr ∧ adr < baseF a1 a2 a5 a6 (n + 1)

theorem inReg_some {a1 a2 a5 a6 adr : Int} (h0 : 0 ≤ adr) : ∀ m, adr < baseF a1 a2 a5 a6 m → ∃ n, n < m ∧ inReg a1 a2 a5 a6 n adr := by
  intro m
  induction m with
  | zero => intro h; simp [baseF] at h; omega
  | succ m ih =>
    intro h
    by_cases hl : adr < baseF a1 a2 a5 a6 m
    · obtain ⟨n, hn, hr⟩ := ih hl
      exact ⟨n, by omega, hr⟩
    · exact ⟨m, by omega, by omega, h⟩

theorem at_cfg (a0 a1 a2 a3 a4 a5 a6 x : Int) (h : okCfg a0 a1 a2 a3 a4 a5 a6 = false) (w : World) : Calls Try.prog 33 #[.agg #[.int .i64 a0, .int .i64 a1, .int .i64 a2, .int .i64 a3, .int .i64 a4, .int .i64 a5, .int .i64 a6], .int .i64 x] w fun e w' =>
    e = .returned (.tuple #[.agg #[.int .i64 0, .int .i64 0, .int .i64 0], .int .i64 1]) ∧ Below w.heap.size w w' := by
  go_enter Try.func33, Try.ntmps33
  go_wp2_with (go_at_call 31; refine (size_no _ _ _ _ _ _ _ h _).mono ?_; rintro e w1 ⟨rfl, hb1⟩; obtain ⟨os, d, rfl⟩ := hb1.more; clear hb1)
  exact bodyPost_ret (v := .tuple #[.agg #[.int .i64 0, .int .i64 0, .int .i64 0], .int .i64 1]) (by simp [results, Try.results33, go_sem]) rfl ⟨rfl, (by repeat (first | exact Below.refl _ _ | apply Below.drew | apply Below.more1 | apply Below.alloc1))⟩

theorem at_bad (a0 a1 a2 a3 a4 a5 a6 x : Int) (h : okCfg a0 a1 a2 a3 a4 a5 a6 = true) (hx : x < 0 ∨ baseF a1 a2 a5 a6 13 ≤ x) (w : World) : Calls Try.prog 33 #[.agg #[.int .i64 a0, .int .i64 a1, .int .i64 a2, .int .i64 a3, .int .i64 a4, .int .i64 a5, .int .i64 a6], .int .i64 x] w fun e w' =>
    e = .returned (.tuple #[.agg #[.int .i64 0, .int .i64 0, .int .i64 0], .int .i64 2]) ∧ Below w.heap.size w w' := by
  rcases hx with hx | hx
  all_goals
    go_enter Try.func33, Try.ntmps33
    go_wp2_with (go_at_call 31; refine (size_ok _ _ _ _ _ _ _ h _).mono ?_; rintro e w1 ⟨rfl, hb1⟩; obtain ⟨os, d, rfl⟩ := hb1.more; clear hb1)
    all_goals
      exact bodyPost_ret (v := .tuple #[.agg #[.int .i64 0, .int .i64 0, .int .i64 0], .int .i64 2]) (by simp [results, Try.results33, go_sem]) rfl ⟨rfl, (by repeat (first | exact Below.refl _ _ | apply Below.drew | apply Below.more1 | apply Below.alloc1))⟩

set_option maxHeartbeats 1000000 in
theorem at_one (a0 a1 a2 a3 a4 a5 a6 x : Int) (n : Nat) (h : okCfg a0 a1 a2 a3 a4 a5 a6 = true) (hn : n < 13) (h8 : n ≠ 8) (hr : Hid (inReg a1 a2 a5 a6 n x)) (w : World) : Calls Try.prog 33 #[.agg #[.int .i64 a0, .int .i64 a1, .int .i64 a2, .int .i64 a3, .int .i64 a4, .int .i64 a5, .int .i64 a6], .int .i64 x] w fun e w' =>
    e = .returned (.tuple #[.agg #[.int .i64 ((n : Int) + 1), .int .i64 (x - baseF a1 a2 a5 a6 n), .int .i64 0], .int .i64 0]) ∧ Below w.heap.size w w' := by
  obtain ⟨b0, b1, b2, b3, b4, b5, b6, bm⟩ := ok_bounds h
  have q0 := baseF_bd b1 b5 b6 bm n
  have q1 := baseF_mono b1 b5 b6 bm (show n + 1 ≤ 13 by omega)
  have x0 : 0 ≤ x := by have := hr.out.1; omega
  have x1 : x < baseF a1 a2 a5 a6 13 := by have := hr.out.2; omega
  have q2 := baseF_bd b1 b5 b6 bm 13
  clear q0 q1
  go_enter Try.func33, Try.ntmps33
  go_wp2_with (go_at_call 31; refine (size_ok _ _ _ _ _ _ _ h _).mono ?_; rintro e w1 ⟨rfl, hb1⟩; obtain ⟨os, d, rfl⟩ := hb1.more; clear hb1)
  go_loopg [] n (fun g wr => ∃ m : Nat, m ≤ n ∧ n ≤ m + g ∧ ∃ os1 d1, wr = ((((w.alloc (.cells #[.int .i64 a0, .int .i64 a1, .int .i64 a2, .int .i64 a3, .int .i64 a4, .int .i64 a5, .int .i64 a6] 28)).alloc (.cells #[.int .i64 0, .int .i64 0, .int .i64 0] 49)).more os d).alloc (.cells #[.int .i64 ((m : Int) + 1), .int .i64 (x - baseF a1 a2 a5 a6 m), .int .i64 0] 49)).more os1 d1)
  case atStart => exact ⟨0, by omega, by omega, #[], _, by simp [World.more, baseF]; rfl⟩
  case round =>
    obtain ⟨m, hm, hg, os1, d1, rfl⟩ := hrel
    have hb := baseF_bd b1 b5 b6 bm m
    have hb' := manyI_bd b1 b5 b6 bm ((m : Int) + 1)
    have hs : baseF a1 a2 a5 a6 (m + 1) = baseF a1 a2 a5 a6 m + manyI a1 a2 a5 a6 ((m : Int) + 1) := rfl
    have HS := Lib.hid hs; clear hs
    by_cases hlt : m < n
    · have hge : manyI a1 a2 a5 a6 ((m : Int) + 1) ≤ x - baseF a1 a2 a5 a6 m := by
        have := baseF_mono b1 b5 b6 bm (show m + 1 ≤ n by omega)
        have := hr.out.1
        have := HS.out
        omega
      go_wp2
      refine wp_region_more_lit (by kernel_rfl) (by kernel_rfl) ?_
      repeat (first | go_big_quiet_skip | (go_big_quiet_want; go_big_quiet_op; first | go_big_quiet_on | (apply Exists.intro; refine ⟨fun _ => ?_, ?_⟩; (focus (go_at_call 39; exact Calls.more_of (many_any _ _ _ _ _ _ _ _ bm _))); go_big_quiet_on)))
      refine wpQuiet_nil ?_
      intro osq dq
      go_wp2
      refine wp_region_more_tail 8 (by kernel_rfl) (by kernel_rfl) ?_
      simp only [List.take_succ_cons, List.take_zero, List.drop_succ_cons, List.drop_zero]
      repeat (first | go_big_quiet_skip | (go_big_quiet_want; go_big_quiet_op; first | go_big_quiet_on | (apply Exists.intro; refine ⟨fun _ => ?_, ?_⟩; (focus (go_at_call 39; exact Calls.more_of (many_any _ _ _ _ _ _ _ _ bm _))); go_big_quiet_on)))
      refine wpQuiet_nil ?_
      intro osq dq
      go_wp2
      go_roundg (n - (m + 1))
      case measure => omega
      case rel =>
        refine ⟨m + 1, by omega, by omega, ?_⟩
        rw [show ((m + 1 : Nat) : Int) + 1 = (m : Int) + 1 + 1 by omega, show x - baseF a1 a2 a5 a6 (m + 1) = x - baseF a1 a2 a5 a6 m - manyI a1 a2 a5 a6 ((m : Int) + 1) by have := HS.out; omega]
        exact RowKit.Below.more (by repeat (first | exact Below.refl _ _ | apply Below.drew | apply Below.more1 | apply Below.alloc1))
    · obtain rfl : m = n := by omega
      have hlt' : x - baseF a1 a2 a5 a6 m < manyI a1 a2 a5 a6 ((m : Int) + 1) := by
        have := hr.out.2
        have := HS.out
        omega
      go_wp2
      refine wp_region_more_lit (by kernel_rfl) (by kernel_rfl) ?_
      repeat (first | go_big_quiet_skip | (go_big_quiet_want; go_big_quiet_op; first | go_big_quiet_on | (apply Exists.intro; refine ⟨fun _ => ?_, ?_⟩; (focus (go_at_call 39; exact Calls.more_of (many_any _ _ _ _ _ _ _ _ bm _))); go_big_quiet_on)))
      refine wpQuiet_nil ?_
      intro osq dq
      go_wp2
      exact bodyPost_ret (v := .tuple #[.agg #[.int .i64 ((m : Int) + 1), .int .i64 (x - baseF a1 a2 a5 a6 m), .int .i64 0], .int .i64 0]) (by simp [results, Try.results33, go_sem, ↓IntWalk.iteOmega]) rfl ⟨rfl, (by repeat (first | exact Below.refl _ _ | apply Below.drew | apply Below.more1 | apply Below.alloc1))⟩

end Go.Proofs.Ytaokjiajceefaaa
