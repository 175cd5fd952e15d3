/-
reclaimref01.At: the reference's place at an address.
-/
import Derived.Test.YtaokjiajceefaaaRAddr
namespace Go.Proofs.Ytaokjiajceefaaa
open Go.ChangeShapes Go.WideShapes Go.ChangeAt Go.RowKit

theorem rat_one (a0 a1 a2 a3 a4 a5 a6 x : Int) (n : Nat) (h : okCfg a0 a1 a2 a3 a4 a5 a6 = true) (hn : n < 13) (h8 : n ≠ 8) (hr : Hid (inReg a1 a2 a5 a6 n x)) (w : World) : Calls Try.prog 36 #[.agg #[.int .i64 a0, .int .i64 a1, .int .i64 a2, .int .i64 a3, .int .i64 a4, .int .i64 a5, .int .i64 a6], .int .i64 x] w fun e w' =>
    e = .returned (.agg #[.int .i64 ((n : Int) + 1), .int .i64 (x - baseF a1 a2 a5 a6 n), .int .i64 0]) ∧ Below w.heap.size w w' := by
  obtain ⟨b0, b1, b2, b3, b4, b5, b6, bm⟩ := ok_bounds h
  have q0 := baseF_bd b1 b5 b6 bm n
  have q1 := baseF_mono b1 b5 b6 bm (show n + 1 ≤ 13 by omega)
  have x0 : 0 ≤ x := by have := hr.out.1; omega
  have q2 := baseF_bd b1 b5 b6 bm 13
  have x1 : x ≤ 13312 := by have := hr.out.2; omega
  clear q0 q1 q2
  go_enter Try.func36, Try.ntmps36
  go_wp2
  go_loopg [1, 5] n (fun g ad rg wr => ∃ m : Nat, m ≤ n ∧ n ≤ m + g ∧ ad = .int .i64 (x - baseF a1 a2 a5 a6 m) ∧ rg = .int .i64 ((m : Int) + 1) ∧ ∃ os1 d1, wr = ((w.alloc (.cells #[.int .i64 a0, .int .i64 a1, .int .i64 a2, .int .i64 a3, .int .i64 a4, .int .i64 a5, .int .i64 a6] 28)).alloc (.cells #[.int .i64 0, .int .i64 0, .int .i64 0] 49)).more os1 d1)
  case atStart => exact ⟨0, by omega, by omega, by simp [baseF], rfl, RowKit.Below.more (Below.refl _ _)⟩
  case round =>
    obtain ⟨m, hm, hg, rfl, rfl, os1, d1, rfl⟩ := hrel
    have hb := baseF_bd b1 b5 b6 bm m
    have hb' := manyI_bd b1 b5 b6 bm ((m : Int) + 1)
    have hs : baseF a1 a2 a5 a6 (m + 1) = baseF a1 a2 a5 a6 m + manyI a1 a2 a5 a6 ((m : Int) + 1) := rfl
    have HS := Lib.hid hs; clear hs
    by_cases hlt : m < n
    · have hge : manyI a1 a2 a5 a6 ((m : Int) + 1) ≤ x - baseF a1 a2 a5 a6 m := by
        have := baseF_mono b1 b5 b6 bm (show m + 1 ≤ n by omega)
        have := hr.out.1
        have := HS.out
        omega
      go_wp2_with (go_at_call 42; refine (rmany_any _ _ _ _ _ _ _ _ bm _).mono ?_; rintro e w1 ⟨rfl, hb1⟩; obtain ⟨os, d, rfl⟩ := hb1.more; clear hb1)
      go_roundg (n - (m + 1))
      case measure => omega
      case rel =>
        exact ⟨m + 1, by omega, by omega, by rw [show x - baseF a1 a2 a5 a6 (m + 1) = x - baseF a1 a2 a5 a6 m - manyI a1 a2 a5 a6 ((m : Int) + 1) by have := HS.out; omega], by go_num, RowKit.Below.more (by repeat (first | exact Below.refl _ _ | apply Below.drew | apply Below.more1 | apply Below.alloc1))⟩
    · obtain rfl : m = n := by omega
      have hlt' : x - baseF a1 a2 a5 a6 m < manyI a1 a2 a5 a6 ((m : Int) + 1) := by
        have := hr.out.2
        have := HS.out
        omega
      go_wp2_with (go_at_call 42; refine (rmany_any _ _ _ _ _ _ _ _ bm _).mono ?_; rintro e w1 ⟨rfl, hb1⟩; obtain ⟨os, d, rfl⟩ := hb1.more; clear hb1)
      exact bodyPost_ret (v := .agg #[.int .i64 ((m : Int) + 1), .int .i64 (x - baseF a1 a2 a5 a6 m), .int .i64 0]) (by simp [results, Try.results36, go_sem, ↓IntWalk.iteOmega]) rfl ⟨rfl, (by repeat (first | exact Below.refl _ _ | apply Below.drew | apply Below.more1 | apply Below.alloc1))⟩

theorem rat_nine (a0 a1 a2 a3 a4 a5 a6 x : Int) (h : okCfg a0 a1 a2 a3 a4 a5 a6 = true) (hr : Hid (inReg a1 a2 a5 a6 8 x)) (w : World) : Calls Try.prog 36 #[.agg #[.int .i64 a0, .int .i64 a1, .int .i64 a2, .int .i64 a3, .int .i64 a4, .int .i64 a5, .int .i64 a6], .int .i64 x] w fun e w' =>
    e = .returned (.agg #[.int .i64 9, .int .i64 ((x - baseF a1 a2 a5 a6 8) / a2), .int .i64 ((x - baseF a1 a2 a5 a6 8) % a2)]) ∧ Below w.heap.size w w' := by
  obtain ⟨b0, b1, b2, b3, b4, b5, b6, bm⟩ := ok_bounds h
  have q0 := baseF_bd b1 b5 b6 bm 8
  have q1 := baseF_mono b1 b5 b6 bm (show 8 + 1 ≤ 13 by omega)
  have x0 : 0 ≤ x := by have := hr.out.1; omega
  have q2 := baseF_bd b1 b5 b6 bm 13
  have x1 : x ≤ 13312 := by have := hr.out.2; omega
  clear q0 q1 q2
  go_enter Try.func36, Try.ntmps36
  go_wp2
  go_loopg [1, 5] 8 (fun g ad rg wr => ∃ m : Nat, m ≤ 8 ∧ 8 ≤ m + g ∧ ad = .int .i64 (x - baseF a1 a2 a5 a6 m) ∧ rg = .int .i64 ((m : Int) + 1) ∧ ∃ os1 d1, wr = ((w.alloc (.cells #[.int .i64 a0, .int .i64 a1, .int .i64 a2, .int .i64 a3, .int .i64 a4, .int .i64 a5, .int .i64 a6] 28)).alloc (.cells #[.int .i64 0, .int .i64 0, .int .i64 0] 49)).more os1 d1)
  case atStart => exact ⟨0, by omega, by omega, by simp [baseF], rfl, RowKit.Below.more (Below.refl _ _)⟩
  case round =>
    obtain ⟨m, hm, hg, rfl, rfl, os1, d1, rfl⟩ := hrel
    have hb := baseF_bd b1 b5 b6 bm m
    have hb' := manyI_bd b1 b5 b6 bm ((m : Int) + 1)
    have hs : baseF a1 a2 a5 a6 (m + 1) = baseF a1 a2 a5 a6 m + manyI a1 a2 a5 a6 ((m : Int) + 1) := rfl
    have HS := Lib.hid hs; clear hs
    by_cases hlt : m < 8
    · have hge : manyI a1 a2 a5 a6 ((m : Int) + 1) ≤ x - baseF a1 a2 a5 a6 m := by
        have := baseF_mono b1 b5 b6 bm (show m + 1 ≤ 8 by omega)
        have := hr.out.1
        have := HS.out
        omega
      go_wp2_with (go_at_call 42; refine (rmany_any _ _ _ _ _ _ _ _ bm _).mono ?_; rintro e w1 ⟨rfl, hb1⟩; obtain ⟨os, d, rfl⟩ := hb1.more; clear hb1)
      go_roundg (8 - (m + 1))
      case measure => omega
      case rel =>
        exact ⟨m + 1, by omega, by omega, by rw [show x - baseF a1 a2 a5 a6 (m + 1) = x - baseF a1 a2 a5 a6 m - manyI a1 a2 a5 a6 ((m : Int) + 1) by have := HS.out; omega], by go_num, RowKit.Below.more (by repeat (first | exact Below.refl _ _ | apply Below.drew | apply Below.more1 | apply Below.alloc1))⟩
    · obtain rfl : m = 8 := by omega
      have hlt' : x - baseF a1 a2 a5 a6 8 < manyI a1 a2 a5 a6 9 := by
        have := hr.out.2
        have e : baseF a1 a2 a5 a6 (8 + 1) = baseF a1 a2 a5 a6 8 + manyI a1 a2 a5 a6 9 := rfl
        omega
      have hge' : 0 ≤ x - baseF a1 a2 a5 a6 8 := by have := hr.out.1; omega
      clear HS hb'
      go_wp2_with (go_at_call 42; refine (rmany_any _ _ _ _ _ _ _ _ bm _).mono ?_; rintro e w1 ⟨rfl, hb1⟩; obtain ⟨os, d, rfl⟩ := hb1.more; clear hb1)
      go_wp2
      refine wp_region_more_tail 10 (by kernel_rfl) (by kernel_rfl) ?_
      simp only [List.take_succ_cons, List.take_zero, List.drop_succ_cons, List.drop_zero]
      repeat (first | go_big_quiet_skip | (go_big_quiet_want; go_big_quiet_op; first | go_big_quiet_on | (apply Exists.intro; refine ⟨fun _ => ?_, ?_⟩; (focus (fail)); go_big_quiet_on)))
      refine wpQuiet_nil ?_
      intro osq dq
      go_wp2
      exact bodyPost_ret (v := .agg #[.int .i64 9, .int .i64 ((x - baseF a1 a2 a5 a6 8) / a2), .int .i64 ((x - baseF a1 a2 a5 a6 8) % a2)]) (by simp [results, Try.results36, go_sem, ↓IntWalk.iteOmega]) rfl ⟨rfl, (by repeat (first | exact Below.refl _ _ | apply Below.drew | apply Below.more1 | apply Below.alloc1))⟩

end Go.Proofs.Ytaokjiajceefaaa
