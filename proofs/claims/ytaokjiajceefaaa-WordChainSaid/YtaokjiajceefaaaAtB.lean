/-
word.At: the place at an address.
-/
import Derived.Test.YtaokjiajceefaaaAt
import Derived.RegionTactic
import Derived.BigRegion
import Derived.Test.YtaokjiajceefaaaTail
import Derived.Outline
import Derived.Deep.LoopGhost
namespace Go.Proofs.Ytaokjiajceefaaa
open Go.ChangeShapes Go.WideShapes Go.ChangeAt Go.RowKit

set_option maxHeartbeats 1000000 in
theorem at_nine (a0 a1 a2 a3 a4 a5 a6 x : Int) (h : okCfg a0 a1 a2 a3 a4 a5 a6 = true) (hr : Hid (inReg a1 a2 a5 a6 8 x)) (w : World) : Calls Try.prog 33 #[.agg #[.int .i64 a0, .int .i64 a1, .int .i64 a2, .int .i64 a3, .int .i64 a4, .int .i64 a5, .int .i64 a6], .int .i64 x] w fun e w' =>
    e = .returned (.tuple #[.agg #[.int .i64 9, .int .i64 ((x - baseF a1 a2 a5 a6 8) / a2), .int .i64 ((x - baseF a1 a2 a5 a6 8) % a2)], .int .i64 0]) ∧ Below w.heap.size w w' := by
  obtain ⟨b0, b1, b2, b3, b4, b5, b6, bm⟩ := ok_bounds h
  have q0 := baseF_bd b1 b5 b6 bm 8
  have q1 := baseF_mono b1 b5 b6 bm (show 8 + 1 ≤ 13 by omega)
  have x0 : 0 ≤ x := by have := hr.out.1; omega
  have x1 : x < baseF a1 a2 a5 a6 13 := by have := hr.out.2; omega
  have q2 := baseF_bd b1 b5 b6 bm 13
  clear q0 q1
  go_enter Try.func33, Try.ntmps33
  go_wp2_with (go_at_call 31; refine (size_ok _ _ _ _ _ _ _ h _).mono ?_; rintro e w1 ⟨rfl, hb1⟩; obtain ⟨os, d, rfl⟩ := hb1.more; clear hb1)
  go_loopg [] 8 (fun g wr => ∃ m : Nat, m ≤ 8 ∧ 8 ≤ m + g ∧ ∃ os1 d1, wr = ((((w.alloc (.cells #[.int .i64 a0, .int .i64 a1, .int .i64 a2, .int .i64 a3, .int .i64 a4, .int .i64 a5, .int .i64 a6] 28)).alloc (.cells #[.int .i64 0, .int .i64 0, .int .i64 0] 49)).more os d).alloc (.cells #[.int .i64 ((m : Int) + 1), .int .i64 (x - baseF a1 a2 a5 a6 m), .int .i64 0] 49)).more os1 d1)
  case atStart => exact ⟨0, by omega, by omega, #[], _, by simp [World.more, baseF]; rfl⟩
  case round =>
    obtain ⟨m, hm, hg, os1, d1, rfl⟩ := hrel
    have hb := baseF_bd b1 b5 b6 bm m
    have hb' := manyI_bd b1 b5 b6 bm ((m : Int) + 1)
    have hs : baseF a1 a2 a5 a6 (m + 1) = baseF a1 a2 a5 a6 m + manyI a1 a2 a5 a6 ((m : Int) + 1) := rfl
    have HS := Lib.hid hs; clear hs
    by_cases hlt : m < 8
    · have hge : manyI a1 a2 a5 a6 ((m : Int) + 1) ≤ x - baseF a1 a2 a5 a6 m := by
        have := baseF_mono b1 b5 b6 bm (show m + 1 ≤ 8 by omega)
        have := hr.out.1
        have := HS.out
        omega
      go_wp2
      refine wp_region_more_lit (by kernel_rfl) (by kernel_rfl) ?_
      repeat (first | go_big_quiet_skip | (go_big_quiet_want; go_big_quiet_op; first | go_big_quiet_on | (apply Exists.intro; refine ⟨fun _ => ?_, ?_⟩; (focus (go_at_call 39; exact Calls.more_of (many_any _ _ _ _ _ _ _ _ bm _))); go_big_quiet_on)))
      refine wpQuiet_nil ?_
      intro osq dq
      go_wp2
      refine wp_region_more_tail 8 (by kernel_rfl) (by kernel_rfl) ?_
      simp only [List.take_succ_cons, List.take_zero, List.drop_succ_cons, List.drop_zero]
      repeat (first | go_big_quiet_skip | (go_big_quiet_want; go_big_quiet_op; first | go_big_quiet_on | (apply Exists.intro; refine ⟨fun _ => ?_, ?_⟩; (focus (go_at_call 39; exact Calls.more_of (many_any _ _ _ _ _ _ _ _ bm _))); go_big_quiet_on)))
      refine wpQuiet_nil ?_
      intro osq dq
      go_wp2
      go_roundg (8 - (m + 1))
      case measure => omega
      case rel =>
        refine ⟨m + 1, by omega, by omega, ?_⟩
        rw [show ((m + 1 : Nat) : Int) + 1 = (m : Int) + 1 + 1 by omega, show x - baseF a1 a2 a5 a6 (m + 1) = x - baseF a1 a2 a5 a6 m - manyI a1 a2 a5 a6 ((m : Int) + 1) by have := HS.out; omega]
        exact RowKit.Below.more (by repeat (first | exact Below.refl _ _ | apply Below.drew | apply Below.more1 | apply Below.alloc1))
    · obtain rfl : m = 8 := by omega
      have hlt' : x - baseF a1 a2 a5 a6 8 < manyI a1 a2 a5 a6 9 := by
        have := hr.out.2
        have e : baseF a1 a2 a5 a6 (8 + 1) = baseF a1 a2 a5 a6 8 + manyI a1 a2 a5 a6 9 := rfl
        omega
      have hge' : 0 ≤ x - baseF a1 a2 a5 a6 8 := by have := hr.out.1; omega
      clear HS hb'
      go_wp2
      refine wp_region_more_lit (by kernel_rfl) (by kernel_rfl) ?_
      repeat (first | go_big_quiet_skip | (go_big_quiet_want; go_big_quiet_op; first | go_big_quiet_on | (apply Exists.intro; refine ⟨fun _ => ?_, ?_⟩; (focus (go_at_call 39; exact Calls.more_of (many_any _ _ _ _ _ _ _ _ bm _))); go_big_quiet_on)))
      refine wpQuiet_nil ?_
      intro osq dq
      go_wp2
      refine gen_world (fun W hW => ?_)
      have f0 : W.cell? ⟨w.heap.size + 1 + 1 + os.size, 0, none⟩ = some (.int .i64 9) := by rw [hW]; simp [go_sem, ↓IntWalk.iteOmega] <;> (intros; omega)
      have f1 : W.cell? ⟨w.heap.size + 1 + 1 + os.size, 1, none⟩ = some (.int .i64 (x - baseF a1 a2 a5 a6 8)) := by rw [hW]; simp [go_sem, ↓IntWalk.iteOmega] <;> (intros; omega)
      have f2 : W.cell? ⟨w.heap.size + 1 + 1 + os.size, 2, none⟩ = some (.int .i64 0) := by rw [hW]; simp [go_sem, ↓IntWalk.iteOmega] <;> (intros; omega)
      have f3 : W.cell? ⟨w.heap.size, 2, none⟩ = some (.int .i64 a2) := by rw [hW]; simp [go_sem, ↓IntWalk.iteOmega] <;> (intros; omega)
      have z1 : W.frozen? ⟨w.heap.size + 1 + 1 + os.size, 1, none⟩ = false := by rw [hW]; simp [go_sem] <;> (intros; omega)
      have z2 : W.frozen? ⟨w.heap.size + 1 + 1 + os.size, 2, none⟩ = false := by rw [hW]; simp [go_sem] <;> (intros; omega)
      have y0 : W.cell? ⟨w.heap.size + 1, 0, none⟩ = some (.int .i64 0) := by rw [hW]; simp [go_sem, ↓IntWalk.iteOmega] <;> (intros; omega)
      have y1 : W.cell? ⟨w.heap.size + 1, 1, none⟩ = some (.int .i64 0) := by rw [hW]; simp [go_sem, ↓IntWalk.iteOmega] <;> (intros; omega)
      have y2 : W.cell? ⟨w.heap.size + 1, 2, none⟩ = some (.int .i64 0) := by rw [hW]; simp [go_sem, ↓IntWalk.iteOmega] <;> (intros; omega)
      have v0 : W.frozen? ⟨w.heap.size + 1, 0, none⟩ = false := by rw [hW]; simp [go_sem, ↓IntWalk.iteOmega] <;> (intros; omega)
      have v1 : W.frozen? ⟨w.heap.size + 1, 1, none⟩ = false := by rw [hW]; simp [go_sem, ↓IntWalk.iteOmega] <;> (intros; omega)
      have v2 : W.frozen? ⟨w.heap.size + 1, 2, none⟩ = false := by rw [hW]; simp [go_sem, ↓IntWalk.iteOmega] <;> (intros; omega)
      have hB : Below w.heap.size w W := by rw [hW]; exact (by repeat (first | exact Below.refl _ _ | apply Below.drew | apply Below.more1 | apply Below.alloc1))
      clear hW
      have HB := Lib.hid hB; clear hB
      go_region
      go_wp2
      exact bodyPost_ret (v := .tuple #[.agg #[.int .i64 9, .int .i64 ((x - baseF a1 a2 a5 a6 8) / a2), .int .i64 ((x - baseF a1 a2 a5 a6 8) % a2)], .int .i64 0]) (by simp [results, Try.results33, go_sem, y0, y1, y2]) rfl ⟨rfl, (by repeat (first | exact HB.out | apply Below.drew | refine Below.setCell ?_ (by dsimp only; omega) _))⟩

end Go.Proofs.Ytaokjiajceefaaa
