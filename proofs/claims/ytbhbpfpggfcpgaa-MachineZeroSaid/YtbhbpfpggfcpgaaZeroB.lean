/-
MachineZero returns true.
-/
import Derived.Test.YtbhbpfpggfcpgaaZero
namespace Go.Proofs.Ytbhbpfpggfcpgaa
open Go.ChangeShapes Go.WideShapes Go.ChangeAt Go.RowKit Go.Shelf

set_option maxRecDepth 100000 in
set_option maxHeartbeats 4000000 in
theorem machineZero_walk (m0 m1 m2 m3 addr x : Int) (w : World) : Calls Try.prog 14 #[.agg #[.int .i64 m0, .int .i64 m1, .int .i64 m2, .int .i64 m3], .int .i64 addr, .int .u64 x] w fun e w' => e = .returned (.bool true) ∧ Below w.heap.size w w' := by
  have HA := Lib.hid (fun W => awake_ok (w := W))
  go_enter Try.func14, Try.ntmps14
  go_wp2_with (first
    | (go_at_call 17; refine (zmove _ ⟨m0, m1, m2, m3⟩ (by simp [go_sem]) (by simp <;> omega)).mono ?_; rintro e w1 ⟨rfl, hb⟩; obtain ⟨os, d, rfl⟩ := hb.more; clear hb)
    | (go_at_call 39; refine (zbusy _ _ (by simp [go_sem]) (by simp [World.size_more] <;> omega)).mono ?_; rintro e w1 ⟨rfl, hb⟩; obtain ⟨os, d, rfl⟩ := hb.more; clear hb)
    | (go_at_call 18; refine (zmoves _ (by simp [go_sem, ↓IntWalk.iteOmega]) (by simp [World.size_more] <;> omega)).mono ?_; rintro e w1 ⟨rfl, hb⟩; obtain ⟨os, d, rfl⟩ := hb.more; clear hb)
    | (go_at_call 19; refine (zrun _ (by simp [go_sem, ↓IntWalk.iteOmega]) (by simp [World.size_more] <;> omega)).mono ?_; rintro e w1 ⟨rfl, hb⟩; obtain ⟨os, d, rfl⟩ := hb.more; clear hb)
    | (go_at_call 40; refine zempty.mono ?_; rintro e w1 ⟨rfl, hb⟩; obtain ⟨os, d, rfl⟩ := hb.more; clear hb)
    | (go_at_call 37; refine (zcall _ _ (by simp [go_sem, ↓IntWalk.iteOmega]) (by simp [World.size_more] <;> omega)).mono ?_; rintro e w1 ⟨rfl, hb⟩; obtain ⟨os, d, rfl⟩ := hb.more; clear hb)
    | (go_at_call 41; refine (zstore _ _ _ (by simp [go_sem]) (by simp [World.size_more] <;> omega)).mono ?_; rintro e w1 ⟨⟨u, rfl⟩, hb⟩; obtain ⟨os, d, rfl⟩ := hb.more; clear hb)
    | (go_at_call 42; refine (zshift _ _ _ _ (by simp [go_sem]) (by simp [World.size_more] <;> omega)).mono ?_; rintro e w1 ⟨⟨u, rfl⟩, hb⟩; obtain ⟨os, d, rfl⟩ := hb.more; clear hb)
    | (go_at_call 43; refine (zpoint _ _ (by simp [go_sem, ↓IntWalk.iteOmega]) (by simp [World.size_more] <;> omega)).mono ?_; rintro e w1 ⟨⟨u, rfl⟩, hb⟩; obtain ⟨os, d, rfl⟩ := hb.more; clear hb)
    | (go_at_call 44; refine (zanswer _ _ _ (by simp [go_sem, ↓IntWalk.iteOmega]) (by simp [World.size_more] <;> omega)).mono ?_; rintro e w1 ⟨⟨u, rfl⟩, hb⟩; obtain ⟨os, d, rfl⟩ := hb.more; clear hb)
    | (go_at_call 45; refine (zthread _ (by simp [go_sem, ↓IntWalk.iteOmega]) (by simp [World.size_more] <;> omega)).mono ?_; rintro e w1 ⟨rfl, hb⟩; obtain ⟨os, d, rfl⟩ := hb.more; clear hb)
    | (go_at_call 46; refine (znow _ (by simp [go_sem, ↓IntWalk.iteOmega]) (by simp [World.size_more] <;> omega)).mono ?_; rintro e w1 ⟨rfl, hb⟩; obtain ⟨os, d, rfl⟩ := hb.more; clear hb)
    | (go_at_call 47; refine (zload _ _ (by simp [go_sem, ↓IntWalk.iteOmega]) (by simp [World.size_more] <;> omega)).mono ?_; rintro e w1 ⟨rfl, hb⟩; obtain ⟨os, d, rfl⟩ := hb.more; clear hb)
    | (go_at_call 48; refine (zswap _ _ _ _ (by simp [go_sem, ↓IntWalk.iteOmega]) (by simp [World.size_more] <;> omega)).mono ?_; rintro e w1 ⟨rfl, hb⟩; obtain ⟨os, d, rfl⟩ := hb.more; clear hb)
    | (go_at_call 26; refine (HA.out _).mono ?_; rintro e w1 ⟨rfl, ho⟩; obtain ⟨os, d, rfl⟩ := (Only.below ho (fun _ h => h.elim) (Nat.le_refl _)).more; clear ho))
  go_ret
  exact ⟨rfl, (by repeat (first | exact Below.refl _ _ | apply Below.drew | apply Below.more1 | apply Below.alloc1 | (refine Below.setCell ?_ (by first | exact Nat.le_refl _ | (simp; done) | (simp; omega)) _)))⟩
end Go.Proofs.Ytbhbpfpggfcpgaa
