/-
reclaimref01.First: the reference's memory at the beginning.
-/
import Derived.Test.YtjcggokhminmoaaQFirst
import Derived.Test.YtjcggokhminmoaaQArP
import Derived.Outline
namespace Go.Proofs.Ytjcggokhminmoaa
open Go.ChangeShapes Go.WideShapes Go.ChangeAt Go.RowKit

def RowOne (n : Nat) (f : Nat → Int) (w : World) (e : Ending) (w' : World) : Prop :=
  ∃ os d os' d', e = .returned (.slice (some ⟨w.heap.size + os.size, 0, none⟩) n n) ∧ w' = ((w.more os d).alloc (.cells (intCells .u64 n f) 52)).more os' d'

theorem rowOne_of {n : Nat} {f g : Nat → Int} {w : World} {o : Obj} {os os' : Array Obj} {d d' : Nat} {e : Ending} {w' : World}
    (he : e = .returned (.slice (some ⟨w.heap.size + 1 + os.size, 0, none⟩) n n)) (hw : w' = (((w.alloc o).more os d).alloc (.cells (intCells .u64 n g) 52)).more os' d') (hg : ∀ j, j < n → g j = f j) : RowOne n f w e w' := by
  refine ⟨#[o] ++ os, d, os', d', ?_, ?_⟩
  · rw [he]
    simp [Array.size_append, Nat.add_assoc]
  · rw [hw, intCells_congr hg, alloc_more w o os d]

theorem more_more (w : World) (a c : Array Obj) (b d : Nat) : (w.more a b).more c d = w.more (a ++ c) d := by
  simp [World.more, Array.append_assoc]
theorem more_zero (W : World) : W = W.more #[] W.drawn := by simp [World.more]

set_option maxRecDepth 100000 in
set_option maxHeartbeats 3000000 in
theorem rfirst_ok (a0 a1 a2 a3 a4 a5 a6 : Int) (u b n s : Nat) (hok : okCfg a0 a1 a2 a3 a4 a5 a6 = true) (hs : Hid (a5 = (s : Int))) (hu : u ≤ s) (hn : Hid (baseF a1 a2 a5 a6 13 = (n : Int))) (hb : Hid (addrAt a1 a2 a5 a6 10 0 0 = (b : Int))) (hb5 : 5 ≤ b) (hbn : b + s ≤ n) (hn2 : n ≤ 13312) (w : World) :
    Calls Try.prog 33 #[.agg #[.int .i64 a0, .int .i64 a1, .int .i64 a2, .int .i64 a3, .int .i64 a4, .int .i64 a5, .int .i64 a6], .int .i64 (u : Int)] w (RowOne n (firstW b u s) w) := by
  obtain ⟨b0, b1, b2, b3, b4, b5, b6, bm⟩ := ok_bounds hok
  obtain rfl : a5 = (s : Int) := hs.out
  have hsz : ∀ w, Calls Try.prog 50 #[.agg #[.int .i64 a0, .int .i64 a1, .int .i64 a2, .int .i64 a3, .int .i64 a4, .int .i64 s, .int .i64 a6]] w fun e w' => e = .returned (.int .i64 (n : Int)) ∧ Below w.heap.size w w' := by
    intro w
    have := rsize_any _ _ _ _ _ _ _ hok w
    rw [hn.out] at this
    exact this
  have hba : ∀ w, Calls Try.prog 53 #[.agg #[.int .i64 a0, .int .i64 a1, .int .i64 a2, .int .i64 a3, .int .i64 a4, .int .i64 s, .int .i64 a6], .int .i64 10] w fun e w' => e = .returned (.int .i64 (b : Int)) ∧ Below w.heap.size w w' := by
    intro w
    have := base_any _ _ _ _ _ _ _ hok 10 (by omega) (by omega) w
    rw [show baseF a1 a2 (s : Int) a6 (10 - 1 : Int).toNat = (b : Int) by rw [← hb.out]; simp [addrAt]] at this
    exact this
  have hb4 : ∀ w, Calls Try.prog 53 #[.agg #[.int .i64 a0, .int .i64 a1, .int .i64 a2, .int .i64 a3, .int .i64 a4, .int .i64 s, .int .i64 a6], .int .i64 4] w fun e w' => e = .returned (.int .i64 3) ∧ Below w.heap.size w w' := by
    intro w
    exact base_any _ _ _ _ _ _ _ hok 4 (by omega) (by omega) w
  have hb5' : ∀ w, Calls Try.prog 53 #[.agg #[.int .i64 a0, .int .i64 a1, .int .i64 a2, .int .i64 a3, .int .i64 a4, .int .i64 s, .int .i64 a6], .int .i64 5] w fun e w' => e = .returned (.int .i64 4) ∧ Below w.heap.size w w' := by
    intro w
    exact base_any _ _ _ _ _ _ _ hok 5 (by omega) (by omega) w
  have hph : ∀ w, Calls Try.prog 51 #[.int .u64 0, .int .i64 (u : Int)] w fun e w' => e = .returned (.int .u64 ((u : Int) + 1)) ∧ w = w' := by
    intro w
    have := packHead_any 0 (u : Int) w (by omega) (by omega) (by omega) (by omega)
    rw [show packHead 0 (u : Int) = (u : Int) + 1 by unfold packHead; omega] at this
    exact this
  have hpl : ∀ (k : Nat) w, k < s → Calls Try.prog 52 #[.int .i64 ((k : Int) + 1), .bool false] w fun e w' => e = .returned (.int .u64 ((k : Int) + 2)) ∧ w = w' := by
    intro k w hk
    have := packLink_any ((k : Int) + 1) false w (by omega) (by omega)
    rw [show packLink ((k : Int) + 1) false = (k : Int) + 2 by unfold packLink; simp; omega] at this
    exact this
  have hp0 : ∀ w, Calls Try.prog 52 #[.int .i64 0, .bool false] w fun e w' => e = .returned (.int .u64 1) ∧ w = w' := by
    intro w
    exact packLink_any 0 false w (by omega) (by omega)
  have hmk := fun w => run_make_row' (P := Try.prog) 40 52 (.int .u64 0) 8 Try.underlying40 infoU64F rfl .i64 .i64 n (by omega) (by omega) w
  rw [made_intCells] at hmk
  have HSZ := Lib.hid hsz
  have HBA := Lib.hid hba
  have HB4 := Lib.hid hb4
  have HB5 := Lib.hid hb5'
  have HPH := Lib.hid hph
  have HPL := Lib.hid hpl
  have HP0 := Lib.hid hp0
  have Hok := Lib.hid hok
  clear hsz hba hb4 hb5' hph hpl hp0 hok
  have hcase : (u < s ∧ 0 < u) ∨ (u < s ∧ ¬ 0 < u) ∨ (¬ u < s ∧ 0 < u) := by omega
  rcases hcase with ⟨hlt, h0⟩ | ⟨hlt, h0⟩ | ⟨hlt, h0⟩
  all_goals
    go_enter Try.func33, Try.ntmps33
    go_wp2_with (first
      | (go_at_call 50; refine (HSZ.out _).mono ?_; rintro e w1 ⟨rfl, hb1⟩; obtain ⟨osA, dA, rfl⟩ := hb1.more; clear hb1)
      | (go_at_call 51; refine (HPH.out _).mono ?_; rintro e w1 ⟨rfl, rfl⟩))
    go_loopg [6] (s - u) (fun g sl wr => ∃ k : Nat, u ≤ k ∧ (k + 1 ≤ s ∨ k = u) ∧ s ≤ k + g ∧ sl = .int .i64 (k : Int) ∧ ∃ os' d', wr = (((w.alloc (.cells #[.int .i64 a0, .int .i64 a1, .int .i64 a2, .int .i64 a3, .int .i64 a4, .int .i64 s, .int .i64 a6] 23)).more osA dA).alloc (.cells (intCells .u64 n (loopW b u s k)) 52)).more os' d')
    case atStart => exact ⟨u, by omega, by omega, by omega, rfl, #[], _, by first | rw [← loop_zero0 b u s n hb5 hlt, ← more_zero] | rw [← loop_zero1 b u s n hb5 hlt, ← more_zero]⟩
    case round =>
      obtain ⟨k, hk, hk2, hg, rfl, os1, d1, rfl⟩ := hrel
      by_cases hlk : k + 1 < s
      · first
        | (exfalso; omega)
        | (go_wp2_with (first
             | (go_at_call 53; refine (HBA.out _).mono ?_; rintro e w1 ⟨rfl, hb1⟩; obtain ⟨os, d, rfl⟩ := hb1.more; clear hb1)
             | (go_at_call 52; refine (HPL.out k _ (by omega)).mono ?_; rintro e w1 ⟨rfl, rfl⟩))
           go_roundg (gk - 1)
           case measure => omega
           case rel => 
             refine ⟨k + 1, by omega, by omega, by omega, by go_num, ?_⟩
             rw [← loop_next b u s k hb5 hk]
             exact RowKit.Below.more (by repeat (first | exact Below.refl _ _ | apply Below.drew | apply Below.more1 | apply Below.alloc1)))
      · go_wp2_with (first
          | (go_at_call 53; (with_reducible refine (HB4.out _).mono ?_); rintro e w1 ⟨rfl, hb1⟩; obtain ⟨os, d, rfl⟩ := hb1.more; clear hb1)
          | (go_at_call 53; (with_reducible refine (HB5.out _).mono ?_); rintro e w1 ⟨rfl, hb1⟩; obtain ⟨os, d, rfl⟩ := hb1.more; clear hb1)
          | (go_at_call 52; refine (HP0.out _).mono ?_; rintro e w1 ⟨rfl, rfl⟩))
        go_ret
        first
        | exact rowOne_of rfl rfl (loop_end b u s k n hb5 hk hk2 (by omega) h0)
        | exact rowOne_of rfl (by rw [more_more, more_more]) (loop_end1 b u s k n hb5 hk hk2 (by omega) h0)

end Go.Proofs.Ytjcggokhminmoaa
