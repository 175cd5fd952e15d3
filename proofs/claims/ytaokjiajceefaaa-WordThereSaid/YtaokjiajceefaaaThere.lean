/-
WordThere returns true.
-/
import Derived.Test.YtaokjiajceefaaaPlace
import Derived.Deep.DeepCutAuto
import Derived.Deep.Cut
namespace Go.Proofs.Ytaokjiajceefaaa
open Go.ChangeShapes Go.WideShapes Go.ChangeAt Go.RowKit

set_option maxRecDepth 100000 in
set_option maxHeartbeats 2000000 in
theorem wordThere_walk (a0 a1 a2 a3 a4 a5 a6 : Int) (w : World) : Calls Try.prog 9 #[.agg #[.int .i64 a0, .int .i64 a1, .int .i64 a2, .int .i64 a3, .int .i64 a4, .int .i64 a5, .int .i64 a6]] w fun e w' => e = .returned (.bool true) ∧ Below w.heap.size w w' := by
  go_enter Try.func9, Try.ntmps9
  go_upto_if 15 with (go_at_call 16; refine (check_any _ _ _ _ _ _ _ _).mono ?_; rintro e w1 ⟨rfl, hb1⟩; obtain ⟨os, d, rfl⟩ := hb1.more; clear hb1)
  go_cut [] (fun wx => ∃ b0 b1 b2 b3 b4 b5 b6 : Int, okCfg b0 b1 b2 b3 b4 b5 b6 = true ∧ ∃ os d, wx = (w.alloc (.cells #[.int .i64 b0, .int .i64 b1, .int .i64 b2, .int .i64 b3, .int .i64 b4, .int .i64 b5, .int .i64 b6] 28)).more os d)
  case first =>
    have e2 : cfgErr a0 a1 a2 a3 a4 a5 a6 = if okCfg a0 a1 a2 a3 a4 a5 a6 then 0 else 1 := rfl
    cases hok : okCfg a0 a1 a2 a3 a4 a5 a6
    all_goals
      simp only [hok, Bool.false_eq_true, ↓reduceIte] at e2
    · go_wp2_with (go_at_call 17; refine (small_any _).mono ?_; rintro e w1 ⟨rfl, hb1⟩; obtain ⟨os, d, rfl⟩ := hb1.more; clear hb1)
      go_meet
      exact ⟨2, 2, 3, 1, 0, 4, 2, by decide, RowKit.Below.more (by repeat (first | exact Below.refl _ _ | apply Below.drew | apply Below.more1 | apply Below.alloc1))⟩
    · go_wp2
      go_meet
      exact ⟨_, _, _, _, _, _, _, hok, RowKit.Below.more (by repeat (first | exact Below.refl _ _ | apply Below.drew | apply Below.more1 | apply Below.alloc1))⟩
  case rest =>
    obtain ⟨a0, a1, a2, a3, a4, a5, a6, hok, osA, dA, rfl⟩ := hcut
    obtain ⟨b0, b1, b2, b3, b4, b5, b6, bm⟩ := ok_bounds hok
    have hbd := baseF_bd b1 b5 b6 bm 13
    have hsum := @size_sum a1 a2 a5 a6
    have hq : (baseF a1 a2 a5 a6 13 != 6 + a6 + a1 + a1 * a2 + 4 * a5) = false := by rw [hsum]; simp
    clear hsum
    go_wp2_with (go_at_call 31; refine (size_ok _ _ _ _ _ _ _ hok _).mono ?_; rintro e w1 ⟨rfl, hb1⟩; obtain ⟨os, d, rfl⟩ := hb1.more; clear hb1)
    go_loopg [6] (baseF a1 a2 a5 a6 13).toNat (fun g sa wr => ∃ x lr li lk : Int, 0 ≤ x ∧ x ≤ baseF a1 a2 a5 a6 13 ∧ baseF a1 a2 a5 a6 13 ≤ x + g ∧ sa = .int .i64 x ∧ LastIs a1 a2 a5 a6 x lr li lk ∧ ∃ os1 d1, wr = ((((w.alloc (.cells #[.int .i64 a0, .int .i64 a1, .int .i64 a2, .int .i64 a3, .int .i64 a4, .int .i64 a5, .int .i64 a6] 28)).more osA dA).more os d).alloc (.cells #[.int .i64 lr, .int .i64 li, .int .i64 lk] 49)).more os1 d1)
    case atStart => exact ⟨0, 0, 0, 0, by omega, by omega, by omega, rfl, .inl ⟨rfl, rfl, rfl, rfl⟩, #[], _, by simp [World.more]; rfl⟩
    case round =>
      obtain ⟨x, lr, li, lk, hx0, hx1, hg, rfl, hlast, os1, d1, rfl⟩ := hrel
      by_cases hlt : x < baseF a1 a2 a5 a6 13
      · obtain ⟨r, i, k, hat, hao, had, hnext, hrel, hl1, hl2, hl3⟩ := next_place hok hx0 hlt hlast
        have HAT := Lib.hid hat
        have HN := Lib.hid hnext
        clear hat hnext hlast
        rcases hrel with ⟨rfl, rfl, rfl⟩ | ⟨rfl, rfl, rfl⟩ | ⟨rfl, rfl, rfl⟩
        all_goals
          go_wp2_with (first
            | (go_at_call 33; refine (HAT.out.1 _).mono ?_; rintro e w1 ⟨rfl, hb1⟩; obtain ⟨os, d, rfl⟩ := hb1.more; clear hb1)
            | (go_at_call 32; refine (addr_ok _ _ _ _ _ _ _ _ _ _ hok hao _).mono ?_; rintro e w1 ⟨rfl, hb1⟩; obtain ⟨os, d, rfl⟩ := hb1.more; clear hb1))
          go_roundg (gk - 1)
          case measure => omega
          case rel => exact ⟨x + 1, _, _, _, by omega, by omega, by omega, rfl, HN.out, RowKit.Below.more (by repeat (first | exact Below.refl _ _ | apply Below.drew | apply Below.more1 | apply Below.alloc1))⟩
      · obtain rfl : x = baseF a1 a2 a5 a6 13 := by omega
        obtain ⟨rfl, rfl, rfl⟩ := last_end hok hlast
        clear hlast
        go_wp2_with (go_at_call 33; refine (at_bad _ _ _ _ _ _ _ _ hok (.inr (Int.le_refl _)) _).mono ?_; rintro e w1 ⟨rfl, hb1⟩; obtain ⟨os, d, rfl⟩ := hb1.more; clear hb1)
        go_ret
        exact ⟨rfl, (by repeat (first | exact Below.refl _ _ | apply Below.drew | apply Below.more1 | apply Below.alloc1))⟩
end Go.Proofs.Ytaokjiajceefaaa
