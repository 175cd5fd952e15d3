/-
MemoryTwo returns true where one memory, or none, is there.
-/
import Derived.Test.YtpmadfokpimjcaaPly
namespace Go.Proofs.Ytpmadfokpimjcaa
open Go.ChangeShapes Go.WideShapes Go.ChangeAt Go.RowKit

set_option maxRecDepth 100000 in
set_option maxHeartbeats 16000000 in
theorem two_none {w : World} {va vb : Value} {one two : List OpS} (ho1 : OpsIn w va one) (hm1 : one.length ≤ 2999999999999) (ho2 : OpsIn w vb two) (hm2 : two.length ≤ 2999999999999) (ox oy : Option Addr) (n c m d : Nat) (hn : 8192 < n) (hn' : n ≤ 9223372036854775807) (hm : 8192 < m) (hm' : m ≤ 9223372036854775807) :
    Calls Try.prog 11 #[.slice ox n c, va, .slice oy m d, vb] w fun e w' => e = .returned (.bool true) ∧ Below w.heap.size w w' := by
  obtain ⟨oa, ca, rfl, _⟩ := ho1
  obtain ⟨ob, cb, rfl, _⟩ := ho2
  go_enter Try.func11, Try.ntmps11
  go_wp2_with fail
  refine (begin_long ox n c hn hn').mono ?_
  rintro e w1 ⟨rfl, rfl⟩
  go_wp2_with fail
  refine (begin_long oy m d hm hm').mono ?_
  rintro e w1 ⟨rfl, rfl⟩
  go_wp2
  go_loopg [15] (max one.length two.length) (fun g sl wr => ∃ k : Nat, k ≤ max one.length two.length ∧ max one.length two.length ≤ k + g ∧ sl = .int .i64 (k : Int) ∧ ∃ os d, wr = w.more os d)
  case atStart => exact ⟨0, by omega, by omega, rfl, #[], w.drawn, by simp [World.more]⟩
  case round =>
    obtain ⟨k, hk, hg, rfl, os, d, rfl⟩ := hrel
    by_cases hA : k < one.length
    · by_cases hB : k < two.length
      · have a1 : decide ((k : Int) < (one.length : Int)) = true := by simp; omega
        have a2 : decide (k < one.length) = true := by simp; omega
        have b1 : decide ((k : Int) < (two.length : Int)) = true := by simp; omega
        have b2 : decide (k < two.length) = true := by simp; omega
        go_wp2
        refine wp_region_more_lit (by kernel_rfl) (by kernel_rfl) ?_
        repeat (first | go_big_quiet_skip | (go_big_quiet_want; go_big_quiet_op; first | go_big_quiet_on | (apply Exists.intro; refine ⟨fun _ => ?_, ?_⟩; (focus (fail)); go_big_quiet_on)))
        refine wpQuiet_nil ?_
        intro osq dq
        go_wp2
        refine wp_region_more_lit (by kernel_rfl) (by kernel_rfl) ?_
        repeat (first | go_big_quiet_skip | (go_big_quiet_want; go_big_quiet_op; first | go_big_quiet_on | (apply Exists.intro; refine ⟨fun _ => ?_, ?_⟩; (focus (fail)); go_big_quiet_on)))
        refine wpQuiet_nil ?_
        intro osq dq
        go_wp2
        go_roundg (max one.length two.length - (k + 1))
        case measure => omega
        case rel => exact ⟨k + 1, by omega, by omega, by go_num, RowKit.Below.more (by repeat (first | exact Below.refl _ _ | apply Below.drew | apply Below.more1 | apply Below.alloc1))⟩
      · have a1 : decide ((k : Int) < (one.length : Int)) = true := by simp; omega
        have a2 : decide (k < one.length) = true := by simp; omega
        have b1 : decide ((k : Int) < (two.length : Int)) = false := by simp; omega
        have b2 : decide (k < two.length) = false := by simp; omega
        go_wp2
        refine wp_region_more_lit (by kernel_rfl) (by kernel_rfl) ?_
        repeat (first | go_big_quiet_skip | (go_big_quiet_want; go_big_quiet_op; first | go_big_quiet_on | (apply Exists.intro; refine ⟨fun _ => ?_, ?_⟩; (focus (fail)); go_big_quiet_on)))
        refine wpQuiet_nil ?_
        intro osq dq
        go_wp2
        refine wp_region_more_lit (by kernel_rfl) (by kernel_rfl) ?_
        repeat (first | go_big_quiet_skip | (go_big_quiet_want; go_big_quiet_op; first | go_big_quiet_on | (apply Exists.intro; refine ⟨fun _ => ?_, ?_⟩; (focus (fail)); go_big_quiet_on)))
        refine wpQuiet_nil ?_
        intro osq dq
        go_wp2
        go_roundg (max one.length two.length - (k + 1))
        case measure => omega
        case rel => exact ⟨k + 1, by omega, by omega, by go_num, RowKit.Below.more (by repeat (first | exact Below.refl _ _ | apply Below.drew | apply Below.more1 | apply Below.alloc1))⟩
    · by_cases hB : k < two.length
      · have a1 : decide ((k : Int) < (one.length : Int)) = false := by simp; omega
        have a2 : decide (k < one.length) = false := by simp; omega
        have b1 : decide ((k : Int) < (two.length : Int)) = true := by simp; omega
        have b2 : decide (k < two.length) = true := by simp; omega
        go_wp2
        refine wp_region_more_lit (by kernel_rfl) (by kernel_rfl) ?_
        repeat (first | go_big_quiet_skip | (go_big_quiet_want; go_big_quiet_op; first | go_big_quiet_on | (apply Exists.intro; refine ⟨fun _ => ?_, ?_⟩; (focus (fail)); go_big_quiet_on)))
        refine wpQuiet_nil ?_
        intro osq dq
        go_wp2
        refine wp_region_more_lit (by kernel_rfl) (by kernel_rfl) ?_
        repeat (first | go_big_quiet_skip | (go_big_quiet_want; go_big_quiet_op; first | go_big_quiet_on | (apply Exists.intro; refine ⟨fun _ => ?_, ?_⟩; (focus (fail)); go_big_quiet_on)))
        refine wpQuiet_nil ?_
        intro osq dq
        go_wp2
        go_roundg (max one.length two.length - (k + 1))
        case measure => omega
        case rel => exact ⟨k + 1, by omega, by omega, by go_num, RowKit.Below.more (by repeat (first | exact Below.refl _ _ | apply Below.drew | apply Below.more1 | apply Below.alloc1))⟩
      · have a1 : decide ((k : Int) < (one.length : Int)) = false := by simp; omega
        have a2 : decide (k < one.length) = false := by simp; omega
        have b1 : decide ((k : Int) < (two.length : Int)) = false := by simp; omega
        have b2 : decide (k < two.length) = false := by simp; omega
        go_wp2
        refine wp_region_more_lit (by kernel_rfl) (by kernel_rfl) ?_
        repeat (first | go_big_quiet_skip | (go_big_quiet_want; go_big_quiet_op; first | go_big_quiet_on | (apply Exists.intro; refine ⟨fun _ => ?_, ?_⟩; (focus (fail)); go_big_quiet_on)))
        refine wpQuiet_nil ?_
        intro osq dq
        go_wp2
        go_ret
        exact ⟨rfl, (by repeat (first | exact Below.refl _ _ | apply Below.drew | apply Below.more1 | apply Below.alloc1))⟩
end Go.Proofs.Ytpmadfokpimjcaa
