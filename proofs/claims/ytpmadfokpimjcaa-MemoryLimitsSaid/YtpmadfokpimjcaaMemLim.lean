/-
MemoryLimits returns true.
-/
import Derived.Test.YtpmadfokpimjcaaMemC
import Derived.Deep.LoopGhost
import Derived.Deep.OwnRows
namespace Go.Proofs.Ytpmadfokpimjcaa
open Go.ChangeShapes Go.WideShapes Go.ChangeAt Go.RowKit

theorem num_any (x : Int) (w : World) : Calls Try.prog 14 #[.int .i64 x] w fun e w' => e = .returned (.int .i64 x) ∧ w = w' := by
  go_enter Try.func14, Try.ntmps14
  go_wp2
  go_ret
  exact ⟨rfl, rfl⟩

theorem Src_block {w : World} {b n k : Nat} {cs : Array Value} {t : TypeId} (hb : w.heap[b]? = some (.cells cs t (0, 0))) (hn : cs.size = n * k) : w.Src k (.slice (some ⟨b, 0, none⟩) n n) n cs.toList := by
  refine ⟨by simpa using hn, .inr ⟨_, n, rfl, Nat.le_refl _, fun j u hu => ?_⟩⟩
  rw [add_none, cell_of_row _ _ _ _ _ (0, 0) hb]
  simpa using hu

def rowI (n : Nat) (f : Nat → Int) : List Int := (List.range n).map f
theorem rowI_len (n : Nat) (f : Nat → Int) : (rowI n f).length = n := by simp [rowI]
theorem rowI_cells (n : Nat) (f : Nat → Int) : u64s (rowI n f) = (intCells .u64 n f).toList := by
  simp [u64s, rowI, intCells]
theorem rowI_at (n : Nat) (f : Nat → Int) (a : Nat) (h : a < n) : (rowI n f).getD a 0 = f a := by simp [rowI, h]

set_option maxRecDepth 100000 in
set_option maxHeartbeats 2000000 in
theorem limits_m (x : Int) (m : Nat) (hm : m ≤ 3) (hx : (0 ≤ x ∧ Hid (x % 4 = (m : Int))) ∨ (x < 0 ∧ Hid (x.tmod 4 = -(m : Int)))) (w : World) : Calls Try.prog 3 #[.int .i64 x] w fun e w' => e = .returned (.bool true) ∧ Below w.heap.size w w' := by
  have hcase : (0 ≤ x ∧ Hid (x % 4 = (m : Int))) ∨ (x < 0 ∧ 0 < m ∧ Hid (x.tmod 4 = -(m : Int))) ∨ (x < 0 ∧ ¬ 0 < m ∧ Hid (x.tmod 4 = -(m : Int))) := by
    rcases hx with h | ⟨h1, h2⟩
    · exact .inl h
    · by_cases h0 : 0 < m
      · exact .inr (.inl ⟨h1, h0, h2⟩)
      · exact .inr (.inr ⟨h1, h0, h2⟩)
  clear hx
  rcases hcase with ⟨h0, hq⟩ | ⟨h0, hm0, hq⟩ | ⟨h0, hm0, hq⟩
  all_goals
    have hq' := hq.out
    go_enter Try.func3, Try.ntmps3
    go_wp2
    clear hq'
    try simp only [hq.out]
    go_loopg [3] 5 (fun g sl wr => ∃ j : Nat, 8189 ≤ j ∧ j ≤ 8191 + m ∧ 8191 + m ≤ j + g ∧ sl = .int .i64 ((j : Int) + 1) ∧ ∃ os d, wr = w.more os d)
    case atStart => exact ⟨8189, by omega, by omega, by omega, rfl, #[], w.drawn, by simp [World.more]⟩
    case round =>
      obtain ⟨j, hj1, hj2, hg, rfl, os, d, rfl⟩ := hrel
      by_cases hlt : j < 8191 + m
      · have hmk := fun w => run_make_row' (P := Try.prog) 22 23 (.int .u64 0) 8 Try.underlying22 infoU64 rfl .i64 .i64 (j + 1) (by omega) (by omega) w
        rw [made_intCells] at hmk
        push_cast at hmk
        by_cases hbig : 8192 < j + 1
        · first
          | (exfalso; omega)
          | (go_wp2_with (first
               | (go_at_call 13; refine (new_long _ _ _ hbig (by omega)).mono ?_; rintro e w1 ⟨rfl, rfl⟩)
               | (go_at_call 14; refine (num_any _ _).mono ?_; rintro e w1 ⟨rfl, rfl⟩))
             go_roundg (8191 + m - (j + 1))
             case measure => omega
             case rel => exact ⟨j + 1, by omega, by omega, by omega, by go_num, RowKit.Below.more (by repeat (first | exact Below.refl _ _ | apply Below.drew | apply Below.more1 | apply Below.alloc1))⟩)
        · go_wp2_with fail
          have hnew := new_ok (w := (w.more os d).alloc (.cells (intCells .u64 (j + 1) (updF (fun _ => 0) j ((j : Int) + 1))) 23)) (vx := .slice (some ⟨w.heap.size + os.size, 0, none⟩) (j + 1) (j + 1)) (l := rowI (j + 1) (updF (fun _ => 0) j ((j : Int) + 1)))
            (by rw [rowI_len, rowI_cells]; exact Src_block (t := 23) (cs := intCells .u64 (j + 1) (updF (fun _ => 0) j ((j : Int) + 1))) (by have := heap_alloc_new (w.more os d) (.cells (intCells .u64 (j + 1) (updF (fun _ => 0) j ((j : Int) + 1))) 23); rw [World.size_more] at this; exact this) (by simp [intCells])) (by rw [rowI_len]; omega)
          refine hnew.mono ?_
          rintro e w1 ⟨mb, v, rfl, hM, hO⟩
          have hlen : (rowI (j + 1) (updF (fun _ => 0) j ((j : Int) + 1))).length = j + 1 := rowI_len _ _
          have hat : MemS.at ⟨rowI (j + 1) (updF (fun _ => 0) j ((j : Int) + 1)), [], [], 0⟩ j = (j : Int) + 1 := by
            unfold MemS.at; rw [rowI_at _ _ _ (by omega)]; simp [updF]
          have h1 := size_mem hM
          have h2 := load_ok hM (by simp) (by simp) 0 j (by show j < (rowI _ _).length; omega)
          rw [hat] at h2
          have H1 : Hid (Calls Try.prog 15 #[.pointer (some ⟨mb, 0, none⟩)] w1 fun e w' => e = .returned (.int .i64 ((j : Int) + 1)) ∧ w1 = w') := by
            have e : (((⟨rowI (j + 1) (updF (fun _ => 0) j ((j : Int) + 1)), [], [], 0⟩ : MemS).words.length : Nat) : Int) = (j : Int) + 1 := by rw [hlen]; push_cast; rfl
            rw [e] at h1
            exact h1
          have H2 := Lib.hid h2
          clear h1 h2 hat hnew
          go_wp2_with (first
            | (go_at_call 15; refine H1.out.mono ?_; rintro e w2 ⟨rfl, rfl⟩)
            | (go_at_call 14; refine (num_any _ _).mono ?_; rintro e w2 ⟨rfl, rfl⟩))
          refine H2.out.mono ?_
          rintro e w2 ⟨rfl, v2, hM2, hO2, hF2⟩
          have hlen2 : (MemS.load ⟨rowI (j + 1) (updF (fun _ => 0) j ((j : Int) + 1)), [], [], 0⟩ 0 j).words.length = j + 1 := hlen
          have H3 := Lib.hid (load_bad hM2 0 ((j : Int) + 1) (.inr (by rw [hlen2]; push_cast; omega)))
          have H4 : Hid (Calls Try.prog 17 #[.pointer (some ⟨mb, 0, none⟩)] w2 fun e w' => e = .returned (.int .i64 1) ∧ w2 = w') := count_mem hM2
          have hbl : Below w.heap.size w w2 := by
            have hge := hM.base_le
            have b1 : Below w.heap.size w ((w.more os d).alloc (.cells (intCells .u64 (j + 1) (updF (fun _ => 0) j ((j : Int) + 1))) 23)) := (by repeat (first | exact Below.refl _ _ | apply Below.drew | apply Below.more1 | apply Below.alloc1))
            have b2 := hO.below (B := w.heap.size) (fun _ h => h.elim) (by simp [go_sem]; omega)
            have b3 := hO2.below (B := w.heap.size) (fun k hk => by have := (hM.lt k hk).1; simp [go_sem] at this; omega) (by have := hO.size; simp [go_sem] at this; omega)
            exact (b1.trans b2).trans b3
          have HBL := Lib.hid hbl
          clear hbl hM2 hO2 hF2 hM hO hlen hlen2
          go_wp2_with (first
            | (go_at_call 16; refine H3.out.mono ?_; rintro e w2 ⟨rfl, rfl⟩)
            | (go_at_call 17; refine H4.out.mono ?_; rintro e w2 ⟨rfl, rfl⟩)
            | (go_at_call 14; refine (num_any _ _).mono ?_; rintro e w2 ⟨rfl, rfl⟩))
          go_roundg (8191 + m - (j + 1))
          case measure => omega
          case rel => exact ⟨j + 1, by omega, by omega, by omega, by go_num, RowKit.Below.more HBL.out⟩
      · obtain rfl : j = 8191 + m := by omega
        go_wp2
        go_ret
        exact ⟨rfl, (by repeat (first | exact Below.refl _ _ | apply Below.drew | apply Below.more1 | apply Below.alloc1))⟩

theorem memoryLimits_walk (x : Int) (w : World) : Calls Try.prog 3 #[.int .i64 x] w fun e w' => e = .returned (.bool true) ∧ Below w.heap.size w w' := by
  rcases Int.lt_or_le x 0 with h | h
  · have h1 : -3 ≤ x.tmod 4 ∧ x.tmod 4 ≤ 0 := by
      obtain ⟨y, rfl⟩ : ∃ y : Int, x = -y := ⟨-x, by omega⟩
      rw [Int.neg_tmod, Int.tmod_eq_emod_of_nonneg (by omega)]
      omega
    exact limits_m x (x.tmod 4).natAbs (by omega) (.inr ⟨h, Lib.hid (by omega)⟩) w
  · exact limits_m x (x % 4).natAbs (by omega) (.inl ⟨h, Lib.hid (by omega)⟩) w
end Go.Proofs.Ytpmadfokpimjcaa
