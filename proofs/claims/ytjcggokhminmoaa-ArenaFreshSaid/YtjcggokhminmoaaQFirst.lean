/-
word.First: the memory at the beginning.
-/
import Derived.Test.YtjcggokhminmoaaQAddr
import Derived.Test.YtjcggokhminmoaaQMore
import Derived.Deep.LoopGhost
import Derived.Outline
namespace Go.Proofs.Ytjcggokhminmoaa
open Go.ChangeShapes Go.WideShapes Go.ChangeAt Go.RowKit

/-- word x of the memory at the beginning: b: where the spare words begin; u: how many slots are used; s: how many slots there are -/
def firstW (b u s x : Nat) : Int :=
  if x = 0 then (if u < s then (u : Int) + 1 else 0)
  else if x = 3 ∨ x = 4 then (if 0 < u then 1 else 0)
  else if b + u ≤ x ∧ x + 1 < b + s then (x : Int) - b + 2 else 0

/-- the words when the free list is written up to slot k -/
def loopW (b u s k x : Nat) : Int :=
  if x = 0 then (if u < s then (u : Int) + 1 else 0)
  else if b + u ≤ x ∧ x < b + k then (x : Int) - b + 2 else 0

theorem intCells_congr {k : IntKind} {n : Nat} {f g : Nat → Int} (h : ∀ j, j < n → f j = g j) : intCells k n f = intCells k n g := by
  apply Array.ext_getElem?
  intro i
  rw [getElem?_intCells, getElem?_intCells]
  split
  · rw [h i ‹_›]
  · rfl

theorem loop_zero0 (b u s _n : Nat) (_hb : 5 ≤ b) (h : u < s) : updF (fun _ => 0) 0 ((u : Int) + 1) = loopW b u s u := by
  funext x
  unfold updF loopW
  by_cases h0 : x = 0
  · simp [h0, h]
  · simp [h0]; omega

theorem loop_zero1 (b u s _n : Nat) (_hb : 5 ≤ b) (h : ¬ u < s) : (fun _ => 0) = loopW b u s u := by
  funext x
  unfold loopW
  by_cases h0 : x = 0
  · simp [h0, h]
  · simp [h0]; omega

theorem loop_next (b u s k : Nat) (hb : 5 ≤ b) (hk : u ≤ k) : updF (loopW b u s k) (b + k) ((k : Int) + 2) = loopW b u s (k + 1) := by
  funext x
  unfold updF loopW
  by_cases h0 : x = 0
  · subst h0
    rw [if_neg (by omega)]
    simp
  · by_cases h1 : x = b + k
    · subst h1
      rw [if_pos rfl, if_neg h0, if_pos (by omega)]
      omega
    · rw [if_neg h1, if_neg h0, if_neg h0]
      by_cases h2 : b + u ≤ x ∧ x < b + k
      · rw [if_pos h2, if_pos (by omega)]
      · rw [if_neg h2, if_neg (by omega)]

theorem loop_end (b u s k n : Nat) (hb : 5 ≤ b) (_hk : u ≤ k) (hk2 : k + 1 ≤ s ∨ k = u) (hk3 : s ≤ k + 1) (hu : ¬ 0 < u) (x : Nat) (_hx : x < n) : loopW b u s k x = firstW b u s x := by
  unfold loopW firstW
  by_cases h0 : x = 0
  · simp [h0]
  · rw [if_neg h0, if_neg h0]
    by_cases h2 : b + u ≤ x ∧ x < b + k
    · rw [if_pos h2, if_neg (by omega), if_pos (by omega)]
    · rw [if_neg h2, if_neg hu, if_neg (show ¬ (b + u ≤ x ∧ x + 1 < b + s) by omega)]
      simp

theorem loop_end1 (b u s k n : Nat) (hb : 5 ≤ b) (_hk : u ≤ k) (hk2 : k + 1 ≤ s ∨ k = u) (hk3 : s ≤ k + 1) (hu : 0 < u) (x : Nat) (_hx : x < n) : updF (updF (loopW b u s k) 3 1) 4 1 x = firstW b u s x := by
  unfold updF loopW firstW
  by_cases h4 : x = 4
  · simp [h4, hu]
  by_cases h3 : x = 3
  · simp [h3, hu]
  rw [if_neg h4, if_neg h3]
  by_cases h0 : x = 0
  · simp [h0]
  · rw [if_neg h0, if_neg h0]
    by_cases h2 : b + u ≤ x ∧ x < b + k
    · rw [if_pos h2, if_neg (by omega), if_pos (by omega)]
    · rw [if_neg h2, if_neg (show ¬ (x = 3 ∨ x = 4) by omega), if_neg (show ¬ (b + u ≤ x ∧ x + 1 < b + s) by omega)]

theorem infoU64F : (Try.prog.info? 52).map (fun i => (i.zero, i.size, i.bytes)) = some (some (.int .u64 0), 1, 8) := by kernel_rfl

theorem first_cfg (a0 a1 a2 a3 a4 a5 a6 u : Int) (hok : okCfg a0 a1 a2 a3 a4 a5 a6 = false) (w : World) : Calls Try.prog 38 #[.agg #[.int .i64 a0, .int .i64 a1, .int .i64 a2, .int .i64 a3, .int .i64 a4, .int .i64 a5, .int .i64 a6], .int .i64 u] w fun e w' =>
    e = .returned (.tuple #[.slice none 0 0, .int .i64 1]) ∧ Below w.heap.size w w' := by
  go_enter Try.func38, Try.ntmps38
  go_wp2_with (go_at_call 58; refine (size_no _ _ _ _ _ _ _ hok _).mono ?_; rintro e w1 ⟨rfl, hb1⟩; obtain ⟨os, d, rfl⟩ := hb1.more; clear hb1)
  go_ret2
  exact ⟨rfl, (by repeat (first | exact Below.refl _ _ | apply Below.drew | apply Below.more1 | apply Below.alloc1))⟩

theorem first_bad (a0 a1 a2 a3 a4 a5 a6 u : Int) (hok : okCfg a0 a1 a2 a3 a4 a5 a6 = true) (hu : u < 0 ∨ a5 < u) (w : World) : Calls Try.prog 38 #[.agg #[.int .i64 a0, .int .i64 a1, .int .i64 a2, .int .i64 a3, .int .i64 a4, .int .i64 a5, .int .i64 a6], .int .i64 u] w fun e w' =>
    e = .returned (.tuple #[.slice none 0 0, .int .i64 2]) ∧ Below w.heap.size w w' := by
  obtain ⟨b0, b1, b2, b3, b4, b5, b6, bm⟩ := ok_bounds hok
  rcases hu with hu | hu
  all_goals
    go_enter Try.func38, Try.ntmps38
    go_wp2_with (go_at_call 58; refine (size_ok _ _ _ _ _ _ _ hok _).mono ?_; rintro e w1 ⟨rfl, hb1⟩; obtain ⟨os, d, rfl⟩ := hb1.more; clear hb1)
    go_ret2
    exact ⟨rfl, (by repeat (first | exact Below.refl _ _ | apply Below.drew | apply Below.more1 | apply Below.alloc1))⟩

def RowPost (n : Nat) (f : Nat → Int) (w : World) (e : Ending) (w' : World) : Prop :=
  ∃ os d os' d', e = .returned (.tuple #[.slice (some ⟨w.heap.size + os.size, 0, none⟩) n n, .int .i64 0]) ∧ w' = ((w.more os d).alloc (.cells (intCells .u64 n f) 52)).more os' d'

theorem alloc_more (w : World) (o : Obj) (os : Array Obj) (d : Nat) : (w.alloc o).more os d = w.more (#[o] ++ os) d := by
  simp only [World.alloc, World.more]
  congr 1
  apply Array.ext'
  simp

theorem rowPost_of {n : Nat} {f g : Nat → Int} {w : World} {o : Obj} {os os' : Array Obj} {d d' : Nat} {e : Ending} {w' : World}
    (he : e = .returned (.tuple #[.slice (some ⟨w.heap.size + 1 + os.size, 0, none⟩) n n, .int .i64 0])) (hw : w' = (((w.alloc o).more os d).alloc (.cells (intCells .u64 n g) 52)).more os' d') (hg : ∀ j, j < n → g j = f j) : RowPost n f w e w' := by
  refine ⟨#[o] ++ os, d, os', d', ?_, ?_⟩
  · rw [he]
    simp [Array.size_append, Nat.add_assoc]
  · rw [hw, intCells_congr hg, alloc_more w o os d]

set_option maxRecDepth 100000 in
set_option maxHeartbeats 1000000 in
theorem first_ok (a0 a1 a2 a3 a4 a5 a6 : Int) (u b n s : Nat) (hok : okCfg a0 a1 a2 a3 a4 a5 a6 = true) (hs : Hid (a5 = (s : Int))) (hu : u ≤ s) (hn : Hid (baseF a1 a2 a5 a6 13 = (n : Int))) (hb : Hid (addrAt a1 a2 a5 a6 10 0 0 = (b : Int))) (hb5 : 5 ≤ b) (hbn : b + s ≤ n) (hn2 : n ≤ 13312) (w : World) :
    Calls Try.prog 38 #[.agg #[.int .i64 a0, .int .i64 a1, .int .i64 a2, .int .i64 a3, .int .i64 a4, .int .i64 a5, .int .i64 a6], .int .i64 (u : Int)] w (RowPost n (firstW b u s) w) := by
  obtain ⟨b0, b1, b2, b3, b4, b5, b6, bm⟩ := ok_bounds hok
  have hao : addrOk a1 a2 a5 a6 10 0 0 = true := by
    simp [addrOk, manyI]; omega
  obtain rfl : a5 = (s : Int) := hs.out
  have hsz : ∀ w, Calls Try.prog 58 #[.agg #[.int .i64 a0, .int .i64 a1, .int .i64 a2, .int .i64 a3, .int .i64 a4, .int .i64 s, .int .i64 a6]] w fun e w' => e = .returned (.tuple #[.int .i64 (n : Int), .int .i64 0]) ∧ Below w.heap.size w w' := by
    intro w
    have := size_ok _ _ _ _ _ _ _ hok w
    rw [hn.out] at this
    exact this
  have had : ∀ w, Calls Try.prog 59 #[.agg #[.int .i64 a0, .int .i64 a1, .int .i64 a2, .int .i64 a3, .int .i64 a4, .int .i64 s, .int .i64 a6], .agg #[.int .i64 10, .int .i64 0, .int .i64 0]] w fun e w' => e = .returned (.tuple #[.int .i64 (b : Int), .int .i64 0]) ∧ Below w.heap.size w w' := by
    intro w
    have := addr_ok _ _ _ _ _ _ _ _ _ _ hok hao w
    rw [hb.out] at this
    exact this
  have hmk := fun w => run_make_row' (P := Try.prog) 40 52 (.int .u64 0) 8 Try.underlying40 infoU64F rfl .i64 .i64 n (by omega) (by omega) w
  rw [made_intCells] at hmk
  have HSZ := Lib.hid hsz
  have HAD := Lib.hid had
  have Hao := Lib.hid hao
  have Hok := Lib.hid hok
  clear hsz had hao hok
  have hd : decide ((u : Int) < 0) = false := by simp
  have hcase : (u < s ∧ 0 < u) ∨ (u < s ∧ ¬ 0 < u) ∨ (¬ u < s ∧ 0 < u) := by omega
  rcases hcase with ⟨hlt, h0⟩ | ⟨hlt, h0⟩ | ⟨hlt, h0⟩
  all_goals
    go_enter Try.func38, Try.ntmps38
    go_wp2_with (first
      | (go_at_call 58; refine (HSZ.out _).mono ?_; rintro e w1 ⟨rfl, hb1⟩; obtain ⟨osA, dA, rfl⟩ := hb1.more; clear hb1)
      | (go_at_call 59; refine (HAD.out _).mono ?_; rintro e w1 ⟨rfl, hb1⟩; obtain ⟨os, d, rfl⟩ := hb1.more; clear hb1))
    go_loopg [11] (s - u) (fun g sl wr => ∃ k : Nat, u ≤ k ∧ (k + 1 ≤ s ∨ k = u) ∧ s ≤ k + g ∧ sl = .int .i64 (k : Int) ∧ ∃ os' d', wr = (((w.alloc (.cells #[.int .i64 a0, .int .i64 a1, .int .i64 a2, .int .i64 a3, .int .i64 a4, .int .i64 s, .int .i64 a6] 23)).more osA dA).alloc (.cells (intCells .u64 n (loopW b u s k)) 52)).more os' d')
    case atStart => exact ⟨u, by omega, by omega, by omega, rfl, os, d, by first | rw [loop_zero0 b u s n hb5 hlt] | rw [loop_zero1 b u s n hb5 hlt]⟩
    case round =>
      obtain ⟨k, hk, hk2, hg, rfl, os1, d1, rfl⟩ := hrel
      by_cases hlk : k + 1 < s
      · first
        | (exfalso; omega)
        | (go_wp2
           go_roundg (gk - 1)
           case measure => omega
           case rel => 
             refine ⟨k + 1, by omega, by omega, by omega, by go_num, os1, d1, ?_⟩
             rw [← loop_next b u s k hb5 hk])
      · go_wp2
        go_ret2
        first
        | exact rowPost_of rfl rfl (loop_end b u s k n hb5 hk hk2 (by omega) h0)
        | exact rowPost_of rfl rfl (loop_end1 b u s k n hb5 hk hk2 (by omega) h0)

end Go.Proofs.Ytjcggokhminmoaa
