/-
reclaimref17.Op; ScriptWords returns true.
-/
import Derived.Test.YtbkhfkihhebphaaScrB
namespace Go.Proofs.Ytbkhfkihhebphaa
open Go.ChangeShapes Go.WideShapes Go.ChangeAt Go.RowKit

def opHit (s : ByteArray) (j : Int) : Prop := entW (opFind j) ≠ ⟨#[]⟩ ∧ entW (opFind j) = s
def refOpV (s : ByteArray) : Int := if wFind s < 21 then entOp (wFind s) else -1

theorem toList_ne {a : ByteArray} (h : a ≠ ⟨#[]⟩) : ¬ a.toList = [] ∧ (!a.toList.isEmpty) = true := by
  have hb := bytes_beq a ⟨#[]⟩
  rw [decide_eq_false h, show (⟨#[]⟩ : ByteArray).toList = [] by rw [ByteArray.toList, ByteArray.toList.loop]; rfl] at hb
  cases hl : a.toList with
  | nil => rw [hl] at hb; exact absurd hb (by decide)
  | cons x l => simp

theorem entOp_find {x : Int} (h : opFind x < 21) : entOp (opFind x) = x := by
  have hlen : entOps.length = 21 := rfl
  have := List.findIdx_getElem (xs := entOps) (p := fun y => decide (y = x)) (w := by rw [hlen]; exact h)
  simp only [decide_eq_true_eq] at this
  unfold entOp
  rw [List.getD_eq_getElem?_getD, List.getElem?_eq_getElem (show opFind x < entOps.length by rw [hlen]; exact h)]
  exact this
theorem entW_find {s : ByteArray} (h : wFind s < 21) : entW (wFind s) = s := by
  have hlen : entWs.length = 21 := rfl
  have := List.findIdx_getElem (xs := entWs) (p := fun y => decide (y = s)) (w := by rw [hlen]; exact h)
  simp only [decide_eq_true_eq] at this
  unfold entW
  rw [List.getD_eq_getElem?_getD, List.getElem?_eq_getElem (show wFind s < entWs.length by rw [hlen]; exact h)]
  exact this
theorem opFind_le (x : Int) : opFind x ≤ 21 := List.findIdx_le_length
theorem wFind_le (s : ByteArray) : wFind s ≤ 21 := List.findIdx_le_length
theorem ent_inj : ∀ i, i < 21 → ∀ j, j < 21 → entW i = entW j → i = j := by decide
theorem ent_good : ∀ r, r < 21 → 1 ≤ entOp r ∧ entOp r ≤ 62 ∧ opFind (entOp r) = r ∧ entW r ≠ ⟨#[]⟩ := by decide

theorem hit_is {s : ByteArray} {x : Int} (h : opHit s x) : refOpV s = x := by
  obtain ⟨h1, h2⟩ := h
  have hr : opFind x < 21 := by
    rcases Nat.lt_or_ge (opFind x) 21 with h | h
    · exact h
    · have : opFind x = 21 := by have := opFind_le x; omega
      rw [this] at h1
      exact absurd rfl h1
  have hw : wFind s = opFind x := wFind_eq (by omega) (fun j hj he => by
    have := ent_inj j (by omega) (opFind x) hr (by rw [he, h2])
    omega) (fun _ => h2)
  unfold refOpV
  rw [hw, if_pos hr, entOp_find hr]
theorem hit_none {s : ByteArray} (h : ∀ j : Nat, 1 ≤ j → j < 63 → ¬ opHit s j) : refOpV s = -1 := by
  unfold refOpV
  by_cases hr : wFind s < 21
  · obtain ⟨g1, g2, g3, g4⟩ := ent_good _ hr
    have e : ((entOp (wFind s)).toNat : Int) = entOp (wFind s) := by omega
    exact absurd ⟨by rw [e, g3]; exact g4, by rw [e, g3]; exact entW_find hr⟩ (h (entOp (wFind s)).toNat (by omega) (by omega))
  · rw [if_neg hr]

theorem rOp_any (s : ByteArray) (w : World) : Calls Try.prog 6 #[.string s] w fun e w' => e = .returned (.int .i64 (refOpV s)) ∧ w = w' := by
  go_enter Try.func6, Try.ntmps6
  go_wp2
  go_loopg [3] 62 (fun g sl wr => ∃ k : Nat, 1 ≤ k ∧ k ≤ 63 ∧ 63 ≤ k + g ∧ sl = .int .i64 (k : Int) ∧ Hid (∀ j : Nat, 1 ≤ j → j < k → ¬ opHit s j) ∧ wr = w)
  case atStart => exact ⟨1, by omega, by omega, by omega, rfl, Lib.hid (fun j h1 hj => by omega), rfl⟩
  case round =>
    obtain ⟨k, hk1, hk, hg, rfl, hno, rfl⟩ := hrel
    by_cases hlk : k < 63
    · by_cases hv : entW (opFind k) = ⟨#[]⟩
      · go_wp2_with (go_at_call 8; refine (rWord_any _ _).mono ?_; rintro e w1 ⟨rfl, rfl⟩)
        go_roundg (63 - (k + 1))
        case measure => omega
        case rel => exact ⟨k + 1, by omega, by omega, by omega, by go_num, Lib.hid (fun j h1 hj => by rcases Nat.lt_succ_iff_lt_or_eq.1 hj with h | rfl; exact hno.out j h1 h; exact fun h => h.1 hv), rfl⟩
      · obtain ⟨n1, n2⟩ := toList_ne hv
        by_cases hs : entW (opFind k) = s
        · have E := Lib.hid (hit_is (s := s) (x := k) ⟨hv, hs⟩)
          rw [hs] at n1 n2
          go_wp2_with (go_at_call 8; refine (rWord_any _ _).mono ?_; rintro e w1 ⟨rfl, rfl⟩)
          go_ret
          exact ⟨ret_int E.out.symm, rfl⟩
        · have n3 : ((entW (opFind k)).toList == s.toList) = false := by rw [bytes_beq]; simpa using hs
          have HS := Lib.hid hs
          clear hs hv
          go_wp2_with (go_at_call 8; refine (rWord_any _ _).mono ?_; rintro e w1 ⟨rfl, rfl⟩)
          go_roundg (63 - (k + 1))
          case measure => omega
          case rel => exact ⟨k + 1, by omega, by omega, by omega, by go_num, Lib.hid (fun j h1 hj => by rcases Nat.lt_succ_iff_lt_or_eq.1 hj with h | rfl; exact hno.out j h1 h; exact fun h => HS.out h.2), rfl⟩
    · obtain rfl : k = 63 := by omega
      have E := Lib.hid (hit_none hno.out)
      go_wp2
      go_ret
      exact ⟨ret_int E.out.symm, rfl⟩

theorem push_find : wFind ⟨#[112, 117, 115, 104]⟩ = 11 := by decide
theorem pop_find : opFind 31 = 12 := by decide

set_option maxHeartbeats 1000000 in
theorem scriptWords_walk (x : Int) (s : ByteArray) (w : World) : Calls Try.prog 3 #[.int .i64 x, .string s] w fun e w' => e = .returned (.bool true) ∧ Below w.heap.size w w' := by
  have hp : ∀ w, Calls Try.prog 5 #[.string ⟨#[112, 117, 115, 104]⟩] w fun e w' => e = .returned (.tuple #[.int .i64 30, .bool true]) ∧ Below w.heap.size w w' := fun w => by
    have := sOp_any ⟨#[112, 117, 115, 104]⟩ w
    rw [push_find] at this
    exact this
  have hq : ∀ w, Calls Try.prog 7 #[.int .i64 31] w fun e w' => e = .returned (.string ⟨#[112, 111, 112]⟩) ∧ Below w.heap.size w w' := fun w => by
    have := sWord_any 31 w
    rw [pop_find] at this
    exact this
  have HP := Lib.hid hp
  have HQ := Lib.hid hq
  clear hp hq
  have hgo : ∀ (y : Int) (b : Bool) (z : Int), (b = true ∧ z = y ∧ 1 ≤ y) ∨ (b = false ∧ y = 0 ∧ z = -1) → Hid (∀ w, Calls Try.prog 5 #[.string s] w fun e w' => e = .returned (.tuple #[.int .i64 y, .bool b]) ∧ Below w.heap.size w w') →
      Hid (∀ w, Calls Try.prog 6 #[.string s] w fun e w' => e = .returned (.int .i64 z) ∧ w = w') →
      Calls Try.prog 3 #[.int .i64 x, .string s] w fun e w' => e = .returned (.bool true) ∧ Below w.heap.size w w' := by
    intro y b z hc h1 h2
    rcases hc with ⟨rfl, rfl, hy⟩ | ⟨rfl, rfl, rfl⟩
    all_goals
      go_enter Try.func3, Try.ntmps3
      go_wp2_with fail
      refine (h1.out _).mono ?_; rintro e w1 ⟨rfl, hb1⟩; obtain ⟨os, d, rfl⟩ := hb1.more; clear hb1
      go_wp2_with fail
      refine (h2.out _).mono ?_; rintro e w1 ⟨rfl, rfl⟩
      go_wp2_with fail
      refine (HP.out _).mono ?_; rintro e w1 ⟨rfl, hb1⟩; obtain ⟨os, d, rfl⟩ := hb1.more; clear hb1
      go_wp2_with fail
      refine (sWord_any _ _).mono ?_; rintro e w1 ⟨rfl, hb1⟩; obtain ⟨os, d, rfl⟩ := hb1.more; clear hb1
      go_wp2_with fail
      refine (rWord_any _ _).mono ?_; rintro e w1 ⟨rfl, rfl⟩
      go_wp2_with fail
      refine (HQ.out _).mono ?_; rintro e w1 ⟨rfl, hb1⟩; obtain ⟨os, d, rfl⟩ := hb1.more; clear hb1
      go_wp2_with fail
      go_ret
      exact ⟨rfl, (by repeat (first | exact Below.refl _ _ | apply Below.drew | apply Below.more1 | apply Below.alloc1))⟩
  have hr : refOpV s = if wFind s < 21 then entOp (wFind s) else -1 := rfl
  have hl := wFind_le s
  by_cases hlt : wFind s < 21
  · obtain ⟨g1, g2, g3, g4⟩ := ent_good _ hlt
    rw [if_pos hlt] at hr
    refine hgo (entOp (wFind s)) true (entOp (wFind s)) (.inl ⟨rfl, rfl, g1⟩) (Lib.hid fun w => ?_) (Lib.hid fun w => ?_)
    · have := sOp_any s w
      rw [decide_eq_true hlt] at this
      exact this
    · have := rOp_any s w
      rw [hr] at this
      exact this
  · rw [if_neg hlt] at hr
    refine hgo 0 false (-1) (.inr ⟨rfl, rfl, rfl⟩) (Lib.hid fun w => ?_) (Lib.hid fun w => ?_)
    · have := sOp_any s w
      rw [decide_eq_false hlt, show wFind s = 21 by omega] at this
      exact this
    · have := rOp_any s w
      rw [hr] at this
      exact this
end Go.Proofs.Ytbkhfkihhebphaa
