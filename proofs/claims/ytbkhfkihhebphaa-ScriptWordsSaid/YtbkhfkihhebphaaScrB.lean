/-
script.byOp, byWord, Word, Op; the reference's Word and Op.
-/
import Derived.Test.YtbkhfkihhebphaaScr
import Derived.Deep.LoopGhost
import Derived.Laws.StructEq
namespace Go.Proofs.Ytbkhfkihhebphaa
open Go.ChangeShapes Go.WideShapes Go.ChangeAt Go.RowKit

theorem bytes_beq (a b : ByteArray) : (a.toList == b.toList) = decide (a = b) := by
  rw [← beq_toListBytes]
  obtain ⟨x⟩ := a
  obtain ⟨y⟩ := b
  show (x == y) = _
  rw [Bool.eq_iff_iff]
  simp
theorem ent_end : entOp 21 = 0 ∧ entW 21 = ⟨#[]⟩ ∧ entM 21 = 0 := ⟨rfl, rfl, rfl⟩

theorem byOp_any (x : Int) (w : World) : Calls Try.prog 16 #[.int .i64 x] w fun e w' => e = .returned (.tuple #[.agg #[.int .i64 (entOp (opFind x)), .string (entW (opFind x)), .int .i64 (entM (opFind x))], .bool (decide (opFind x < 21))]) ∧ Below w.heap.size w w' := by
  go_enter Try.func16, Try.ntmps16
  go_wp2_with (go_at_call 27; refine (entries_any _).mono ?_; rintro e w1 ⟨rfl, hb1⟩; obtain ⟨os, d, rfl⟩ := hb1.more; clear hb1)
  go_loopg [7] 21 (fun g sl wr => ∃ k : Nat, k ≤ 21 ∧ 21 ≤ k + g ∧ sl = .int .i64 (k : Int) ∧ Hid (∀ j, j < k → entOp j ≠ x) ∧ ∃ os d, wr = (w.alloc (.cells #[.int .i64 0, .string ⟨#[]⟩, .int .i64 0] 43)).more os d)
  case atStart => exact ⟨0, by omega, by omega, rfl, Lib.hid (fun j hj => by omega), os, d, rfl⟩
  case round =>
    obtain ⟨k, hk, hg, rfl, hno, os1, d1, rfl⟩ := hrel
    by_cases hlk : k < 21
    · have hrow : ∀ w, (Instr.index 80 entTab (.int .i64 (k : Int))).run Try.prog w = .ok (.agg #[.int .i64 (entOp k), .string (entW k), .int .i64 (entM k)]) w := fun w => entAt k hlk w
      by_cases he : entOp k = x
      · have E := Lib.hid (opFind_eq (r := k) hk hno.out (fun _ => he))
        have hb : (entOp k == x) = true := by simpa using he
        clear he
        go_wp2
        exact bodyPost_ret (v := .tuple #[.agg #[.int .i64 (entOp k), .string (entW k), .int .i64 (entM k)], .bool true]) (by simp [results, Try.results16, go_sem]) rfl ⟨by rw [E.out]; simp [hlk], (by repeat (first | exact Below.refl _ _ | apply Below.drew | apply Below.more1 | apply Below.alloc1))⟩
      · have hb : (entOp k == x) = false := by simpa using he
        have HE := Lib.hid he
        clear he
        go_wp2
        go_roundg (21 - (k + 1))
        case measure => omega
        case rel => exact ⟨k + 1, by omega, by omega, by go_num, Lib.hid (fun j hj => by rcases Nat.lt_succ_iff_lt_or_eq.1 hj with h | rfl; exact hno.out j h; exact HE.out), RowKit.Below.more (by repeat (first | exact Below.refl _ _ | apply Below.drew | apply Below.more1 | apply Below.alloc1))⟩
    · obtain rfl : k = 21 := by omega
      have E := Lib.hid (opFind_eq (r := 21) hk hno.out (fun h => by omega))
      go_wp2
      exact bodyPost_ret (v := .tuple #[.agg #[.int .i64 0, .string ⟨#[]⟩, .int .i64 0], .bool false]) (by simp [results, Try.results16, go_sem]) rfl ⟨by rw [E.out]; rfl, (by repeat (first | exact Below.refl _ _ | apply Below.drew | apply Below.more1 | apply Below.alloc1))⟩

theorem byWord_any (s : ByteArray) (w : World) : Calls Try.prog 15 #[.string s] w fun e w' => e = .returned (.tuple #[.agg #[.int .i64 (entOp (wFind s)), .string (entW (wFind s)), .int .i64 (entM (wFind s))], .bool (decide (wFind s < 21))]) ∧ Below w.heap.size w w' := by
  go_enter Try.func15, Try.ntmps15
  go_wp2_with (go_at_call 27; refine (entries_any _).mono ?_; rintro e w1 ⟨rfl, hb1⟩; obtain ⟨os, d, rfl⟩ := hb1.more; clear hb1)
  go_loopg [7] 21 (fun g sl wr => ∃ k : Nat, k ≤ 21 ∧ 21 ≤ k + g ∧ sl = .int .i64 (k : Int) ∧ Hid (∀ j, j < k → entW j ≠ s) ∧ ∃ os d, wr = (w.alloc (.cells #[.int .i64 0, .string ⟨#[]⟩, .int .i64 0] 43)).more os d)
  case atStart => exact ⟨0, by omega, by omega, rfl, Lib.hid (fun j hj => by omega), os, d, rfl⟩
  case round =>
    obtain ⟨k, hk, hg, rfl, hno, os1, d1, rfl⟩ := hrel
    by_cases hlk : k < 21
    · have hrow : ∀ w, (Instr.index 80 entTab (.int .i64 (k : Int))).run Try.prog w = .ok (.agg #[.int .i64 (entOp k), .string (entW k), .int .i64 (entM k)]) w := fun w => entAt k hlk w
      by_cases he : entW k = s
      · have E := Lib.hid (wFind_eq (r := k) hk hno.out (fun _ => he))
        have hb : ((entW k).toList == s.toList) = true := by rw [bytes_beq]; simpa using he
        clear he
        go_wp2
        exact bodyPost_ret (v := .tuple #[.agg #[.int .i64 (entOp k), .string (entW k), .int .i64 (entM k)], .bool true]) (by simp [results, Try.results15, go_sem]) rfl ⟨by rw [E.out]; simp [hlk], (by repeat (first | exact Below.refl _ _ | apply Below.drew | apply Below.more1 | apply Below.alloc1))⟩
      · have hb : ((entW k).toList == s.toList) = false := by rw [bytes_beq]; simpa using he
        have HE := Lib.hid he
        clear he
        go_wp2
        go_roundg (21 - (k + 1))
        case measure => omega
        case rel => exact ⟨k + 1, by omega, by omega, by go_num, Lib.hid (fun j hj => by rcases Nat.lt_succ_iff_lt_or_eq.1 hj with h | rfl; exact hno.out j h; exact HE.out), RowKit.Below.more (by repeat (first | exact Below.refl _ _ | apply Below.drew | apply Below.more1 | apply Below.alloc1))⟩
    · obtain rfl : k = 21 := by omega
      have E := Lib.hid (wFind_eq (r := 21) hk hno.out (fun h => by omega))
      go_wp2
      exact bodyPost_ret (v := .tuple #[.agg #[.int .i64 0, .string ⟨#[]⟩, .int .i64 0], .bool false]) (by simp [results, Try.results15, go_sem]) rfl ⟨by rw [E.out]; rfl, (by repeat (first | exact Below.refl _ _ | apply Below.drew | apply Below.more1 | apply Below.alloc1))⟩

theorem sWord_any (x : Int) (w : World) : Calls Try.prog 7 #[.int .i64 x] w fun e w' => e = .returned (.string (entW (opFind x))) ∧ Below w.heap.size w w' := by
  go_enter Try.func7, Try.ntmps7
  go_wp2_with (go_at_call 16; refine (byOp_any _ _).mono ?_; rintro e w1 ⟨rfl, hb1⟩; obtain ⟨os, d, rfl⟩ := hb1.more; clear hb1)
  go_ret
  exact ⟨rfl, (by repeat (first | exact Below.refl _ _ | apply Below.drew | apply Below.more1 | apply Below.alloc1))⟩
theorem sOp_any (s : ByteArray) (w : World) : Calls Try.prog 5 #[.string s] w fun e w' => e = .returned (.tuple #[.int .i64 (entOp (wFind s)), .bool (decide (wFind s < 21))]) ∧ Below w.heap.size w w' := by
  go_enter Try.func5, Try.ntmps5
  go_wp2_with (go_at_call 15; refine (byWord_any _ _).mono ?_; rintro e w1 ⟨rfl, hb1⟩; obtain ⟨os, d, rfl⟩ := hb1.more; clear hb1)
  go_ret2
  exact ⟨rfl, (by repeat (first | exact Below.refl _ _ | apply Below.drew | apply Below.more1 | apply Below.alloc1))⟩

theorem opFind_miss {x : Int} (h : x ≠ 1 ∧ x ≠ 2 ∧ x ≠ 10 ∧ x ≠ 11 ∧ x ≠ 12 ∧ x ≠ 20 ∧ x ≠ 21 ∧ x ≠ 22 ∧ x ≠ 23 ∧ x ≠ 24 ∧ x ≠ 25 ∧ x ≠ 30 ∧ x ≠ 31 ∧ x ≠ 40 ∧ x ≠ 41 ∧ x ≠ 50 ∧ x ≠ 51 ∧ x ≠ 52 ∧ x ≠ 60 ∧ x ≠ 61 ∧ x ≠ 62) : opFind x = 21 := by
  refine opFind_eq (by omega) (fun j hj => ?_) (fun h => by omega)
  rcases (by omega : j = 0 ∨ j = 1 ∨ j = 2 ∨ j = 3 ∨ j = 4 ∨ j = 5 ∨ j = 6 ∨ j = 7 ∨ j = 8 ∨ j = 9 ∨ j = 10 ∨ j = 11 ∨ j = 12 ∨ j = 13 ∨ j = 14 ∨ j = 15 ∨ j = 16 ∨ j = 17 ∨ j = 18 ∨ j = 19 ∨ j = 20) with rfl | rfl | rfl | rfl | rfl | rfl | rfl | rfl | rfl | rfl | rfl | rfl | rfl | rfl | rfl | rfl | rfl | rfl | rfl | rfl | rfl
  all_goals (simp [entOp, entOps]; omega)

theorem rWord_any (x : Int) (w : World) : Calls Try.prog 8 #[.int .i64 x] w fun e w' => e = .returned (.string (entW (opFind x))) ∧ w = w' := by
  by_cases h : x = 1 ∨ x = 2 ∨ x = 10 ∨ x = 11 ∨ x = 12 ∨ x = 20 ∨ x = 21 ∨ x = 22 ∨ x = 23 ∨ x = 24 ∨ x = 25 ∨ x = 30 ∨ x = 31 ∨ x = 40 ∨ x = 41 ∨ x = 50 ∨ x = 51 ∨ x = 52 ∨ x = 60 ∨ x = 61 ∨ x = 62
  · rcases h with rfl | rfl | rfl | rfl | rfl | rfl | rfl | rfl | rfl | rfl | rfl | rfl | rfl | rfl | rfl | rfl | rfl | rfl | rfl | rfl | rfl
    all_goals
      go_enter Try.func8, Try.ntmps8
      go_wp2
      go_ret
      exact ⟨rfl, rfl⟩
  · have hm := Lib.hid (@opFind_miss x (by omega))
    have hs : (x == 1) = false ∧ (x == 2) = false ∧ (x == 10) = false ∧ (x == 11) = false ∧ (x == 12) = false ∧ (x == 20) = false ∧ (x == 21) = false ∧ (x == 22) = false ∧ (x == 23) = false ∧ (x == 24) = false ∧ (x == 25) = false ∧ (x == 30) = false ∧ (x == 31) = false ∧ (x == 40) = false ∧ (x == 41) = false ∧ (x == 50) = false ∧ (x == 51) = false ∧ (x == 52) = false ∧ (x == 60) = false ∧ (x == 61) = false ∧ (x == 62) = false := by simp; omega
    obtain ⟨h0, h1, h2, h3, h4, h5, h6, h7, h8, h9, h10, h11, h12, h13, h14, h15, h16, h17, h18, h19, h20⟩ := hs
    clear h
    go_enter Try.func8, Try.ntmps8
    go_wp2
    go_ret
    exact ⟨by rw [hm.out]; rfl, rfl⟩
end Go.Proofs.Ytbkhfkihhebphaa
