/-
memory.Memory: has, Size, Count, Now.
-/
import Derived.Test.YtbhbpfpggfcpgaaMem
import Derived.Test.YtbhbpfpggfcpgaaPlain
import Derived.Test.YtbhbpfpggfcpgaaRows
import Derived.Lib.Hide
import Derived.Outline
import Derived.LoopTactic
namespace Go.Proofs.Ytbhbpfpggfcpgaa
open Go.ChangeShapes Go.WideShapes Go.ChangeAt Go.RowKit

theorem size_mem {w : World} {base mb : Nat} {st : MemS} {v : MemV} (h : MemAt w base mb st v) : Calls Try.prog 73 #[.pointer (some ⟨mb, 0, none⟩)] w fun e w' => e = .returned (.int .i64 (st.words.length : Int)) ∧ w = w' := by
  obtain ⟨c0, c1, c2, c3, z, lt⟩ := h.head
  obtain ⟨ow, cw, ol, cl, oa, ca, rfl, l1, l2, l3, m1, m2, m3⟩ := h.slices
  go_enter Try.func73, Try.ntmps73
  go_wp2
  go_ret
  exact ⟨rfl, rfl⟩
theorem size_nil (w : World) : Calls Try.prog 73 #[.pointer none] w fun e w' => e = .returned (.int .i64 0) ∧ w = w' := by
  go_enter Try.func73, Try.ntmps73
  go_wp2
  go_ret
  exact ⟨rfl, rfl⟩

theorem has_mem {w : World} {base mb : Nat} {st : MemS} {v : MemV} (h : MemAt w base mb st v) (a : Int) : Calls Try.prog 74 #[.pointer (some ⟨mb, 0, none⟩), .int .i64 a] w fun e w' =>
    e = .returned (.bool (decide (0 ≤ a) && decide (a < (st.words.length : Int)))) ∧ w = w' := by
  by_cases h0 : 0 ≤ a
  all_goals
    go_enter Try.func74, Try.ntmps74
    go_wp2_with (go_at_call 73; refine (size_mem h).mono ?_; rintro e w1 ⟨rfl, rfl⟩)
    go_ret
    exact ⟨ret_bool (by rw [Bool.eq_iff_iff]; simp <;> omega), rfl⟩
theorem has_yes {w : World} {base mb : Nat} {st : MemS} {v : MemV} (h : MemAt w base mb st v) (a : Nat) (ha : a < st.words.length) : Calls Try.prog 74 #[.pointer (some ⟨mb, 0, none⟩), .int .i64 (a : Int)] w fun e w' =>
    e = .returned (.bool true) ∧ w = w' := by
  have := has_mem h (a : Int)
  rw [show (decide (0 ≤ (a : Int)) && decide ((a : Int) < (st.words.length : Int))) = true by simp; omega] at this
  exact this
theorem has_no {w : World} {base mb : Nat} {st : MemS} {v : MemV} (h : MemAt w base mb st v) (a : Int) (ha : a < 0 ∨ (st.words.length : Int) ≤ a) : Calls Try.prog 74 #[.pointer (some ⟨mb, 0, none⟩), .int .i64 a] w fun e w' =>
    e = .returned (.bool false) ∧ w = w' := by
  have := has_mem h a
  rw [show (decide (0 ≤ a) && decide (a < (st.words.length : Int))) = false by rw [Bool.eq_false_iff]; simp; omega] at this
  exact this
theorem has_nil (w : World) (a : Int) : Calls Try.prog 74 #[.pointer none, .int .i64 a] w fun e w' => e = .returned (.bool false) ∧ w = w' := by
  by_cases h0 : 0 ≤ a
  all_goals
    go_enter Try.func74, Try.ntmps74
    go_wp2_with (go_at_call 73; refine (size_nil _).mono ?_; rintro e w1 ⟨rfl, rfl⟩)
    go_ret
    exact ⟨by simp [h0] <;> omega, rfl⟩

theorem now_mem {w : World} {base mb : Nat} {st : MemS} {v : MemV} (h : MemAt w base mb st v) (x : Int) : Calls Try.prog 68 #[.pointer (some ⟨mb, 0, none⟩), .int .i64 x] w fun e w' =>
    e = .returned (.tuple #[]) ∧ MemAt w' base mb { st with move := x } v ∧ Only (v.own mb) w w' := by
  obtain ⟨c0, c1, c2, c3, z, lt⟩ := h.head
  go_enter Try.func68, Try.ntmps68
  go_wp2
  go_end0
  exact ⟨rfl, h.put (st' := { st with move := x }) rfl (h.rw.set (fun k hk e => h.m1 (by rw [hk]; exact congrArg some e)) _) (h.rl.set (fun k hk e => h.m2 (by rw [hk]; exact congrArg some e)) _) (h.ra.set (fun k hk e => h.m3 (by rw [hk]; exact congrArg some e)) _) h.m1 h.m2 h.m3 h.wl h.wa h.la, (Only.refl _ _).set (.inl (.inl rfl)) _⟩
theorem now_nil (w : World) (x : Int) : Calls Try.prog 68 #[.pointer none, .int .i64 x] w fun e w' => e = .returned (.tuple #[]) ∧ w = w' := by
  go_enter Try.func68, Try.ntmps68
  go_wp2
  go_end0
  exact ⟨rfl, rfl⟩
end Go.Proofs.Ytbhbpfpggfcpgaa
