/-
Contracts of word.Link, Unlink, Head, Unhead, Number, Value and of the reference's functions on words.
-/
import Derived.Test.YtaokjiajceefaaaRows
import Derived.Test.YtaokjiajceefaaaPlain
namespace Go.Proofs.Ytaokjiajceefaaa
open Go.ChangeShapes Go.WideShapes Go.ChangeAt Go.RowKit

theorem number_any (v : Int) (w : World) : Calls Try.prog 14 #[.int .i64 v] w fun e w' => e = .returned (.int .u64 (IntKind.u64.wrap v)) ∧ w = w' := by
  go_enter Try.func14, Try.ntmps14
  go_wp2
  go_ret
  exact ⟨rfl, rfl⟩

theorem value_any (v : Int) (w : World) : Calls Try.prog 15 #[.int .u64 v] w fun e w' => e = .returned (.int .i64 (wrap64 v)) ∧ w = w' := by
  go_enter Try.func15, Try.ntmps15
  go_wp2
  go_ret
  exact ⟨rfl, rfl⟩

theorem link_bad (i : Int) (m : Bool) (w : World) (h : i < -1 ∨ 2147483646 < i) : Calls Try.prog 20 #[.int .i64 i, .bool m] w fun e w' => e = .returned (.tuple #[.int .u64 0, .int .i64 2]) ∧ w = w' := by
  rcases h with h | h
  · go_enter Try.func20, Try.ntmps20
    go_wp2
    go_ret2
    exact ⟨rfl, rfl⟩
  · have h' : ¬ i < -1 := by omega
    go_enter Try.func20, Try.ntmps20
    go_wp2
    go_ret2
    exact ⟨rfl, rfl⟩

theorem link_ok (i : Int) (m : Bool) (w : World) (h : -1 ≤ i) (h2 : i ≤ 2147483646) : Calls Try.prog 20 #[.int .i64 i, .bool m] w fun e w' => e = .returned (.tuple #[.int .u64 (packLink i m), .int .i64 0]) ∧ w = w' := by
  have hb := or_mark (i + 1) (by omega) (by omega)
  have HB := Lib.hid hb; clear hb
  cases m
  all_goals
    go_enter Try.func20, Try.ntmps20
    go_wp2
    go_ret2
    refine ⟨ret_v ?_, rfl⟩
  · show Value.tuple #[.int .u64 (i + 1), _] = _
    rw [packLink]; simp
  · show Value.tuple #[.int .u64 (bits .or .u64 (i + 1) 4294967296), _] = _
    rw [packLink, HB.out]; simp

theorem packLink_any (i : Int) (m : Bool) (w : World) (h : -1 ≤ i) (h2 : i ≤ 2147483646) : Calls Try.prog 21 #[.int .i64 i, .bool m] w fun e w' => e = .returned (.int .u64 (packLink i m)) ∧ w = w' := by
  cases m
  all_goals
    go_enter Try.func21, Try.ntmps21
    go_wp2
    go_ret
    refine ⟨ret_v ?_, rfl⟩
  · show Value.int .u64 (i + 1) = _
    rw [packLink]; simp
  · show Value.int .u64 (i + 1 + 4294967296) = _
    rw [packLink]; simp

theorem isLink_any (v : Int) (w : World) (h0 : 0 ≤ v) : Calls Try.prog 23 #[.int .u64 v] w fun e w' => e = .returned (.bool (isLink v)) ∧ w = w' := by
  go_enter Try.func23, Try.ntmps23
  go_wp2
  all_goals
    go_ret
    refine ⟨ret_bool ?_, rfl⟩
  · show decide (v % 4294967296 ≤ 2147483647) = _
    rename_i h; simp [isLink, h]
  · show false = _
    rename_i h; simp [isLink]; omega

theorem linkIndex_any (v : Int) (w : World) (h0 : 0 ≤ v) : Calls Try.prog 24 #[.int .u64 v] w fun e w' => e = .returned (.int .i64 (linkIndex v)) ∧ w = w' := by
  go_enter Try.func24, Try.ntmps24
  go_wp2
  go_ret
  exact ⟨rfl, rfl⟩

theorem linkMark_any (v : Int) (w : World) (h0 : 0 ≤ v) (h1 : v ≤ 18446744073709551615) : Calls Try.prog 25 #[.int .u64 v] w fun e w' => e = .returned (.bool (linkMark v)) ∧ w = w' := by
  go_enter Try.func25, Try.ntmps25
  go_wp2
  go_ret
  refine ⟨ret_bool ?_, rfl⟩
  rfl

theorem unlink_bad (v : Int) (w : World) (h0 : 0 ≤ v) (h1 : v ≤ 18446744073709551615) (h : isLink v = false) : Calls Try.prog 22 #[.int .u64 v] w fun e w' => e = .returned (.tuple #[.int .i64 0, .bool false, .int .i64 10]) ∧ w = w' := by
  have hb := and_low v h0 h1
  have hh : 8589934592 ≤ v ∨ 2147483647 < v % 4294967296 := by simp [isLink] at h; omega
  go_enter Try.func22, Try.ntmps22
  go_wp2
  all_goals
    go_ret3
    exact ⟨rfl, rfl⟩

theorem unlink_ok (v : Int) (w : World) (h0 : 0 ≤ v) (h1 : v ≤ 18446744073709551615) (h : isLink v = true) : Calls Try.prog 22 #[.int .u64 v] w fun e w' => e = .returned (.tuple #[.int .i64 (linkIndex v), .bool (linkMark v), .int .i64 0]) ∧ w = w' := by
  have hb := and_low v h0 h1
  have hc := and_mark v h0 h1
  have hh : v < 8589934592 ∧ v % 4294967296 ≤ 2147483647 := by simp [isLink] at h; omega
  obtain ⟨ha, hd⟩ := hh
  rw [← mark_ne]
  go_enter Try.func22, Try.ntmps22
  go_wp2
  go_ret3
  exact ⟨rfl, rfl⟩

theorem head_bad (t i : Int) (w : World) (h : i < -1 ∨ 2147483646 < i) : Calls Try.prog 26 #[.int .u32 t, .int .i64 i] w fun e w' => e = .returned (.tuple #[.int .u64 0, .int .i64 2]) ∧ w = w' := by
  go_enter Try.func26, Try.ntmps26
  go_wp2_with (go_at_call 20; refine (link_bad _ _ _ h).mono ?_; rintro e w' ⟨rfl, rfl⟩)
  go_ret2
  exact ⟨rfl, rfl⟩

theorem head_ok (t i : Int) (w : World) (h : -1 ≤ i) (h2 : i ≤ 2147483646) (h3 : 0 ≤ t) (h4 : t ≤ 4294967295) : Calls Try.prog 26 #[.int .u32 t, .int .i64 i] w fun e w' => e = .returned (.tuple #[.int .u64 (packHead t i), .int .i64 0]) ∧ w = w' := by
  have hb := or_tag t (i + 1) h3 h4 (by omega) (by omega)
  have hp : packLink i false = i + 1 := by simp [packLink]
  go_enter Try.func26, Try.ntmps26
  go_wp2_with (go_at_call 20; refine (link_ok _ _ _ h h2).mono ?_; rintro e w' ⟨rfl, rfl⟩)
  go_ret2
  exact ⟨rfl, rfl⟩

theorem packHead_any (t i : Int) (w : World) (h : -1 ≤ i) (h2 : i ≤ 2147483646) (h3 : 0 ≤ t) (h4 : t ≤ 4294967295) : Calls Try.prog 27 #[.int .u64 t, .int .i64 i] w fun e w' => e = .returned (.int .u64 (packHead t i)) ∧ w = w' := by
  have ht : t % 4294967296 = t := by omega
  go_enter Try.func27, Try.ntmps27
  go_wp2
  go_ret
  exact ⟨rfl, rfl⟩

theorem isHead_any (v : Int) (w : World) (_h0 : 0 ≤ v) : Calls Try.prog 29 #[.int .u64 v] w fun e w' => e = .returned (.bool (isHead v)) ∧ w = w' := by
  go_enter Try.func29, Try.ntmps29
  go_wp2
  go_ret
  exact ⟨rfl, rfl⟩

theorem headTag_any (v : Int) (w : World) (h0 : 0 ≤ v) (h1 : v ≤ 18446744073709551615) : Calls Try.prog 30 #[.int .u64 v] w fun e w' => e = .returned (.int .u64 (v / 4294967296)) ∧ w = w' := by
  go_enter Try.func30, Try.ntmps30
  go_wp2
  go_ret
  exact ⟨rfl, rfl⟩

theorem isLink_low {v : Int} (_h0 : 0 ≤ v) : isLink (v % 4294967296) = isHead v := by
  unfold isLink isHead
  rw [Bool.eq_iff_iff]; simp; omega

theorem linkIndex_low (v : Int) : linkIndex (v % 4294967296) = linkIndex v := by
  unfold linkIndex; omega

theorem unhead_bad (v : Int) (w : World) (h0 : 0 ≤ v) (h1 : v ≤ 18446744073709551615) (h : isHead v = false) : Calls Try.prog 28 #[.int .u64 v] w fun e w' => e = .returned (.tuple #[.int .u32 0, .int .i64 0, .int .i64 10]) ∧ w = w' := by
  have hb := and_low v h0 h1
  go_enter Try.func28, Try.ntmps28
  go_wp2_with (go_at_call 22; refine (unlink_bad _ _ (by omega) (by omega) (by rw [isLink_low h0]; exact h)).mono ?_; rintro e w' ⟨rfl, rfl⟩)
  go_ret3
  exact ⟨rfl, rfl⟩

theorem unhead_ok (v : Int) (w : World) (h0 : 0 ≤ v) (h1 : v ≤ 18446744073709551615) (h : isHead v = true) : Calls Try.prog 28 #[.int .u64 v] w fun e w' => e = .returned (.tuple #[.int .u32 (v / 4294967296), .int .i64 (linkIndex v), .int .i64 0]) ∧ w = w' := by
  have hb := and_low v h0 h1
  rw [← linkIndex_low]
  go_enter Try.func28, Try.ntmps28
  go_wp2_with (go_at_call 22; refine (unlink_ok _ _ (by omega) (by omega) (by rw [isLink_low h0]; exact h)).mono ?_; rintro e w' ⟨rfl, rfl⟩)
  go_ret3
  exact ⟨rfl, rfl⟩

end Go.Proofs.Ytaokjiajceefaaa
