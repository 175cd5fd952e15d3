/-
word.look: what a region is.
-/
import Derived.Test.YtjcggokhminmoaaQMchS
import Derived.Deep.Cut
namespace Go.Proofs.Ytjcggokhminmoaa
open Go.ChangeShapes Go.WideShapes Go.ChangeAt Go.RowKit

def regName (k : Nat) : ByteArray := ([⟨#[]⟩, ⟨#[102, 114, 101, 101]⟩, ⟨#[99, 101, 108, 108]⟩, ⟨#[116, 111, 112]⟩, ⟨#[104, 101, 97, 100]⟩, ⟨#[116, 97, 105, 108]⟩, ⟨#[114, 111, 111, 116]⟩, ⟨#[98, 117, 99, 107, 101, 116]⟩, ⟨#[97, 99, 116, 105, 118, 101]⟩, ⟨#[104, 97, 122, 97, 114, 100]⟩, ⟨#[115, 112, 97, 114, 101]⟩, ⟨#[118, 97, 108, 117, 101]⟩, ⟨#[100, 97, 116, 97]⟩, ⟨#[108, 105, 110, 107]⟩] : List ByteArray).getD k ⟨#[]⟩
def regKind (k : Nat) : Int := ([0, 1, 2, 2, 2, 2, 2, 2, 4, 2, 2, 5, 5, 3] : List Int).getD k 0
def regOrder (k : Nat) : Int := ([0, 0, 0, 0, 0, 0, 0, 1, 1, 2, 1, 1, 1, 1] : List Int).getD k 0
theorem info14 : (Try.prog.info? 186).map (·.size) = some 42 := by kernel_rfl
def tableCells : Array Value := #[.string { data := #[] }, .int .i64 0, .int .i64 0, .string { data := #[102, 114, 101, 101] }, .int .i64 1, .int .i64 0, .string { data := #[99, 101, 108, 108] }, .int .i64 2, .int .i64 0, .string { data := #[116, 111, 112] }, .int .i64 2, .int .i64 0, .string { data := #[104, 101, 97, 100] }, .int .i64 2, .int .i64 0, .string { data := #[116, 97, 105, 108] }, .int .i64 2, .int .i64 0, .string { data := #[114, 111, 111, 116] }, .int .i64 2, .int .i64 0, .string { data := #[98, 117, 99, 107, 101, 116] }, .int .i64 2, .int .i64 1, .string { data := #[97, 99, 116, 105, 118, 101] }, .int .i64 4, .int .i64 1, .string { data := #[104, 97, 122, 97, 114, 100] }, .int .i64 2, .int .i64 2, .string { data := #[115, 112, 97, 114, 101] }, .int .i64 2, .int .i64 1, .string { data := #[118, 97, 108, 117, 101] }, .int .i64 5, .int .i64 1, .string { data := #[100, 97, 116, 97] }, .int .i64 5, .int .i64 1, .string { data := #[108, 105, 110, 107] }, .int .i64 3, .int .i64 1]


set_option maxHeartbeats 1000000 in
theorem look_lt (r : Int) (h : r < 1) (w : World) : Calls Try.prog 74 #[.int .i64 r] w fun e w' =>
    e = .returned (.tuple #[.agg #[.string { data := #[] }, .int .i64 0, .int .i64 0], .bool false]) ∧ Below w.heap.size w w' := by
    go_enter Try.func74, Try.ntmps74
    go_wp2_with (first
      | ((with_reducible refine at_store 186 ?_); refine wpList_store_new rfl 186 (.tmp 4) (.tmp 19) rfl #[.string { data := #[] }, .int .i64 0, .int .i64 0, .string { data := #[102, 114, 101, 101] }, .int .i64 1, .int .i64 0, .string { data := #[99, 101, 108, 108] }, .int .i64 2, .int .i64 0, .string { data := #[116, 111, 112] }, .int .i64 2, .int .i64 0, .string { data := #[104, 101, 97, 100] }, .int .i64 2, .int .i64 0, .string { data := #[116, 97, 105, 108] }, .int .i64 2, .int .i64 0, .string { data := #[114, 111, 111, 116] }, .int .i64 2, .int .i64 0, .string { data := #[98, 117, 99, 107, 101, 116] }, .int .i64 2, .int .i64 1, .string { data := #[97, 99, 116, 105, 118, 101] }, .int .i64 4, .int .i64 1, .string { data := #[104, 97, 122, 97, 114, 100] }, .int .i64 2, .int .i64 2, .string { data := #[115, 112, 97, 114, 101] }, .int .i64 2, .int .i64 1, .string { data := #[118, 97, 108, 117, 101] }, .int .i64 5, .int .i64 1, .string { data := #[100, 97, 116, 97] }, .int .i64 5, .int .i64 1, .string { data := #[108, 105, 110, 107] }, .int .i64 3, .int .i64 1] _ (by rw [World.size_alloc]; rfl) rfl 186 info14 rfl (by simp [Value.oneCell']) ?_))
    exact bodyPost_ret (v := .tuple #[.agg #[.string { data := #[] }, .int .i64 0, .int .i64 0], .bool false]) (by simp [results, Try.results74, go_sem]) rfl ⟨rfl, by repeat (first | exact Below.refl _ _ | apply Below.drew | apply Below.more1 | apply Below.alloc1)⟩

set_option maxHeartbeats 1000000 in
theorem look_gt (r : Int) (h : 13 < r) (w : World) : Calls Try.prog 74 #[.int .i64 r] w fun e w' =>
    e = .returned (.tuple #[.agg #[.string { data := #[] }, .int .i64 0, .int .i64 0], .bool false]) ∧ Below w.heap.size w w' := by
    go_enter Try.func74, Try.ntmps74
    go_wp2_with (first
      | ((with_reducible refine at_store 186 ?_); refine wpList_store_new rfl 186 (.tmp 4) (.tmp 19) rfl #[.string { data := #[] }, .int .i64 0, .int .i64 0, .string { data := #[102, 114, 101, 101] }, .int .i64 1, .int .i64 0, .string { data := #[99, 101, 108, 108] }, .int .i64 2, .int .i64 0, .string { data := #[116, 111, 112] }, .int .i64 2, .int .i64 0, .string { data := #[104, 101, 97, 100] }, .int .i64 2, .int .i64 0, .string { data := #[116, 97, 105, 108] }, .int .i64 2, .int .i64 0, .string { data := #[114, 111, 111, 116] }, .int .i64 2, .int .i64 0, .string { data := #[98, 117, 99, 107, 101, 116] }, .int .i64 2, .int .i64 1, .string { data := #[97, 99, 116, 105, 118, 101] }, .int .i64 4, .int .i64 1, .string { data := #[104, 97, 122, 97, 114, 100] }, .int .i64 2, .int .i64 2, .string { data := #[115, 112, 97, 114, 101] }, .int .i64 2, .int .i64 1, .string { data := #[118, 97, 108, 117, 101] }, .int .i64 5, .int .i64 1, .string { data := #[100, 97, 116, 97] }, .int .i64 5, .int .i64 1, .string { data := #[108, 105, 110, 107] }, .int .i64 3, .int .i64 1] _ (by rw [World.size_alloc]; rfl) rfl 186 info14 rfl (by simp [Value.oneCell']) ?_))
    exact bodyPost_ret (v := .tuple #[.agg #[.string { data := #[] }, .int .i64 0, .int .i64 0], .bool false]) (by simp [results, Try.results74, go_sem]) rfl ⟨rfl, by repeat (first | exact Below.refl _ _ | apply Below.drew | apply Below.more1 | apply Below.alloc1)⟩

theorem look_no (r : Int) (h : r < 1 ∨ 13 < r) (w : World) : Calls Try.prog 74 #[.int .i64 r] w fun e w' =>
    e = .returned (.tuple #[.agg #[.string { data := #[] }, .int .i64 0, .int .i64 0], .bool false]) ∧ Below w.heap.size w w' := by
  rcases h with h | h
  · exact look_lt r h w
  · exact look_gt r h w

set_option maxHeartbeats 4000000 in
theorem look_ok (r : Int) (h0 : 1 ≤ r) (h1 : r ≤ 13) (w : World) : Calls Try.prog 74 #[.int .i64 r] w fun e w' =>
    e = .returned (.tuple #[.agg #[.string (regName r.toNat), .int .i64 (regKind r.toNat), .int .i64 (regOrder r.toNat)], .bool true]) ∧ Below w.heap.size w w' := by
  have hr : r = 1 ∨ r = 2 ∨ r = 3 ∨ r = 4 ∨ r = 5 ∨ r = 6 ∨ r = 7 ∨ r = 8 ∨ r = 9 ∨ r = 10 ∨ r = 11 ∨ r = 12 ∨ r = 13 := by omega
  have HR := Lib.hid hr; clear hr
  go_enter Try.func74, Try.ntmps74

  go_upto_region 2 with (first
      | ((with_reducible refine at_store 186 ?_); refine wpList_store_new rfl 186 (.tmp 4) (.tmp 19) rfl #[.string { data := #[] }, .int .i64 0, .int .i64 0, .string { data := #[102, 114, 101, 101] }, .int .i64 1, .int .i64 0, .string { data := #[99, 101, 108, 108] }, .int .i64 2, .int .i64 0, .string { data := #[116, 111, 112] }, .int .i64 2, .int .i64 0, .string { data := #[104, 101, 97, 100] }, .int .i64 2, .int .i64 0, .string { data := #[116, 97, 105, 108] }, .int .i64 2, .int .i64 0, .string { data := #[114, 111, 111, 116] }, .int .i64 2, .int .i64 0, .string { data := #[98, 117, 99, 107, 101, 116] }, .int .i64 2, .int .i64 1, .string { data := #[97, 99, 116, 105, 118, 101] }, .int .i64 4, .int .i64 1, .string { data := #[104, 97, 122, 97, 114, 100] }, .int .i64 2, .int .i64 2, .string { data := #[115, 112, 97, 114, 101] }, .int .i64 2, .int .i64 1, .string { data := #[118, 97, 108, 117, 101] }, .int .i64 5, .int .i64 1, .string { data := #[100, 97, 116, 97] }, .int .i64 5, .int .i64 1, .string { data := #[108, 105, 110, 107] }, .int .i64 3, .int .i64 1] _ (by rw [World.size_alloc]; rfl) rfl 186 info14 rfl (by simp [Value.oneCell']) ?_))
  rcases HR.out with rfl | rfl | rfl | rfl | rfl | rfl | rfl | rfl | rfl | rfl | rfl | rfl | rfl
  · go_wp2
    exact bodyPost_ret (v := .tuple #[.agg #[.string { data := #[102, 114, 101, 101] }, .int .i64 1, .int .i64 0], .bool true]) (by simp [results, Try.results74, go_sem]) rfl ⟨rfl, by repeat (first | exact Below.refl _ _ | apply Below.drew | apply Below.more1 | apply Below.alloc1)⟩
  · go_wp2
    exact bodyPost_ret (v := .tuple #[.agg #[.string { data := #[99, 101, 108, 108] }, .int .i64 2, .int .i64 0], .bool true]) (by simp [results, Try.results74, go_sem]) rfl ⟨rfl, by repeat (first | exact Below.refl _ _ | apply Below.drew | apply Below.more1 | apply Below.alloc1)⟩
  · go_wp2
    exact bodyPost_ret (v := .tuple #[.agg #[.string { data := #[116, 111, 112] }, .int .i64 2, .int .i64 0], .bool true]) (by simp [results, Try.results74, go_sem]) rfl ⟨rfl, by repeat (first | exact Below.refl _ _ | apply Below.drew | apply Below.more1 | apply Below.alloc1)⟩
  · go_wp2
    exact bodyPost_ret (v := .tuple #[.agg #[.string { data := #[104, 101, 97, 100] }, .int .i64 2, .int .i64 0], .bool true]) (by simp [results, Try.results74, go_sem]) rfl ⟨rfl, by repeat (first | exact Below.refl _ _ | apply Below.drew | apply Below.more1 | apply Below.alloc1)⟩
  · go_wp2
    exact bodyPost_ret (v := .tuple #[.agg #[.string { data := #[116, 97, 105, 108] }, .int .i64 2, .int .i64 0], .bool true]) (by simp [results, Try.results74, go_sem]) rfl ⟨rfl, by repeat (first | exact Below.refl _ _ | apply Below.drew | apply Below.more1 | apply Below.alloc1)⟩
  · go_wp2
    exact bodyPost_ret (v := .tuple #[.agg #[.string { data := #[114, 111, 111, 116] }, .int .i64 2, .int .i64 0], .bool true]) (by simp [results, Try.results74, go_sem]) rfl ⟨rfl, by repeat (first | exact Below.refl _ _ | apply Below.drew | apply Below.more1 | apply Below.alloc1)⟩
  · go_wp2
    exact bodyPost_ret (v := .tuple #[.agg #[.string { data := #[98, 117, 99, 107, 101, 116] }, .int .i64 2, .int .i64 1], .bool true]) (by simp [results, Try.results74, go_sem]) rfl ⟨rfl, by repeat (first | exact Below.refl _ _ | apply Below.drew | apply Below.more1 | apply Below.alloc1)⟩
  · go_wp2
    exact bodyPost_ret (v := .tuple #[.agg #[.string { data := #[97, 99, 116, 105, 118, 101] }, .int .i64 4, .int .i64 1], .bool true]) (by simp [results, Try.results74, go_sem]) rfl ⟨rfl, by repeat (first | exact Below.refl _ _ | apply Below.drew | apply Below.more1 | apply Below.alloc1)⟩
  · go_wp2
    exact bodyPost_ret (v := .tuple #[.agg #[.string { data := #[104, 97, 122, 97, 114, 100] }, .int .i64 2, .int .i64 2], .bool true]) (by simp [results, Try.results74, go_sem]) rfl ⟨rfl, by repeat (first | exact Below.refl _ _ | apply Below.drew | apply Below.more1 | apply Below.alloc1)⟩
  · go_wp2
    exact bodyPost_ret (v := .tuple #[.agg #[.string { data := #[115, 112, 97, 114, 101] }, .int .i64 2, .int .i64 1], .bool true]) (by simp [results, Try.results74, go_sem]) rfl ⟨rfl, by repeat (first | exact Below.refl _ _ | apply Below.drew | apply Below.more1 | apply Below.alloc1)⟩
  · go_wp2
    exact bodyPost_ret (v := .tuple #[.agg #[.string { data := #[118, 97, 108, 117, 101] }, .int .i64 5, .int .i64 1], .bool true]) (by simp [results, Try.results74, go_sem]) rfl ⟨rfl, by repeat (first | exact Below.refl _ _ | apply Below.drew | apply Below.more1 | apply Below.alloc1)⟩
  · go_wp2
    exact bodyPost_ret (v := .tuple #[.agg #[.string { data := #[100, 97, 116, 97] }, .int .i64 5, .int .i64 1], .bool true]) (by simp [results, Try.results74, go_sem]) rfl ⟨rfl, by repeat (first | exact Below.refl _ _ | apply Below.drew | apply Below.more1 | apply Below.alloc1)⟩
  · go_wp2
    exact bodyPost_ret (v := .tuple #[.agg #[.string { data := #[108, 105, 110, 107] }, .int .i64 3, .int .i64 1], .bool true]) (by simp [results, Try.results74, go_sem]) rfl ⟨rfl, by repeat (first | exact Below.refl _ _ | apply Below.drew | apply Below.more1 | apply Below.alloc1)⟩
end Go.Proofs.Ytjcggokhminmoaa
