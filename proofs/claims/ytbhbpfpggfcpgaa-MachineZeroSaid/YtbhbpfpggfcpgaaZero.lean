/-
The methods of a machine that New did not make, and of a desk that no machine handed out. Written by wip/genzero.py. MachineZero.
-/
import Derived.Test.YtbhbpfpggfcpgaaAwk
namespace Go.Proofs.Ytbhbpfpggfcpgaa
open Go.ChangeShapes Go.WideShapes Go.ChangeAt Go.RowKit Go.Shelf

def Gives (w : World) (v : Value) (e : Ending) (w' : World) : Prop := e = .returned v ∧ Below w.heap.size w w'
def GivesNone (w : World) (e : Ending) (w' : World) : Prop := (∃ v, e = .returned v) ∧ Below w.heap.size w w'

set_option maxRecDepth 100000 in
theorem zmove {w : World} (b : Nat) (mv : Mv) (c8 : w.cell? ⟨b, 8, none⟩ = some (.slice none 0 0)) (lt : b < w.heap.size) : Calls Try.prog 17 #[.pointer (some ⟨b, 0, none⟩), .agg #[.int .i64 mv.th, .int .i64 mv.op, .int .i64 mv.arg, .int .i64 mv.data]] w (Gives w (.bool false)) := by
  go_enter Try.func17, Try.ntmps17
  go_wp2
  first
    | (go_ret; exact ⟨rfl, (by repeat (first | exact Below.refl _ _ | apply Below.drew | apply Below.more1 | apply Below.alloc1 | (refine Below.setCell ?_ (by first | exact Nat.le_refl _ | (simp; done) | (simp; omega)) _)))⟩)
    | (refine bodyPost_ret (v := .bool false) (by simp [results, Try.results17, go_sem]) rfl ⟨rfl, (by repeat (first | exact Below.refl _ _ | apply Below.drew | apply Below.more1 | apply Below.alloc1 | (refine Below.setCell ?_ (by first | exact Nat.le_refl _ | (simp; done) | (simp; omega)) _)))⟩)

set_option maxRecDepth 100000 in
theorem zmoves {w : World} (b : Nat) (c9 : w.cell? ⟨b, 9, none⟩ = some (.int .i64 0)) (_lt : b < w.heap.size) : Calls Try.prog 18 #[.pointer (some ⟨b, 0, none⟩)] w (Gives w (.int .i64 0)) := by
  go_enter Try.func18, Try.ntmps18
  go_wp2
  first
    | (go_ret; exact ⟨rfl, (by repeat (first | exact Below.refl _ _ | apply Below.drew | apply Below.more1 | apply Below.alloc1 | (refine Below.setCell ?_ (by first | exact Nat.le_refl _ | (simp; done) | (simp; omega)) _)))⟩)
    | (refine bodyPost_ret (v := .int .i64 0) (by simp [results, Try.results18, go_sem]) rfl ⟨rfl, (by repeat (first | exact Below.refl _ _ | apply Below.drew | apply Below.more1 | apply Below.alloc1 | (refine Below.setCell ?_ (by first | exact Nat.le_refl _ | (simp; done) | (simp; omega)) _)))⟩)

set_option maxRecDepth 100000 in
theorem zbusy {w : World} (b : Nat) (t : Int) (c8 : w.cell? ⟨b, 8, none⟩ = some (.slice none 0 0)) (_lt : b < w.heap.size) : Calls Try.prog 39 #[.pointer (some ⟨b, 0, none⟩), .int .i64 t] w (Gives w (.bool false)) := by
  have ht : (decide (t < 0) = true ∧ decide (0 ≤ t) = false) ∨ (decide (t < 0) = false ∧ decide (0 ≤ t) = true) := by
    by_cases h : t < 0
    · exact .inl ⟨by simpa using h, by simp; omega⟩
    · exact .inr ⟨by simpa using h, by simp; omega⟩
  rcases ht with ⟨t1, t2⟩ | ⟨t1, t2⟩
  all_goals
    go_enter Try.func39, Try.ntmps39
    go_wp2
    first
      | (go_ret; exact ⟨rfl, (by repeat (first | exact Below.refl _ _ | apply Below.drew | apply Below.more1 | apply Below.alloc1 | (refine Below.setCell ?_ (by first | exact Nat.le_refl _ | (simp; done) | (simp; omega)) _)))⟩)
      | (refine bodyPost_ret (v := .bool false) (by simp [results, Try.results39, go_sem]) rfl ⟨rfl, (by repeat (first | exact Below.refl _ _ | apply Below.drew | apply Below.more1 | apply Below.alloc1 | (refine Below.setCell ?_ (by first | exact Nat.le_refl _ | (simp; done) | (simp; omega)) _)))⟩)

set_option maxRecDepth 100000 in
theorem zrun {w : World} (b : Nat) (c8 : w.cell? ⟨b, 8, none⟩ = some (.slice none 0 0)) (lt : b < w.heap.size) : Calls Try.prog 19 #[.pointer (some ⟨b, 0, none⟩)] w (Gives w (.agg #[.slice none 0 0, .slice none 0 0, .slice none 0 0, .slice none 0 0])) := by
  go_enter Try.func19, Try.ntmps19
  go_wp2
  first
    | (go_ret; exact ⟨rfl, (by repeat (first | exact Below.refl _ _ | apply Below.drew | apply Below.more1 | apply Below.alloc1 | (refine Below.setCell ?_ (by first | exact Nat.le_refl _ | (simp; done) | (simp; omega)) _)))⟩)
    | (refine bodyPost_ret (v := .agg #[.slice none 0 0, .slice none 0 0, .slice none 0 0, .slice none 0 0]) (by simp [results, Try.results19, go_sem]) rfl ⟨rfl, (by repeat (first | exact Below.refl _ _ | apply Below.drew | apply Below.more1 | apply Below.alloc1 | (refine Below.setCell ?_ (by first | exact Nat.le_refl _ | (simp; done) | (simp; omega)) _)))⟩)

set_option maxRecDepth 100000 in
theorem zcall {w : World} (b : Nat) (t : Int) (c8 : w.cell? ⟨b, 8, none⟩ = some (.slice none 0 0)) (lt : b < w.heap.size) : Calls Try.prog 37 #[.pointer (some ⟨b, 0, none⟩), .int .i64 t] w (Gives w (.tuple #[.agg #[.int .i64 0, .int .i64 0, .int .i64 0, .int .i64 0, .int .i64 0, .int .i64 0, .int .i64 0, .int .i64 0, .int .i64 0], .bool false])) := by
  have ht : (decide (t < 0) = true ∧ decide (0 ≤ t) = false) ∨ (decide (t < 0) = false ∧ decide (0 ≤ t) = true) := by
    by_cases h : t < 0
    · exact .inl ⟨by simpa using h, by simp; omega⟩
    · exact .inr ⟨by simpa using h, by simp; omega⟩
  rcases ht with ⟨t1, t2⟩ | ⟨t1, t2⟩
  all_goals
    go_enter Try.func37, Try.ntmps37
    go_wp2
    first
      | (go_ret; exact ⟨rfl, (by repeat (first | exact Below.refl _ _ | apply Below.drew | apply Below.more1 | apply Below.alloc1 | (refine Below.setCell ?_ (by first | exact Nat.le_refl _ | (simp; done) | (simp; omega)) _)))⟩)
      | (refine bodyPost_ret (v := .tuple #[.agg #[.int .i64 0, .int .i64 0, .int .i64 0, .int .i64 0, .int .i64 0, .int .i64 0, .int .i64 0, .int .i64 0, .int .i64 0], .bool false]) (by simp [results, Try.results37, go_sem]) rfl ⟨rfl, (by repeat (first | exact Below.refl _ _ | apply Below.drew | apply Below.more1 | apply Below.alloc1 | (refine Below.setCell ?_ (by first | exact Nat.le_refl _ | (simp; done) | (simp; omega)) _)))⟩)

set_option maxRecDepth 100000 in
theorem zempty {w : World}    : Calls Try.prog 40 #[.agg #[.slice none 0 0, .slice none 0 0, .slice none 0 0, .slice none 0 0]] w (Gives w (.bool true)) := by
  go_enter Try.func40, Try.ntmps40
  go_wp2
  first
    | (go_ret; exact ⟨rfl, (by repeat (first | exact Below.refl _ _ | apply Below.drew | apply Below.more1 | apply Below.alloc1 | (refine Below.setCell ?_ (by first | exact Nat.le_refl _ | (simp; done) | (simp; omega)) _)))⟩)
    | (refine bodyPost_ret (v := .bool true) (by simp [results, Try.results40, go_sem]) rfl ⟨rfl, (by repeat (first | exact Below.refl _ _ | apply Below.drew | apply Below.more1 | apply Below.alloc1 | (refine Below.setCell ?_ (by first | exact Nat.le_refl _ | (simp; done) | (simp; omega)) _)))⟩)

set_option maxRecDepth 100000 in
theorem zopen {w : World} (b : Nat) (a : Int) (c0 : w.cell? ⟨b, 0, none⟩ = some (.pointer none)) (_lt : b < w.heap.size) : Calls Try.prog 63 #[.pointer (some ⟨b, 0, none⟩), .int .i64 a] w (Gives w (.bool false)) := by
  go_enter Try.func63, Try.ntmps63
  go_wp2
  first
    | (go_ret; exact ⟨rfl, (by repeat (first | exact Below.refl _ _ | apply Below.drew | apply Below.more1 | apply Below.alloc1 | (refine Below.setCell ?_ (by first | exact Nat.le_refl _ | (simp; done) | (simp; omega)) _)))⟩)
    | (refine bodyPost_ret (v := .bool false) (by simp [results, Try.results63, go_sem]) rfl ⟨rfl, (by repeat (first | exact Below.refl _ _ | apply Below.drew | apply Below.more1 | apply Below.alloc1 | (refine Below.setCell ?_ (by first | exact Nat.le_refl _ | (simp; done) | (simp; omega)) _)))⟩)

set_option maxRecDepth 100000 in
theorem zthread {w : World} (b : Nat) (c0 : w.cell? ⟨b, 0, none⟩ = some (.pointer none)) (_lt : b < w.heap.size) : Calls Try.prog 45 #[.pointer (some ⟨b, 0, none⟩)] w (Gives w (.int .i64 0)) := by
  go_enter Try.func45, Try.ntmps45
  go_wp2
  first
    | (go_ret; exact ⟨rfl, (by repeat (first | exact Below.refl _ _ | apply Below.drew | apply Below.more1 | apply Below.alloc1 | (refine Below.setCell ?_ (by first | exact Nat.le_refl _ | (simp; done) | (simp; omega)) _)))⟩)
    | (refine bodyPost_ret (v := .int .i64 0) (by simp [results, Try.results45, go_sem]) rfl ⟨rfl, (by repeat (first | exact Below.refl _ _ | apply Below.drew | apply Below.more1 | apply Below.alloc1 | (refine Below.setCell ?_ (by first | exact Nat.le_refl _ | (simp; done) | (simp; omega)) _)))⟩)

set_option maxRecDepth 100000 in
theorem znow {w : World} (b : Nat) (c0 : w.cell? ⟨b, 0, none⟩ = some (.pointer none)) (_lt : b < w.heap.size) : Calls Try.prog 46 #[.pointer (some ⟨b, 0, none⟩)] w (Gives w (.int .i64 0)) := by
  go_enter Try.func46, Try.ntmps46
  go_wp2
  first
    | (go_ret; exact ⟨rfl, (by repeat (first | exact Below.refl _ _ | apply Below.drew | apply Below.more1 | apply Below.alloc1 | (refine Below.setCell ?_ (by first | exact Nat.le_refl _ | (simp; done) | (simp; omega)) _)))⟩)
    | (refine bodyPost_ret (v := .int .i64 0) (by simp [results, Try.results46, go_sem]) rfl ⟨rfl, (by repeat (first | exact Below.refl _ _ | apply Below.drew | apply Below.more1 | apply Below.alloc1 | (refine Below.setCell ?_ (by first | exact Nat.le_refl _ | (simp; done) | (simp; omega)) _)))⟩)

set_option maxRecDepth 100000 in
theorem zload {w : World} (b : Nat) (a : Int) (c0 : w.cell? ⟨b, 0, none⟩ = some (.pointer none)) (lt : b < w.heap.size) : Calls Try.prog 47 #[.pointer (some ⟨b, 0, none⟩), .int .i64 a] w (Gives w (.int .u64 0)) := by
  have HO := Lib.hid (fun (W : World) (os : Array Obj) (d : Nat) (h : W = w.more os d) => zopen (w := W) b a (by rw [h]; exact (World.cell?_of_block (World.heap_more _ _ _ _ lt)).trans c0) (by rw [h]; simp [World.size_more]; omega))
  have HO1 := Lib.hid (zopen (w := w) b a c0 lt)
  go_enter Try.func47, Try.ntmps47
  go_wp2_with (go_at_call 63; refine HO1.out.mono ?_; rintro e w1 ⟨rfl, hb⟩; obtain ⟨os, d, rfl⟩ := hb.more; clear hb)
  first
    | (go_ret; exact ⟨rfl, (by repeat (first | exact Below.refl _ _ | apply Below.drew | apply Below.more1 | apply Below.alloc1 | (refine Below.setCell ?_ (by first | exact Nat.le_refl _ | (simp; done) | (simp; omega)) _)))⟩)
    | (refine bodyPost_ret (v := .int .u64 0) (by simp [results, Try.results47, go_sem]) rfl ⟨rfl, (by repeat (first | exact Below.refl _ _ | apply Below.drew | apply Below.more1 | apply Below.alloc1 | (refine Below.setCell ?_ (by first | exact Nat.le_refl _ | (simp; done) | (simp; omega)) _)))⟩)

set_option maxRecDepth 100000 in
theorem zswap {w : World} (b : Nat) (a o x : Int) (c0 : w.cell? ⟨b, 0, none⟩ = some (.pointer none)) (lt : b < w.heap.size) : Calls Try.prog 48 #[.pointer (some ⟨b, 0, none⟩), .int .i64 a, .int .u64 o, .int .u64 x] w (Gives w (.bool false)) := by
  have HO := Lib.hid (fun (W : World) (os : Array Obj) (d : Nat) (h : W = w.more os d) => zopen (w := W) b a (by rw [h]; exact (World.cell?_of_block (World.heap_more _ _ _ _ lt)).trans c0) (by rw [h]; simp [World.size_more]; omega))
  have HO1 := Lib.hid (zopen (w := w) b a c0 lt)
  go_enter Try.func48, Try.ntmps48
  go_wp2_with (go_at_call 63; refine HO1.out.mono ?_; rintro e w1 ⟨rfl, hb⟩; obtain ⟨os, d, rfl⟩ := hb.more; clear hb)
  first
    | (go_ret; exact ⟨rfl, (by repeat (first | exact Below.refl _ _ | apply Below.drew | apply Below.more1 | apply Below.alloc1 | (refine Below.setCell ?_ (by first | exact Nat.le_refl _ | (simp; done) | (simp; omega)) _)))⟩)
    | (refine bodyPost_ret (v := .bool false) (by simp [results, Try.results48, go_sem]) rfl ⟨rfl, (by repeat (first | exact Below.refl _ _ | apply Below.drew | apply Below.more1 | apply Below.alloc1 | (refine Below.setCell ?_ (by first | exact Nat.le_refl _ | (simp; done) | (simp; omega)) _)))⟩)

set_option maxRecDepth 100000 in
theorem zstore {w : World} (b : Nat) (a x : Int) (c0 : w.cell? ⟨b, 0, none⟩ = some (.pointer none)) (lt : b < w.heap.size) : Calls Try.prog 41 #[.pointer (some ⟨b, 0, none⟩), .int .i64 a, .int .u64 x] w (GivesNone w) := by
  have HO := Lib.hid (fun (W : World) (os : Array Obj) (d : Nat) (h : W = w.more os d) => zopen (w := W) b a (by rw [h]; exact (World.cell?_of_block (World.heap_more _ _ _ _ lt)).trans c0) (by rw [h]; simp [World.size_more]; omega))
  have HO1 := Lib.hid (zopen (w := w) b a c0 lt)
  go_enter Try.func41, Try.ntmps41
  go_wp2_with (go_at_call 63; refine HO1.out.mono ?_; rintro e w1 ⟨rfl, hb⟩; obtain ⟨os, d, rfl⟩ := hb.more; clear hb)
  first
    | (refine bodyPost_ret (by simp [results, go_sem]; rfl) rfl ⟨⟨_, rfl⟩, (by repeat (first | exact Below.refl _ _ | apply Below.drew | apply Below.more1 | apply Below.alloc1 | (refine Below.setCell ?_ (by first | exact Nat.le_refl _ | (simp; done) | (simp; omega)) _)))⟩)
    | (go_end0; exact ⟨⟨_, rfl⟩, (by repeat (first | exact Below.refl _ _ | apply Below.drew | apply Below.more1 | apply Below.alloc1 | (refine Below.setCell ?_ (by first | exact Nat.le_refl _ | (simp; done) | (simp; omega)) _)))⟩)
    | (go_ret; exact ⟨⟨_, rfl⟩, (by repeat (first | exact Below.refl _ _ | apply Below.drew | apply Below.more1 | apply Below.alloc1 | (refine Below.setCell ?_ (by first | exact Nat.le_refl _ | (simp; done) | (simp; omega)) _)))⟩)

set_option maxRecDepth 100000 in
theorem zshift {w : World} (b : Nat) (a x y : Int) (c0 : w.cell? ⟨b, 0, none⟩ = some (.pointer none)) (_lt : b < w.heap.size) : Calls Try.prog 42 #[.pointer (some ⟨b, 0, none⟩), .int .i64 a, .int .i64 x, .int .i64 y] w (GivesNone w) := by
  go_enter Try.func42, Try.ntmps42
  go_wp2
  first
    | (refine bodyPost_ret (by simp [results, go_sem]; rfl) rfl ⟨⟨_, rfl⟩, (by repeat (first | exact Below.refl _ _ | apply Below.drew | apply Below.more1 | apply Below.alloc1 | (refine Below.setCell ?_ (by first | exact Nat.le_refl _ | (simp; done) | (simp; omega)) _)))⟩)
    | (go_end0; exact ⟨⟨_, rfl⟩, (by repeat (first | exact Below.refl _ _ | apply Below.drew | apply Below.more1 | apply Below.alloc1 | (refine Below.setCell ?_ (by first | exact Nat.le_refl _ | (simp; done) | (simp; omega)) _)))⟩)
    | (go_ret; exact ⟨⟨_, rfl⟩, (by repeat (first | exact Below.refl _ _ | apply Below.drew | apply Below.more1 | apply Below.alloc1 | (refine Below.setCell ?_ (by first | exact Nat.le_refl _ | (simp; done) | (simp; omega)) _)))⟩)

set_option maxRecDepth 100000 in
theorem zpoint {w : World} (b : Nat) (a : Int) (c0 : w.cell? ⟨b, 0, none⟩ = some (.pointer none)) (_lt : b < w.heap.size) : Calls Try.prog 43 #[.pointer (some ⟨b, 0, none⟩), .int .i64 a] w (GivesNone w) := by
  go_enter Try.func43, Try.ntmps43
  go_wp2
  first
    | (refine bodyPost_ret (by simp [results, go_sem]; rfl) rfl ⟨⟨_, rfl⟩, (by repeat (first | exact Below.refl _ _ | apply Below.drew | apply Below.more1 | apply Below.alloc1 | (refine Below.setCell ?_ (by first | exact Nat.le_refl _ | (simp; done) | (simp; omega)) _)))⟩)
    | (go_end0; exact ⟨⟨_, rfl⟩, (by repeat (first | exact Below.refl _ _ | apply Below.drew | apply Below.more1 | apply Below.alloc1 | (refine Below.setCell ?_ (by first | exact Nat.le_refl _ | (simp; done) | (simp; omega)) _)))⟩)
    | (go_ret; exact ⟨⟨_, rfl⟩, (by repeat (first | exact Below.refl _ _ | apply Below.drew | apply Below.more1 | apply Below.alloc1 | (refine Below.setCell ?_ (by first | exact Nat.le_refl _ | (simp; done) | (simp; omega)) _)))⟩)

set_option maxRecDepth 100000 in
theorem zanswer {w : World} (b : Nat) (a x : Int) (c0 : w.cell? ⟨b, 0, none⟩ = some (.pointer none)) (lt : b < w.heap.size) : Calls Try.prog 44 #[.pointer (some ⟨b, 0, none⟩), .agg #[.int .i64 a, .int .i64 x]] w (GivesNone w) := by
  go_enter Try.func44, Try.ntmps44
  go_wp2
  first
    | (refine bodyPost_ret (by simp [results, go_sem]; rfl) rfl ⟨⟨_, rfl⟩, (by repeat (first | exact Below.refl _ _ | apply Below.drew | apply Below.more1 | apply Below.alloc1 | (refine Below.setCell ?_ (by first | exact Nat.le_refl _ | (simp; done) | (simp; omega)) _)))⟩)
    | (go_end0; exact ⟨⟨_, rfl⟩, (by repeat (first | exact Below.refl _ _ | apply Below.drew | apply Below.more1 | apply Below.alloc1 | (refine Below.setCell ?_ (by first | exact Nat.le_refl _ | (simp; done) | (simp; omega)) _)))⟩)
    | (go_ret; exact ⟨⟨_, rfl⟩, (by repeat (first | exact Below.refl _ _ | apply Below.drew | apply Below.more1 | apply Below.alloc1 | (refine Below.setCell ?_ (by first | exact Nat.le_refl _ | (simp; done) | (simp; omega)) _)))⟩)

end Go.Proofs.Ytbhbpfpggfcpgaa
