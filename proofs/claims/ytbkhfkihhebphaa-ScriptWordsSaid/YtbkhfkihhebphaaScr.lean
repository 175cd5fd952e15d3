/-
script: the table of ops: byOp, byWord, Word, Op; the reference's Word and Op.
-/
import Derived.Test.YtbkhfkihhebphaaRows
import Derived.Test.YtbkhfkihhebphaaPlain
import Derived.Test.YtbkhfkihhebphaaMore
import Derived.LoopN
import Derived.Outline
import Derived.Deep.WholeRow
import Derived.Great.BuildSlice
namespace Go.Proofs.Ytbkhfkihhebphaa
open Go.ChangeShapes Go.WideShapes Go.ChangeAt Go.RowKit

theorem wpList_store_new {P : Program} {ops : Array Oper} {rest : List Oper} {o : Oper} {a : Act} {w : World} {Q : Exit → Act → World → Prop} (hgd : o.guard = none) (ty : TypeId) (x y : Operand) (ho : o.op = .store ty x y)
    (cells old : Array Value) (hx : a.eval x = .pointer (some ⟨w.heap.size, 0, none⟩)) (hy : a.eval y = .agg cells)
    (t : TypeId) (hi : (P.info? ty).map (·.size) = some cells.size)
    (hold : old.size = cells.size) (h1 : cells.all (·.oneCell') = true)
    (h : wpList P ops Q rest (a.put o.dst undef) (w.alloc (.cells cells t))) : wpList P ops Q (o :: rest) a (w.alloc (.cells old t)) :=
  wpList_store_row hgd ty x y ho w.heap.size cells hx hy t old (heap_alloc_last w _) hi hold h1 (by rw [World.setRow_alloc_new]; exact h)

theorem wpList_load_new {P : Program} {ops : Array Oper} {rest : List Oper} {o : Oper} {a : Act} {w : World} {Q : Exit → Act → World → Prop} (hgd : o.guard = none) (ty : TypeId) (x : Operand) (ho : o.op = .load ty x)
    (cells : Array Value) (hx : a.eval x = .pointer (some ⟨w.heap.size, 0, none⟩))
    (t : TypeId) (d : TypeDesc) (hu : P.underlying ty = some d) (hd : (match d with | .struct _ | .array _ _ => true | _ => false) = true) (hi : (P.info? ty).map (·.size) = some cells.size)
    (h : wpList P ops Q rest (a.put o.dst (.agg cells)) (w.alloc (.cells cells t))) : wpList P ops Q (o :: rest) a (w.alloc (.cells cells t)) :=
  wpList_load_row hgd ty x ho w.heap.size hx t cells (0, 0) d (heap_alloc_last w _) hu hd hi h

/-- guards: the next operation is a store (a load) of that type -/
theorem at_store (ty : TypeId) {P : Program} {ops : Array Oper} {rest : List Oper} {a : Act} {w : World} {Q : Exit → Act → World → Prop} {d : Option Tmp} {x y : Operand} {t : TypeId} {p : String} {af : Array Edge}
    (h : wpList P ops Q ({ dst := d, op := .store ty x y, type := t, pos := p, after := af, guard := none } :: rest) a w) : wpList P ops Q ({ dst := d, op := .store ty x y, type := t, pos := p, after := af, guard := none } :: rest) a w := h
theorem at_load (ty : TypeId) {P : Program} {ops : Array Oper} {rest : List Oper} {a : Act} {w : World} {Q : Exit → Act → World → Prop} {d : Option Tmp} {x : Operand} {t : TypeId} {p : String} {af : Array Edge}
    (h : wpList P ops Q ({ dst := d, op := .load ty x, type := t, pos := p, after := af, guard := none } :: rest) a w) : wpList P ops Q ({ dst := d, op := .load ty x, type := t, pos := p, after := af, guard := none } :: rest) a w := h


theorem at_build (ty : TypeId) {P : Program} {ops : Array Oper} {rest : List Oper} {a : Act} {w : World} {Q : Exit → Act → World → Prop} {d : Option Tmp} {x : Array (Nat × Operand)} {t : TypeId} {p : String} {af : Array Edge}
    (h : wpList P ops Q ({ dst := d, op := .build ty x, type := t, pos := p, after := af, guard := none } :: rest) a w) : wpList P ops Q ({ dst := d, op := .build ty x, type := t, pos := p, after := af, guard := none } :: rest) a w := h

def entOps : List Int := [1, 2, 10, 11, 12, 20, 21, 22, 23, 24, 25, 30, 31, 40, 41, 50, 51, 52, 60, 61, 62]
def entWs : List ByteArray := [⟨#[108, 111, 111, 107]⟩, ⟨#[98, 117, 109, 112]⟩, ⟨#[116, 97, 107, 101]⟩, ⟨#[103, 105, 118, 101]⟩, ⟨#[102, 108, 117, 115, 104]⟩, ⟨#[114, 101, 103, 105, 115, 116, 101, 114]⟩, ⟨#[117, 110, 114, 101, 103, 105, 115, 116, 101, 114]⟩, ⟨#[112, 111, 115, 116]⟩, ⟨#[114, 101, 97, 100]⟩, ⟨#[99, 108, 101, 97, 114]⟩, ⟨#[115, 99, 97, 110]⟩, ⟨#[112, 117, 115, 104]⟩, ⟨#[112, 111, 112]⟩, ⟨#[101, 110, 113, 117, 101, 117, 101]⟩, ⟨#[100, 101, 113, 117, 101, 117, 101]⟩, ⟨#[105, 110, 115, 101, 114, 116]⟩, ⟨#[100, 101, 108, 101, 116, 101]⟩, ⟨#[99, 111, 110, 116, 97, 105, 110, 115]⟩, ⟨#[97, 100, 100]⟩, ⟨#[114, 101, 109, 111, 118, 101]⟩, ⟨#[103, 101, 116]⟩]
def entMs : List Int := [1, 1, 0, 1, 0, 0, 0, 1, 1, 1, 0, 1, 0, 1, 0, 1, 1, 1, 2, 1, 1]
def entOp (k : Nat) : Int := entOps.getD k 0
def entW (k : Nat) : ByteArray := entWs.getD k ⟨#[]⟩
def entM (k : Nat) : Int := entMs.getD k 0
def entAgg (k : Nat) : Value := .agg #[.int .i64 (entOp k), .string (entW k), .int .i64 (entM k)]
def entCells : Array Value := #[.int .i64 1, .string ⟨#[108, 111, 111, 107]⟩, .int .i64 1, .int .i64 2, .string ⟨#[98, 117, 109, 112]⟩, .int .i64 1, .int .i64 10, .string ⟨#[116, 97, 107, 101]⟩, .int .i64 0, .int .i64 11, .string ⟨#[103, 105, 118, 101]⟩, .int .i64 1, .int .i64 12, .string ⟨#[102, 108, 117, 115, 104]⟩, .int .i64 0, .int .i64 20, .string ⟨#[114, 101, 103, 105, 115, 116, 101, 114]⟩, .int .i64 0, .int .i64 21, .string ⟨#[117, 110, 114, 101, 103, 105, 115, 116, 101, 114]⟩, .int .i64 0, .int .i64 22, .string ⟨#[112, 111, 115, 116]⟩, .int .i64 1, .int .i64 23, .string ⟨#[114, 101, 97, 100]⟩, .int .i64 1, .int .i64 24, .string ⟨#[99, 108, 101, 97, 114]⟩, .int .i64 1, .int .i64 25, .string ⟨#[115, 99, 97, 110]⟩, .int .i64 0, .int .i64 30, .string ⟨#[112, 117, 115, 104]⟩, .int .i64 1, .int .i64 31, .string ⟨#[112, 111, 112]⟩, .int .i64 0, .int .i64 40, .string ⟨#[101, 110, 113, 117, 101, 117, 101]⟩, .int .i64 1, .int .i64 41, .string ⟨#[100, 101, 113, 117, 101, 117, 101]⟩, .int .i64 0, .int .i64 50, .string ⟨#[105, 110, 115, 101, 114, 116]⟩, .int .i64 1, .int .i64 51, .string ⟨#[100, 101, 108, 101, 116, 101]⟩, .int .i64 1, .int .i64 52, .string ⟨#[99, 111, 110, 116, 97, 105, 110, 115]⟩, .int .i64 1, .int .i64 60, .string ⟨#[97, 100, 100]⟩, .int .i64 2, .int .i64 61, .string ⟨#[114, 101, 109, 111, 118, 101]⟩, .int .i64 1, .int .i64 62, .string ⟨#[103, 101, 116]⟩, .int .i64 1]
def entTab : Value := .agg entCells
def opFind (x : Int) : Nat := entOps.findIdx fun y => decide (y = x)
def wFind (s : ByteArray) : Nat := entWs.findIdx fun y => decide (y = s)

theorem ent0 (w : World) : (Instr.index 80 entTab (.int .i64 0)).run Try.prog w = .ok (entAgg 0) w := by kernel_rfl
theorem ent1 (w : World) : (Instr.index 80 entTab (.int .i64 1)).run Try.prog w = .ok (entAgg 1) w := by kernel_rfl
theorem ent2 (w : World) : (Instr.index 80 entTab (.int .i64 2)).run Try.prog w = .ok (entAgg 2) w := by kernel_rfl
theorem ent3 (w : World) : (Instr.index 80 entTab (.int .i64 3)).run Try.prog w = .ok (entAgg 3) w := by kernel_rfl
theorem ent4 (w : World) : (Instr.index 80 entTab (.int .i64 4)).run Try.prog w = .ok (entAgg 4) w := by kernel_rfl
theorem ent5 (w : World) : (Instr.index 80 entTab (.int .i64 5)).run Try.prog w = .ok (entAgg 5) w := by kernel_rfl
theorem ent6 (w : World) : (Instr.index 80 entTab (.int .i64 6)).run Try.prog w = .ok (entAgg 6) w := by kernel_rfl
theorem ent7 (w : World) : (Instr.index 80 entTab (.int .i64 7)).run Try.prog w = .ok (entAgg 7) w := by kernel_rfl
theorem ent8 (w : World) : (Instr.index 80 entTab (.int .i64 8)).run Try.prog w = .ok (entAgg 8) w := by kernel_rfl
theorem ent9 (w : World) : (Instr.index 80 entTab (.int .i64 9)).run Try.prog w = .ok (entAgg 9) w := by kernel_rfl
theorem ent10 (w : World) : (Instr.index 80 entTab (.int .i64 10)).run Try.prog w = .ok (entAgg 10) w := by kernel_rfl
theorem ent11 (w : World) : (Instr.index 80 entTab (.int .i64 11)).run Try.prog w = .ok (entAgg 11) w := by kernel_rfl
theorem ent12 (w : World) : (Instr.index 80 entTab (.int .i64 12)).run Try.prog w = .ok (entAgg 12) w := by kernel_rfl
theorem ent13 (w : World) : (Instr.index 80 entTab (.int .i64 13)).run Try.prog w = .ok (entAgg 13) w := by kernel_rfl
theorem ent14 (w : World) : (Instr.index 80 entTab (.int .i64 14)).run Try.prog w = .ok (entAgg 14) w := by kernel_rfl
theorem ent15 (w : World) : (Instr.index 80 entTab (.int .i64 15)).run Try.prog w = .ok (entAgg 15) w := by kernel_rfl
theorem ent16 (w : World) : (Instr.index 80 entTab (.int .i64 16)).run Try.prog w = .ok (entAgg 16) w := by kernel_rfl
theorem ent17 (w : World) : (Instr.index 80 entTab (.int .i64 17)).run Try.prog w = .ok (entAgg 17) w := by kernel_rfl
theorem ent18 (w : World) : (Instr.index 80 entTab (.int .i64 18)).run Try.prog w = .ok (entAgg 18) w := by kernel_rfl
theorem ent19 (w : World) : (Instr.index 80 entTab (.int .i64 19)).run Try.prog w = .ok (entAgg 19) w := by kernel_rfl
theorem ent20 (w : World) : (Instr.index 80 entTab (.int .i64 20)).run Try.prog w = .ok (entAgg 20) w := by kernel_rfl

theorem entAt (k : Nat) (hk : k < 21) (w : World) : (Instr.index 80 entTab (.int .i64 (k : Int))).run Try.prog w = .ok (entAgg k) w := by
  rcases (by omega : k = 0 ∨ k = 1 ∨ k = 2 ∨ k = 3 ∨ k = 4 ∨ k = 5 ∨ k = 6 ∨ k = 7 ∨ k = 8 ∨ k = 9 ∨ k = 10 ∨ k = 11 ∨ k = 12 ∨ k = 13 ∨ k = 14 ∨ k = 15 ∨ k = 16 ∨ k = 17 ∨ k = 18 ∨ k = 19 ∨ k = 20) with rfl | rfl | rfl | rfl | rfl | rfl | rfl | rfl | rfl | rfl | rfl | rfl | rfl | rfl | rfl | rfl | rfl | rfl | rfl | rfl | rfl
  · exact ent0 w
  · exact ent1 w
  · exact ent2 w
  · exact ent3 w
  · exact ent4 w
  · exact ent5 w
  · exact ent6 w
  · exact ent7 w
  · exact ent8 w
  · exact ent9 w
  · exact ent10 w
  · exact ent11 w
  · exact ent12 w
  · exact ent13 w
  · exact ent14 w
  · exact ent15 w
  · exact ent16 w
  · exact ent17 w
  · exact ent18 w
  · exact ent19 w
  · exact ent20 w

theorem opFind_eq {x : Int} {r : Nat} (hr : r ≤ 21) (h1 : ∀ j, j < r → entOp j ≠ x) (h2 : r < 21 → entOp r = x) : opFind x = r := by
  have hlen : entOps.length = 21 := rfl
  unfold opFind
  by_cases h : r < 21
  · rw [List.findIdx_eq (by omega)]
    refine ⟨?_, fun j hj => ?_⟩
    · have := h2 h
      rw [← this]
      simp [entOp, hlen, h]
    · have := h1 j hj
      simp only [entOp, List.getD_eq_getElem?_getD, List.getElem?_eq_getElem (show j < entOps.length by omega), Option.getD_some] at this
      simpa using this
  · obtain rfl : r = 21 := by omega
    have : List.findIdx (fun y => decide (y = x)) entOps = entOps.length := by
      apply List.findIdx_eq_length_of_false
      intro y hy
      obtain ⟨j, hj, rfl⟩ := List.getElem_of_mem hy
      have := h1 j (by omega)
      simp only [entOp, List.getD_eq_getElem?_getD, List.getElem?_eq_getElem hj, Option.getD_some] at this
      simpa using this
    exact this
theorem wFind_eq {s : ByteArray} {r : Nat} (hr : r ≤ 21) (h1 : ∀ j, j < r → entW j ≠ s) (h2 : r < 21 → entW r = s) : wFind s = r := by
  have hlen : entWs.length = 21 := rfl
  unfold wFind
  by_cases h : r < 21
  · rw [List.findIdx_eq (by omega)]
    refine ⟨?_, fun j hj => ?_⟩
    · have := h2 h
      rw [← this]
      simp [entW, hlen, h]
    · have := h1 j hj
      simp only [entW, List.getD_eq_getElem?_getD, List.getElem?_eq_getElem (show j < entWs.length by omega), Option.getD_some] at this
      simpa using this
  · obtain rfl : r = 21 := by omega
    have : List.findIdx (fun y => decide (y = s)) entWs = entWs.length := by
      apply List.findIdx_eq_length_of_false
      intro y hy
      obtain ⟨j, hj, rfl⟩ := List.getElem_of_mem hy
      have := h1 j (by omega)
      simp only [entW, List.getD_eq_getElem?_getD, List.getElem?_eq_getElem hj, Option.getD_some] at this
      simpa using this
    exact this

theorem info21 : (Try.prog.info? 80).map (·.size) = some entCells.size := by kernel_rfl

theorem entOne : entCells.all (·.oneCell') = true := by kernel_rfl
set_option maxHeartbeats 1000000 in
theorem entries_any (w : World) : Calls Try.prog 27 #[] w fun e w' => e = .returned entTab ∧ Below w.heap.size w w' := by
  go_enter Try.func27, Try.ntmps27
  go_wp2_with (first
    | ((with_reducible refine at_build 80 ?_); refine wpList_buildTo rfl 80 _ rfl (some 22) rfl entCells (by as_aux_lemma => kernel_rfl) ?_)
    | ((with_reducible refine at_store 80 ?_); refine wpList_store_new rfl 80 (.tmp 0) (.tmp 22) rfl entCells _ rfl rfl 80 info21 rfl entOne ?_))
  exact bodyPost_ret (v := entTab) (results_cell_row rfl _ _ w.heap.size 80 entCells (0, 0) _ rfl (heap_alloc_last w _) Try.underlying80 rfl info21) rfl ⟨rfl, (Below.refl _ _).alloc (Nat.le_refl _) _⟩
end Go.Proofs.Ytbkhfkihhebphaa
