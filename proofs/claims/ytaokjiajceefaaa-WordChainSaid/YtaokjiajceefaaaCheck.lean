/-
word.Check and reclaimref01.Config: whether a configuration may be.
-/
import Derived.Test.YtaokjiajceefaaaRows
import Derived.Test.YtaokjiajceefaaaPlain
import Derived.LoopN
import Derived.Deep.WholeRow
namespace Go.Proofs.Ytaokjiajceefaaa
open Go.ChangeShapes Go.WideShapes Go.ChangeAt Go.RowKit

theorem wpList_store_new {P : Program} {ops : Array Oper} {rest : List Oper} {o : Oper} {a : Act} {w : World} {Q : Exit → Act → World → Prop} (hgd : o.guard = none) (ty : TypeId) (x y : Operand) (ho : o.op = .store ty x y)
    (cells old : Array Value) (hx : a.eval x = .pointer (some ⟨w.heap.size, 0, none⟩)) (hy : a.eval y = .agg cells)
    (t : TypeId) (hi : (P.info? ty).map (·.size) = some cells.size)
    (hold : old.size = cells.size) (h1 : cells.all (·.oneCell') = true)
    (h : wpList P ops Q rest (a.put o.dst undef) (w.alloc (.cells cells t))) : wpList P ops Q (o :: rest) a (w.alloc (.cells old t)) :=
  wpList_store_row hgd ty x y ho w.heap.size cells hx hy t old (heap_alloc_last w _) hi hold h1 (by rw [World.setRow_alloc_new]; exact h)

theorem wpList_load_new {P : Program} {ops : Array Oper} {rest : List Oper} {o : Oper} {a : Act} {w : World} {Q : Exit → Act → World → Prop} (hgd : o.guard = none) (ty : TypeId) (x : Operand) (ho : o.op = .load ty x)
    (cells : Array Value) (hx : a.eval x = .pointer (some ⟨w.heap.size, 0, none⟩))
    (t : TypeId) (d : TypeDesc) (hu : P.underlying ty = some d) (hd : (match d with | .struct _ | .array _ _ => true | _ => false) = true) (hi : (P.info? ty).map (·.size) = some cells.size)
    (h : wpList P ops Q rest (a.put o.dst (.agg cells)) (w.alloc (.cells cells t))) : wpList P ops Q (o :: rest) a (w.alloc (.cells cells t)) :=
  wpList_load_row hgd ty x ho w.heap.size hx t cells (0, 0) d (heap_alloc_last w _) hu hd hi h

/-- guards: the next operation is a store (a load) of that type -/
theorem at_store (ty : TypeId) {P : Program} {ops : Array Oper} {rest : List Oper} {a : Act} {w : World} {Q : Exit → Act → World → Prop} {d : Option Tmp} {x y : Operand} {t : TypeId} {p : String} {af : Array Edge}
    (h : wpList P ops Q ({ dst := d, op := .store ty x y, type := t, pos := p, after := af, guard := none } :: rest) a w) : wpList P ops Q ({ dst := d, op := .store ty x y, type := t, pos := p, after := af, guard := none } :: rest) a w := h
theorem at_load (ty : TypeId) {P : Program} {ops : Array Oper} {rest : List Oper} {a : Act} {w : World} {Q : Exit → Act → World → Prop} {d : Option Tmp} {x : Operand} {t : TypeId} {p : String} {af : Array Edge}
    (h : wpList P ops Q ({ dst := d, op := .load ty x, type := t, pos := p, after := af, guard := none } :: rest) a w) : wpList P ops Q ({ dst := d, op := .load ty x, type := t, pos := p, after := af, guard := none } :: rest) a w := h

def nth7 (a0 a1 a2 a3 a4 a5 a6 : Int) (k : Nat) : Int := ([a0, a1, a2, a3, a4, a5, a6] : List Int).getD k 0
def limLo (k : Nat) : Int := ([1, 1, 3, 1, 0, 1, 1] : List Int).getD k 0
def limHi (k : Nat) : Int := ([16, 16, 8, 1024, 64, 1024, 64] : List Int).getD k 0
def okUpto (v : Nat → Int) (k : Nat) : Prop := ∀ j, j < k → limLo j ≤ v j ∧ v j ≤ limHi j
/-- a configuration that may be -/
def okCfg (a0 a1 a2 a3 a4 a5 a6 : Int) : Bool :=
  decide (1 ≤ a0) && decide (a0 ≤ 16) && decide (1 ≤ a1) && decide (a1 ≤ 16) && decide (3 ≤ a2) && decide (a2 ≤ 8) && decide (1 ≤ a3) && decide (a3 ≤ 1024) &&
    decide (0 ≤ a4) && decide (a4 ≤ 64) && decide (1 ≤ a5) && decide (a5 ≤ 1024) && decide (1 ≤ a6) && decide (a6 ≤ 64)

/-- the error of a configuration -/
def cfgErr (a0 a1 a2 a3 a4 a5 a6 : Int) : Int := if okCfg a0 a1 a2 a3 a4 a5 a6 then 0 else 1

theorem okUpto_succ {v : Nat → Int} {k : Nat} (h : okUpto v k) (h1 : limLo k ≤ v k) (h2 : v k ≤ limHi k) : okUpto v (k + 1) := by
  intro j hj
  by_cases e : j = k
  · subst e; exact ⟨h1, h2⟩
  · exact h j (by omega)

theorem okUpto_seven {a0 a1 a2 a3 a4 a5 a6 : Int} (h : okUpto (nth7 a0 a1 a2 a3 a4 a5 a6) 7) : okCfg a0 a1 a2 a3 a4 a5 a6 = true := by
  have h0 := h 0 (by omega); have h1 := h 1 (by omega); have h2 := h 2 (by omega); have h3 := h 3 (by omega)
  have h4 := h 4 (by omega); have h5 := h 5 (by omega); have h6 := h 6 (by omega)
  simp [nth7, limLo, limHi] at h0 h1 h2 h3 h4 h5 h6
  simp [okCfg]; omega

theorem okUpto_bad {a0 a1 a2 a3 a4 a5 a6 : Int} {k : Nat} (hk : k < 7) (h : nth7 a0 a1 a2 a3 a4 a5 a6 k < limLo k ∨ limHi k < nth7 a0 a1 a2 a3 a4 a5 a6 k) : okCfg a0 a1 a2 a3 a4 a5 a6 = false := by
  rw [← Bool.not_eq_true]
  intro hok
  simp [okCfg] at hok
  rcases (by omega : k = 0 ∨ k = 1 ∨ k = 2 ∨ k = 3 ∨ k = 4 ∨ k = 5 ∨ k = 6) with rfl | rfl | rfl | rfl | rfl | rfl | rfl <;> simp [nth7, limLo, limHi] at h <;> omega

theorem row0 (a0 a1 a2 a3 a4 a5 a6 : Int) (w : World) : (Instr.index 65 (.agg #[.int .i64 a0, .int .i64 1, .int .i64 16, .int .i64 a1, .int .i64 1, .int .i64 16, .int .i64 a2, .int .i64 3, .int .i64 8, .int .i64 a3, .int .i64 1, .int .i64 1024, .int .i64 a4, .int .i64 0, .int .i64 64, .int .i64 a5, .int .i64 1, .int .i64 1024, .int .i64 a6, .int .i64 1, .int .i64 64]) (.int .i64 0)).run Try.prog w = .ok (.agg #[.int .i64 a0, .int .i64 1, .int .i64 16]) w := by kernel_rfl
theorem row1 (a0 a1 a2 a3 a4 a5 a6 : Int) (w : World) : (Instr.index 65 (.agg #[.int .i64 a0, .int .i64 1, .int .i64 16, .int .i64 a1, .int .i64 1, .int .i64 16, .int .i64 a2, .int .i64 3, .int .i64 8, .int .i64 a3, .int .i64 1, .int .i64 1024, .int .i64 a4, .int .i64 0, .int .i64 64, .int .i64 a5, .int .i64 1, .int .i64 1024, .int .i64 a6, .int .i64 1, .int .i64 64]) (.int .i64 1)).run Try.prog w = .ok (.agg #[.int .i64 a1, .int .i64 1, .int .i64 16]) w := by kernel_rfl
theorem row2 (a0 a1 a2 a3 a4 a5 a6 : Int) (w : World) : (Instr.index 65 (.agg #[.int .i64 a0, .int .i64 1, .int .i64 16, .int .i64 a1, .int .i64 1, .int .i64 16, .int .i64 a2, .int .i64 3, .int .i64 8, .int .i64 a3, .int .i64 1, .int .i64 1024, .int .i64 a4, .int .i64 0, .int .i64 64, .int .i64 a5, .int .i64 1, .int .i64 1024, .int .i64 a6, .int .i64 1, .int .i64 64]) (.int .i64 2)).run Try.prog w = .ok (.agg #[.int .i64 a2, .int .i64 3, .int .i64 8]) w := by kernel_rfl
theorem row3 (a0 a1 a2 a3 a4 a5 a6 : Int) (w : World) : (Instr.index 65 (.agg #[.int .i64 a0, .int .i64 1, .int .i64 16, .int .i64 a1, .int .i64 1, .int .i64 16, .int .i64 a2, .int .i64 3, .int .i64 8, .int .i64 a3, .int .i64 1, .int .i64 1024, .int .i64 a4, .int .i64 0, .int .i64 64, .int .i64 a5, .int .i64 1, .int .i64 1024, .int .i64 a6, .int .i64 1, .int .i64 64]) (.int .i64 3)).run Try.prog w = .ok (.agg #[.int .i64 a3, .int .i64 1, .int .i64 1024]) w := by kernel_rfl
theorem row4 (a0 a1 a2 a3 a4 a5 a6 : Int) (w : World) : (Instr.index 65 (.agg #[.int .i64 a0, .int .i64 1, .int .i64 16, .int .i64 a1, .int .i64 1, .int .i64 16, .int .i64 a2, .int .i64 3, .int .i64 8, .int .i64 a3, .int .i64 1, .int .i64 1024, .int .i64 a4, .int .i64 0, .int .i64 64, .int .i64 a5, .int .i64 1, .int .i64 1024, .int .i64 a6, .int .i64 1, .int .i64 64]) (.int .i64 4)).run Try.prog w = .ok (.agg #[.int .i64 a4, .int .i64 0, .int .i64 64]) w := by kernel_rfl
theorem row5 (a0 a1 a2 a3 a4 a5 a6 : Int) (w : World) : (Instr.index 65 (.agg #[.int .i64 a0, .int .i64 1, .int .i64 16, .int .i64 a1, .int .i64 1, .int .i64 16, .int .i64 a2, .int .i64 3, .int .i64 8, .int .i64 a3, .int .i64 1, .int .i64 1024, .int .i64 a4, .int .i64 0, .int .i64 64, .int .i64 a5, .int .i64 1, .int .i64 1024, .int .i64 a6, .int .i64 1, .int .i64 64]) (.int .i64 5)).run Try.prog w = .ok (.agg #[.int .i64 a5, .int .i64 1, .int .i64 1024]) w := by kernel_rfl
theorem row6 (a0 a1 a2 a3 a4 a5 a6 : Int) (w : World) : (Instr.index 65 (.agg #[.int .i64 a0, .int .i64 1, .int .i64 16, .int .i64 a1, .int .i64 1, .int .i64 16, .int .i64 a2, .int .i64 3, .int .i64 8, .int .i64 a3, .int .i64 1, .int .i64 1024, .int .i64 a4, .int .i64 0, .int .i64 64, .int .i64 a5, .int .i64 1, .int .i64 1024, .int .i64 a6, .int .i64 1, .int .i64 64]) (.int .i64 6)).run Try.prog w = .ok (.agg #[.int .i64 a6, .int .i64 1, .int .i64 64]) w := by kernel_rfl

theorem rowAt (a0 a1 a2 a3 a4 a5 a6 : Int) (k : Nat) (hk : k < 7) (w : World) : (Instr.index 65 (.agg #[.int .i64 a0, .int .i64 1, .int .i64 16, .int .i64 a1, .int .i64 1, .int .i64 16, .int .i64 a2, .int .i64 3, .int .i64 8, .int .i64 a3, .int .i64 1, .int .i64 1024, .int .i64 a4, .int .i64 0, .int .i64 64, .int .i64 a5, .int .i64 1, .int .i64 1024, .int .i64 a6, .int .i64 1, .int .i64 64]) (.int .i64 (k : Int))).run Try.prog w =
    .ok (.agg #[.int .i64 (nth7 a0 a1 a2 a3 a4 a5 a6 k), .int .i64 (limLo k), .int .i64 (limHi k)]) w := by
  rcases (by omega : k = 0 ∨ k = 1 ∨ k = 2 ∨ k = 3 ∨ k = 4 ∨ k = 5 ∨ k = 6) with rfl | rfl | rfl | rfl | rfl | rfl | rfl
  · exact row0 a0 a1 a2 a3 a4 a5 a6 w
  · exact row1 a0 a1 a2 a3 a4 a5 a6 w
  · exact row2 a0 a1 a2 a3 a4 a5 a6 w
  · exact row3 a0 a1 a2 a3 a4 a5 a6 w
  · exact row4 a0 a1 a2 a3 a4 a5 a6 w
  · exact row5 a0 a1 a2 a3 a4 a5 a6 w
  · exact row6 a0 a1 a2 a3 a4 a5 a6 w

theorem info73 : (Try.prog.info? 65).map (·.size) = some 21 := by kernel_rfl

theorem check_any (a0 a1 a2 a3 a4 a5 a6 : Int) (w : World) : Calls Try.prog 16 #[.agg #[.int .i64 a0, .int .i64 a1, .int .i64 a2, .int .i64 a3, .int .i64 a4, .int .i64 a5, .int .i64 a6]] w fun e w' =>
    e = .returned (.int .i64 (cfgErr a0 a1 a2 a3 a4 a5 a6)) ∧ Below w.heap.size w w' := by
  go_enter Try.func16, Try.ntmps16
  go_wp2_with (first
    | ((with_reducible refine at_store 65 ?_); refine wpList_store_new rfl 65 (.tmp 3) (.tmp 27) rfl #[.int .i64 a0, .int .i64 1, .int .i64 16, .int .i64 a1, .int .i64 1, .int .i64 16, .int .i64 a2, .int .i64 3, .int .i64 8, .int .i64 a3, .int .i64 1, .int .i64 1024, .int .i64 a4, .int .i64 0, .int .i64 64, .int .i64 a5, .int .i64 1, .int .i64 1024, .int .i64 a6, .int .i64 1, .int .i64 64] _ (by rw [World.size_alloc]; rfl) rfl 65 info73 rfl (by simp [Value.oneCell']) ?_)
    | ((with_reducible refine at_load 65 ?_); refine wpList_load_new rfl 65 (.tmp 3) rfl _ (by rw [World.size_alloc]; rfl) 65 _ Try.underlying65 rfl info73 ?_))
  go_loopw [29] (fun i wr => ∃ k : Nat, k ≤ 7 ∧ i = .int .i64 k ∧ okUpto (nth7 a0 a1 a2 a3 a4 a5 a6) k ∧ Below w.heap.size w wr) (fun i _ => 7 - (intOf i).toNat)
  case atStart => exact ⟨0, by omega, rfl, fun j hj => by omega, ((Below.refl _ _).alloc (Nat.le_refl _) _).alloc (by simp) _⟩
  case round =>
    obtain ⟨k, hk, rfl, hok, hb⟩ := hrel
    have HOK := Lib.hid hok; clear hok
    have HB := Lib.hid hb; clear hb
    by_cases hlt : k < 7
    · have hrow := rowAt a0 a1 a2 a3 a4 a5 a6 k hlt
      go_wp2
      · rename_i h
        go_ret
        exact ⟨ret_int (by simp [cfgErr, okUpto_bad hlt h]), (HB.out.alloc HB.out.size _)⟩
      · rename_i h
        go_round
        case rel => exact ⟨k + 1, by omega, by go_num, okUpto_succ HOK.out h.1 h.2, (HB.out.alloc HB.out.size _)⟩
        case measure => simp [intOf]; omega
      · rename_i h
        go_ret
        exact ⟨ret_int (by simp [cfgErr, okUpto_bad hlt (Or.inl h)]), (HB.out.alloc HB.out.size _)⟩
    · go_wp2
      go_ret
      obtain rfl : k = 7 := by omega
      exact ⟨ret_int (by simp [cfgErr, okUpto_seven HOK.out]), HB.out⟩

theorem small_any (w : World) : Calls Try.prog 17 #[] w fun e w' =>
    e = .returned (.agg #[.int .i64 2, .int .i64 2, .int .i64 3, .int .i64 1, .int .i64 0, .int .i64 4, .int .i64 2]) ∧ Below w.heap.size w w' := by
  go_enter Try.func17, Try.ntmps17
  go_wp2
  exact bodyPost_ret (v := .agg #[.int .i64 2, .int .i64 2, .int .i64 3, .int .i64 1, .int .i64 0, .int .i64 4, .int .i64 2]) (by simp [results, Try.results17, go_sem]) rfl ⟨rfl, (Below.refl _ _).alloc (Nat.le_refl _) _⟩

end Go.Proofs.Ytaokjiajceefaaa
