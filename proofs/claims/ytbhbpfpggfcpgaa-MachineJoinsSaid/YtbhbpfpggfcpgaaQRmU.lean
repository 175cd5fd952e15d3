/-
reclaimref03: a fresh thread's cells, as the literal builds them.
-/
import Derived.Test.YtbhbpfpggfcpgaaQRmP
import Derived.Great.BuildSlice
namespace Go.Proofs.Ytbhbpfpggfcpgaa
open Go.ChangeShapes Go.WideShapes Go.ChangeAt Go.RowKit Go.Shelf

def thrCells : Array Value := RT.new.cells.toArray
theorem thrCells_size : thrCells.size = 658 := by kernel_rfl
theorem thrCells_one : ∀ u ∈ thrCells.toList, u.oneCell' = true := by
  have : thrCells.toList.all (·.oneCell') = true := by kernel_rfl
  exact List.all_eq_true.1 this
set_option maxRecDepth 100000 in
theorem thr_built : Try.prog.built 149 [(6, Value.int .i64 (-1))] = some thrCells := by kernel_rfl
theorem buildThr (w : World) : (Instr.build 149 #[(6, .int .i64 (-1))]).run Try.prog w = .ok (.agg thrCells) w := run_build w _ _ _ thr_built
theorem infoThr : (Try.prog.info? 149).map (fun i => (i.zero.map (·.cells.size), i.size, i.bytes)) = some (some 658, 658, 5360) := by kernel_rfl
theorem infoThr' : ∃ i z, Try.prog.info? 149 = some i ∧ i.zero = some z ∧ i.size = 658 ∧ i.bytes = 5360 ∧ z.cells.size = 658 := by
  have h := infoThr
  cases hi : Try.prog.info? 149 with
  | none => simp [hi] at h
  | some i =>
    simp only [hi, Option.map_some, Option.some.injEq, Prod.mk.injEq] at h
    obtain ⟨h1, h2, h3⟩ := h
    cases hz : i.zero with
    | none => simp [hz] at h1
    | some z => exact ⟨i, z, rfl, hz, h2, h3, by simpa [hz] using h1⟩
theorem buildSliceThr (w : World) : (Instr.buildSlice 83 1 #[(0, .agg thrCells)]).run Try.prog w = .ok (.slice (some ⟨w.heap.size, 0, none⟩) 1 1) (w.alloc (.cells thrCells 149)) := by
  obtain ⟨i, z, h1, h2, h3, h4, h5⟩ := infoThr'
  refine run_buildSlice w _ _ 1 _ thrCells i z Try.underlying83 h1 h2 (by rw [h3]; omega) (by rw [h3]; omega) ?_
  rw [h3]
  have := Great.fill_whole (s := 658) (by omega) [Value.agg thrCells] ((Array.range (1 * 658)).map (z.cells[· % z.cells.size]!)) (fun v hv => by rw [List.mem_singleton.1 hv]; exact thrCells_size) (by simp)
  simpa [Value.cells] using this
theorem thr_fill {z : Value} (_h5 : z.cells.size = 658) : Instr.fill (fun i => some (i * 658, 658)) ((Array.range (1 * 658)).map (z.cells[· % z.cells.size]!)) [(0, .agg thrCells)] = some thrCells := by
  have := Great.fill_whole (s := 658) (by omega) [Value.agg thrCells] ((Array.range (1 * 658)).map (z.cells[· % z.cells.size]!)) (fun v hv => by rw [List.mem_singleton.1 hv]; exact thrCells_size) (by simp)
  simpa [Value.cells] using this
theorem at_buildR (ty : TypeId) {P : Program} {ops : Array Oper} {rest : List Oper} {a : Act} {w : World} {Q : Exit → Act → World → Prop} {d : Option Tmp} {x : Array (Nat × Operand)} {t : TypeId} {p : String} {af : Array Edge}
    (h : wpList P ops Q ({ dst := d, op := .build ty x, type := t, pos := p, after := af, guard := none } :: rest) a w) : wpList P ops Q ({ dst := d, op := .build ty x, type := t, pos := p, after := af, guard := none } :: rest) a w := h
theorem wpList_bsThr {ops : Array Oper} {rest : List Oper} {a : Act} {w : World} {Q : Exit → Act → World → Prop} {d : Option Tmp} {x : Operand} {t : TypeId} {p : String} {af : Array Edge} (hx : a.eval x = .agg thrCells)
    (h : wpList Try.prog ops Q rest (a.put d (.slice (some ⟨w.heap.size, 0, none⟩) 1 1)) (w.alloc (.cells thrCells 149))) : wpList Try.prog ops Q ({ dst := d, op := .buildSlice 83 1 #[(0, x)], type := t, pos := p, after := af, guard := none } :: rest) a w := by
  obtain ⟨i, z, h1, h2, h3, h4, h5⟩ := infoThr'
  refine wpList_buildSlice rfl 83 149 1 #[(0, x)] rfl thrCells i z Try.underlying83 h1 h2 (by rw [h3]; omega) (by rw [h3]; omega) ?_ h
  rw [h3]
  have e : (#[(0, x)].map fun (y : Nat × Operand) => (y.1, a.eval y.2)).toList = [(0, .agg thrCells)] := by simp [hx]
  exact (congrArg _ e).trans (thr_fill h5)
theorem srcThr (w : World) : (w.alloc (.cells thrCells 149)).Src 658 (.slice (some ⟨w.heap.size, 0, none⟩) 1 1) 1 thrCells.toList := World.Src.one thrCells_size rfl
theorem new_len (j : Nat) : (List.replicate j RT.new).length = j := List.length_replicate
end Go.Proofs.Ytbhbpfpggfcpgaa
