/-
A law's frame, once for all: a function of one bool result, whose call returns true and leaves all older blocks as they were, meets 'for every input true, and each argument reads as it read'. Over any program.
Openers: a struct of integer fields, as a value and at its cells. Written by wip/genopen.py. Over any program.
A world with new blocks at its end: 'w.more os d'. What a call leaves that only makes memory of its own: so that the walk goes on over a written world.
Rows: a slice that reads as a list of cells and whose block is the program's own (RowV), or that holds nothing; what an append leaves of it (run_append_row).
A row of integers of one kind as a function of the place: what stands in a block that 'make' has laid. Rules for the walk.
-/
import Derived.WalkKit
import Derived.ProofKit
import Derived.OpenShut
import Derived.Carry
import Derived.SizedLaws
import Derived.Deep.QuietTactic
import Derived.BigQuiet
import Derived.Maps.AppendAt
import Derived.Deep.DeepAppendWide
import Derived.Deep.OwnRows
namespace Go.Proofs.Ytbhbpfpggfcpgaa
open Go.ChangeShapes Go.WideShapes Go.ChangeAt Go.RowKit

section
variable {H : Type} {enc : TypeId × Value → H} {P : Program}

theorem below_trodAll (hl : laidOutB P = true) {W W' : World} (hb : Below W.heap.size W W') :
    ∀ {ts : List TypeId} {vs : List Value} {ds : List (DataW H)} {ps : List MemPlace}, (∀ t ∈ ts, P.readableRec t = true ∧ t < P.types.size) →
      DataW.TrodAll enc P W 0 (fun _ => true) true ts vs ds ps → (∀ x ∈ ps, x.block < W.heap.size) →
      DataW.TrodAll enc P W' 0 (fun b => decide (b < W.heap.size)) true ts vs ds ps := by
  intro ts
  induction ts with
  | nil =>
    intro vs ds ps _ h _
    cases vs <;> cases ds <;> simp_all [DataW.TrodAll]
  | cons t ts ih =>
    intro vs ds ps hr h hp
    cases vs with
    | nil => cases ds <;> simp [DataW.TrodAll] at h
    | cons v vs =>
      cases ds with
      | nil => simp [DataW.TrodAll] at h
      | cons d ds =>
        obtain ⟨p, q, h1, h2, rfl⟩ := h
        have hrt := hr t (by simp)
        exact ⟨p, q, Below.trod hl hrt.1 hrt.2 h1 hb (fun x hx => hp x (by simp [hx])), ih (fun t' ht' => hr t' (by simp [ht'])) h2 (fun x hx => hp x (by simp [hx])), rfl⟩

theorem trodAll_len {w : World} {base : Nat} {spare : Nat → Bool} {held : Bool} : ∀ {ts : List TypeId} {vs : List Value} {ds : List (DataW H)} {ps : List MemPlace},
    DataW.TrodAll enc P w base spare held ts vs ds ps → ds.length = ts.length := by
  intro ts
  induction ts with
  | nil => intro vs ds ps h; cases vs <;> cases ds <;> simp_all [DataW.TrodAll]
  | cons t ts ih =>
    intro vs ds ps h
    cases vs with
    | nil => cases ds <;> simp [DataW.TrodAll] at h
    | cons v vs =>
      cases ds with
      | nil => simp [DataW.TrodAll] at h
      | cons d ds =>
        obtain ⟨p, q, h1, h2, rfl⟩ := h
        simp [ih h2]

/-- The frame of a law. -/
theorem lift_law {C : Checked} {os : Os} {f : FuncId} {fn : Func} {s : ChangeSpec} {T : TypeId}
    (own : ownKnob C.prog.godebug = none) (started : os.Started) (noInit : C.prog.inits.idxOf? f = none) (hfn : C.prog.funcs[f]? = some fn)
    (witness : ∃ (w : World) (tape : Tape) (i : Input), w.os = os ∧ (w.forCall tape i).Shaped C.prog ∧ i.vars = [] ∧ Input.okWide C.prog (w.forCall tape i) .any w.heap.size f i ∧
      s.pre6 enc C.prog fn [] false (w.forCall tape i).memory i.args ∧ Assume.holds {} C.prog (lone (Frame.enter C.prog f i.args .normal) [] (w.forCall tape i)))
    (hv : s.vars = []) (hrt : fn.resultTypes = #[T]) (hT : C.prog.underlying T = some .bool) (hl : laidOutB C.prog = true)
    (hread : ∀ t ∈ fn.params.toList, C.prog.readableRec t = true ∧ t < C.prog.types.size)
    (hspec : ∀ ds : List (DataW H), ds.length = fn.params.size → s.fn H ds = { results := [.lit (.bool true)], args := ds })
    (contract : ∀ (W : World) (base : Nat) (args : Array Value) (ds : List (DataW H)) (ps : List MemPlace),
      (∀ (j : Nat) t v, fn.params[j]? = some t → args[j]? = some v → Value.okWide C.prog W .any base t v) →
      DataW.TrodAll enc C.prog W 0 (fun _ => true) true fn.params.toList args.toList ds ps →
      (DataW.weightsEach C.prog fn.params.toList ds).all (· ≤ reachBytes) = true →
      Calls C.prog f args W fun e W' => e = .returned (.bool true) ∧ Below W.heap.size W W') :
    ReturnsInHanded {} C os f .any (s.pre6 enc C.prog fn [] false) (s.post enc C.prog fn false true false false) := by
  refine returnsInHanded_of_change_sized own started noInit hfn witness ?_
  intro W base args ds gs before hval hW _ hwt _
  have hW' := hW
  obtain ⟨p, q, hA, hV, hpq, hfz, hnd⟩ := hW
  rw [hv] at hV
  obtain ⟨hgs, hq⟩ := trodVars_none hV
  subst hgs; subst hq
  simp only [List.append_nil] at hpq
  subst hpq
  have hlt : ∀ x ∈ before, x.block < W.heap.size := fun x hx => hW'.lt x hx
  have hlen : ds.length = fn.params.size := by rw [trodAll_len hA]; simp
  have hvt : s.plain.varTypes C.prog = [] := by simp [DataSpec.varTypes, ChangeSpec.plain, hv]
  rw [hvt] at hwt
  simp only [List.append_nil] at hwt
  refine (contract W base args ds before hval hA hwt).mono fun e W' ⟨he, hb⟩ => ?_
  refine ⟨.bool true, he, ds, [], before, [], before, [], hW', ?_, ?_, ?_, hb.frame _, fun h => by cases h⟩
  · rw [List.append_nil, hspec ds hlen, hrt]
    exact trodAll_mk1 (shut_bool hT true)
  · rw [List.append_nil, hspec ds hlen]
    exact below_trodAll hl hb hread hA hlt
  · rw [List.append_nil, hspec ds hlen, hv]
    rfl
end
end Go.Proofs.Ytbhbpfpggfcpgaa
namespace Go.Proofs.Ytbhbpfpggfcpgaa
open Go.ChangeShapes Go.WideShapes Go.ChangeAt Go.RowKit
section
variable {H : Type} {enc : TypeId × Value → H} {P : Program} {w : World} {base : Nat} {spare : Nat → Bool} {held : Bool}

theorem trod_ints3 {t : TypeId} {k0 k1 k2 : IntKind} {f0 f1 f2 : Field} {fuel : Nat} {cs : List Value} {x : DataW H × List MemPlace} (ht : P.underlying t = some (.struct #[f0, f1, f2])) (hC : P.cellsOf t = 3) (h0 : P.underlying f0.type = some (.int k0)) (c0 : P.cellsOf f0.type = 1) (o0 : f0.offset = 0) (h1 : P.underlying f1.type = some (.int k1)) (c1 : P.cellsOf f1.type = 1) (o1 : f1.offset = 1) (h2 : P.underlying f2.type = some (.int k2)) (c2 : P.cellsOf f2.type = 1) (o2 : f2.offset = 2)
    (h : DataW.trod enc P w base spare held fuel t cs = some x) : ∃ a0 a1 a2 : Int, cs = [.int k0 a0, .int k1 a1, .int k2 a2] ∧ (Lit.int k0 a0).wf = true ∧ (Lit.int k1 a1).wf = true ∧ (Lit.int k2 a2).wf = true := by
  obtain ⟨xs, n, _, _, hl, hlen, hf⟩ := DataW.trod_struct ht h
  rw [hC] at hl
  obtain ⟨v0, v1, v2, rfl⟩ : ∃ v0 v1 v2, cs = [v0, v1, v2] := by
    match cs, hl with
    | [v0, v1, v2], _ => exact ⟨v0, v1, v2, rfl⟩
  simp only [List.size_toArray, List.length_cons, List.length_nil] at hlen
  have g0 := hf 0 f0 rfl
  rw [c0, o0, List.getElem?_eq_getElem (by omega)] at g0
  obtain ⟨a0, e0, _, w0⟩ := DataW.trod_int h0 g0
  simp at e0
  subst e0
  have g1 := hf 1 f1 rfl
  rw [c1, o1, List.getElem?_eq_getElem (by omega)] at g1
  obtain ⟨a1, e1, _, w1⟩ := DataW.trod_int h1 g1
  simp at e1
  subst e1
  have g2 := hf 2 f2 rfl
  rw [c2, o2, List.getElem?_eq_getElem (by omega)] at g2
  obtain ⟨a2, e2, _, w2⟩ := DataW.trod_int h2 g2
  simp at e2
  subst e2
  exact ⟨a0, a1, a2, rfl, w0, w1, w2⟩

theorem open_ints3 {r : Reach} {b0 : Nat} {t : TypeId} {k0 k1 k2 : IntKind} {f0 f1 f2 : Field} {v : Value} {d : DataW H} {ps : List MemPlace} (ht : P.underlying t = some (.struct #[f0, f1, f2])) (hC : P.cellsOf t = 3) (h0 : P.underlying f0.type = some (.int k0)) (c0 : P.cellsOf f0.type = 1) (o0 : f0.offset = 0) (h1 : P.underlying f1.type = some (.int k1)) (c1 : P.cellsOf f1.type = 1) (o1 : f1.offset = 1) (h2 : P.underlying f2.type = some (.int k2)) (c2 : P.cellsOf f2.type = 1) (o2 : f2.offset = 2)
    (hval : Value.okWide P w r b0 t v) (hd : DataW.Trod enc P w base spare held t v d ps) : ∃ a0 a1 a2 : Int, v = .agg #[.int k0 a0, .int k1 a1, .int k2 a2] ∧ (Lit.int k0 a0).wf = true ∧ (Lit.int k1 a1).wf = true ∧ (Lit.int k2 a2).wf = true := by
  obtain ⟨cs, rfl, _⟩ := okWide_struct ht hval
  obtain ⟨fuel, hf⟩ := hd
  obtain ⟨a0, a1, a2, e, hw⟩ := trod_ints3 ht hC h0 c0 o0 h1 c1 o1 h2 c2 o2 hf
  refine ⟨a0, a1, a2, ?_, hw⟩
  simp only [Value.cells] at e
  rw [← e]


theorem trod_ints7 {t : TypeId} {k0 k1 k2 k3 k4 k5 k6 : IntKind} {f0 f1 f2 f3 f4 f5 f6 : Field} {fuel : Nat} {cs : List Value} {x : DataW H × List MemPlace} (ht : P.underlying t = some (.struct #[f0, f1, f2, f3, f4, f5, f6])) (hC : P.cellsOf t = 7) (h0 : P.underlying f0.type = some (.int k0)) (c0 : P.cellsOf f0.type = 1) (o0 : f0.offset = 0) (h1 : P.underlying f1.type = some (.int k1)) (c1 : P.cellsOf f1.type = 1) (o1 : f1.offset = 1) (h2 : P.underlying f2.type = some (.int k2)) (c2 : P.cellsOf f2.type = 1) (o2 : f2.offset = 2) (h3 : P.underlying f3.type = some (.int k3)) (c3 : P.cellsOf f3.type = 1) (o3 : f3.offset = 3) (h4 : P.underlying f4.type = some (.int k4)) (c4 : P.cellsOf f4.type = 1) (o4 : f4.offset = 4) (h5 : P.underlying f5.type = some (.int k5)) (c5 : P.cellsOf f5.type = 1) (o5 : f5.offset = 5) (h6 : P.underlying f6.type = some (.int k6)) (c6 : P.cellsOf f6.type = 1) (o6 : f6.offset = 6)
    (h : DataW.trod enc P w base spare held fuel t cs = some x) : ∃ a0 a1 a2 a3 a4 a5 a6 : Int, cs = [.int k0 a0, .int k1 a1, .int k2 a2, .int k3 a3, .int k4 a4, .int k5 a5, .int k6 a6] ∧ (Lit.int k0 a0).wf = true ∧ (Lit.int k1 a1).wf = true ∧ (Lit.int k2 a2).wf = true ∧ (Lit.int k3 a3).wf = true ∧ (Lit.int k4 a4).wf = true ∧ (Lit.int k5 a5).wf = true ∧ (Lit.int k6 a6).wf = true := by
  obtain ⟨xs, n, _, _, hl, hlen, hf⟩ := DataW.trod_struct ht h
  rw [hC] at hl
  obtain ⟨v0, v1, v2, v3, v4, v5, v6, rfl⟩ : ∃ v0 v1 v2 v3 v4 v5 v6, cs = [v0, v1, v2, v3, v4, v5, v6] := by
    match cs, hl with
    | [v0, v1, v2, v3, v4, v5, v6], _ => exact ⟨v0, v1, v2, v3, v4, v5, v6, rfl⟩
  simp only [List.size_toArray, List.length_cons, List.length_nil] at hlen
  have g0 := hf 0 f0 rfl
  rw [c0, o0, List.getElem?_eq_getElem (by omega)] at g0
  obtain ⟨a0, e0, _, w0⟩ := DataW.trod_int h0 g0
  simp at e0
  subst e0
  have g1 := hf 1 f1 rfl
  rw [c1, o1, List.getElem?_eq_getElem (by omega)] at g1
  obtain ⟨a1, e1, _, w1⟩ := DataW.trod_int h1 g1
  simp at e1
  subst e1
  have g2 := hf 2 f2 rfl
  rw [c2, o2, List.getElem?_eq_getElem (by omega)] at g2
  obtain ⟨a2, e2, _, w2⟩ := DataW.trod_int h2 g2
  simp at e2
  subst e2
  have g3 := hf 3 f3 rfl
  rw [c3, o3, List.getElem?_eq_getElem (by omega)] at g3
  obtain ⟨a3, e3, _, w3⟩ := DataW.trod_int h3 g3
  simp at e3
  subst e3
  have g4 := hf 4 f4 rfl
  rw [c4, o4, List.getElem?_eq_getElem (by omega)] at g4
  obtain ⟨a4, e4, _, w4⟩ := DataW.trod_int h4 g4
  simp at e4
  subst e4
  have g5 := hf 5 f5 rfl
  rw [c5, o5, List.getElem?_eq_getElem (by omega)] at g5
  obtain ⟨a5, e5, _, w5⟩ := DataW.trod_int h5 g5
  simp at e5
  subst e5
  have g6 := hf 6 f6 rfl
  rw [c6, o6, List.getElem?_eq_getElem (by omega)] at g6
  obtain ⟨a6, e6, _, w6⟩ := DataW.trod_int h6 g6
  simp at e6
  subst e6
  exact ⟨a0, a1, a2, a3, a4, a5, a6, rfl, w0, w1, w2, w3, w4, w5, w6⟩

theorem open_ints7 {r : Reach} {b0 : Nat} {t : TypeId} {k0 k1 k2 k3 k4 k5 k6 : IntKind} {f0 f1 f2 f3 f4 f5 f6 : Field} {v : Value} {d : DataW H} {ps : List MemPlace} (ht : P.underlying t = some (.struct #[f0, f1, f2, f3, f4, f5, f6])) (hC : P.cellsOf t = 7) (h0 : P.underlying f0.type = some (.int k0)) (c0 : P.cellsOf f0.type = 1) (o0 : f0.offset = 0) (h1 : P.underlying f1.type = some (.int k1)) (c1 : P.cellsOf f1.type = 1) (o1 : f1.offset = 1) (h2 : P.underlying f2.type = some (.int k2)) (c2 : P.cellsOf f2.type = 1) (o2 : f2.offset = 2) (h3 : P.underlying f3.type = some (.int k3)) (c3 : P.cellsOf f3.type = 1) (o3 : f3.offset = 3) (h4 : P.underlying f4.type = some (.int k4)) (c4 : P.cellsOf f4.type = 1) (o4 : f4.offset = 4) (h5 : P.underlying f5.type = some (.int k5)) (c5 : P.cellsOf f5.type = 1) (o5 : f5.offset = 5) (h6 : P.underlying f6.type = some (.int k6)) (c6 : P.cellsOf f6.type = 1) (o6 : f6.offset = 6)
    (hval : Value.okWide P w r b0 t v) (hd : DataW.Trod enc P w base spare held t v d ps) : ∃ a0 a1 a2 a3 a4 a5 a6 : Int, v = .agg #[.int k0 a0, .int k1 a1, .int k2 a2, .int k3 a3, .int k4 a4, .int k5 a5, .int k6 a6] ∧ (Lit.int k0 a0).wf = true ∧ (Lit.int k1 a1).wf = true ∧ (Lit.int k2 a2).wf = true ∧ (Lit.int k3 a3).wf = true ∧ (Lit.int k4 a4).wf = true ∧ (Lit.int k5 a5).wf = true ∧ (Lit.int k6 a6).wf = true := by
  obtain ⟨cs, rfl, _⟩ := okWide_struct ht hval
  obtain ⟨fuel, hf⟩ := hd
  obtain ⟨a0, a1, a2, a3, a4, a5, a6, e, hw⟩ := trod_ints7 ht hC h0 c0 o0 h1 c1 o1 h2 c2 o2 h3 c3 o3 h4 c4 o4 h5 c5 o5 h6 c6 o6 hf
  refine ⟨a0, a1, a2, a3, a4, a5, a6, ?_, hw⟩
  simp only [Value.cells] at e
  rw [← e]


theorem trod_ints4 {t : TypeId} {k0 k1 k2 k3 : IntKind} {f0 f1 f2 f3 : Field} {fuel : Nat} {cs : List Value} {x : DataW H × List MemPlace} (ht : P.underlying t = some (.struct #[f0, f1, f2, f3])) (hC : P.cellsOf t = 4) (h0 : P.underlying f0.type = some (.int k0)) (c0 : P.cellsOf f0.type = 1) (o0 : f0.offset = 0) (h1 : P.underlying f1.type = some (.int k1)) (c1 : P.cellsOf f1.type = 1) (o1 : f1.offset = 1) (h2 : P.underlying f2.type = some (.int k2)) (c2 : P.cellsOf f2.type = 1) (o2 : f2.offset = 2) (h3 : P.underlying f3.type = some (.int k3)) (c3 : P.cellsOf f3.type = 1) (o3 : f3.offset = 3)
    (h : DataW.trod enc P w base spare held fuel t cs = some x) : ∃ a0 a1 a2 a3 : Int, cs = [.int k0 a0, .int k1 a1, .int k2 a2, .int k3 a3] ∧ (Lit.int k0 a0).wf = true ∧ (Lit.int k1 a1).wf = true ∧ (Lit.int k2 a2).wf = true ∧ (Lit.int k3 a3).wf = true := by
  obtain ⟨xs, n, _, _, hl, hlen, hf⟩ := DataW.trod_struct ht h
  rw [hC] at hl
  obtain ⟨v0, v1, v2, v3, rfl⟩ : ∃ v0 v1 v2 v3, cs = [v0, v1, v2, v3] := by
    match cs, hl with
    | [v0, v1, v2, v3], _ => exact ⟨v0, v1, v2, v3, rfl⟩
  simp only [List.size_toArray, List.length_cons, List.length_nil] at hlen
  have g0 := hf 0 f0 rfl
  rw [c0, o0, List.getElem?_eq_getElem (by omega)] at g0
  obtain ⟨a0, e0, _, w0⟩ := DataW.trod_int h0 g0
  simp at e0
  subst e0
  have g1 := hf 1 f1 rfl
  rw [c1, o1, List.getElem?_eq_getElem (by omega)] at g1
  obtain ⟨a1, e1, _, w1⟩ := DataW.trod_int h1 g1
  simp at e1
  subst e1
  have g2 := hf 2 f2 rfl
  rw [c2, o2, List.getElem?_eq_getElem (by omega)] at g2
  obtain ⟨a2, e2, _, w2⟩ := DataW.trod_int h2 g2
  simp at e2
  subst e2
  have g3 := hf 3 f3 rfl
  rw [c3, o3, List.getElem?_eq_getElem (by omega)] at g3
  obtain ⟨a3, e3, _, w3⟩ := DataW.trod_int h3 g3
  simp at e3
  subst e3
  exact ⟨a0, a1, a2, a3, rfl, w0, w1, w2, w3⟩

theorem open_ints4 {r : Reach} {b0 : Nat} {t : TypeId} {k0 k1 k2 k3 : IntKind} {f0 f1 f2 f3 : Field} {v : Value} {d : DataW H} {ps : List MemPlace} (ht : P.underlying t = some (.struct #[f0, f1, f2, f3])) (hC : P.cellsOf t = 4) (h0 : P.underlying f0.type = some (.int k0)) (c0 : P.cellsOf f0.type = 1) (o0 : f0.offset = 0) (h1 : P.underlying f1.type = some (.int k1)) (c1 : P.cellsOf f1.type = 1) (o1 : f1.offset = 1) (h2 : P.underlying f2.type = some (.int k2)) (c2 : P.cellsOf f2.type = 1) (o2 : f2.offset = 2) (h3 : P.underlying f3.type = some (.int k3)) (c3 : P.cellsOf f3.type = 1) (o3 : f3.offset = 3)
    (hval : Value.okWide P w r b0 t v) (hd : DataW.Trod enc P w base spare held t v d ps) : ∃ a0 a1 a2 a3 : Int, v = .agg #[.int k0 a0, .int k1 a1, .int k2 a2, .int k3 a3] ∧ (Lit.int k0 a0).wf = true ∧ (Lit.int k1 a1).wf = true ∧ (Lit.int k2 a2).wf = true ∧ (Lit.int k3 a3).wf = true := by
  obtain ⟨cs, rfl, _⟩ := okWide_struct ht hval
  obtain ⟨fuel, hf⟩ := hd
  obtain ⟨a0, a1, a2, a3, e, hw⟩ := trod_ints4 ht hC h0 c0 o0 h1 c1 o1 h2 c2 o2 h3 c3 o3 hf
  refine ⟨a0, a1, a2, a3, ?_, hw⟩
  simp only [Value.cells] at e
  rw [← e]



end
end Go.Proofs.Ytbhbpfpggfcpgaa
namespace Go
open Go.RowKit

/-- the world with the blocks os behind its own, and a count of draws -/
def World.more (w : World) (os : Array Obj) (d : Nat) : World := { w with heap := w.heap ++ os, drawn := d }

@[go_sem] theorem World.size_more (w : World) (os : Array Obj) (d : Nat) : (w.more os d).heap.size = w.heap.size + os.size := by simp [World.more]
@[go_sem] theorem World.more_drew (w : World) (os : Array Obj) (d : Nat) : (w.more os d).drew = w.more os (d + 1) := rfl

theorem World.heap_more (w : World) (os : Array Obj) (d : Nat) (b : Nat) (h : b < w.heap.size) : (w.more os d).heap[b]? = w.heap[b]? := by
  simp [World.more, Array.getElem?_append, h]

/-- names for what lies beyond: so that no rule turns for ever -/
def World.cellPast (w : World) (os : Array Obj) (d b o : Nat) : Option Value := (w.more os d).cell? ⟨b, o, none⟩
def World.frozenPast (w : World) (os : Array Obj) (d b o : Nat) : Bool := (w.more os d).frozen? ⟨b, o, none⟩
def World.setPast (w : World) (os : Array Obj) (d b o : Nat) (v : Value) : World := (w.more os d).setCell ⟨b, o, none⟩ v

theorem World.cell?_more_lt (w : World) (os : Array Obj) (d : Nat) (b o : Nat) (h : b < w.heap.size) : (w.more os d).cell? ⟨b, o, none⟩ = w.cell? ⟨b, o, none⟩ :=
  World.cell?_of_block (w := w) (w.heap_more os d b h)
theorem World.frozen?_more_lt (w : World) (os : Array Obj) (d : Nat) (b o : Nat) (h : b < w.heap.size) : (w.more os d).frozen? ⟨b, o, none⟩ = w.frozen? ⟨b, o, none⟩ :=
  World.frozen?_of_block (w := w) (w.heap_more os d b h)
theorem World.setCell_more_lt (w : World) (os : Array Obj) (d : Nat) (b o : Nat) (v : Value) (h : b < w.heap.size) : (w.more os d).setCell ⟨b, o, none⟩ v = (w.setCell ⟨b, o, none⟩ v).more os d := by
  simp only [World.setCell, World.more]
  congr 1
  apply Array.ext_getElem?
  intro i
  simp only [Array.getElem?_modify, Array.getElem?_append, Array.size_modify]
  by_cases hb : b = i
  · subst hb; simp [h]
  · simp [hb]

/- the same as tests that arithmetic decides -/
@[go_sem] theorem World.cell?_more (w : World) (os : Array Obj) (d : Nat) (b o : Nat) : (w.more os d).cell? ⟨b, o, none⟩ = if b < w.heap.size then w.cell? ⟨b, o, none⟩ else w.cellPast os d b o := by
  split
  · exact World.cell?_more_lt _ _ _ _ _ ‹_›
  · rfl
@[go_sem] theorem World.frozen?_more (w : World) (os : Array Obj) (d : Nat) (b o : Nat) : (w.more os d).frozen? ⟨b, o, none⟩ = if b < w.heap.size then w.frozen? ⟨b, o, none⟩ else w.frozenPast os d b o := by
  split
  · exact World.frozen?_more_lt _ _ _ _ _ ‹_›
  · rfl
@[go_sem] theorem World.setCell_more (w : World) (os : Array Obj) (d : Nat) (b o : Nat) (v : Value) : (w.more os d).setCell ⟨b, o, none⟩ v = if b < w.heap.size then (w.setCell ⟨b, o, none⟩ v).more os d else w.setPast os d b o v := by
  split
  · exact World.setCell_more_lt _ _ _ _ _ _ ‹_›
  · rfl
@[go_sem low] theorem World.cell?_alloc_ite (w : World) (c : Array Value) (t : TypeId) (f : Nat × Nat) (b o : Nat) : (w.alloc (.cells c t f)).cell? ⟨b, o, none⟩ = if b = w.heap.size then c[o]? else w.cell? ⟨b, o, none⟩ := by
  split
  · subst_vars
    simp only [World.alloc, World.cell?, Array.getElem?_push, ↓reduceIte]
    simp
  · exact World.cell?_alloc_old _ _ _ ‹_›
@[go_sem low] theorem World.frozen?_alloc_ite (w : World) (c : Array Value) (t : TypeId) (b o : Nat) : (w.alloc (.cells c t)).frozen? ⟨b, o, none⟩ = if b = w.heap.size then false else w.frozen? ⟨b, o, none⟩ := by
  split
  · subst_vars
    simp only [World.alloc, World.frozen?, Array.getElem?_push, ↓reduceIte]
    simp
  · exact World.frozen?_alloc_old _ _ _ ‹_›
@[go_sem low] theorem World.setCell_alloc_ite (w : World) (c : Array Value) (t : TypeId) (b o : Nat) (v : Value) : (w.alloc (.cells c t)).setCell ⟨b, o, none⟩ v = if b = w.heap.size then w.alloc (.cells (c.setIfInBounds o v) t) else (w.setCell ⟨b, o, none⟩ v).alloc (.cells c t) := by
  split
  · exact World.setCell_alloc_at _ _ _ _ _ ‹_›
  · rename_i h
    simp only [World.setCell, World.alloc]
    congr 1
    apply Array.ext_getElem?
    intro i
    simp only [Array.getElem?_modify, Array.getElem?_push, Array.size_modify]
    by_cases hb : b = i
    · subst hb; simp [h]
    · simp [hb]

theorem RowKit.Below.more {w w' : World} (h : Below w.heap.size w w') : ∃ os d, w' = w.more os d := by
  refine ⟨w'.heap.extract w.heap.size w'.heap.size, w'.drawn, ?_⟩
  obtain ⟨h1, h2, h3, h4, h5⟩ := h
  cases w'
  simp only at h1 h2 h3 h4 h5
  subst h1; subst h2; subst h3
  simp only [World.more]
  congr 1
  apply Array.ext_getElem?
  intro i
  by_cases hi : i < w.heap.size
  · rw [h5 i hi]; simp [Array.getElem?_append, hi]
  · simp [Array.getElem?_append, hi, Array.getElem?_extract]
    by_cases hj : i < Array.size ‹_›
    · rw [if_pos (by omega)]
      congr 1
      omega
    · rw [if_neg (by omega)]
      simp at hj
      simp [Array.getElem?_eq_none hj]

theorem RowKit.Below.of_more {B : Nat} {w w' : World} (h : Below B w w') (hB : B ≤ w'.heap.size) (os : Array Obj) (d : Nat) : Below B w (w'.more os d) :=
  h.trans ⟨rfl, rfl, rfl, by simp [World.more], fun k hk => World.heap_more _ _ _ _ (by omega)⟩

/-- the steps of a 'Below' whose floor is the first heap's size -/
theorem RowKit.Below.more1 {w W : World} (h : Below w.heap.size w W) (os : Array Obj) (d : Nat) : Below w.heap.size w (W.more os d) := h.of_more h.size os d
theorem RowKit.Below.alloc1 {w W : World} (h : Below w.heap.size w W) (o : Obj) : Below w.heap.size w (W.alloc o) := h.alloc h.size o

/-! A region that draws its order, whose operations read and whose calls only make memory: one walk, in the order of the text (over Derived/Deep/Quiet.lean's theorem, at the class 'the world with more blocks'). -/
structure Growth where
  os : Array Obj
  d : Nat
instance : Nonempty Growth := ⟨⟨#[], 0⟩⟩

theorem wp_region_more_lit {P : Program} {id : Nat} {Q : Exit → Act → World → Prop} {a : Act} {w : World} {l : List Oper} (hm : P.follows .mixedOrders = true) (hB : Region.lexB .any l.toArray = true)
    (h : wpQuiet P l.toArray (fun w' => ∃ g : Growth, w' = w.more g.os g.d) (fun a' => ∀ os d, Q .normal a' (w.more os d)) l a) : (Code.region id l.toArray true).wp P Q a w := by
  refine wp_region_quiet (C := fun w' => ∃ g : Growth, w' = w.more g.os g.d) hm hB ⟨⟨#[], w.drawn + 1⟩, by simp [World.more]⟩ ?_
  have e : (fun a' => ∀ os d, Q .normal a' (w.more os d)) = (fun a' => ∀ w', (∃ g : Growth, w' = w.more g.os g.d) → Q .normal a' w') := by
    funext a'
    apply propext
    constructor
    · rintro h w' ⟨⟨os, d⟩, rfl⟩; exact h os d
    · intro h os d; exact h _ ⟨⟨os, d⟩, rfl⟩
  rw [← e]
  simpa using h

theorem Calls.more_of {P : Program} {f : FuncId} {args : Array Value} {w : World} {os : Array Obj} {d : Nat} {v : Value}
    (h : Calls P f args (w.more os d) fun e w' => e = .returned v ∧ Below (w.more os d).heap.size (w.more os d) w') : Calls P f args (w.more os d) fun e w'' => e = .returned v ∧ ∃ g : Growth, w'' = w.more g.os g.d :=
  h.mono fun _ _ ⟨he, hb⟩ => ⟨he, by
    obtain ⟨os', d', e⟩ := RowKit.Below.more (((Below.refl _ _).of_more (Nat.le_refl _) os d).trans (hb.mono (by rw [World.size_more]; omega)))
    exact ⟨⟨os', d'⟩, e⟩⟩

/-- the world under a name -/
theorem gen_world {P : Program} {c : Code} {Q : Exit → Act → World → Prop} {a : Act} {w : World} (h : ∀ W, W = w → c.wp P Q a W) : c.wp P Q a w := h w rfl

end Go
namespace Go
open Go.RowKit

/-- the slice v has n elements of type e (size cells each), the cells xs: it is empty and has no room, or it begins its block, a block from base on, and the cells up to its capacity are its own -/
def World.RowV (w : World) (base : Nat) (e : TypeId) (size : Nat) (v : Value) (n : Nat) (xs : List Value) : Prop :=
  xs.length = n * size ∧
  ((∃ o, v = .slice o 0 0 ∧ n = 0) ∨
   ∃ g cap cur, v = .slice (some ⟨g, 0, none⟩) n cap ∧ base ≤ g ∧ w.heap[g]? = some (.cells cur e (0, 0)) ∧ n ≤ cap ∧ 0 < cap ∧ cap ≤ maxLen ∧ cap * size ≤ cur.size ∧ cur.toList.take (n * size) = xs)

/-- the block that an append may write to -/
def Value.rowBlock : Value → Option Nat
  | .slice (some a) _ c => if c = 0 then none else some a.block
  | _ => none
def Value.roomOf : Value → Nat
  | .slice _ _ c => c
  | _ => 0

section
variable {w w' : World} {base : Nat} {e : TypeId} {size : Nat} {v : Value} {n : Nat} {xs : List Value}

theorem World.RowV_none (w : World) (base : Nat) (e : TypeId) (size : Nat) (o : Option Addr) : w.RowV base e size (.slice o 0 0) 0 [] := ⟨by simp, .inl ⟨o, rfl, rfl⟩⟩

theorem World.RowV.lt (h : w.RowV base e size v n xs) : ∀ k, v.rowBlock = some k → base ≤ k ∧ k < w.heap.size := by
  intro k hk
  rcases h.2 with ⟨o, rfl, _⟩ | ⟨g, cap, cur, rfl, hb, hg, _, hc, _⟩
  · cases o <;> simp [Value.rowBlock] at hk
  · simp [Value.rowBlock, Nat.ne_of_gt hc] at hk
    subst hk
    exact ⟨hb, (Array.getElem?_eq_some_iff.1 hg).1⟩

theorem World.RowV.of_block (h : w.RowV base e size v n xs) (hb : ∀ k, v.rowBlock = some k → w'.heap[k]? = w.heap[k]?) : w'.RowV base e size v n xs := by
  refine ⟨h.1, ?_⟩
  rcases h.2 with hn | ⟨g, cap, cur, rfl, hbs, hgg, hnc, hc, rest⟩
  · exact .inl hn
  · refine .inr ⟨g, cap, cur, rfl, hbs, ?_, hnc, hc, rest⟩
    rw [hb g (by simp [Value.rowBlock, Nat.ne_of_gt hc])]
    exact hgg

theorem World.RowV.more (h : w.RowV base e size v n xs) (os : Array Obj) (d : Nat) : (w.more os d).RowV base e size v n xs :=
  h.of_block fun k hk => World.heap_more _ _ _ _ (h.lt k hk).2
theorem World.RowV.alloc (h : w.RowV base e size v n xs) (o : Obj) : (w.alloc o).RowV base e size v n xs :=
  h.of_block fun k hk => Below.heap_alloc _ _ _ (h.lt k hk).2
theorem World.RowV.drew (h : w.RowV base e size v n xs) : w.drew.RowV base e size v n xs := h
theorem World.RowV.set (h : w.RowV base e size v n xs) {p : Addr} (hp : ∀ k, v.rowBlock = some k → k ≠ p.block) (u : Value) : (w.setCell p u).RowV base e size v n xs :=
  h.of_block fun k hk => Below.heap_setCell _ _ _ _ (hp k hk)
theorem World.RowV.grown {row : Option Nat} (h : w.RowV base e size v n xs) (hg : w.grownBy w' row) (hr : ∀ k, v.rowBlock = some k → some k ≠ row) : w'.RowV base e size v n xs :=
  h.of_block fun k hk => hg.block k (h.lt k hk).2 (hr k hk)

theorem World.RowV.base_mono {b' : Nat} (h : w.RowV base e size v n xs) (hb : b' ≤ base) : w.RowV b' e size v n xs := by
  refine ⟨h.1, ?_⟩
  rcases h.2 with hn | ⟨g, cap, cur, rfl, hbs, rest⟩
  · exact .inl hn
  · exact .inr ⟨g, cap, cur, rfl, Nat.le_trans hb hbs, rest⟩
theorem World.RowV.form (h : w.RowV base e size v n xs) : ∃ o cap, v = .slice o n cap ∧ n ≤ cap ∧ cap ≤ maxLen := by
  rcases h.2 with ⟨o, rfl, rfl⟩ | ⟨g, cap, cur, rfl, hb, hg, hn, hc, hm, _⟩
  · exact ⟨o, 0, rfl, Nat.le_refl _, Nat.zero_le _⟩
  · exact ⟨_, cap, rfl, hn, hm⟩

theorem World.RowV.some_form (h : w.RowV base e size v n xs) (hn : 0 < n) : ∃ g cap, v = .slice (some ⟨g, 0, none⟩) n cap ∧ n ≤ cap ∧ base ≤ g ∧ g < w.heap.size ∧ v.rowBlock = some g ∧ (∀ j, w.frozen? ⟨g, j, none⟩ = false) ∧ ∀ j u, xs[j]? = some u → w.cell? ⟨g, j, none⟩ = some u := by
  rcases h.2 with ⟨o, rfl, rfl⟩ | ⟨g, cap, cur, rfl, hb, hg, hn', hc, hm, hs, ht⟩
  · omega
  · refine ⟨g, cap, rfl, hn', hb, (Array.getElem?_eq_some_iff.1 hg).1, by simp [Value.rowBlock, Nat.ne_of_gt hc], fun j => by simp [World.frozen?, hg], fun j u hu => ?_⟩
    rw [← ht, List.getElem?_take] at hu
    split at hu
    · simpa [World.cell?, hg] using hu
    · cases hu

theorem add_none (g j : Nat) : (⟨g, 0, none⟩ : Addr).add j = ⟨g, j, none⟩ := by unfold Addr.add; split <;> simp_all

/-- a store into the row -/
theorem World.RowV.put (h : w.RowV base e size v n xs) {g : Nat} (hg : v.rowBlock = some g) (j : Nat) (hj : j < n * size) (u : Value) : (w.setCell ⟨g, j, none⟩ u).RowV base e size v n (xs.set j u) := by
  refine ⟨by simpa using h.1, ?_⟩
  rcases h.2 with ⟨o, rfl, rfl⟩ | ⟨g', cap, cur, rfl, hb, hgg, hn', hc, hm, hs, ht⟩
  · cases o <;> simp [Value.rowBlock] at hg
  · simp [Value.rowBlock, Nat.ne_of_gt hc] at hg
    subst hg
    refine .inr ⟨g', cap, cur.setIfInBounds j u, rfl, hb, ?_, hn', hc, hm, by simpa using hs, ?_⟩
    · simp [World.setCell, Array.getElem?_modify, hgg]
    · rw [← ht]
      apply List.ext_getElem?
      intro i
      simp only [Array.toList_setIfInBounds, List.getElem?_take, List.getElem?_set, List.length_take, Array.length_toList]
      have hle := Nat.le_trans (Nat.mul_le_mul_right size hn') hs
      have hm' : min (n * size) cur.size = n * size := Nat.min_eq_left hle
      rw [hm']
      by_cases e : j = i
      · subst e
        rw [if_pos hj, if_pos rfl, if_pos rfl, if_pos hj, if_pos (by omega)]
      · rw [if_neg e, if_neg e]
end

/-- what an append leaves of the world: there was room, and the row's block alone is written; or there was none, and a new block is made -/
def RowOut (w w' : World) (v v' : Value) (n m : Nat) : Prop :=
  (v'.rowBlock = v.rowBlock ∧ n + m ≤ v.roomOf ∧ v'.roomOf = v.roomOf ∧ w.grownBy w' v.rowBlock) ∨ (v'.rowBlock = some w.heap.size ∧ v.roomOf < n + m ∧ w.grownBy w' none)

theorem RowOut.block {w w' : World} {v v' : Value} {n m : Nat} (h : RowOut w w' v v' n m) {k : Nat} (hk : k < w.heap.size) (hne : v.rowBlock ≠ some k) : w'.heap[k]? = w.heap[k]? := by
  rcases h with ⟨_, _, _, hg⟩ | ⟨_, _, hg⟩
  · exact hg.block k hk (Ne.symm hne)
  · exact hg.block k hk (by simp)
theorem RowOut.size {w w' : World} {v v' : Value} {n m : Nat} (h : RowOut w w' v v' n m) : w.heap.size ≤ w'.heap.size := by
  rcases h with ⟨_, _, _, hg⟩ | ⟨_, _, hg⟩ <;> exact hg.size
theorem RowOut.news {w w' : World} {v v' : Value} {n m : Nat} (h : RowOut w w' v v' n m) {k : Nat} (hk : v'.rowBlock = some k) : v.rowBlock = some k ∨ k = w.heap.size := by
  rcases h with ⟨h1, _, _, hg⟩ | ⟨h1, _, hg⟩
  · exact .inl (by rw [← h1]; exact hk)
  · exact .inr (by rw [h1] at hk; cases hk; rfl)
theorem World.RowV.out {w w' : World} {base e size n m n1 : Nat} {u v v' : Value} {xs : List Value} (h : w.RowV base e size u n xs) (ho : RowOut w w' v v' n1 m) (hne : ∀ k, u.rowBlock = some k → v.rowBlock ≠ some k) : w'.RowV base e size u n xs :=
  h.of_block fun k hk => ho.block (h.lt k hk).2 (hne k hk)

section
variable {P : Program} (w : World)
theorem run_append_row (base : Nat) (t ty e : TypeId) (i : TypeInfo) (z : Value) (size bytes : Nat) (ht : P.underlying t = some (.slice e)) (hi : P.info? e = some i) (hz : i.zero = some z)
    (hsize : i.size = size) (hby : i.bytes = bytes) (hzs : z.cells.size = size)
    (v : Value) (n : Nat) (xs : List Value) (hown : w.RowV base e size v n xs)
    (a : Addr) (m c : Nat) (news : List Value) (hl : news.length = m * size) (hnews : ∀ j u, news[j]? = some u → w.cell? (a.add j) = some u) (h1 : ∀ u ∈ news, u.oneCell' = true)
    (h63 : n + m ≤ maxLen) (hbytes : ((n + m) + (n + m) / 4 + 192) * bytes ≤ 281474976710656) (hbase : base ≤ w.heap.size) :
    ∃ v' w', (Builtin.append_ #[t, t] ty #[v, .slice (some a) m c]).run P w = .ok v' w' ∧ w'.RowV base e size v' (n + m) (xs ++ news) ∧ RowOut w w' v v' n m := by
  subst hsize
  subst hby
  have hsmall : n + m ≤ 9223372036854775807 := by simp only [maxLen] at h63; omega
  have hlen : (xs ++ news).length = (n + m) * i.size := by rw [List.length_append, hown.1, hl, Nat.add_mul]
  -- what the growing arm leaves, whatever was there before
  have grown : ∀ (old : Nat), old < n + m →
      (w.drew.alloc (.cells (xs.toArray ++ news.toArray ++ Builtin.zeroCells z.cells (grownCap w (n + m) old e - (n + m))) e)).RowV base e i.size
        (.slice (some ⟨w.heap.size, 0, none⟩) (n + m) (grownCap w (n + m) old e)) (n + m) (xs ++ news) ∧
      w.grownBy (w.drew.alloc (.cells (xs.toArray ++ news.toArray ++ Builtin.zeroCells z.cells (grownCap w (n + m) old e - (n + m))) e)) none := by
    intro old ho
    have hge := grownCap_ge w (n + m) old e
    have hcm : grownCap w (n + m) old e ≤ maxLen := grownCap_le_maxLen w (n + m) old e h63
    refine ⟨⟨hlen, .inr ⟨w.heap.size, _, _, rfl, hbase, heap_alloc_new w.drew _, hge, by omega, hcm, ?_, ?_⟩⟩, ⟨rfl, rfl, rfl, by simp, fun k hk _ => Below.heap_alloc w.drew _ k hk⟩⟩
    · apply Nat.le_of_eq
      simp only [Array.size_append, List.size_toArray, size_zeroCells, hzs, hown.1, hl, ← Nat.add_mul]
      congr 1
      omega
    · simp only [Array.toList_append, List.append_assoc]
      rw [← List.append_assoc, ← hlen]
      exact List.take_left
  rcases hown.2 with ⟨o, rfl, rfl⟩ | ⟨g, cap, cur, rfl, hbg, hg, hnc, hc0, hcm, hcs, htake⟩
  · have hx : xs = [] := List.eq_nil_of_length_eq_zero (by simpa using hown.1)
    subst hx
    by_cases hm : m = 0
    · subst hm
      have hn : news = [] := List.eq_nil_of_length_eq_zero (by simpa using hl)
      subst hn
      refine ⟨.slice o 0 0, w, ?_, World.RowV_none w base e i.size o, .inl ⟨rfl, by simp [Value.roomOf], rfl, ⟨rfl, rfl, rfl, Nat.le_refl _, fun _ _ _ => rfl⟩⟩⟩
      cases o <;> simp [Builtin.append_, run_underlying ht, sizeOf, typeInfo, hi, Builtin.lenOf, Builtin.firstCells, loadCells, loadCellsFrom, storeCells]
    · have hgr := grown 0 (by omega)
      simp only [Nat.zero_add, List.nil_append, Array.empty_append] at hgr ⊢
      cases o with
      | none =>
        have hr := run_append_nil (P := P) w t ty e i z ht hi hz a m c news hl hnews (by omega) (by omega) (by have hb := hbytes; simp only [Nat.zero_add] at hb; exact Nat.le_trans (Nat.mul_le_mul_right _ (by omega)) hb)
        exact ⟨_, _, hr, hgr.1, .inr ⟨by simp [Value.rowBlock]; have := grownCap_ge w m 0 e; omega, by simp [Value.roomOf]; omega, hgr.2⟩⟩
      | some b =>
        have hr := run_append_grow (P := P) w t ty e i z ht hi hz b 0 0 [] (by simp) (by simp) a m c news hl hnews (by omega) (by omega) (growslice_fits_wide (by omega) hbytes)
        simp only [Nat.zero_add, Array.empty_append] at hr
        exact ⟨_, _, hr, hgr.1, .inr ⟨by simp [Value.rowBlock]; have := grownCap_ge w m 0 e; omega, by simp [Value.roomOf]; omega, hgr.2⟩⟩
  · by_cases hroom : n + m ≤ cap
    · have hfit : n * i.size + news.length ≤ cur.size := by rw [hl, ← Nat.add_mul]; exact Nat.le_trans (Nat.mul_le_mul_right _ hroom) hcs
      have hr := run_append_room (P := P) w t ty e i ht hi g n cap cur hg a m c news hl hnews h1 hroom hfit
      refine ⟨_, _, hr, ⟨hlen, .inr ⟨g, cap, _, rfl, hbg, setRow_heap w g cur _ e _ hg, hroom, hc0, hcm, ?_, ?_⟩⟩, .inl ⟨by simp [Value.rowBlock], hroom, rfl, ⟨rfl, rfl, rfl, by simp, fun k _ hk => setRow_other w g k _ (fun e => hk (by simp [Value.rowBlock, e, Nat.ne_of_gt hc0]))⟩⟩⟩
      · simp only [List.size_toArray, List.length_append, List.length_take, List.length_drop, Array.length_toList]
        omega
      · rw [htake, ← hlen]
        exact List.take_left
    · have holds : ∀ j u, xs[j]? = some u → w.cell? ((⟨g, 0, none⟩ : Addr).add j) = some u := by
        intro j u hu
        rw [add_none]
        rw [← htake, List.getElem?_take] at hu
        split at hu
        · simpa [World.cell?, hg] using hu
        · cases hu
      have hr := run_append_grow (P := P) w t ty e i z ht hi hz ⟨g, 0, none⟩ n cap xs hown.1 holds a m c news hl hnews (by omega) (by omega) (growslice_fits_wide (by omega) hbytes)
      have hgr := grown cap (by omega)
      exact ⟨_, _, hr, hgr.1, .inr ⟨by simp [Value.rowBlock]; have := grownCap_ge w (n + m) cap e; omega, by simp [Value.roomOf]; omega, hgr.2⟩⟩

/-- the source holds nothing: nil or empty -/
theorem run_append_row_none (t ty e : TypeId) (i : TypeInfo) (ht : P.underlying t = some (.slice e)) (hi : P.info? e = some i) (v : Value) {base size : Nat} (n : Nat) (xs : List Value) (hown : w.RowV base e size v n xs) :
    (Builtin.append_ #[t, t] ty #[v, .slice none 0 0]).run P w = .ok v w := by
  rcases hown.2 with ⟨o, rfl, rfl⟩ | ⟨g, cap, cur, rfl, hbg, hg, hnc, hc0, hcm, hcs, htake⟩
  · cases o <;> simp [Builtin.append_, run_underlying ht, sizeOf, typeInfo, hi, Builtin.lenOf, Builtin.firstCells, loadCells, loadCellsFrom, storeCells]
  · simp [Builtin.append_, run_underlying ht, sizeOf, typeInfo, hi, Builtin.lenOf, Builtin.firstCells, loadCells, storeCells, hnc]

/-- a slice that can be read: n elements, the cells xs -/
def World.Src (w : World) (size : Nat) (v : Value) (n : Nat) (xs : List Value) : Prop :=
  xs.length = n * size ∧ ((v = .slice none 0 0 ∧ n = 0) ∨ ∃ ad c, v = .slice (some ad) n c ∧ n ≤ c ∧ ∀ j u, xs[j]? = some u → w.cell? (ad.add j) = some u)

theorem World.RowV.src {w : World} {base e size n : Nat} {v : Value} {xs : List Value} (h : w.RowV base e size v n xs) : w.Src size v n xs := by
  refine ⟨h.1, ?_⟩
  rcases h.2 with ⟨o, rfl, rfl⟩ | ⟨g, cap, cur, rfl, hb, hg, hn', hc, hm, hs, ht⟩
  · cases o with
    | none => exact .inl ⟨rfl, rfl⟩
    | some a =>
      refine .inr ⟨a, 0, rfl, Nat.le_refl _, fun j u hu => ?_⟩
      have hx : xs = [] := List.eq_nil_of_length_eq_zero (by simpa using h.1)
      subst hx
      simp at hu
  · refine .inr ⟨_, cap, rfl, hn', fun j u hu => ?_⟩
    rw [add_none]
    rw [← ht, List.getElem?_take] at hu
    split at hu
    · simpa [World.cell?, hg] using hu
    · cases hu

theorem run_append_src (base : Nat) (t ty e : TypeId) (i : TypeInfo) (z : Value) (size bytes : Nat) (ht : P.underlying t = some (.slice e)) (hi : P.info? e = some i) (hz : i.zero = some z)
    (hsize : i.size = size) (hby : i.bytes = bytes) (hzs : z.cells.size = size)
    (v : Value) (n : Nat) (xs : List Value) (hown : w.RowV base e size v n xs)
    (x : Value) (m : Nat) (news : List Value) (hx : w.Src size x m news) (h1 : ∀ u ∈ news, u.oneCell' = true)
    (h63 : n + m ≤ maxLen) (hbytes : ((n + m) + (n + m) / 4 + 192) * bytes ≤ 281474976710656) (hbase : base ≤ w.heap.size) :
    ∃ v' w', (Builtin.append_ #[t, t] ty #[v, x]).run P w = .ok v' w' ∧ w'.RowV base e size v' (n + m) (xs ++ news) ∧ RowOut w w' v v' n m := by
  rcases hx.2 with ⟨rfl, rfl⟩ | ⟨ad, c, rfl, _, hc⟩
  · have hn : news = [] := List.eq_nil_of_length_eq_zero (by simpa using hx.1)
    subst hn
    refine ⟨v, w, run_append_row_none w t ty e i ht hi v n xs hown, by simpa using hown, .inl ⟨rfl, ?_, rfl, ⟨rfl, rfl, rfl, Nat.le_refl _, fun _ _ _ => rfl⟩⟩⟩
    obtain ⟨o, cap, rfl, hn, _⟩ := hown.form
    exact hn
  · exact run_append_row w base t ty e i z size bytes ht hi hz hsize hby hzs v n xs hown ad m c news hx.1 hc h1 h63 hbytes hbase

theorem wpList_append_row {ops : Array Oper} {rest : List Oper} {o : Oper} {a : Act} {Q : Exit → Act → World → Prop} (hgd : o.guard = none) (s x : Operand) (t : TypeId)
    (ho : o.op = .call { callee := .builtin .append, args := #[s, x], argTypes := #[t, t] })
    (base : Nat) (e : TypeId) (i : TypeInfo) (z : Value) (size bytes : Nat) (ht : P.underlying t = some (.slice e)) (hi : P.info? e = some i) (hz : i.zero = some z)
    (hsize : i.size = size) (hby : i.bytes = bytes) (hzs : z.cells.size = size)
    (v : Value) (n : Nat) (xs : List Value) (hs : a.eval s = v) (hown : w.RowV base e size v n xs)
    (vx : Value) (m : Nat) (news : List Value) (hx : a.eval x = vx) (hsrc : w.Src size vx m news) (h1 : ∀ u ∈ news, u.oneCell' = true)
    (h63 : n + m ≤ maxLen) (hbytes : ((n + m) + (n + m) / 4 + 192) * bytes ≤ 281474976710656) (hbase : base ≤ w.heap.size)
    (h : ∀ v' w', w'.RowV base e size v' (n + m) (xs ++ news) → RowOut w w' v v' n m → wpList P ops Q rest (a.put o.dst v') w') :
    wpList P ops Q (o :: rest) a w := by
  refine wpList_plain hgd fun K hK => ?_
  obtain ⟨v', w', hr, h2, h3⟩ := run_append_src (P := P) w base t o.type e i z size bytes ht hi hz hsize hby hzs v n xs hown vx m news hsrc h1 h63 hbytes hbase
  unfold Oper.wp execOp
  simp only [ho, resolve, invoke, builtin, Sem.run_bind, Sem.run_pure, Result.andThen_ok, List.map_toArray, List.map_cons, List.map_nil, hs, hx, hr]
  exact hK _ _ (h v' w' h2 h3)

theorem step_append_row {ops : Array Oper} {o : Oper} {a : Act} {K : Act → World → Prop} {Q : Exit → Act → World → Prop} {E : Prop} (hgd : o.guard = none) (s x : Operand) (t : TypeId)
    (ho : o.op = .call { callee := .builtin .append, args := #[s, x], argTypes := #[t, t] })
    (base : Nat) (e : TypeId) (i : TypeInfo) (z : Value) (size bytes : Nat) (ht : P.underlying t = some (.slice e)) (hi : P.info? e = some i) (hz : i.zero = some z)
    (hsize : i.size = size) (hby : i.bytes = bytes) (hzs : z.cells.size = size)
    (v : Value) (n : Nat) (xs : List Value) (hs : a.eval s = v) (hown : w.RowV base e size v n xs)
    (vx : Value) (m : Nat) (news : List Value) (hx : a.eval x = vx) (hsrc : w.Src size vx m news) (h1 : ∀ u ∈ news, u.oneCell' = true)
    (h63 : n + m ≤ maxLen) (hbytes : ((n + m) + (n + m) / 4 + 192) * bytes ≤ 281474976710656) (hbase : base ≤ w.heap.size)
    (h : ∀ v' w', w'.RowV base e size v' (n + m) (xs ++ news) → RowOut w w' v v' n m → K (a.put o.dst v') w') :
    if Region.wanted o (yielded ops a.tmps) = true then Oper.wp P o a w K Q else E := by
  have hw : Region.wanted o (yielded ops a.tmps) = true := by simp [Region.wanted, hgd]
  rw [if_pos hw]
  obtain ⟨v', w', hr, h2, h3⟩ := run_append_src (P := P) w base t o.type e i z size bytes ht hi hz hsize hby hzs v n xs hown vx m news hsrc h1 h63 hbytes hbase
  unfold Oper.wp execOp
  simp only [ho, resolve, invoke, builtin, Sem.run_bind, Sem.run_pure, Result.andThen_ok, List.map_toArray, List.map_cons, List.map_nil, hs, hx, hr]
  exact h v' w' h2 h3

/-- one element's cells in a new block: the source of append(s, x) -/
theorem World.Src.one {w : World} {k H : Nat} {cs : Array Value} {t : TypeId} (h : cs.size = k) (hH : w.heap.size = H) : (w.alloc (.cells cs t)).Src k (.slice (some ⟨H, 0, none⟩) 1 1) 1 cs.toList := by
  subst hH
  refine ⟨by simpa using h, .inr ⟨_, 1, rfl, Nat.le_refl _, fun j u hu => ?_⟩⟩
  rw [add_none]
  rw [cell_of_row _ _ _ _ _ (0, 0) (heap_alloc_new w (.cells cs t))]
  simpa using hu
theorem World.Src.of_block {w w' : World} {k n : Nat} {v : Value} {xs : List Value} (h : w.Src k v n xs) (hb : ∀ b, b < w.heap.size → w'.heap[b]? = w.heap[b]?) : w'.Src k v n xs := by
  refine ⟨h.1, ?_⟩
  rcases h.2 with h0 | ⟨ad, c, rfl, hc, hx⟩
  · exact .inl h0
  · refine .inr ⟨ad, c, rfl, hc, fun j u hu => ?_⟩
    have := hx j u hu
    rw [World.cell?_of_block (hb _ (World.block_lt_of_cell? w _ this))]
    exact this
theorem World.Src.alloc {w : World} {k n : Nat} {v : Value} {xs : List Value} (h : w.Src k v n xs) (o : Obj) : (w.alloc o).Src k v n xs := h.of_block fun _ hb => Below.heap_alloc _ _ _ hb
theorem World.Src.more {w : World} {k n : Nat} {v : Value} {xs : List Value} (h : w.Src k v n xs) (os : Array Obj) (d : Nat) : (w.more os d).Src k v n xs := h.of_block fun _ hb => World.heap_more _ _ _ _ hb
theorem World.Src.below {w w' : World} {k n : Nat} {v : Value} {xs : List Value} (h : w.Src k v n xs) (hb : Below w.heap.size w w') : w'.Src k v n xs := h.of_block hb.block
theorem World.Src.drew {w : World} {k n : Nat} {v : Value} {xs : List Value} (h : w.Src k v n xs) : w.drew.Src k v n xs := h
end
end Go
namespace Go
open Go.RowKit

def intCells (k : IntKind) (n : Nat) (f : Nat → Int) : Array Value := (Array.range n).map fun j => Value.int k (f j)
def updF (f : Nat → Int) (j : Nat) (v : Int) : Nat → Int := fun i => if i = j then v else f i

@[go_sem] theorem size_intCells (k : IntKind) (n : Nat) (f : Nat → Int) : (intCells k n f).size = n := by simp [intCells]
theorem intCells_lt (k : IntKind) (n : Nat) (f : Nat → Int) (j : Nat) (h : j < n) : (intCells k n f)[j]? = some (.int k (f j)) := by
  simp [intCells, h]
@[go_sem] theorem getElem?_intCells (k : IntKind) (n : Nat) (f : Nat → Int) (j : Nat) : (intCells k n f)[j]? = if j < n then some (.int k (f j)) else none := by
  split
  · exact intCells_lt _ _ _ _ ‹_›
  · simp [intCells]; omega
@[go_sem] theorem getElem_intCells (k : IntKind) (n : Nat) (f : Nat → Int) (j : Nat) (h : j < (intCells k n f).size) : (intCells k n f)[j] = .int k (f j) := by
  simp [intCells]
@[go_sem] theorem set_intCells (k : IntKind) (n : Nat) (f : Nat → Int) (j : Nat) (v : Int) : (intCells k n f).setIfInBounds j (.int k v) = intCells k n (updF f j v) := by
  apply Array.ext_getElem?
  intro i
  rw [Array.getElem?_setIfInBounds, getElem?_intCells, getElem?_intCells, size_intCells]
  unfold updF
  by_cases e : j = i
  · subst e
    simp
  · rw [if_neg e]
    simp [show ¬ i = j by omega]

theorem made_intCells (k : IntKind) (n : Nat) : madeCells #[.int k 0] n = intCells k n (fun _ => 0) := by
  apply Array.ext_getElem?
  intro i
  simp [madeCells, intCells, Array.getElem?_map]
  by_cases h : i < n
  · simp [h, Nat.mod_one]
  · simp [h]
end Go
