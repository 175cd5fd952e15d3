/-
MachineJoins: for every input the Go law returns true, and each argument reads as it read. No condition beyond the given statement's own.
-/
import Derived.Test.YtbhbpfpggfcpgaaRows
import Derived.Test.YtbhbpfpggfcpgaaQClose
import Derived.Test.YtbhbpfpggfcpgaaQInS
import Derived.Test.YtbhbpfpggfcpgaaQMjo
import Derived.ChangeMaps5
namespace Go.Proofs.Ytbhbpfpggfcpgaa.machineJoins
open Go.ChangeShapes Go.WideShapes Go.ChangeAt Go.RowKit Go.ChangeMaps

theorem own : ownKnob Try.prog.godebug = none := by kernel_rfl
theorem laid : laidOutB Try.prog = true := by kernel_rfl
theorem reads : (Try.f12.params.toList.all fun t => Try.prog.readableRec t && decide (t < Try.prog.types.size)) = true := by kernel_rfl
theorem size : Try.f12.params.size = 2 := by kernel_rfl

set_option maxRecDepth 100000 in
theorem lifted (os : Os) (started : os.Started) (H : Type) (enc : TypeId × Value → H) :
    ReturnsInHanded {} Try.checked os 12 .any (Rows.machineJoinsSpec.pre6 enc Try.prog Try.f12 Rows.machineJoinsRow.domain false) (Rows.machineJoinsSpec.post enc Try.prog Try.f12 false true false false) := by
  refine lift_law (C := Try.checked) (T := 4) own started (by kernel_rfl) Try.func12
    (ChangeSpec.witness6 (enc := enc) (C := Try.checked) false ⟨#[], #[.agg #[.int .i64 0, .slice none 0 0, .slice none 0 0], .int .i64 0], []⟩ 8 (by kernel_rfl) (by kernel_rfl) (by kernel_rfl) (by kernel_rfl))
    rfl rfl Try.underlying4 laid ?_ ?_ ?_
  · intro t ht
    have h := List.all_eq_true.1 reads t ht
    rw [Bool.and_eq_true, decide_eq_true_eq] at h
    exact h
  · intro ds h
    rw [size] at h
    match ds, h with
    | [_, _], _ => rfl
  intro W base args ds ps hval0 hA0 hwt
  have hval : ∀ (j : Nat) t v, Try.f12.params[j]? = some t → args[j]? = some v → Value.okWide Try.prog W .any base t v := hval0
  have hA : DataW.TrodAll enc Try.prog W 0 (fun _ => true) true Try.f12.params.toList args.toList ds ps := hA0
  rw [Try.params12] at hA hval hwt
  obtain ⟨v0, vs0, d0, ds0, p0, q0, hargs, rfl, rfl, h0, r0⟩ := trodAll_cons hA
  obtain ⟨v1, vs1, d1, ds1, p1, q1, rfl, rfl, rfl, h1, r1⟩ := trodAll_cons r0
  obtain ⟨rfl, rfl, rfl⟩ := trodAll_nil r1
  obtain rfl : args = #[v0, v1] := by cases args; simp_all
  obtain ⟨th0, l0, ms0, ox0, cx0, om0, cm0, s0⟩ := in_script (hval 0 45 v0 rfl rfl) h0
  obtain ⟨a1, rfl, rfl, rfl, w1⟩ := open_int Try.underlying3 (hval 1 3 v1 rfl rfl) h1
  clear hA0 hval0
  exact (joins_walk s0 a1).mono fun e W' ⟨he, hb⟩ => ⟨he, hb⟩

theorem over : Rows.machineJoinsRow.holds Try.pinned (OpenSpec.ofChange Rows.machineJoinsSpec) :=
  OpenClaim.holds_of_wide 12 Try.f12 rfl rfl rfl rfl rfl rfl rfl ⟨rfl, rfl, rfl, rfl, rfl⟩ rfl rfl rfl rfl rfl (by kernel_rfl) Try.func12 (by kernel_rfl)
    (of_decide_eq_true (by kernel_rfl)) (by unfold Func.isWrapper; rw [if_neg (of_decide_eq_false (by kernel_rfl))]; exact ⟨rfl, rfl⟩)
    (fun os started H enc _ => lifted os started H enc)

/-- THE STATEMENT -/
theorem proved : Rows.MachineJoinsSaid :=
  over
#print axioms proved
end Go.Proofs.Ytbhbpfpggfcpgaa.machineJoins
