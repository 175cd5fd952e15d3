/-
WordNumbersNamed: for every input the Go law returns true, and each argument reads as it read. No condition beyond the given statement's own.
-/
import Derived.Test.YtaokjiajceefaaaRows
import Derived.Test.YtaokjiajceefaaaClose
import Derived.Test.YtaokjiajceefaaaOpen
import Derived.Test.YtaokjiajceefaaaWordB
namespace Go.Proofs.Ytaokjiajceefaaa.wordNumbersNamed
open Go.ChangeShapes Go.WideShapes Go.ChangeAt Go.RowKit

theorem own : ownKnob Try.prog.godebug = none := by kernel_rfl
theorem laid : laidOutB Try.prog = true := by kernel_rfl
theorem reads : (Try.f3.params.toList.all fun t => Try.prog.readableRec t && decide (t < Try.prog.types.size)) = true := by kernel_rfl
theorem size : Try.f3.params.size = 0 := by kernel_rfl

theorem lifted (os : Os) (started : os.Started) (H : Type) (enc : TypeId × Value → H) :
    ReturnsInHanded {} Try.checked os 3 .any (Rows.wordNumbersNamedSpec.pre6 enc Try.prog Try.f3 Rows.wordNumbersNamedRow.domain false) (Rows.wordNumbersNamedSpec.post enc Try.prog Try.f3 false true false false) := by
  refine lift_law (C := Try.checked) (T := 4) own started (by kernel_rfl) Try.func3
    (ChangeSpec.witness6 (enc := enc) (C := Try.checked) false ⟨#[], #[], []⟩ 8 (by kernel_rfl) (by kernel_rfl) (by kernel_rfl) (by kernel_rfl))
    rfl rfl Try.underlying4 laid ?_ ?_ ?_
  · intro t ht
    have h := List.all_eq_true.1 reads t ht
    rw [Bool.and_eq_true, decide_eq_true_eq] at h
    exact h
  · intro ds h
    rw [size] at h
    match ds, h with
    | [], _ => rfl
  intro W base args ds ps hval0 hA0 hwt
  have hval : ∀ (j : Nat) t v, Try.f3.params[j]? = some t → args[j]? = some v → Value.okWide Try.prog W .any base t v := hval0
  have hA : DataW.TrodAll enc Try.prog W 0 (fun _ => true) true Try.f3.params.toList args.toList ds ps := hA0
  rw [Try.params3] at hA hval
  obtain ⟨hargs, rfl, rfl⟩ := trodAll_nil hA
  obtain rfl : args = #[] := by cases args; simp_all
  clear hA0 hval0
  exact (wordNumbersNamed_walk  W).mono fun e W' ⟨he, hb⟩ => ⟨he, hb⟩

theorem over : Rows.wordNumbersNamedRow.holds Try.pinned (OpenSpec.ofChange Rows.wordNumbersNamedSpec) :=
  OpenClaim.holds_of_wide 3 Try.f3 rfl rfl rfl rfl rfl rfl rfl ⟨rfl, rfl, rfl, rfl, rfl⟩ rfl rfl rfl rfl rfl (by kernel_rfl) Try.func3 (by kernel_rfl)
    (of_decide_eq_true (by kernel_rfl)) (by unfold Func.isWrapper; rw [if_neg (of_decide_eq_false (by kernel_rfl))]; exact ⟨rfl, rfl⟩)
    (fun os started H enc _ => lifted os started H enc)

/-- THE STATEMENT -/
theorem proved : Rows.WordNumbersNamedSaid :=
  over
#print axioms proved
end Go.Proofs.Ytaokjiajceefaaa.wordNumbersNamed
