/-
MemoryTwo: for every input the Go law returns true, and each argument reads as it read. No condition beyond the given statement's own.
-/
import Derived.Test.YtpmadfokpimjcaaRows
import Derived.Test.YtpmadfokpimjcaaClose
import Derived.Test.YtpmadfokpimjcaaOpen
import Derived.Test.YtpmadfokpimjcaaIn
import Derived.Test.YtpmadfokpimjcaaTwoW
import Derived.ChangeMaps5
namespace Go.Proofs.Ytpmadfokpimjcaa.memoryTwo
open Go.ChangeShapes Go.WideShapes Go.ChangeAt Go.RowKit Go.ChangeMaps

theorem own : ownKnob Try.prog.godebug = none := by kernel_rfl
theorem laid : laidOutB Try.prog = true := by kernel_rfl
theorem reads : (Try.f11.params.toList.all fun t => Try.prog.readableRec t && decide (t < Try.prog.types.size)) = true := by kernel_rfl
theorem size : Try.f11.params.size = 4 := by kernel_rfl

set_option maxRecDepth 100000 in
theorem lifted (os : Os) (started : os.Started) (H : Type) (enc : TypeId × Value → H) :
    ReturnsInHanded {} Try.checked os 11 .any (Rows.memoryTwoSpec.pre6 enc Try.prog Try.f11 Rows.memoryTwoRow.domain false) (Rows.memoryTwoSpec.post enc Try.prog Try.f11 false true false false) := by
  refine lift_law (C := Try.checked) (T := 4) own started (by kernel_rfl) Try.func11
    (ChangeSpec.witness6 (enc := enc) (C := Try.checked) false ⟨#[], #[.slice none 0 0, .slice none 0 0, .slice none 0 0, .slice none 0 0], []⟩ 8 (by kernel_rfl) (by kernel_rfl) (by kernel_rfl) (by kernel_rfl))
    rfl rfl Try.underlying4 laid ?_ ?_ ?_
  · intro t ht
    have h := List.all_eq_true.1 reads t ht
    rw [Bool.and_eq_true, decide_eq_true_eq] at h
    exact h
  · intro ds h
    rw [size] at h
    match ds, h with
    | [_, _, _, _], _ => rfl
  intro W base args ds ps hval0 hA0 hwt
  have hval : ∀ (j : Nat) t v, Try.f11.params[j]? = some t → args[j]? = some v → Value.okWide Try.prog W .any base t v := hval0
  have hA : DataW.TrodAll enc Try.prog W 0 (fun _ => true) true Try.f11.params.toList args.toList ds ps := hA0
  rw [Try.params11] at hA hval hwt
  obtain ⟨v0, vs0, d0, ds0, p0, q0, hargs, rfl, rfl, h0, r0⟩ := trodAll_cons hA
  obtain ⟨v1, vs1, d1, ds1, p1, q1, rfl, rfl, rfl, h1, r1⟩ := trodAll_cons r0
  obtain ⟨v2, vs2, d2, ds2, p2, q2, rfl, rfl, rfl, h2, r2⟩ := trodAll_cons r1
  obtain ⟨v3, vs3, d3, ds3, p3, q3, rfl, rfl, rfl, h3, r3⟩ := trodAll_cons r2
  obtain ⟨rfl, rfl, rfl⟩ := trodAll_nil r3
  obtain rfl : args = #[v0, v1, v2, v3] := by cases args; simp_all
  obtain ⟨l0, s0, b0, m0⟩ := in_words (hval 0 22 v0 rfl rfl) h0
  obtain ⟨ops1, s1, m1, g1⟩ := in_ops (hval 1 33 v1 rfl rfl) h1
  have hm1 : ops1.length ≤ 2999999999999 := ops_weight g1 (weights_at hwt 1 rfl rfl)
  obtain ⟨l2, s2, b2, m2⟩ := in_words (hval 2 22 v2 rfl rfl) h2
  obtain ⟨ops3, s3, m3, g3⟩ := in_ops (hval 3 33 v3 rfl rfl) h3
  have hm3 : ops3.length ≤ 2999999999999 := ops_weight g3 (weights_at hwt 3 rfl rfl)
  clear hA0 hval0
  exact (memoryTwo_walk s0 m0 s1 hm1 s2 m2 s3 hm3).mono fun e W' ⟨he, hb⟩ => ⟨he, hb⟩

theorem over : Rows.memoryTwoRow.holds Try.pinned (OpenSpec.ofChange Rows.memoryTwoSpec) :=
  OpenClaim.holds_of_wide 11 Try.f11 rfl rfl rfl rfl rfl rfl rfl ⟨rfl, rfl, rfl, rfl, rfl⟩ rfl rfl rfl rfl rfl (by kernel_rfl) Try.func11 (by kernel_rfl)
    (of_decide_eq_true (by kernel_rfl)) (by unfold Func.isWrapper; rw [if_neg (of_decide_eq_false (by kernel_rfl))]; exact ⟨rfl, rfl⟩)
    (fun os started H enc _ => lifted os started H enc)

/-- THE STATEMENT -/
theorem proved : Rows.MemoryTwoSaid :=
  over
#print axioms proved
end Go.Proofs.Ytpmadfokpimjcaa.memoryTwo
