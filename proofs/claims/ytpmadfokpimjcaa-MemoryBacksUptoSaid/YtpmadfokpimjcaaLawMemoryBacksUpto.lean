/-
MemoryBacks, where what comes in is of small bulk: for every input the Go law returns true, and each argument reads as it read. No condition beyond the given statement's own.
-/
import Derived.Test.YtpmadfokpimjcaaRows
import Derived.Test.YtpmadfokpimjcaaCloseU
import Derived.Test.YtpmadfokpimjcaaOpen
import Derived.Test.YtpmadfokpimjcaaIn
import Derived.Test.YtpmadfokpimjcaaBks
import Derived.ChangeMaps5
namespace Go.Proofs.Ytpmadfokpimjcaa.memoryBacksUpto
open Go.ChangeShapes Go.WideShapes Go.ChangeAt Go.RowKit Go.ChangeMaps

theorem own : ownKnob Try.prog.godebug = none := by kernel_rfl
theorem laid : laidOutB Try.prog = true := by kernel_rfl
theorem reads : (Try.f9.params.toList.all fun t => Try.prog.readableRec t && decide (t < Try.prog.types.size)) = true := by kernel_rfl
theorem size : Try.f9.params.size = 4 := by kernel_rfl

set_option maxRecDepth 100000 in
theorem lifted (os : Os) (started : os.Started) (H : Type) (enc : TypeId × Value → H) (F : Stop.Interp) :
    ReturnsInHanded {} Try.checked os 9 .any ((Rows.OpenSpec.upto Rows.memoryBacksSpec).pre6 enc Try.prog Try.f9 Rows.memoryBacksUptoRow.domain false) (((Rows.OpenSpec.upto Rows.memoryBacksSpec).at F).post enc Try.prog Try.f9 false true false false) := by
  refine returnsInHanded_of_cond (C := Try.checked) (s := Rows.OpenSpec.upto Rows.memoryBacksSpec) (k := Rows.uptoSmall) rfl own started (by kernel_rfl) Try.func9
    (OpenSpec.witness (enc := enc) (C := Try.checked) (s := Rows.OpenSpec.upto Rows.memoryBacksSpec) (k := Rows.uptoSmall) rfl false ⟨#[], #[.slice none 0 0, .slice none 0 0, .slice none 0 0, .slice none 0 0], []⟩ 8 (by kernel_rfl) (by kernel_rfl) (by kernel_rfl)
      (x := ([.nil, .nil, .nil, .nil], [], [])) (by kernel_rfl) rfl (by kernel_rfl)) ?_
  intro W base args ds gs before hval0 hW _ hk _
  refine post_law (C := Try.checked) (s := Rows.memoryBacksSpec) (T := 4) rfl rfl Try.underlying4 laid ?_ ?_ hW ?_
  · intro t ht
    have h := List.all_eq_true.1 reads t ht
    rw [Bool.and_eq_true, decide_eq_true_eq] at h
    exact h
  · intro ds h
    rw [size] at h
    match ds, h with
    | [_, _, _, _], _ => rfl
  intro hA0 hgs
  subst hgs
  have hval : ∀ (j : Nat) t v, Try.f9.params[j]? = some t → args[j]? = some v → Value.okWide Try.prog W .any base t v := hval0
  have hA : DataW.TrodAll enc Try.prog W 0 (fun _ => true) true Try.f9.params.toList args.toList ds before := hA0
  rw [List.append_nil] at hk
  have hbulk : Rows.uptoBulkAll ds ≤ 1048576 := of_decide_eq_true hk
  rw [Try.params9] at hA hval
  obtain ⟨v0, vs0, d0, ds0, p0, q0, hargs, rfl, rfl, h0, r0⟩ := trodAll_cons hA
  obtain ⟨v1, vs1, d1, ds1, p1, q1, rfl, rfl, rfl, h1, r1⟩ := trodAll_cons r0
  obtain ⟨v2, vs2, d2, ds2, p2, q2, rfl, rfl, rfl, h2, r2⟩ := trodAll_cons r1
  obtain ⟨v3, vs3, d3, ds3, p3, q3, rfl, rfl, rfl, h3, r3⟩ := trodAll_cons r2
  obtain ⟨rfl, rfl, rfl⟩ := trodAll_nil r3
  obtain rfl : args = #[v0, v1, v2, v3] := by cases args; simp_all
  simp only [Rows.uptoBulkAll] at hbulk
  obtain ⟨l0, s0, b0, m0⟩ := in_words (hval 0 22 v0 rfl rfl) h0
  obtain ⟨ops1, s1, m1, g1⟩ := in_ops (hval 1 33 v1 rfl rfl) h1
  have hm1 : ops1.length ≤ 1000000000 := by have := ops_bulk g1; omega
  obtain ⟨ops2, s2, m2, g2⟩ := in_ops (hval 2 33 v2 rfl rfl) h2
  have hm2 : ops2.length ≤ 1000000000 := by have := ops_bulk g2; omega
  obtain ⟨ops3, s3, m3, g3⟩ := in_ops (hval 3 33 v3 rfl rfl) h3
  have hm3 : ops3.length ≤ 1000000000 := by have := ops_bulk g3; omega
  clear hA0 hval0 hW hk
  exact (memoryBacks_walk s0 m0 s1 hm1 s2 hm2 s3 hm3).mono fun e W' ⟨he, hb⟩ => ⟨he, hb⟩

theorem over : Rows.memoryBacksUptoRow.holds Try.pinned (Rows.OpenSpec.upto Rows.memoryBacksSpec) :=
  OpenClaim.holds_of_cond 9 Try.f9 rfl rfl rfl rfl rfl rfl rfl ⟨rfl, rfl, rfl, rfl, rfl⟩ rfl rfl rfl rfl rfl (by kernel_rfl) Try.func9 (by kernel_rfl)
    (of_decide_eq_true (by kernel_rfl)) (by unfold Func.isWrapper; rw [if_neg (of_decide_eq_false (by kernel_rfl))]; exact ⟨rfl, rfl⟩)
    (fun os started H enc _ F => lifted os started H enc F)

/-- THE STATEMENT -/
theorem proved : Rows.MemoryBacksUptoSaid :=
  over
#print axioms proved
end Go.Proofs.Ytpmadfokpimjcaa.memoryBacksUpto
