/-
ArenaFresh: for every input the Go law returns true, and each argument reads as it read. No condition beyond the given statement's own.
-/
import Derived.Test.YtjcggokhminmoaaRows
import Derived.Test.YtjcggokhminmoaaQAwk
import Derived.Test.YtjcggokhminmoaaQArFr
import Derived.ChangeMaps5
namespace Go.Proofs.Ytjcggokhminmoaa.arenaFresh
open Go.ChangeShapes Go.WideShapes Go.ChangeAt Go.RowKit Go.ChangeMaps

theorem own : ownKnob Try.prog.godebug = none := by kernel_rfl
theorem laid : laidOutB Try.prog = true := by kernel_rfl
theorem reads : (Try.f7.params.toList.all fun t => Try.prog.readableRec t && decide (t < Try.prog.types.size)) = true := by kernel_rfl
theorem size : Try.f7.params.size = 2 := by kernel_rfl

set_option maxRecDepth 100000 in
theorem lifted (os : Os) (started : os.Started) (H : Type) (enc : TypeId × Value → H) :
    ReturnsInHanded {} Try.checked os 7 .any (Rows.arenaFreshSpec.pre6 enc Try.prog Try.f7 Rows.arenaFreshRow.domain false) (Rows.arenaFreshSpec.post enc Try.prog Try.f7 false true false false) := by
  refine lift_law (C := Try.checked) (T := 4) own started (by kernel_rfl) Try.func7
    (ChangeSpec.witness6 (enc := enc) (C := Try.checked) false ⟨#[], #[.agg #[.int .i64 0, .int .i64 0, .int .i64 0, .int .i64 0, .int .i64 0, .int .i64 0, .int .i64 0], .slice none 0 0], []⟩ 8 (by kernel_rfl) (by kernel_rfl) (by kernel_rfl) (by kernel_rfl))
    rfl rfl Try.underlying4 laid ?_ ?_ ?_
  · intro t ht
    have h := List.all_eq_true.1 reads t ht
    rw [Bool.and_eq_true, decide_eq_true_eq] at h
    exact h
  · intro ds h
    rw [size] at h
    match ds, h with
    | [_, _], _ => rfl
  intro W base args ds ps hval0 hA0 hwt
  have hval : ∀ (j : Nat) t v, Try.f7.params[j]? = some t → args[j]? = some v → Value.okWide Try.prog W .any base t v := hval0
  have hA : DataW.TrodAll enc Try.prog W 0 (fun _ => true) true Try.f7.params.toList args.toList ds ps := hA0
  rw [Try.params7] at hA hval hwt
  obtain ⟨v0, vs0, d0, ds0, p0, q0, hargs, rfl, rfl, h0, r0⟩ := trodAll_cons hA
  obtain ⟨v1, vs1, d1, ds1, p1, q1, rfl, rfl, rfl, h1, r1⟩ := trodAll_cons r0
  obtain ⟨rfl, rfl, rfl⟩ := trodAll_nil r1
  obtain rfl : args = #[v0, v1] := by cases args; simp_all
  have cells0_0 : Try.prog.cellsOf 3 = 1 := by kernel_rfl
  have cells0_1 : Try.prog.cellsOf 3 = 1 := by kernel_rfl
  have cells0_2 : Try.prog.cellsOf 3 = 1 := by kernel_rfl
  have cells0_3 : Try.prog.cellsOf 3 = 1 := by kernel_rfl
  have cells0_4 : Try.prog.cellsOf 3 = 1 := by kernel_rfl
  have cells0_5 : Try.prog.cellsOf 3 = 1 := by kernel_rfl
  have cells0_6 : Try.prog.cellsOf 3 = 1 := by kernel_rfl
  have cells0 : Try.prog.cellsOf 23 = 7 := by kernel_rfl
  obtain ⟨a0_0, a0_1, a0_2, a0_3, a0_4, a0_5, a0_6, rfl, w0_0, w0_1, w0_2, w0_3, w0_4, w0_5, w0_6⟩ := open_ints7 Try.underlying23 cells0 Try.underlying3 cells0_0 rfl Try.underlying3 cells0_1 rfl Try.underlying3 cells0_2 rfl Try.underlying3 cells0_3 rfl Try.underlying3 cells0_4 rfl Try.underlying3 cells0_5 rfl Try.underlying3 cells0_6 rfl (hval 0 23 v0 rfl rfl) h0
  obtain ⟨ms1, om1, cm1, rfl, s1, m1⟩ := in_moves (hval 1 35 v1 rfl rfl) h1
  clear hA0 hval0
  exact (fresh_walk a0_0 a0_1 a0_2 a0_3 a0_4 a0_5 a0_6 s1 m1).mono fun e W' ⟨he, hb⟩ => ⟨he, hb⟩

theorem over : Rows.arenaFreshRow.holds Try.pinned (OpenSpec.ofChange Rows.arenaFreshSpec) :=
  OpenClaim.holds_of_wide 7 Try.f7 rfl rfl rfl rfl rfl rfl rfl ⟨rfl, rfl, rfl, rfl, rfl⟩ rfl rfl rfl rfl rfl (by kernel_rfl) Try.func7 (by kernel_rfl)
    (of_decide_eq_true (by kernel_rfl)) (by unfold Func.isWrapper; rw [if_neg (of_decide_eq_false (by kernel_rfl))]; exact ⟨rfl, rfl⟩)
    (fun os started H enc _ => lifted os started H enc)

/-- THE STATEMENT -/
theorem proved : Rows.ArenaFreshSaid :=
  over
#print axioms proved
end Go.Proofs.Ytjcggokhminmoaa.arenaFresh
