/-
A law's frame where what comes in is of small bulk.
-/
import Derived.Test.YtpmadfokpimjcaaRows
import Derived.Test.YtpmadfokpimjcaaClose
import Derived.Test.YtpmadfokpimjcaaIn
import Derived.JoinedCond
namespace Go.Proofs.Ytpmadfokpimjcaa
open Go.ChangeShapes Go.WideShapes Go.ChangeAt Go.RowKit

section
variable {H : Type} {enc : TypeId × Value → H}
/-- what a walk gives, as the statement's post -/
theorem post_law {C : Checked} {f : FuncId} {fn : Func} {s : ChangeSpec} {T : TypeId}
    (hv : s.vars = []) (hrt : fn.resultTypes = #[T]) (hT : C.prog.underlying T = some .bool) (hl : laidOutB C.prog = true)
    (hread : ∀ t ∈ fn.params.toList, C.prog.readableRec t = true ∧ t < C.prog.types.size)
    (hspec : ∀ ds : List (DataW H), ds.length = fn.params.size → s.fn H ds = { results := [.lit (.bool true)], args := ds })
    {W : World} {args : Array Value} {ds gs : List (DataW H)} {before : List MemPlace} (hW : DataW.Whole enc C.prog fn.params.toList s.vars false W args.toList ds gs before)
    (contract : DataW.TrodAll enc C.prog W 0 (fun _ => true) true fn.params.toList args.toList ds before → gs = [] → Calls C.prog f args W fun e W' => e = .returned (.bool true) ∧ Below W.heap.size W W') :
    Calls C.prog f args W fun e W' => ∃ v, e = .returned v ∧ s.post enc C.prog fn false true false false W args v W' := by
  have hW' := hW
  obtain ⟨p, q, hA, hV, hpq, hfz, hnd⟩ := hW
  rw [hv] at hV
  obtain ⟨hgs, hq⟩ := trodVars_none hV
  subst hgs; subst hq
  simp only [List.append_nil] at hpq
  subst hpq
  have hlt : ∀ x ∈ before, x.block < W.heap.size := fun x hx => hW'.lt x hx
  have hlen : ds.length = fn.params.size := by rw [trodAll_len hA]; simp
  refine (contract hA rfl).mono fun e W' ⟨he, hb⟩ => ?_
  refine ⟨.bool true, he, ds, [], before, [], before, [], hW', ?_, ?_, ?_, hb.frame _, fun h => by cases h⟩
  · rw [List.append_nil, hspec ds hlen, hrt]
    exact trodAll_mk1 (shut_bool hT true)
  · rw [List.append_nil, hspec ds hlen]
    exact below_trodAll hl hb hread hA hlt
  · rw [List.append_nil, hspec ds hlen, hv]
    rfl

theorem bulk_one (d : DataW H) : 1 ≤ Rows.uptoBulk d := by
  cases d with
  | lit l => cases l <;> simp [Rows.uptoBulk]
  | nil => simp [Rows.uptoBulk]
  | ptr d => simp [Rows.uptoBulk]
  | slice elems spare => simp [Rows.uptoBulk]
  | agg parts => simp [Rows.uptoBulk]
  | iface t d => simp [Rows.uptoBulk]
  | map entries => simp [Rows.uptoBulk]
  | held h => simp [Rows.uptoBulk]
theorem bulk_len (l : List (DataW H)) : l.length ≤ Rows.uptoBulkAll l := by
  induction l with
  | nil => simp [Rows.uptoBulkAll]
  | cons x r ih => have := bulk_one x; simp only [Rows.uptoBulkAll, List.length_cons]; omega
theorem ops_bulk {d : DataW H} {ops : List OpS} (h : d = .nil ∧ ops = [] ∨ ∃ es rest, d = .slice es rest ∧ es.length = ops.length) : ops.length ≤ Rows.uptoBulk d := by
  rcases h with ⟨_, rfl⟩ | ⟨es, rest, rfl, he⟩
  · simp
  · have := bulk_len es
    simp only [Rows.uptoBulk]
    omega
end
end Go.Proofs.Ytpmadfokpimjcaa
