/-
  No cell of these rows narrows 'for every input' (looked for: loops, veiled, ifaces, maps, wideKeys, modest, calm, conditions, laid).
  DERIVED. THE GIVEN ROWS OF THIS SEAT. 10 by the template 'for every input the law returns true; each argument reads behind the call as it read before'; 0 by the template 'total and deterministic' (their statements: YtaokjiajceefaaaTotals.lean).
  GIVEN WITH THE SEED: the statements are not yours to turn. If you find one false, say at which input.
  Laid BY PROGRAM, IN A SANDBOX (cutbox-rows.mjs): the forced cells as the released guide's own fill.sh prints them over the translation 94bebc2dff2f34b9… (all of the seat's roots in one cut). By AI agents, Wed Nov 11 2026. No macro, syntax, notation, axiom, sorry.
-/
import Derived.Test.YtaokjiajceefaaaChecked
import GoSem.Claim
import GoSem.ClaimJoined
import GoSem.ClaimMapViews
import Derived.JoinedTies
import Derived.KernelRfl
namespace Go.Proofs.Ytaokjiajceefaaa
/- THE CELL 'sum', in the pinned program and in every row, IS THE sha256 OF THE DUMP (.gsa) THAT YtaokjiajceefaaaProg.lean LOADS. Nothing in Lean hashes anything: it is a label: what it is worth is what the hold of that sum in a sandbox is worth. -/
noncomputable def Try.pinned : Pinned := { name := "ytaokjiajceefaaa", sum := "94bebc2dff2f34b9443e4cc760fd39bdb44c5211125f0c0b9747bb1b85829476", checked := Try.checked }
namespace Rows
def none {H : Type} : Left H := { results := [], args := [] }

/-- 'reclaimlaw01.WordNumbersNamed': WHATEVER THE INPUT: true; the input reads as it did. -/
def wordNumbersNamedSpec : ChangeSpec := { name := "wordNumbersNamed", fn := fun _ => fun
  | [] => { results := [.lit (.bool true)], args := [] }
  | _ => none }
def wordNumbersNamedRow : OpenClaim := { program := "ytaokjiajceefaaa", sum := "94bebc2dff2f34b9443e4cc760fd39bdb44c5211125f0c0b9747bb1b85829476", func := "reclaim/reclaimlaw01.WordNumbersNamed", spec := "wordNumbersNamed", apart := false }
def WordNumbersNamedSaid : Prop := wordNumbersNamedRow.holds Try.pinned (OpenSpec.ofChange wordNumbersNamedSpec)

/-- ITS FALSE NEIGHBOUR: 'it returns false'. Refute it at one input. -/
def wordNumbersNamedWrong : ChangeSpec := { name := "wordNumbersNamed", fn := fun _ => fun
  | [] => { results := [.lit (.bool false)], args := [] }
  | _ => none }
def WordNumbersNamedWrongFalsely : Prop := wordNumbersNamedRow.holds Try.pinned (OpenSpec.ofChange wordNumbersNamedWrong)

/-- 'reclaimlaw01.WordNumbers': WHATEVER THE INPUT: true; the input reads as it did. -/
def wordNumbersSpec : ChangeSpec := { name := "wordNumbers", fn := fun _ => fun
  | [d1, d2] => { results := [.lit (.bool true)], args := [d1, d2] }
  | _ => none }
def wordNumbersRow : OpenClaim := { program := "ytaokjiajceefaaa", sum := "94bebc2dff2f34b9443e4cc760fd39bdb44c5211125f0c0b9747bb1b85829476", func := "reclaim/reclaimlaw01.WordNumbers", spec := "wordNumbers", apart := false }
def WordNumbersSaid : Prop := wordNumbersRow.holds Try.pinned (OpenSpec.ofChange wordNumbersSpec)

/-- ITS FALSE NEIGHBOUR: 'it returns false'. Refute it at one input. -/
def wordNumbersWrong : ChangeSpec := { name := "wordNumbers", fn := fun _ => fun
  | [d1, d2] => { results := [.lit (.bool false)], args := [d1, d2] }
  | _ => none }
def WordNumbersWrongFalsely : Prop := wordNumbersRow.holds Try.pinned (OpenSpec.ofChange wordNumbersWrong)

/-- 'reclaimlaw01.WordChecks': WHATEVER THE INPUT: true; the input reads as it did. -/
def wordChecksSpec : ChangeSpec := { name := "wordChecks", fn := fun _ => fun
  | [d] => { results := [.lit (.bool true)], args := [d] }
  | _ => none }
def wordChecksRow : OpenClaim := { program := "ytaokjiajceefaaa", sum := "94bebc2dff2f34b9443e4cc760fd39bdb44c5211125f0c0b9747bb1b85829476", func := "reclaim/reclaimlaw01.WordChecks", spec := "wordChecks", apart := false }
def WordChecksSaid : Prop := wordChecksRow.holds Try.pinned (OpenSpec.ofChange wordChecksSpec)

/-- ITS FALSE NEIGHBOUR: 'it returns false'. Refute it at one input. -/
def wordChecksWrong : ChangeSpec := { name := "wordChecks", fn := fun _ => fun
  | [d] => { results := [.lit (.bool false)], args := [d] }
  | _ => none }
def WordChecksWrongFalsely : Prop := wordChecksRow.holds Try.pinned (OpenSpec.ofChange wordChecksWrong)

/-- 'reclaimlaw01.WordLinks': WHATEVER THE INPUT: true; the input reads as it did. -/
def wordLinksSpec : ChangeSpec := { name := "wordLinks", fn := fun _ => fun
  | [d1, d2, d3] => { results := [.lit (.bool true)], args := [d1, d2, d3] }
  | _ => none }
def wordLinksRow : OpenClaim := { program := "ytaokjiajceefaaa", sum := "94bebc2dff2f34b9443e4cc760fd39bdb44c5211125f0c0b9747bb1b85829476", func := "reclaim/reclaimlaw01.WordLinks", spec := "wordLinks", apart := false }
def WordLinksSaid : Prop := wordLinksRow.holds Try.pinned (OpenSpec.ofChange wordLinksSpec)

/-- ITS FALSE NEIGHBOUR: 'it returns false'. Refute it at one input. -/
def wordLinksWrong : ChangeSpec := { name := "wordLinks", fn := fun _ => fun
  | [d1, d2, d3] => { results := [.lit (.bool false)], args := [d1, d2, d3] }
  | _ => none }
def WordLinksWrongFalsely : Prop := wordLinksRow.holds Try.pinned (OpenSpec.ofChange wordLinksWrong)

/-- 'reclaimlaw01.WordHeads': WHATEVER THE INPUT: true; the input reads as it did. -/
def wordHeadsSpec : ChangeSpec := { name := "wordHeads", fn := fun _ => fun
  | [d1, d2, d3] => { results := [.lit (.bool true)], args := [d1, d2, d3] }
  | _ => none }
def wordHeadsRow : OpenClaim := { program := "ytaokjiajceefaaa", sum := "94bebc2dff2f34b9443e4cc760fd39bdb44c5211125f0c0b9747bb1b85829476", func := "reclaim/reclaimlaw01.WordHeads", spec := "wordHeads", apart := false }
def WordHeadsSaid : Prop := wordHeadsRow.holds Try.pinned (OpenSpec.ofChange wordHeadsSpec)

/-- ITS FALSE NEIGHBOUR: 'it returns false'. Refute it at one input. -/
def wordHeadsWrong : ChangeSpec := { name := "wordHeads", fn := fun _ => fun
  | [d1, d2, d3] => { results := [.lit (.bool false)], args := [d1, d2, d3] }
  | _ => none }
def WordHeadsWrongFalsely : Prop := wordHeadsRow.holds Try.pinned (OpenSpec.ofChange wordHeadsWrong)

/-- 'reclaimlaw01.WordPlan': WHATEVER THE INPUT: true; the input reads as it did. -/
def wordPlanSpec : ChangeSpec := { name := "wordPlan", fn := fun _ => fun
  | [d1, d2, d3] => { results := [.lit (.bool true)], args := [d1, d2, d3] }
  | _ => none }
def wordPlanRow : OpenClaim := { program := "ytaokjiajceefaaa", sum := "94bebc2dff2f34b9443e4cc760fd39bdb44c5211125f0c0b9747bb1b85829476", func := "reclaim/reclaimlaw01.WordPlan", spec := "wordPlan", apart := false }
def WordPlanSaid : Prop := wordPlanRow.holds Try.pinned (OpenSpec.ofChange wordPlanSpec)

/-- ITS FALSE NEIGHBOUR: 'it returns false'. Refute it at one input. -/
def wordPlanWrong : ChangeSpec := { name := "wordPlan", fn := fun _ => fun
  | [d1, d2, d3] => { results := [.lit (.bool false)], args := [d1, d2, d3] }
  | _ => none }
def WordPlanWrongFalsely : Prop := wordPlanRow.holds Try.pinned (OpenSpec.ofChange wordPlanWrong)

/-- 'reclaimlaw01.WordThere': WHATEVER THE INPUT: true; the input reads as it did. -/
def wordThereSpec : ChangeSpec := { name := "wordThere", fn := fun _ => fun
  | [d] => { results := [.lit (.bool true)], args := [d] }
  | _ => none }
def wordThereRow : OpenClaim := { program := "ytaokjiajceefaaa", sum := "94bebc2dff2f34b9443e4cc760fd39bdb44c5211125f0c0b9747bb1b85829476", func := "reclaim/reclaimlaw01.WordThere", spec := "wordThere", apart := false }
def WordThereSaid : Prop := wordThereRow.holds Try.pinned (OpenSpec.ofChange wordThereSpec)

/-- ITS FALSE NEIGHBOUR: 'it returns false'. Refute it at one input. -/
def wordThereWrong : ChangeSpec := { name := "wordThere", fn := fun _ => fun
  | [d] => { results := [.lit (.bool false)], args := [d] }
  | _ => none }
def WordThereWrongFalsely : Prop := wordThereRow.holds Try.pinned (OpenSpec.ofChange wordThereWrong)

/-- 'reclaimlaw01.WordFirst': WHATEVER THE INPUT: true; the input reads as it did. -/
def wordFirstSpec : ChangeSpec := { name := "wordFirst", fn := fun _ => fun
  | [d1, d2] => { results := [.lit (.bool true)], args := [d1, d2] }
  | _ => none }
def wordFirstRow : OpenClaim := { program := "ytaokjiajceefaaa", sum := "94bebc2dff2f34b9443e4cc760fd39bdb44c5211125f0c0b9747bb1b85829476", func := "reclaim/reclaimlaw01.WordFirst", spec := "wordFirst", apart := false }
def WordFirstSaid : Prop := wordFirstRow.holds Try.pinned (OpenSpec.ofChange wordFirstSpec)

/-- ITS FALSE NEIGHBOUR: 'it returns false'. Refute it at one input. -/
def wordFirstWrong : ChangeSpec := { name := "wordFirst", fn := fun _ => fun
  | [d1, d2] => { results := [.lit (.bool false)], args := [d1, d2] }
  | _ => none }
def WordFirstWrongFalsely : Prop := wordFirstRow.holds Try.pinned (OpenSpec.ofChange wordFirstWrong)

/-- 'reclaimlaw01.WordOwn': WHATEVER THE INPUT: true; the input reads as it did. -/
def wordOwnSpec : ChangeSpec := { name := "wordOwn", fn := fun _ => fun
  | [d1, d2] => { results := [.lit (.bool true)], args := [d1, d2] }
  | _ => none }
def wordOwnRow : OpenClaim := { program := "ytaokjiajceefaaa", sum := "94bebc2dff2f34b9443e4cc760fd39bdb44c5211125f0c0b9747bb1b85829476", func := "reclaim/reclaimlaw01.WordOwn", spec := "wordOwn", apart := false }
def WordOwnSaid : Prop := wordOwnRow.holds Try.pinned (OpenSpec.ofChange wordOwnSpec)

/-- ITS FALSE NEIGHBOUR: 'it returns false'. Refute it at one input. -/
def wordOwnWrong : ChangeSpec := { name := "wordOwn", fn := fun _ => fun
  | [d1, d2] => { results := [.lit (.bool false)], args := [d1, d2] }
  | _ => none }
def WordOwnWrongFalsely : Prop := wordOwnRow.holds Try.pinned (OpenSpec.ofChange wordOwnWrong)

/-- 'reclaimlaw01.WordChain': WHATEVER THE INPUT: true; the input reads as it did. -/
def wordChainSpec : ChangeSpec := { name := "wordChain", fn := fun _ => fun
  | [d1, d2] => { results := [.lit (.bool true)], args := [d1, d2] }
  | _ => none }
def wordChainRow : OpenClaim := { program := "ytaokjiajceefaaa", sum := "94bebc2dff2f34b9443e4cc760fd39bdb44c5211125f0c0b9747bb1b85829476", func := "reclaim/reclaimlaw01.WordChain", spec := "wordChain", apart := false }
def WordChainSaid : Prop := wordChainRow.holds Try.pinned (OpenSpec.ofChange wordChainSpec)

/-- ITS FALSE NEIGHBOUR: 'it returns false'. Refute it at one input. -/
def wordChainWrong : ChangeSpec := { name := "wordChain", fn := fun _ => fun
  | [d1, d2] => { results := [.lit (.bool false)], args := [d1, d2] }
  | _ => none }
def WordChainWrongFalsely : Prop := wordChainRow.holds Try.pinned (OpenSpec.ofChange wordChainWrong)

/- THE SECOND FORM. 'bulk': how many values and letters a reading holds, each counted each time it is reached (what is shared counts as often as it is met; a slice's spare places count too). A statement '..UptoSaid' is the law's where the arguments, and the package variables that the reading takes, are together of bulk at most 1048576: NARROWER than '..Said'. Prove '..Said' where nothing that the law and all that it calls make is longer than what came in: it says more and counts as full. Else prove '..UptoSaid'. A law counts once. -/
mutual
def uptoBulk {H : Type} : DataW H → Nat
  | .lit (.string bytes) => bytes.length + 1
  | .lit _ => 1
  | .nil => 1
  | .ptr d => uptoBulk d + 1
  | .slice elems spare => uptoBulkAll elems + uptoBulkAll spare + 1
  | .agg parts => uptoBulkAll parts + 1
  | .iface _ d => uptoBulk d + 1
  | .map entries => uptoBulkEntries entries + 1
  | .held _ => 1
def uptoBulkAll {H : Type} : List (DataW H) → Nat
  | [] => 0
  | d :: r => uptoBulk d + uptoBulkAll r
def uptoBulkEntries {H : Type} : List (Lit × DataW H) → Nat
  | [] => 0
  | x :: r => uptoBulkEntry x + uptoBulkEntries r
def uptoBulkEntry {H : Type} : Lit × DataW H → Nat
  | (.string bytes, d) => bytes.length + uptoBulk d + 1
  | (_, d) => uptoBulk d + 1
 end
def uptoSmall : (H : Type) → List (DataW H) → Bool := fun _ ds => decide (uptoBulkAll ds ≤ 1048576)
def OpenSpec.upto (s : _root_.Go.ChangeSpec) : _root_.Go.OpenSpec := { _root_.Go.OpenSpec.ofChange s with cond := some uptoSmall }

/-- 'reclaimlaw01.WordNumbersNamed', WHERE WHAT IT READS IS OF BULK AT MOST 1048576: true; the input reads as it did. -/
def wordNumbersNamedUptoRow : OpenClaim := { program := "ytaokjiajceefaaa", sum := "94bebc2dff2f34b9443e4cc760fd39bdb44c5211125f0c0b9747bb1b85829476", func := "reclaim/reclaimlaw01.WordNumbersNamed", spec := "wordNumbersNamed", apart := false, narrowed := true }
def WordNumbersNamedUptoSaid : Prop := wordNumbersNamedUptoRow.holds Try.pinned (OpenSpec.upto wordNumbersNamedSpec)

/-- 'reclaimlaw01.WordNumbers', WHERE WHAT IT READS IS OF BULK AT MOST 1048576: true; the input reads as it did. -/
def wordNumbersUptoRow : OpenClaim := { program := "ytaokjiajceefaaa", sum := "94bebc2dff2f34b9443e4cc760fd39bdb44c5211125f0c0b9747bb1b85829476", func := "reclaim/reclaimlaw01.WordNumbers", spec := "wordNumbers", apart := false, narrowed := true }
def WordNumbersUptoSaid : Prop := wordNumbersUptoRow.holds Try.pinned (OpenSpec.upto wordNumbersSpec)

/-- 'reclaimlaw01.WordChecks', WHERE WHAT IT READS IS OF BULK AT MOST 1048576: true; the input reads as it did. -/
def wordChecksUptoRow : OpenClaim := { program := "ytaokjiajceefaaa", sum := "94bebc2dff2f34b9443e4cc760fd39bdb44c5211125f0c0b9747bb1b85829476", func := "reclaim/reclaimlaw01.WordChecks", spec := "wordChecks", apart := false, narrowed := true }
def WordChecksUptoSaid : Prop := wordChecksUptoRow.holds Try.pinned (OpenSpec.upto wordChecksSpec)

/-- 'reclaimlaw01.WordLinks', WHERE WHAT IT READS IS OF BULK AT MOST 1048576: true; the input reads as it did. -/
def wordLinksUptoRow : OpenClaim := { program := "ytaokjiajceefaaa", sum := "94bebc2dff2f34b9443e4cc760fd39bdb44c5211125f0c0b9747bb1b85829476", func := "reclaim/reclaimlaw01.WordLinks", spec := "wordLinks", apart := false, narrowed := true }
def WordLinksUptoSaid : Prop := wordLinksUptoRow.holds Try.pinned (OpenSpec.upto wordLinksSpec)

/-- 'reclaimlaw01.WordHeads', WHERE WHAT IT READS IS OF BULK AT MOST 1048576: true; the input reads as it did. -/
def wordHeadsUptoRow : OpenClaim := { program := "ytaokjiajceefaaa", sum := "94bebc2dff2f34b9443e4cc760fd39bdb44c5211125f0c0b9747bb1b85829476", func := "reclaim/reclaimlaw01.WordHeads", spec := "wordHeads", apart := false, narrowed := true }
def WordHeadsUptoSaid : Prop := wordHeadsUptoRow.holds Try.pinned (OpenSpec.upto wordHeadsSpec)

/-- 'reclaimlaw01.WordPlan', WHERE WHAT IT READS IS OF BULK AT MOST 1048576: true; the input reads as it did. -/
def wordPlanUptoRow : OpenClaim := { program := "ytaokjiajceefaaa", sum := "94bebc2dff2f34b9443e4cc760fd39bdb44c5211125f0c0b9747bb1b85829476", func := "reclaim/reclaimlaw01.WordPlan", spec := "wordPlan", apart := false, narrowed := true }
def WordPlanUptoSaid : Prop := wordPlanUptoRow.holds Try.pinned (OpenSpec.upto wordPlanSpec)

/-- 'reclaimlaw01.WordThere', WHERE WHAT IT READS IS OF BULK AT MOST 1048576: true; the input reads as it did. -/
def wordThereUptoRow : OpenClaim := { program := "ytaokjiajceefaaa", sum := "94bebc2dff2f34b9443e4cc760fd39bdb44c5211125f0c0b9747bb1b85829476", func := "reclaim/reclaimlaw01.WordThere", spec := "wordThere", apart := false, narrowed := true }
def WordThereUptoSaid : Prop := wordThereUptoRow.holds Try.pinned (OpenSpec.upto wordThereSpec)

/-- 'reclaimlaw01.WordFirst', WHERE WHAT IT READS IS OF BULK AT MOST 1048576: true; the input reads as it did. -/
def wordFirstUptoRow : OpenClaim := { program := "ytaokjiajceefaaa", sum := "94bebc2dff2f34b9443e4cc760fd39bdb44c5211125f0c0b9747bb1b85829476", func := "reclaim/reclaimlaw01.WordFirst", spec := "wordFirst", apart := false, narrowed := true }
def WordFirstUptoSaid : Prop := wordFirstUptoRow.holds Try.pinned (OpenSpec.upto wordFirstSpec)

/-- 'reclaimlaw01.WordOwn', WHERE WHAT IT READS IS OF BULK AT MOST 1048576: true; the input reads as it did. -/
def wordOwnUptoRow : OpenClaim := { program := "ytaokjiajceefaaa", sum := "94bebc2dff2f34b9443e4cc760fd39bdb44c5211125f0c0b9747bb1b85829476", func := "reclaim/reclaimlaw01.WordOwn", spec := "wordOwn", apart := false, narrowed := true }
def WordOwnUptoSaid : Prop := wordOwnUptoRow.holds Try.pinned (OpenSpec.upto wordOwnSpec)

/-- 'reclaimlaw01.WordChain', WHERE WHAT IT READS IS OF BULK AT MOST 1048576: true; the input reads as it did. -/
def wordChainUptoRow : OpenClaim := { program := "ytaokjiajceefaaa", sum := "94bebc2dff2f34b9443e4cc760fd39bdb44c5211125f0c0b9747bb1b85829476", func := "reclaim/reclaimlaw01.WordChain", spec := "wordChain", apart := false, narrowed := true }
def WordChainUptoSaid : Prop := wordChainUptoRow.holds Try.pinned (OpenSpec.upto wordChainSpec)

end Rows
end Go.Proofs.Ytaokjiajceefaaa
