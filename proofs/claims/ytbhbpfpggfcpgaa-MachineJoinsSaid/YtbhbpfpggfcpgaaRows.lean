/-
  No cell of these rows narrows 'for every input' (looked for: loops, veiled, ifaces, maps, wideKeys, modest, calm, conditions, laid).
  DERIVED. THE GIVEN ROWS OF THIS SEAT. 12 by the template 'for every input the law returns true; each argument reads behind the call as it read before'; 0 by the template 'total and deterministic' (their statements: YtbhbpfpggfcpgaaTotals.lean).
  GIVEN WITH THE SEED: the statements are not yours to turn. If you find one false, say at which input.
  Laid BY PROGRAM, IN A SANDBOX (cutbox-rows.mjs): the forced cells as the released guide's own fill.sh prints them over the translation 52ff6fdb93debbd1… (all of the seat's roots in one cut). By AI agents, Wed Nov 11 2026. No macro, syntax, notation, axiom, sorry.
-/
import Derived.Test.YtbhbpfpggfcpgaaChecked
import GoSem.Claim
import GoSem.ClaimJoined
import GoSem.ClaimMapViews
import Derived.JoinedTies
import Derived.KernelRfl
namespace Go.Proofs.Ytbhbpfpggfcpgaa
/- THE CELL 'sum', in the pinned program and in every row, IS THE sha256 OF THE DUMP (.gsa) THAT YtbhbpfpggfcpgaaProg.lean LOADS. Nothing in Lean hashes anything: it is a label: what it is worth is what the hold of that sum in a sandbox is worth. -/
noncomputable def Try.pinned : Pinned := { name := "ytbhbpfpggfcpgaa", sum := "52ff6fdb93debbd13c303222e7c48d5fad1caf764347f0c74d929a83f617e3b6", checked := Try.checked }
namespace Rows
def none {H : Type} : Left H := { results := [], args := [] }

/-- 'reclaimlaw03.MachineFull': WHATEVER THE INPUT: true; the input reads as it did. -/
def machineFullSpec : ChangeSpec := { name := "machineFull", fn := fun _ => fun
  | [d1, d2] => { results := [.lit (.bool true)], args := [d1, d2] }
  | _ => none }
def machineFullRow : OpenClaim := { program := "ytbhbpfpggfcpgaa", sum := "52ff6fdb93debbd13c303222e7c48d5fad1caf764347f0c74d929a83f617e3b6", func := "reclaim/reclaimlaw03.MachineFull", spec := "machineFull", unfollowed := true, recurses := true, apart := false }
def MachineFullSaid : Prop := machineFullRow.holds Try.pinned (OpenSpec.ofChange machineFullSpec)

/-- ITS FALSE NEIGHBOUR: 'it returns false'. Refute it at one input. -/
def machineFullWrong : ChangeSpec := { name := "machineFull", fn := fun _ => fun
  | [d1, d2] => { results := [.lit (.bool false)], args := [d1, d2] }
  | _ => none }
def MachineFullWrongFalsely : Prop := machineFullRow.holds Try.pinned (OpenSpec.ofChange machineFullWrong)

/-- 'reclaimlaw03.MachinePlays': WHATEVER THE INPUT: true; the input reads as it did. -/
def machinePlaysSpec : ChangeSpec := { name := "machinePlays", fn := fun _ => fun
  | [d] => { results := [.lit (.bool true)], args := [d] }
  | _ => none }
def machinePlaysRow : OpenClaim := { program := "ytbhbpfpggfcpgaa", sum := "52ff6fdb93debbd13c303222e7c48d5fad1caf764347f0c74d929a83f617e3b6", func := "reclaim/reclaimlaw03.MachinePlays", spec := "machinePlays", unfollowed := true, recurses := true, apart := false }
def MachinePlaysSaid : Prop := machinePlaysRow.holds Try.pinned (OpenSpec.ofChange machinePlaysSpec)

/-- ITS FALSE NEIGHBOUR: 'it returns false'. Refute it at one input. -/
def machinePlaysWrong : ChangeSpec := { name := "machinePlays", fn := fun _ => fun
  | [d] => { results := [.lit (.bool false)], args := [d] }
  | _ => none }
def MachinePlaysWrongFalsely : Prop := machinePlaysRow.holds Try.pinned (OpenSpec.ofChange machinePlaysWrong)

/-- 'reclaimlaw03.MachineCounters': WHATEVER THE INPUT: true; the input reads as it did. -/
def machineCountersSpec : ChangeSpec := { name := "machineCounters", fn := fun _ => fun
  | [d] => { results := [.lit (.bool true)], args := [d] }
  | _ => none }
def machineCountersRow : OpenClaim := { program := "ytbhbpfpggfcpgaa", sum := "52ff6fdb93debbd13c303222e7c48d5fad1caf764347f0c74d929a83f617e3b6", func := "reclaim/reclaimlaw03.MachineCounters", spec := "machineCounters", unfollowed := true, recurses := true, apart := false }
def MachineCountersSaid : Prop := machineCountersRow.holds Try.pinned (OpenSpec.ofChange machineCountersSpec)

/-- ITS FALSE NEIGHBOUR: 'it returns false'. Refute it at one input. -/
def machineCountersWrong : ChangeSpec := { name := "machineCounters", fn := fun _ => fun
  | [d] => { results := [.lit (.bool false)], args := [d] }
  | _ => none }
def MachineCountersWrongFalsely : Prop := machineCountersRow.holds Try.pinned (OpenSpec.ofChange machineCountersWrong)

/-- 'reclaimlaw03.MachineAccounts': WHATEVER THE INPUT: true; the input reads as it did. -/
def machineAccountsSpec : ChangeSpec := { name := "machineAccounts", fn := fun _ => fun
  | [d] => { results := [.lit (.bool true)], args := [d] }
  | _ => none }
def machineAccountsRow : OpenClaim := { program := "ytbhbpfpggfcpgaa", sum := "52ff6fdb93debbd13c303222e7c48d5fad1caf764347f0c74d929a83f617e3b6", func := "reclaim/reclaimlaw03.MachineAccounts", spec := "machineAccounts", unfollowed := true, recurses := true, apart := false }
def MachineAccountsSaid : Prop := machineAccountsRow.holds Try.pinned (OpenSpec.ofChange machineAccountsSpec)

/-- ITS FALSE NEIGHBOUR: 'it returns false'. Refute it at one input. -/
def machineAccountsWrong : ChangeSpec := { name := "machineAccounts", fn := fun _ => fun
  | [d] => { results := [.lit (.bool false)], args := [d] }
  | _ => none }
def MachineAccountsWrongFalsely : Prop := machineAccountsRow.holds Try.pinned (OpenSpec.ofChange machineAccountsWrong)

/-- 'reclaimlaw03.MachineSteps': WHATEVER THE INPUT: true; the input reads as it did. -/
def machineStepsSpec : ChangeSpec := { name := "machineSteps", fn := fun _ => fun
  | [d] => { results := [.lit (.bool true)], args := [d] }
  | _ => none }
def machineStepsRow : OpenClaim := { program := "ytbhbpfpggfcpgaa", sum := "52ff6fdb93debbd13c303222e7c48d5fad1caf764347f0c74d929a83f617e3b6", func := "reclaim/reclaimlaw03.MachineSteps", spec := "machineSteps", unfollowed := true, recurses := true, apart := false }
def MachineStepsSaid : Prop := machineStepsRow.holds Try.pinned (OpenSpec.ofChange machineStepsSpec)

/-- ITS FALSE NEIGHBOUR: 'it returns false'. Refute it at one input. -/
def machineStepsWrong : ChangeSpec := { name := "machineSteps", fn := fun _ => fun
  | [d] => { results := [.lit (.bool false)], args := [d] }
  | _ => none }
def MachineStepsWrongFalsely : Prop := machineStepsRow.holds Try.pinned (OpenSpec.ofChange machineStepsWrong)

/-- 'reclaimlaw03.MachineFails': WHATEVER THE INPUT: true; the input reads as it did. -/
def machineFailsSpec : ChangeSpec := { name := "machineFails", fn := fun _ => fun
  | [d1, d2] => { results := [.lit (.bool true)], args := [d1, d2] }
  | _ => none }
def machineFailsRow : OpenClaim := { program := "ytbhbpfpggfcpgaa", sum := "52ff6fdb93debbd13c303222e7c48d5fad1caf764347f0c74d929a83f617e3b6", func := "reclaim/reclaimlaw03.MachineFails", spec := "machineFails", unfollowed := true, recurses := true, apart := false }
def MachineFailsSaid : Prop := machineFailsRow.holds Try.pinned (OpenSpec.ofChange machineFailsSpec)

/-- ITS FALSE NEIGHBOUR: 'it returns false'. Refute it at one input. -/
def machineFailsWrong : ChangeSpec := { name := "machineFails", fn := fun _ => fun
  | [d1, d2] => { results := [.lit (.bool false)], args := [d1, d2] }
  | _ => none }
def MachineFailsWrongFalsely : Prop := machineFailsRow.holds Try.pinned (OpenSpec.ofChange machineFailsWrong)

/-- 'reclaimlaw03.MachineBegins': WHATEVER THE INPUT: true; the input reads as it did. -/
def machineBeginsSpec : ChangeSpec := { name := "machineBegins", fn := fun _ => fun
  | [d1, d2] => { results := [.lit (.bool true)], args := [d1, d2] }
  | _ => none }
def machineBeginsRow : OpenClaim := { program := "ytbhbpfpggfcpgaa", sum := "52ff6fdb93debbd13c303222e7c48d5fad1caf764347f0c74d929a83f617e3b6", func := "reclaim/reclaimlaw03.MachineBegins", spec := "machineBegins", unfollowed := true, recurses := true, apart := false }
def MachineBeginsSaid : Prop := machineBeginsRow.holds Try.pinned (OpenSpec.ofChange machineBeginsSpec)

/-- ITS FALSE NEIGHBOUR: 'it returns false'. Refute it at one input. -/
def machineBeginsWrong : ChangeSpec := { name := "machineBegins", fn := fun _ => fun
  | [d1, d2] => { results := [.lit (.bool false)], args := [d1, d2] }
  | _ => none }
def MachineBeginsWrongFalsely : Prop := machineBeginsRow.holds Try.pinned (OpenSpec.ofChange machineBeginsWrong)

/-- 'reclaimlaw03.MachineIdle': WHATEVER THE INPUT: true; the input reads as it did. -/
def machineIdleSpec : ChangeSpec := { name := "machineIdle", fn := fun _ => fun
  | [d] => { results := [.lit (.bool true)], args := [d] }
  | _ => none }
def machineIdleRow : OpenClaim := { program := "ytbhbpfpggfcpgaa", sum := "52ff6fdb93debbd13c303222e7c48d5fad1caf764347f0c74d929a83f617e3b6", func := "reclaim/reclaimlaw03.MachineIdle", spec := "machineIdle", unfollowed := true, recurses := true, apart := false }
def MachineIdleSaid : Prop := machineIdleRow.holds Try.pinned (OpenSpec.ofChange machineIdleSpec)

/-- ITS FALSE NEIGHBOUR: 'it returns false'. Refute it at one input. -/
def machineIdleWrong : ChangeSpec := { name := "machineIdle", fn := fun _ => fun
  | [d] => { results := [.lit (.bool false)], args := [d] }
  | _ => none }
def MachineIdleWrongFalsely : Prop := machineIdleRow.holds Try.pinned (OpenSpec.ofChange machineIdleWrong)

/-- 'reclaimlaw03.MachineOwn': WHATEVER THE INPUT: true; the input reads as it did. -/
def machineOwnSpec : ChangeSpec := { name := "machineOwn", fn := fun _ => fun
  | [d] => { results := [.lit (.bool true)], args := [d] }
  | _ => none }
def machineOwnRow : OpenClaim := { program := "ytbhbpfpggfcpgaa", sum := "52ff6fdb93debbd13c303222e7c48d5fad1caf764347f0c74d929a83f617e3b6", func := "reclaim/reclaimlaw03.MachineOwn", spec := "machineOwn", unfollowed := true, recurses := true, apart := false }
def MachineOwnSaid : Prop := machineOwnRow.holds Try.pinned (OpenSpec.ofChange machineOwnSpec)

/-- ITS FALSE NEIGHBOUR: 'it returns false'. Refute it at one input. -/
def machineOwnWrong : ChangeSpec := { name := "machineOwn", fn := fun _ => fun
  | [d] => { results := [.lit (.bool false)], args := [d] }
  | _ => none }
def MachineOwnWrongFalsely : Prop := machineOwnRow.holds Try.pinned (OpenSpec.ofChange machineOwnWrong)

/-- 'reclaimlaw03.MachineJoins': WHATEVER THE INPUT: true; the input reads as it did. -/
def machineJoinsSpec : ChangeSpec := { name := "machineJoins", fn := fun _ => fun
  | [d1, d2] => { results := [.lit (.bool true)], args := [d1, d2] }
  | _ => none }
def machineJoinsRow : OpenClaim := { program := "ytbhbpfpggfcpgaa", sum := "52ff6fdb93debbd13c303222e7c48d5fad1caf764347f0c74d929a83f617e3b6", func := "reclaim/reclaimlaw03.MachineJoins", spec := "machineJoins", unfollowed := true, recurses := true, apart := false }
def MachineJoinsSaid : Prop := machineJoinsRow.holds Try.pinned (OpenSpec.ofChange machineJoinsSpec)

/-- ITS FALSE NEIGHBOUR: 'it returns false'. Refute it at one input. -/
def machineJoinsWrong : ChangeSpec := { name := "machineJoins", fn := fun _ => fun
  | [d1, d2] => { results := [.lit (.bool false)], args := [d1, d2] }
  | _ => none }
def MachineJoinsWrongFalsely : Prop := machineJoinsRow.holds Try.pinned (OpenSpec.ofChange machineJoinsWrong)

/-- 'reclaimlaw03.MachineMoves': WHATEVER THE INPUT: true; the input reads as it did. -/
def machineMovesSpec : ChangeSpec := { name := "machineMoves", fn := fun _ => fun
  | [d1, d2] => { results := [.lit (.bool true)], args := [d1, d2] }
  | _ => none }
def machineMovesRow : OpenClaim := { program := "ytbhbpfpggfcpgaa", sum := "52ff6fdb93debbd13c303222e7c48d5fad1caf764347f0c74d929a83f617e3b6", func := "reclaim/reclaimlaw03.MachineMoves", spec := "machineMoves", unfollowed := true, recurses := true, apart := false }
def MachineMovesSaid : Prop := machineMovesRow.holds Try.pinned (OpenSpec.ofChange machineMovesSpec)

/-- ITS FALSE NEIGHBOUR: 'it returns false'. Refute it at one input. -/
def machineMovesWrong : ChangeSpec := { name := "machineMoves", fn := fun _ => fun
  | [d1, d2] => { results := [.lit (.bool false)], args := [d1, d2] }
  | _ => none }
def MachineMovesWrongFalsely : Prop := machineMovesRow.holds Try.pinned (OpenSpec.ofChange machineMovesWrong)

/-- 'reclaimlaw03.MachineZero': WHATEVER THE INPUT: true; the input reads as it did. -/
def machineZeroSpec : ChangeSpec := { name := "machineZero", fn := fun _ => fun
  | [d1, d2, d3] => { results := [.lit (.bool true)], args := [d1, d2, d3] }
  | _ => none }
def machineZeroRow : OpenClaim := { program := "ytbhbpfpggfcpgaa", sum := "52ff6fdb93debbd13c303222e7c48d5fad1caf764347f0c74d929a83f617e3b6", func := "reclaim/reclaimlaw03.MachineZero", spec := "machineZero", unfollowed := true, recurses := true, apart := false }
def MachineZeroSaid : Prop := machineZeroRow.holds Try.pinned (OpenSpec.ofChange machineZeroSpec)

/-- ITS FALSE NEIGHBOUR: 'it returns false'. Refute it at one input. -/
def machineZeroWrong : ChangeSpec := { name := "machineZero", fn := fun _ => fun
  | [d1, d2, d3] => { results := [.lit (.bool false)], args := [d1, d2, d3] }
  | _ => none }
def MachineZeroWrongFalsely : Prop := machineZeroRow.holds Try.pinned (OpenSpec.ofChange machineZeroWrong)

/- THE SECOND FORM. 'bulk': how many values and letters a reading holds, each counted each time it is reached (what is shared counts as often as it is met; a slice's spare places count too). A statement '..UptoSaid' is the law's where the arguments, and the package variables that the reading takes, are together of bulk at most 1048576: NARROWER than '..Said'. Prove '..Said' where nothing that the law and all that it calls make is longer than what came in: it says more and counts as full. Else prove '..UptoSaid'. A law counts once. -/
mutual
def uptoBulk {H : Type} : DataW H → Nat
  | .lit (.string bytes) => bytes.length + 1
  | .lit _ => 1
  | .nil => 1
  | .ptr d => uptoBulk d + 1
  | .slice elems spare => uptoBulkAll elems + uptoBulkAll spare + 1
  | .agg parts => uptoBulkAll parts + 1
  | .iface _ d => uptoBulk d + 1
  | .map entries => uptoBulkEntries entries + 1
  | .held _ => 1
def uptoBulkAll {H : Type} : List (DataW H) → Nat
  | [] => 0
  | d :: r => uptoBulk d + uptoBulkAll r
def uptoBulkEntries {H : Type} : List (Lit × DataW H) → Nat
  | [] => 0
  | x :: r => uptoBulkEntry x + uptoBulkEntries r
def uptoBulkEntry {H : Type} : Lit × DataW H → Nat
  | (.string bytes, d) => bytes.length + uptoBulk d + 1
  | (_, d) => uptoBulk d + 1
 end
def uptoSmall : (H : Type) → List (DataW H) → Bool := fun _ ds => decide (uptoBulkAll ds ≤ 1048576)
def OpenSpec.upto (s : _root_.Go.ChangeSpec) : _root_.Go.OpenSpec := { _root_.Go.OpenSpec.ofChange s with cond := some uptoSmall }

/-- 'reclaimlaw03.MachineFull', WHERE WHAT IT READS IS OF BULK AT MOST 1048576: true; the input reads as it did. -/
def machineFullUptoRow : OpenClaim := { program := "ytbhbpfpggfcpgaa", sum := "52ff6fdb93debbd13c303222e7c48d5fad1caf764347f0c74d929a83f617e3b6", func := "reclaim/reclaimlaw03.MachineFull", spec := "machineFull", unfollowed := true, recurses := true, apart := false, narrowed := true }
def MachineFullUptoSaid : Prop := machineFullUptoRow.holds Try.pinned (OpenSpec.upto machineFullSpec)

/-- 'reclaimlaw03.MachinePlays', WHERE WHAT IT READS IS OF BULK AT MOST 1048576: true; the input reads as it did. -/
def machinePlaysUptoRow : OpenClaim := { program := "ytbhbpfpggfcpgaa", sum := "52ff6fdb93debbd13c303222e7c48d5fad1caf764347f0c74d929a83f617e3b6", func := "reclaim/reclaimlaw03.MachinePlays", spec := "machinePlays", unfollowed := true, recurses := true, apart := false, narrowed := true }
def MachinePlaysUptoSaid : Prop := machinePlaysUptoRow.holds Try.pinned (OpenSpec.upto machinePlaysSpec)

/-- 'reclaimlaw03.MachineCounters', WHERE WHAT IT READS IS OF BULK AT MOST 1048576: true; the input reads as it did. -/
def machineCountersUptoRow : OpenClaim := { program := "ytbhbpfpggfcpgaa", sum := "52ff6fdb93debbd13c303222e7c48d5fad1caf764347f0c74d929a83f617e3b6", func := "reclaim/reclaimlaw03.MachineCounters", spec := "machineCounters", unfollowed := true, recurses := true, apart := false, narrowed := true }
def MachineCountersUptoSaid : Prop := machineCountersUptoRow.holds Try.pinned (OpenSpec.upto machineCountersSpec)

/-- 'reclaimlaw03.MachineAccounts', WHERE WHAT IT READS IS OF BULK AT MOST 1048576: true; the input reads as it did. -/
def machineAccountsUptoRow : OpenClaim := { program := "ytbhbpfpggfcpgaa", sum := "52ff6fdb93debbd13c303222e7c48d5fad1caf764347f0c74d929a83f617e3b6", func := "reclaim/reclaimlaw03.MachineAccounts", spec := "machineAccounts", unfollowed := true, recurses := true, apart := false, narrowed := true }
def MachineAccountsUptoSaid : Prop := machineAccountsUptoRow.holds Try.pinned (OpenSpec.upto machineAccountsSpec)

/-- 'reclaimlaw03.MachineSteps', WHERE WHAT IT READS IS OF BULK AT MOST 1048576: true; the input reads as it did. -/
def machineStepsUptoRow : OpenClaim := { program := "ytbhbpfpggfcpgaa", sum := "52ff6fdb93debbd13c303222e7c48d5fad1caf764347f0c74d929a83f617e3b6", func := "reclaim/reclaimlaw03.MachineSteps", spec := "machineSteps", unfollowed := true, recurses := true, apart := false, narrowed := true }
def MachineStepsUptoSaid : Prop := machineStepsUptoRow.holds Try.pinned (OpenSpec.upto machineStepsSpec)

/-- 'reclaimlaw03.MachineFails', WHERE WHAT IT READS IS OF BULK AT MOST 1048576: true; the input reads as it did. -/
def machineFailsUptoRow : OpenClaim := { program := "ytbhbpfpggfcpgaa", sum := "52ff6fdb93debbd13c303222e7c48d5fad1caf764347f0c74d929a83f617e3b6", func := "reclaim/reclaimlaw03.MachineFails", spec := "machineFails", unfollowed := true, recurses := true, apart := false, narrowed := true }
def MachineFailsUptoSaid : Prop := machineFailsUptoRow.holds Try.pinned (OpenSpec.upto machineFailsSpec)

/-- 'reclaimlaw03.MachineBegins', WHERE WHAT IT READS IS OF BULK AT MOST 1048576: true; the input reads as it did. -/
def machineBeginsUptoRow : OpenClaim := { program := "ytbhbpfpggfcpgaa", sum := "52ff6fdb93debbd13c303222e7c48d5fad1caf764347f0c74d929a83f617e3b6", func := "reclaim/reclaimlaw03.MachineBegins", spec := "machineBegins", unfollowed := true, recurses := true, apart := false, narrowed := true }
def MachineBeginsUptoSaid : Prop := machineBeginsUptoRow.holds Try.pinned (OpenSpec.upto machineBeginsSpec)

/-- 'reclaimlaw03.MachineIdle', WHERE WHAT IT READS IS OF BULK AT MOST 1048576: true; the input reads as it did. -/
def machineIdleUptoRow : OpenClaim := { program := "ytbhbpfpggfcpgaa", sum := "52ff6fdb93debbd13c303222e7c48d5fad1caf764347f0c74d929a83f617e3b6", func := "reclaim/reclaimlaw03.MachineIdle", spec := "machineIdle", unfollowed := true, recurses := true, apart := false, narrowed := true }
def MachineIdleUptoSaid : Prop := machineIdleUptoRow.holds Try.pinned (OpenSpec.upto machineIdleSpec)

/-- 'reclaimlaw03.MachineOwn', WHERE WHAT IT READS IS OF BULK AT MOST 1048576: true; the input reads as it did. -/
def machineOwnUptoRow : OpenClaim := { program := "ytbhbpfpggfcpgaa", sum := "52ff6fdb93debbd13c303222e7c48d5fad1caf764347f0c74d929a83f617e3b6", func := "reclaim/reclaimlaw03.MachineOwn", spec := "machineOwn", unfollowed := true, recurses := true, apart := false, narrowed := true }
def MachineOwnUptoSaid : Prop := machineOwnUptoRow.holds Try.pinned (OpenSpec.upto machineOwnSpec)

/-- 'reclaimlaw03.MachineJoins', WHERE WHAT IT READS IS OF BULK AT MOST 1048576: true; the input reads as it did. -/
def machineJoinsUptoRow : OpenClaim := { program := "ytbhbpfpggfcpgaa", sum := "52ff6fdb93debbd13c303222e7c48d5fad1caf764347f0c74d929a83f617e3b6", func := "reclaim/reclaimlaw03.MachineJoins", spec := "machineJoins", unfollowed := true, recurses := true, apart := false, narrowed := true }
def MachineJoinsUptoSaid : Prop := machineJoinsUptoRow.holds Try.pinned (OpenSpec.upto machineJoinsSpec)

/-- 'reclaimlaw03.MachineMoves', WHERE WHAT IT READS IS OF BULK AT MOST 1048576: true; the input reads as it did. -/
def machineMovesUptoRow : OpenClaim := { program := "ytbhbpfpggfcpgaa", sum := "52ff6fdb93debbd13c303222e7c48d5fad1caf764347f0c74d929a83f617e3b6", func := "reclaim/reclaimlaw03.MachineMoves", spec := "machineMoves", unfollowed := true, recurses := true, apart := false, narrowed := true }
def MachineMovesUptoSaid : Prop := machineMovesUptoRow.holds Try.pinned (OpenSpec.upto machineMovesSpec)

/-- 'reclaimlaw03.MachineZero', WHERE WHAT IT READS IS OF BULK AT MOST 1048576: true; the input reads as it did. -/
def machineZeroUptoRow : OpenClaim := { program := "ytbhbpfpggfcpgaa", sum := "52ff6fdb93debbd13c303222e7c48d5fad1caf764347f0c74d929a83f617e3b6", func := "reclaim/reclaimlaw03.MachineZero", spec := "machineZero", unfollowed := true, recurses := true, apart := false, narrowed := true }
def MachineZeroUptoSaid : Prop := machineZeroUptoRow.holds Try.pinned (OpenSpec.upto machineZeroSpec)

end Rows
end Go.Proofs.Ytbhbpfpggfcpgaa
