/-
  No cell of these rows narrows 'for every input' (looked for: loops, veiled, ifaces, maps, wideKeys, modest, calm, conditions, laid).
  DERIVED. THE GIVEN ROWS OF THIS SEAT. 10 by the template 'for every input the law returns true; each argument reads behind the call as it read before'; 0 by the template 'total and deterministic' (their statements: YtpmadfokpimjcaaTotals.lean).
  GIVEN WITH THE SEED: the statements are not yours to turn. If you find one false, say at which input.
  Laid BY PROGRAM, IN A SANDBOX (cutbox-rows.mjs): the forced cells as the released guide's own fill.sh prints them over the translation fcae1e3222379b03… (all of the seat's roots in one cut). By AI agents, Wed Nov 11 2026. No macro, syntax, notation, axiom, sorry.
-/
import Derived.Test.YtpmadfokpimjcaaChecked
import GoSem.Claim
import GoSem.ClaimJoined
import GoSem.ClaimMapViews
import Derived.JoinedTies
import Derived.KernelRfl
namespace Go.Proofs.Ytpmadfokpimjcaa
/- THE CELL 'sum', in the pinned program and in every row, IS THE sha256 OF THE DUMP (.gsa) THAT YtpmadfokpimjcaaProg.lean LOADS. Nothing in Lean hashes anything: it is a label: what it is worth is what the hold of that sum in a sandbox is worth. -/
noncomputable def Try.pinned : Pinned := { name := "ytpmadfokpimjcaa", sum := "fcae1e3222379b034046891623d2586c8e4de17679fb552ec1c5ff62fe319e23", checked := Try.checked }
namespace Rows
def none {H : Type} : Left H := { results := [], args := [] }

/-- 'reclaimlaw02.MemoryLimits': WHATEVER THE INPUT: true; the input reads as it did. -/
def memoryLimitsSpec : ChangeSpec := { name := "memoryLimits", fn := fun _ => fun
  | [d] => { results := [.lit (.bool true)], args := [d] }
  | _ => none }
def memoryLimitsRow : OpenClaim := { program := "ytpmadfokpimjcaa", sum := "fcae1e3222379b034046891623d2586c8e4de17679fb552ec1c5ff62fe319e23", func := "reclaim/reclaimlaw02.MemoryLimits", spec := "memoryLimits", apart := false }
def MemoryLimitsSaid : Prop := memoryLimitsRow.holds Try.pinned (OpenSpec.ofChange memoryLimitsSpec)

/-- ITS FALSE NEIGHBOUR: 'it returns false'. Refute it at one input. -/
def memoryLimitsWrong : ChangeSpec := { name := "memoryLimits", fn := fun _ => fun
  | [d] => { results := [.lit (.bool false)], args := [d] }
  | _ => none }
def MemoryLimitsWrongFalsely : Prop := memoryLimitsRow.holds Try.pinned (OpenSpec.ofChange memoryLimitsWrong)

/-- 'reclaimlaw02.MemoryReplays': WHATEVER THE INPUT: true; the input reads as it did. -/
def memoryReplaysSpec : ChangeSpec := { name := "memoryReplays", fn := fun _ => fun
  | [d1, d2] => { results := [.lit (.bool true)], args := [d1, d2] }
  | _ => none }
def memoryReplaysRow : OpenClaim := { program := "ytpmadfokpimjcaa", sum := "fcae1e3222379b034046891623d2586c8e4de17679fb552ec1c5ff62fe319e23", func := "reclaim/reclaimlaw02.MemoryReplays", spec := "memoryReplays", unfollowed := true, recurses := true, apart := false }
def MemoryReplaysSaid : Prop := memoryReplaysRow.holds Try.pinned (OpenSpec.ofChange memoryReplaysSpec)

/-- ITS FALSE NEIGHBOUR: 'it returns false'. Refute it at one input. -/
def memoryReplaysWrong : ChangeSpec := { name := "memoryReplays", fn := fun _ => fun
  | [d1, d2] => { results := [.lit (.bool false)], args := [d1, d2] }
  | _ => none }
def MemoryReplaysWrongFalsely : Prop := memoryReplaysRow.holds Try.pinned (OpenSpec.ofChange memoryReplaysWrong)

/-- 'reclaimlaw02.MemoryFresh': WHATEVER THE INPUT: true; the input reads as it did. -/
def memoryFreshSpec : ChangeSpec := { name := "memoryFresh", fn := fun _ => fun
  | [d1, d2] => { results := [.lit (.bool true)], args := [d1, d2] }
  | _ => none }
def memoryFreshRow : OpenClaim := { program := "ytpmadfokpimjcaa", sum := "fcae1e3222379b034046891623d2586c8e4de17679fb552ec1c5ff62fe319e23", func := "reclaim/reclaimlaw02.MemoryFresh", spec := "memoryFresh", unfollowed := true, recurses := true, apart := false }
def MemoryFreshSaid : Prop := memoryFreshRow.holds Try.pinned (OpenSpec.ofChange memoryFreshSpec)

/-- ITS FALSE NEIGHBOUR: 'it returns false'. Refute it at one input. -/
def memoryFreshWrong : ChangeSpec := { name := "memoryFresh", fn := fun _ => fun
  | [d1, d2] => { results := [.lit (.bool false)], args := [d1, d2] }
  | _ => none }
def MemoryFreshWrongFalsely : Prop := memoryFreshRow.holds Try.pinned (OpenSpec.ofChange memoryFreshWrong)

/-- 'reclaimlaw02.MemoryOne': WHATEVER THE INPUT: true; the input reads as it did. -/
def memoryOneSpec : ChangeSpec := { name := "memoryOne", fn := fun _ => fun
  | [d1, d2] => { results := [.lit (.bool true)], args := [d1, d2] }
  | _ => none }
def memoryOneRow : OpenClaim := { program := "ytpmadfokpimjcaa", sum := "fcae1e3222379b034046891623d2586c8e4de17679fb552ec1c5ff62fe319e23", func := "reclaim/reclaimlaw02.MemoryOne", spec := "memoryOne", unfollowed := true, recurses := true, apart := false }
def MemoryOneSaid : Prop := memoryOneRow.holds Try.pinned (OpenSpec.ofChange memoryOneSpec)

/-- ITS FALSE NEIGHBOUR: 'it returns false'. Refute it at one input. -/
def memoryOneWrong : ChangeSpec := { name := "memoryOne", fn := fun _ => fun
  | [d1, d2] => { results := [.lit (.bool false)], args := [d1, d2] }
  | _ => none }
def MemoryOneWrongFalsely : Prop := memoryOneRow.holds Try.pinned (OpenSpec.ofChange memoryOneWrong)

/-- 'reclaimlaw02.MemoryWriters': WHATEVER THE INPUT: true; the input reads as it did. -/
def memoryWritersSpec : ChangeSpec := { name := "memoryWriters", fn := fun _ => fun
  | [d1, d2, d3] => { results := [.lit (.bool true)], args := [d1, d2, d3] }
  | _ => none }
def memoryWritersRow : OpenClaim := { program := "ytpmadfokpimjcaa", sum := "fcae1e3222379b034046891623d2586c8e4de17679fb552ec1c5ff62fe319e23", func := "reclaim/reclaimlaw02.MemoryWriters", spec := "memoryWriters", unfollowed := true, recurses := true, apart := false }
def MemoryWritersSaid : Prop := memoryWritersRow.holds Try.pinned (OpenSpec.ofChange memoryWritersSpec)

/-- ITS FALSE NEIGHBOUR: 'it returns false'. Refute it at one input. -/
def memoryWritersWrong : ChangeSpec := { name := "memoryWriters", fn := fun _ => fun
  | [d1, d2, d3] => { results := [.lit (.bool false)], args := [d1, d2, d3] }
  | _ => none }
def MemoryWritersWrongFalsely : Prop := memoryWritersRow.holds Try.pinned (OpenSpec.ofChange memoryWritersWrong)

/-- 'reclaimlaw02.MemoryLogs': WHATEVER THE INPUT: true; the input reads as it did. -/
def memoryLogsSpec : ChangeSpec := { name := "memoryLogs", fn := fun _ => fun
  | [d1, d2, d3, d4, d5] => { results := [.lit (.bool true)], args := [d1, d2, d3, d4, d5] }
  | _ => none }
def memoryLogsRow : OpenClaim := { program := "ytpmadfokpimjcaa", sum := "fcae1e3222379b034046891623d2586c8e4de17679fb552ec1c5ff62fe319e23", func := "reclaim/reclaimlaw02.MemoryLogs", spec := "memoryLogs", unfollowed := true, recurses := true, apart := false }
def MemoryLogsSaid : Prop := memoryLogsRow.holds Try.pinned (OpenSpec.ofChange memoryLogsSpec)

/-- ITS FALSE NEIGHBOUR: 'it returns false'. Refute it at one input. -/
def memoryLogsWrong : ChangeSpec := { name := "memoryLogs", fn := fun _ => fun
  | [d1, d2, d3, d4, d5] => { results := [.lit (.bool false)], args := [d1, d2, d3, d4, d5] }
  | _ => none }
def MemoryLogsWrongFalsely : Prop := memoryLogsRow.holds Try.pinned (OpenSpec.ofChange memoryLogsWrong)

/-- 'reclaimlaw02.MemoryBacks': WHATEVER THE INPUT: true; the input reads as it did. -/
def memoryBacksSpec : ChangeSpec := { name := "memoryBacks", fn := fun _ => fun
  | [d1, d2, d3, d4] => { results := [.lit (.bool true)], args := [d1, d2, d3, d4] }
  | _ => none }
def memoryBacksRow : OpenClaim := { program := "ytpmadfokpimjcaa", sum := "fcae1e3222379b034046891623d2586c8e4de17679fb552ec1c5ff62fe319e23", func := "reclaim/reclaimlaw02.MemoryBacks", spec := "memoryBacks", unfollowed := true, recurses := true, apart := false }
def MemoryBacksSaid : Prop := memoryBacksRow.holds Try.pinned (OpenSpec.ofChange memoryBacksSpec)

/-- ITS FALSE NEIGHBOUR: 'it returns false'. Refute it at one input. -/
def memoryBacksWrong : ChangeSpec := { name := "memoryBacks", fn := fun _ => fun
  | [d1, d2, d3, d4] => { results := [.lit (.bool false)], args := [d1, d2, d3, d4] }
  | _ => none }
def MemoryBacksWrongFalsely : Prop := memoryBacksRow.holds Try.pinned (OpenSpec.ofChange memoryBacksWrong)

/-- 'reclaimlaw02.MemoryPlays': WHATEVER THE INPUT: true; the input reads as it did. -/
def memoryPlaysSpec : ChangeSpec := { name := "memoryPlays", fn := fun _ => fun
  | [d1, d2] => { results := [.lit (.bool true)], args := [d1, d2] }
  | _ => none }
def memoryPlaysRow : OpenClaim := { program := "ytpmadfokpimjcaa", sum := "fcae1e3222379b034046891623d2586c8e4de17679fb552ec1c5ff62fe319e23", func := "reclaim/reclaimlaw02.MemoryPlays", spec := "memoryPlays", unfollowed := true, recurses := true, apart := false }
def MemoryPlaysSaid : Prop := memoryPlaysRow.holds Try.pinned (OpenSpec.ofChange memoryPlaysSpec)

/-- ITS FALSE NEIGHBOUR: 'it returns false'. Refute it at one input. -/
def memoryPlaysWrong : ChangeSpec := { name := "memoryPlays", fn := fun _ => fun
  | [d1, d2] => { results := [.lit (.bool false)], args := [d1, d2] }
  | _ => none }
def MemoryPlaysWrongFalsely : Prop := memoryPlaysRow.holds Try.pinned (OpenSpec.ofChange memoryPlaysWrong)

/-- 'reclaimlaw02.MemoryTwo': WHATEVER THE INPUT: true; the input reads as it did. -/
def memoryTwoSpec : ChangeSpec := { name := "memoryTwo", fn := fun _ => fun
  | [d1, d2, d3, d4] => { results := [.lit (.bool true)], args := [d1, d2, d3, d4] }
  | _ => none }
def memoryTwoRow : OpenClaim := { program := "ytpmadfokpimjcaa", sum := "fcae1e3222379b034046891623d2586c8e4de17679fb552ec1c5ff62fe319e23", func := "reclaim/reclaimlaw02.MemoryTwo", spec := "memoryTwo", unfollowed := true, recurses := true, apart := false }
def MemoryTwoSaid : Prop := memoryTwoRow.holds Try.pinned (OpenSpec.ofChange memoryTwoSpec)

/-- ITS FALSE NEIGHBOUR: 'it returns false'. Refute it at one input. -/
def memoryTwoWrong : ChangeSpec := { name := "memoryTwo", fn := fun _ => fun
  | [d1, d2, d3, d4] => { results := [.lit (.bool false)], args := [d1, d2, d3, d4] }
  | _ => none }
def MemoryTwoWrongFalsely : Prop := memoryTwoRow.holds Try.pinned (OpenSpec.ofChange memoryTwoWrong)

/-- 'reclaimlaw02.MemoryNil': WHATEVER THE INPUT: true; the input reads as it did. -/
def memoryNilSpec : ChangeSpec := { name := "memoryNil", fn := fun _ => fun
  | [d1, d2, d3, d4] => { results := [.lit (.bool true)], args := [d1, d2, d3, d4] }
  | _ => none }
def memoryNilRow : OpenClaim := { program := "ytpmadfokpimjcaa", sum := "fcae1e3222379b034046891623d2586c8e4de17679fb552ec1c5ff62fe319e23", func := "reclaim/reclaimlaw02.MemoryNil", spec := "memoryNil", unfollowed := true, recurses := true, apart := false }
def MemoryNilSaid : Prop := memoryNilRow.holds Try.pinned (OpenSpec.ofChange memoryNilSpec)

/-- ITS FALSE NEIGHBOUR: 'it returns false'. Refute it at one input. -/
def memoryNilWrong : ChangeSpec := { name := "memoryNil", fn := fun _ => fun
  | [d1, d2, d3, d4] => { results := [.lit (.bool false)], args := [d1, d2, d3, d4] }
  | _ => none }
def MemoryNilWrongFalsely : Prop := memoryNilRow.holds Try.pinned (OpenSpec.ofChange memoryNilWrong)

/- THE SECOND FORM. 'bulk': how many values and letters a reading holds, each counted each time it is reached (what is shared counts as often as it is met; a slice's spare places count too). A statement '..UptoSaid' is the law's where the arguments, and the package variables that the reading takes, are together of bulk at most 1048576: NARROWER than '..Said'. Prove '..Said' where nothing that the law and all that it calls make is longer than what came in: it says more and counts as full. Else prove '..UptoSaid'. A law counts once. -/
mutual
def uptoBulk {H : Type} : DataW H → Nat
  | .lit (.string bytes) => bytes.length + 1
  | .lit _ => 1
  | .nil => 1
  | .ptr d => uptoBulk d + 1
  | .slice elems spare => uptoBulkAll elems + uptoBulkAll spare + 1
  | .agg parts => uptoBulkAll parts + 1
  | .iface _ d => uptoBulk d + 1
  | .map entries => uptoBulkEntries entries + 1
  | .held _ => 1
def uptoBulkAll {H : Type} : List (DataW H) → Nat
  | [] => 0
  | d :: r => uptoBulk d + uptoBulkAll r
def uptoBulkEntries {H : Type} : List (Lit × DataW H) → Nat
  | [] => 0
  | x :: r => uptoBulkEntry x + uptoBulkEntries r
def uptoBulkEntry {H : Type} : Lit × DataW H → Nat
  | (.string bytes, d) => bytes.length + uptoBulk d + 1
  | (_, d) => uptoBulk d + 1
 end
def uptoSmall : (H : Type) → List (DataW H) → Bool := fun _ ds => decide (uptoBulkAll ds ≤ 1048576)
def OpenSpec.upto (s : _root_.Go.ChangeSpec) : _root_.Go.OpenSpec := { _root_.Go.OpenSpec.ofChange s with cond := some uptoSmall }

/-- 'reclaimlaw02.MemoryLimits', WHERE WHAT IT READS IS OF BULK AT MOST 1048576: true; the input reads as it did. -/
def memoryLimitsUptoRow : OpenClaim := { program := "ytpmadfokpimjcaa", sum := "fcae1e3222379b034046891623d2586c8e4de17679fb552ec1c5ff62fe319e23", func := "reclaim/reclaimlaw02.MemoryLimits", spec := "memoryLimits", apart := false, narrowed := true }
def MemoryLimitsUptoSaid : Prop := memoryLimitsUptoRow.holds Try.pinned (OpenSpec.upto memoryLimitsSpec)

/-- 'reclaimlaw02.MemoryReplays', WHERE WHAT IT READS IS OF BULK AT MOST 1048576: true; the input reads as it did. -/
def memoryReplaysUptoRow : OpenClaim := { program := "ytpmadfokpimjcaa", sum := "fcae1e3222379b034046891623d2586c8e4de17679fb552ec1c5ff62fe319e23", func := "reclaim/reclaimlaw02.MemoryReplays", spec := "memoryReplays", unfollowed := true, recurses := true, apart := false, narrowed := true }
def MemoryReplaysUptoSaid : Prop := memoryReplaysUptoRow.holds Try.pinned (OpenSpec.upto memoryReplaysSpec)

/-- 'reclaimlaw02.MemoryFresh', WHERE WHAT IT READS IS OF BULK AT MOST 1048576: true; the input reads as it did. -/
def memoryFreshUptoRow : OpenClaim := { program := "ytpmadfokpimjcaa", sum := "fcae1e3222379b034046891623d2586c8e4de17679fb552ec1c5ff62fe319e23", func := "reclaim/reclaimlaw02.MemoryFresh", spec := "memoryFresh", unfollowed := true, recurses := true, apart := false, narrowed := true }
def MemoryFreshUptoSaid : Prop := memoryFreshUptoRow.holds Try.pinned (OpenSpec.upto memoryFreshSpec)

/-- 'reclaimlaw02.MemoryOne', WHERE WHAT IT READS IS OF BULK AT MOST 1048576: true; the input reads as it did. -/
def memoryOneUptoRow : OpenClaim := { program := "ytpmadfokpimjcaa", sum := "fcae1e3222379b034046891623d2586c8e4de17679fb552ec1c5ff62fe319e23", func := "reclaim/reclaimlaw02.MemoryOne", spec := "memoryOne", unfollowed := true, recurses := true, apart := false, narrowed := true }
def MemoryOneUptoSaid : Prop := memoryOneUptoRow.holds Try.pinned (OpenSpec.upto memoryOneSpec)

/-- 'reclaimlaw02.MemoryWriters', WHERE WHAT IT READS IS OF BULK AT MOST 1048576: true; the input reads as it did. -/
def memoryWritersUptoRow : OpenClaim := { program := "ytpmadfokpimjcaa", sum := "fcae1e3222379b034046891623d2586c8e4de17679fb552ec1c5ff62fe319e23", func := "reclaim/reclaimlaw02.MemoryWriters", spec := "memoryWriters", unfollowed := true, recurses := true, apart := false, narrowed := true }
def MemoryWritersUptoSaid : Prop := memoryWritersUptoRow.holds Try.pinned (OpenSpec.upto memoryWritersSpec)

/-- 'reclaimlaw02.MemoryLogs', WHERE WHAT IT READS IS OF BULK AT MOST 1048576: true; the input reads as it did. -/
def memoryLogsUptoRow : OpenClaim := { program := "ytpmadfokpimjcaa", sum := "fcae1e3222379b034046891623d2586c8e4de17679fb552ec1c5ff62fe319e23", func := "reclaim/reclaimlaw02.MemoryLogs", spec := "memoryLogs", unfollowed := true, recurses := true, apart := false, narrowed := true }
def MemoryLogsUptoSaid : Prop := memoryLogsUptoRow.holds Try.pinned (OpenSpec.upto memoryLogsSpec)

/-- 'reclaimlaw02.MemoryBacks', WHERE WHAT IT READS IS OF BULK AT MOST 1048576: true; the input reads as it did. -/
def memoryBacksUptoRow : OpenClaim := { program := "ytpmadfokpimjcaa", sum := "fcae1e3222379b034046891623d2586c8e4de17679fb552ec1c5ff62fe319e23", func := "reclaim/reclaimlaw02.MemoryBacks", spec := "memoryBacks", unfollowed := true, recurses := true, apart := false, narrowed := true }
def MemoryBacksUptoSaid : Prop := memoryBacksUptoRow.holds Try.pinned (OpenSpec.upto memoryBacksSpec)

/-- 'reclaimlaw02.MemoryPlays', WHERE WHAT IT READS IS OF BULK AT MOST 1048576: true; the input reads as it did. -/
def memoryPlaysUptoRow : OpenClaim := { program := "ytpmadfokpimjcaa", sum := "fcae1e3222379b034046891623d2586c8e4de17679fb552ec1c5ff62fe319e23", func := "reclaim/reclaimlaw02.MemoryPlays", spec := "memoryPlays", unfollowed := true, recurses := true, apart := false, narrowed := true }
def MemoryPlaysUptoSaid : Prop := memoryPlaysUptoRow.holds Try.pinned (OpenSpec.upto memoryPlaysSpec)

/-- 'reclaimlaw02.MemoryTwo', WHERE WHAT IT READS IS OF BULK AT MOST 1048576: true; the input reads as it did. -/
def memoryTwoUptoRow : OpenClaim := { program := "ytpmadfokpimjcaa", sum := "fcae1e3222379b034046891623d2586c8e4de17679fb552ec1c5ff62fe319e23", func := "reclaim/reclaimlaw02.MemoryTwo", spec := "memoryTwo", unfollowed := true, recurses := true, apart := false, narrowed := true }
def MemoryTwoUptoSaid : Prop := memoryTwoUptoRow.holds Try.pinned (OpenSpec.upto memoryTwoSpec)

/-- 'reclaimlaw02.MemoryNil', WHERE WHAT IT READS IS OF BULK AT MOST 1048576: true; the input reads as it did. -/
def memoryNilUptoRow : OpenClaim := { program := "ytpmadfokpimjcaa", sum := "fcae1e3222379b034046891623d2586c8e4de17679fb552ec1c5ff62fe319e23", func := "reclaim/reclaimlaw02.MemoryNil", spec := "memoryNil", unfollowed := true, recurses := true, apart := false, narrowed := true }
def MemoryNilUptoSaid : Prop := memoryNilUptoRow.holds Try.pinned (OpenSpec.upto memoryNilSpec)

end Rows
end Go.Proofs.Ytpmadfokpimjcaa
