/-
  No cell of these rows narrows 'for every input' (looked for: loops, veiled, ifaces, maps, wideKeys, modest, calm, conditions, laid).
  DERIVED. THE GIVEN ROWS OF THIS SEAT. 7 by the template 'for every input the law returns true; each argument reads behind the call as it read before'; 0 by the template 'total and deterministic' (their statements: YtiplbpapgaoaoaaTotals.lean).
  GIVEN WITH THE SEED: the statements are not yours to turn. If you find one false, say at which input.
  Laid BY PROGRAM, IN A SANDBOX (cutbox-rows.mjs): the forced cells as the released guide's own fill.sh prints them over the translation a3da091459c51026… (all of the seat's roots in one cut). By AI agents, Wed Nov 11 2026. No macro, syntax, notation, axiom, sorry.
-/
import Derived.Test.YtiplbpapgaoaoaaChecked
import GoSem.Claim
import GoSem.ClaimJoined
import GoSem.ClaimMapViews
import Derived.JoinedTies
import Derived.KernelRfl
namespace Go.Proofs.Ytiplbpapgaoaoaa
/- THE CELL 'sum', in the pinned program and in every row, IS THE sha256 OF THE DUMP (.gsa) THAT YtiplbpapgaoaoaaProg.lean LOADS. Nothing in Lean hashes anything: it is a label: what it is worth is what the hold of that sum in a sandbox is worth. -/
noncomputable def Try.pinned : Pinned := { name := "ytiplbpapgaoaoaa", sum := "a3da091459c5102677ba9f067401a5245bf4f9ece082b7c3e6423e83941c9e82", checked := Try.checked }
namespace Rows
def none {H : Type} : Left H := { results := [], args := [] }

/-- 'laws.FnExactAreBalanced': WHATEVER THE INPUT: true; the input reads as it did. -/
def fnExactAreBalancedSpec : ChangeSpec := { name := "fnExactAreBalanced", fn := fun _ => fun
  | [d] => { results := [.lit (.bool true)], args := [d] }
  | _ => none }
def fnExactAreBalancedRow : OpenClaim := { program := "ytiplbpapgaoaoaa", sum := "a3da091459c5102677ba9f067401a5245bf4f9ece082b7c3e6423e83941c9e82", func := "loop.example/g01010/laws.FnExactAreBalanced", spec := "fnExactAreBalanced", inPlace := ["internal/bytealg.abigen_runtime_cmpstring"], unfollowed := true, recurses := true, apart := false }
def FnExactAreBalancedSaid : Prop := fnExactAreBalancedRow.holds Try.pinned (OpenSpec.ofChange fnExactAreBalancedSpec)

/-- ITS FALSE NEIGHBOUR: 'it returns false'. Refute it at one input. -/
def fnExactAreBalancedWrong : ChangeSpec := { name := "fnExactAreBalanced", fn := fun _ => fun
  | [d] => { results := [.lit (.bool false)], args := [d] }
  | _ => none }
def FnExactAreBalancedWrongFalsely : Prop := fnExactAreBalancedRow.holds Try.pinned (OpenSpec.ofChange fnExactAreBalancedWrong)

/-- 'laws.FnExactIsLedger': WHATEVER THE INPUT: true; the input reads as it did. -/
def fnExactIsLedgerSpec : ChangeSpec := { name := "fnExactIsLedger", fn := fun _ => fun
  | [d] => { results := [.lit (.bool true)], args := [d] }
  | _ => none }
def fnExactIsLedgerRow : OpenClaim := { program := "ytiplbpapgaoaoaa", sum := "a3da091459c5102677ba9f067401a5245bf4f9ece082b7c3e6423e83941c9e82", func := "loop.example/g01010/laws.FnExactIsLedger", spec := "fnExactIsLedger", apart := false }
def FnExactIsLedgerSaid : Prop := fnExactIsLedgerRow.holds Try.pinned (OpenSpec.ofChange fnExactIsLedgerSpec)

/-- ITS FALSE NEIGHBOUR: 'it returns false'. Refute it at one input. -/
def fnExactIsLedgerWrong : ChangeSpec := { name := "fnExactIsLedger", fn := fun _ => fun
  | [d] => { results := [.lit (.bool false)], args := [d] }
  | _ => none }
def FnExactIsLedgerWrongFalsely : Prop := fnExactIsLedgerRow.holds Try.pinned (OpenSpec.ofChange fnExactIsLedgerWrong)

/-- 'laws.FnExactAgainstEvent': WHATEVER THE INPUT: true; the input reads as it did. -/
def fnExactAgainstEventSpec : ChangeSpec := { name := "fnExactAgainstEvent", fn := fun _ => fun
  | [d1, d2] => { results := [.lit (.bool true)], args := [d1, d2] }
  | _ => none }
def fnExactAgainstEventRow : OpenClaim := { program := "ytiplbpapgaoaoaa", sum := "a3da091459c5102677ba9f067401a5245bf4f9ece082b7c3e6423e83941c9e82", func := "loop.example/g01010/laws.FnExactAgainstEvent", spec := "fnExactAgainstEvent", unfollowed := true, recurses := true, apart := false }
def FnExactAgainstEventSaid : Prop := fnExactAgainstEventRow.holds Try.pinned (OpenSpec.ofChange fnExactAgainstEventSpec)

/-- ITS FALSE NEIGHBOUR: 'it returns false'. Refute it at one input. -/
def fnExactAgainstEventWrong : ChangeSpec := { name := "fnExactAgainstEvent", fn := fun _ => fun
  | [d1, d2] => { results := [.lit (.bool false)], args := [d1, d2] }
  | _ => none }
def FnExactAgainstEventWrongFalsely : Prop := fnExactAgainstEventRow.holds Try.pinned (OpenSpec.ofChange fnExactAgainstEventWrong)

/-- 'laws.FnExactTransfersOf': WHATEVER THE INPUT: true; the input reads as it did. -/
def fnExactTransfersOfSpec : ChangeSpec := { name := "fnExactTransfersOf", fn := fun _ => fun
  | [d1, d2] => { results := [.lit (.bool true)], args := [d1, d2] }
  | _ => none }
def fnExactTransfersOfRow : OpenClaim := { program := "ytiplbpapgaoaoaa", sum := "a3da091459c5102677ba9f067401a5245bf4f9ece082b7c3e6423e83941c9e82", func := "loop.example/g01010/laws.FnExactTransfersOf", spec := "fnExactTransfersOf", unfollowed := true, recurses := true, apart := false }
def FnExactTransfersOfSaid : Prop := fnExactTransfersOfRow.holds Try.pinned (OpenSpec.ofChange fnExactTransfersOfSpec)

/-- ITS FALSE NEIGHBOUR: 'it returns false'. Refute it at one input. -/
def fnExactTransfersOfWrong : ChangeSpec := { name := "fnExactTransfersOf", fn := fun _ => fun
  | [d1, d2] => { results := [.lit (.bool false)], args := [d1, d2] }
  | _ => none }
def FnExactTransfersOfWrongFalsely : Prop := fnExactTransfersOfRow.holds Try.pinned (OpenSpec.ofChange fnExactTransfersOfWrong)

/-- 'laws.FnExactLeastCount': WHATEVER THE INPUT: true; the input reads as it did. -/
def fnExactLeastCountSpec : ChangeSpec := { name := "fnExactLeastCount", fn := fun _ => fun
  | [d] => { results := [.lit (.bool true)], args := [d] }
  | _ => none }
def fnExactLeastCountRow : OpenClaim := { program := "ytiplbpapgaoaoaa", sum := "a3da091459c5102677ba9f067401a5245bf4f9ece082b7c3e6423e83941c9e82", func := "loop.example/g01010/laws.FnExactLeastCount", spec := "fnExactLeastCount", inPlace := ["internal/bytealg.abigen_runtime_cmpstring"], unfollowed := true, recurses := true, apart := false }
def FnExactLeastCountSaid : Prop := fnExactLeastCountRow.holds Try.pinned (OpenSpec.ofChange fnExactLeastCountSpec)

/-- ITS FALSE NEIGHBOUR: 'it returns false'. Refute it at one input. -/
def fnExactLeastCountWrong : ChangeSpec := { name := "fnExactLeastCount", fn := fun _ => fun
  | [d] => { results := [.lit (.bool false)], args := [d] }
  | _ => none }
def FnExactLeastCountWrongFalsely : Prop := fnExactLeastCountRow.holds Try.pinned (OpenSpec.ofChange fnExactLeastCountWrong)

/-- 'laws.FnExactSurplusOf': WHATEVER THE INPUT: true; the input reads as it did. -/
def fnExactSurplusOfSpec : ChangeSpec := { name := "fnExactSurplusOf", fn := fun _ => fun
  | [d1, d2] => { results := [.lit (.bool true)], args := [d1, d2] }
  | _ => none }
def fnExactSurplusOfRow : OpenClaim := { program := "ytiplbpapgaoaoaa", sum := "a3da091459c5102677ba9f067401a5245bf4f9ece082b7c3e6423e83941c9e82", func := "loop.example/g01010/laws.FnExactSurplusOf", spec := "fnExactSurplusOf", inPlace := ["internal/bytealg.abigen_runtime_cmpstring"], unfollowed := true, recurses := true, apart := false }
def FnExactSurplusOfSaid : Prop := fnExactSurplusOfRow.holds Try.pinned (OpenSpec.ofChange fnExactSurplusOfSpec)

/-- ITS FALSE NEIGHBOUR: 'it returns false'. Refute it at one input. -/
def fnExactSurplusOfWrong : ChangeSpec := { name := "fnExactSurplusOf", fn := fun _ => fun
  | [d1, d2] => { results := [.lit (.bool false)], args := [d1, d2] }
  | _ => none }
def FnExactSurplusOfWrongFalsely : Prop := fnExactSurplusOfRow.holds Try.pinned (OpenSpec.ofChange fnExactSurplusOfWrong)

/-- 'laws.FnExactGreedyTransfers': WHATEVER THE INPUT: true; the input reads as it did. -/
def fnExactGreedyTransfersSpec : ChangeSpec := { name := "fnExactGreedyTransfers", fn := fun _ => fun
  | [d] => { results := [.lit (.bool true)], args := [d] }
  | _ => none }
def fnExactGreedyTransfersRow : OpenClaim := { program := "ytiplbpapgaoaoaa", sum := "a3da091459c5102677ba9f067401a5245bf4f9ece082b7c3e6423e83941c9e82", func := "loop.example/g01010/laws.FnExactGreedyTransfers", spec := "fnExactGreedyTransfers", inPlace := ["internal/bytealg.abigen_runtime_cmpstring"], unfollowed := true, recurses := true, apart := false }
def FnExactGreedyTransfersSaid : Prop := fnExactGreedyTransfersRow.holds Try.pinned (OpenSpec.ofChange fnExactGreedyTransfersSpec)

/-- ITS FALSE NEIGHBOUR: 'it returns false'. Refute it at one input. -/
def fnExactGreedyTransfersWrong : ChangeSpec := { name := "fnExactGreedyTransfers", fn := fun _ => fun
  | [d] => { results := [.lit (.bool false)], args := [d] }
  | _ => none }
def FnExactGreedyTransfersWrongFalsely : Prop := fnExactGreedyTransfersRow.holds Try.pinned (OpenSpec.ofChange fnExactGreedyTransfersWrong)

/- THE SECOND FORM. 'bulk': how many values and letters a reading holds, each counted each time it is reached (what is shared counts as often as it is met; a slice's spare places count too). A statement '..UptoSaid' is the law's where the arguments, and the package variables that the reading takes, are together of bulk at most 1048576: NARROWER than '..Said'. Prove '..Said' where nothing that the law and all that it calls make is longer than what came in: it says more and counts as full. Else prove '..UptoSaid'. A law counts once. -/
mutual
def uptoBulk {H : Type} : DataW H → Nat
  | .lit (.string bytes) => bytes.length + 1
  | .lit _ => 1
  | .nil => 1
  | .ptr d => uptoBulk d + 1
  | .slice elems spare => uptoBulkAll elems + uptoBulkAll spare + 1
  | .agg parts => uptoBulkAll parts + 1
  | .iface _ d => uptoBulk d + 1
  | .map entries => uptoBulkEntries entries + 1
  | .held _ => 1
def uptoBulkAll {H : Type} : List (DataW H) → Nat
  | [] => 0
  | d :: r => uptoBulk d + uptoBulkAll r
def uptoBulkEntries {H : Type} : List (Lit × DataW H) → Nat
  | [] => 0
  | x :: r => uptoBulkEntry x + uptoBulkEntries r
def uptoBulkEntry {H : Type} : Lit × DataW H → Nat
  | (.string bytes, d) => bytes.length + uptoBulk d + 1
  | (_, d) => uptoBulk d + 1
 end
def uptoSmall : (H : Type) → List (DataW H) → Bool := fun _ ds => decide (uptoBulkAll ds ≤ 1048576)
def OpenSpec.upto (s : _root_.Go.ChangeSpec) : _root_.Go.OpenSpec := { _root_.Go.OpenSpec.ofChange s with cond := some uptoSmall }

/-- 'laws.FnExactAreBalanced', WHERE WHAT IT READS IS OF BULK AT MOST 1048576: true; the input reads as it did. -/
def fnExactAreBalancedUptoRow : OpenClaim := { program := "ytiplbpapgaoaoaa", sum := "a3da091459c5102677ba9f067401a5245bf4f9ece082b7c3e6423e83941c9e82", func := "loop.example/g01010/laws.FnExactAreBalanced", spec := "fnExactAreBalanced", inPlace := ["internal/bytealg.abigen_runtime_cmpstring"], unfollowed := true, recurses := true, apart := false, narrowed := true }
def FnExactAreBalancedUptoSaid : Prop := fnExactAreBalancedUptoRow.holds Try.pinned (OpenSpec.upto fnExactAreBalancedSpec)

/-- 'laws.FnExactIsLedger', WHERE WHAT IT READS IS OF BULK AT MOST 1048576: true; the input reads as it did. -/
def fnExactIsLedgerUptoRow : OpenClaim := { program := "ytiplbpapgaoaoaa", sum := "a3da091459c5102677ba9f067401a5245bf4f9ece082b7c3e6423e83941c9e82", func := "loop.example/g01010/laws.FnExactIsLedger", spec := "fnExactIsLedger", apart := false, narrowed := true }
def FnExactIsLedgerUptoSaid : Prop := fnExactIsLedgerUptoRow.holds Try.pinned (OpenSpec.upto fnExactIsLedgerSpec)

/-- 'laws.FnExactAgainstEvent', WHERE WHAT IT READS IS OF BULK AT MOST 1048576: true; the input reads as it did. -/
def fnExactAgainstEventUptoRow : OpenClaim := { program := "ytiplbpapgaoaoaa", sum := "a3da091459c5102677ba9f067401a5245bf4f9ece082b7c3e6423e83941c9e82", func := "loop.example/g01010/laws.FnExactAgainstEvent", spec := "fnExactAgainstEvent", unfollowed := true, recurses := true, apart := false, narrowed := true }
def FnExactAgainstEventUptoSaid : Prop := fnExactAgainstEventUptoRow.holds Try.pinned (OpenSpec.upto fnExactAgainstEventSpec)

/-- 'laws.FnExactTransfersOf', WHERE WHAT IT READS IS OF BULK AT MOST 1048576: true; the input reads as it did. -/
def fnExactTransfersOfUptoRow : OpenClaim := { program := "ytiplbpapgaoaoaa", sum := "a3da091459c5102677ba9f067401a5245bf4f9ece082b7c3e6423e83941c9e82", func := "loop.example/g01010/laws.FnExactTransfersOf", spec := "fnExactTransfersOf", unfollowed := true, recurses := true, apart := false, narrowed := true }
def FnExactTransfersOfUptoSaid : Prop := fnExactTransfersOfUptoRow.holds Try.pinned (OpenSpec.upto fnExactTransfersOfSpec)

/-- 'laws.FnExactLeastCount', WHERE WHAT IT READS IS OF BULK AT MOST 1048576: true; the input reads as it did. -/
def fnExactLeastCountUptoRow : OpenClaim := { program := "ytiplbpapgaoaoaa", sum := "a3da091459c5102677ba9f067401a5245bf4f9ece082b7c3e6423e83941c9e82", func := "loop.example/g01010/laws.FnExactLeastCount", spec := "fnExactLeastCount", inPlace := ["internal/bytealg.abigen_runtime_cmpstring"], unfollowed := true, recurses := true, apart := false, narrowed := true }
def FnExactLeastCountUptoSaid : Prop := fnExactLeastCountUptoRow.holds Try.pinned (OpenSpec.upto fnExactLeastCountSpec)

/-- 'laws.FnExactSurplusOf', WHERE WHAT IT READS IS OF BULK AT MOST 1048576: true; the input reads as it did. -/
def fnExactSurplusOfUptoRow : OpenClaim := { program := "ytiplbpapgaoaoaa", sum := "a3da091459c5102677ba9f067401a5245bf4f9ece082b7c3e6423e83941c9e82", func := "loop.example/g01010/laws.FnExactSurplusOf", spec := "fnExactSurplusOf", inPlace := ["internal/bytealg.abigen_runtime_cmpstring"], unfollowed := true, recurses := true, apart := false, narrowed := true }
def FnExactSurplusOfUptoSaid : Prop := fnExactSurplusOfUptoRow.holds Try.pinned (OpenSpec.upto fnExactSurplusOfSpec)

/-- 'laws.FnExactGreedyTransfers', WHERE WHAT IT READS IS OF BULK AT MOST 1048576: true; the input reads as it did. -/
def fnExactGreedyTransfersUptoRow : OpenClaim := { program := "ytiplbpapgaoaoaa", sum := "a3da091459c5102677ba9f067401a5245bf4f9ece082b7c3e6423e83941c9e82", func := "loop.example/g01010/laws.FnExactGreedyTransfers", spec := "fnExactGreedyTransfers", inPlace := ["internal/bytealg.abigen_runtime_cmpstring"], unfollowed := true, recurses := true, apart := false, narrowed := true }
def FnExactGreedyTransfersUptoSaid : Prop := fnExactGreedyTransfersUptoRow.holds Try.pinned (OpenSpec.upto fnExactGreedyTransfersSpec)

end Rows
end Go.Proofs.Ytiplbpapgaoaoaa
