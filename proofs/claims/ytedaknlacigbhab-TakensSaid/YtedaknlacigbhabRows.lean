/-
  No cell of these rows narrows 'for every input' (looked for: loops, veiled, ifaces, maps, wideKeys, modest, calm, conditions, laid).
  DERIVED. THE GIVEN ROWS OF THIS SEAT. 3 by the template 'for every input the law returns true; each argument reads behind the call as it read before'; 0 by the template 'total and deterministic' (their statements: YtedaknlacigbhabTotals.lean).
  GIVEN WITH THE SEED: the statements are not yours to turn. If you find one false, say at which input.
  Laid BY PROGRAM, IN A SANDBOX (cutbox-rows.mjs): the forced cells as the released guide's own fill.sh prints them over the translation 7534de4243922e2d… (all of the seat's roots in one cut). By AI agents, Wed Nov 11 2026. No macro, syntax, notation, axiom, sorry.
-/
import Derived.Test.YtedaknlacigbhabChecked
import GoSem.Claim
import GoSem.ClaimJoined
import GoSem.ClaimMapViews
import Derived.JoinedTies
import Derived.KernelRfl
namespace Go.Proofs.Ytedaknlacigbhab
/- THE CELL 'sum', in the pinned program and in every row, IS THE sha256 OF THE DUMP (.gsa) THAT YtedaknlacigbhabProg.lean LOADS. Nothing in Lean hashes anything: it is a label: what it is worth is what the hold of that sum in a sandbox is worth. -/
noncomputable def Try.pinned : Pinned := { name := "ytedaknlacigbhab", sum := "7534de4243922e2d46df12d77b1272aadf6d09fc130b9bc12c43f5cae9aea027", checked := Try.checked }
namespace Rows
def none {H : Type} : Left H := { results := [], args := [] }

/-- 'bridgelaw.Balances': WHATEVER THE INPUT: true; the input reads as it did. -/
def balancesSpec : ChangeSpec := { name := "balances", fn := fun _ => fun
  | [d] => { results := [.lit (.bool true)], args := [d] }
  | _ => none }
def balancesRow : OpenClaim := { program := "ytedaknlacigbhab", sum := "7534de4243922e2d46df12d77b1272aadf6d09fc130b9bc12c43f5cae9aea027", func := "bridge/bridgelaw.Balances", spec := "balances", inPlace := ["maps.clone", "sync/atomic.AddInt64", "sync/atomic.LoadInt64"], unfollowed := true, recurses := true, plainKeys := false, leaving := true, apart := false }
def BalancesSaid : Prop := balancesRow.holds Try.pinned (OpenSpec.ofChange balancesSpec)

/-- ITS FALSE NEIGHBOUR: 'it returns false'. Refute it at one input. -/
def balancesWrong : ChangeSpec := { name := "balances", fn := fun _ => fun
  | [d] => { results := [.lit (.bool false)], args := [d] }
  | _ => none }
def BalancesWrongFalsely : Prop := balancesRow.holds Try.pinned (OpenSpec.ofChange balancesWrong)

/-- 'bridgelaw.Closes': WHATEVER THE INPUT: true; the input reads as it did. -/
def closesSpec : ChangeSpec := { name := "closes", fn := fun _ => fun
  | [d] => { results := [.lit (.bool true)], args := [d] }
  | _ => none }
def closesRow : OpenClaim := { program := "ytedaknlacigbhab", sum := "7534de4243922e2d46df12d77b1272aadf6d09fc130b9bc12c43f5cae9aea027", func := "bridge/bridgelaw.Closes", spec := "closes", inPlace := ["maps.clone", "sync/atomic.AddInt64", "sync/atomic.LoadInt64"], unfollowed := true, recurses := true, plainKeys := false, leaving := true, apart := false }
def ClosesSaid : Prop := closesRow.holds Try.pinned (OpenSpec.ofChange closesSpec)

/-- ITS FALSE NEIGHBOUR: 'it returns false'. Refute it at one input. -/
def closesWrong : ChangeSpec := { name := "closes", fn := fun _ => fun
  | [d] => { results := [.lit (.bool false)], args := [d] }
  | _ => none }
def ClosesWrongFalsely : Prop := closesRow.holds Try.pinned (OpenSpec.ofChange closesWrong)

/-- 'bridgelaw.Takens': WHATEVER THE INPUT: true; the input reads as it did. -/
def takensSpec : ChangeSpec := { name := "takens", fn := fun _ => fun
  | [d] => { results := [.lit (.bool true)], args := [d] }
  | _ => none }
def takensRow : OpenClaim := { program := "ytedaknlacigbhab", sum := "7534de4243922e2d46df12d77b1272aadf6d09fc130b9bc12c43f5cae9aea027", func := "bridge/bridgelaw.Takens", spec := "takens", inPlace := ["maps.clone", "sync/atomic.AddInt64", "sync/atomic.LoadInt64"], unfollowed := true, recurses := true, plainKeys := false, leaving := true, apart := false }
def TakensSaid : Prop := takensRow.holds Try.pinned (OpenSpec.ofChange takensSpec)

/-- ITS FALSE NEIGHBOUR: 'it returns false'. Refute it at one input. -/
def takensWrong : ChangeSpec := { name := "takens", fn := fun _ => fun
  | [d] => { results := [.lit (.bool false)], args := [d] }
  | _ => none }
def TakensWrongFalsely : Prop := takensRow.holds Try.pinned (OpenSpec.ofChange takensWrong)

/- THE SECOND FORM. 'bulk': how many values and letters a reading holds, each counted each time it is reached (what is shared counts as often as it is met; a slice's spare places count too). A statement '..UptoSaid' is the law's where the arguments, and the package variables that the reading takes, are together of bulk at most 1048576: NARROWER than '..Said'. Prove '..Said' where nothing that the law and all that it calls make is longer than what came in: it says more and counts as full. Else prove '..UptoSaid'. A law counts once. -/
mutual
def uptoBulk {H : Type} : DataW H → Nat
  | .lit (.string bytes) => bytes.length + 1
  | .lit _ => 1
  | .nil => 1
  | .ptr d => uptoBulk d + 1
  | .slice elems spare => uptoBulkAll elems + uptoBulkAll spare + 1
  | .agg parts => uptoBulkAll parts + 1
  | .iface _ d => uptoBulk d + 1
  | .map entries => uptoBulkEntries entries + 1
  | .held _ => 1
def uptoBulkAll {H : Type} : List (DataW H) → Nat
  | [] => 0
  | d :: r => uptoBulk d + uptoBulkAll r
def uptoBulkEntries {H : Type} : List (Lit × DataW H) → Nat
  | [] => 0
  | x :: r => uptoBulkEntry x + uptoBulkEntries r
def uptoBulkEntry {H : Type} : Lit × DataW H → Nat
  | (.string bytes, d) => bytes.length + uptoBulk d + 1
  | (_, d) => uptoBulk d + 1
 end
def uptoSmall : (H : Type) → List (DataW H) → Bool := fun _ ds => decide (uptoBulkAll ds ≤ 1048576)
def OpenSpec.upto (s : _root_.Go.ChangeSpec) : _root_.Go.OpenSpec := { _root_.Go.OpenSpec.ofChange s with cond := some uptoSmall }

/-- 'bridgelaw.Balances', WHERE WHAT IT READS IS OF BULK AT MOST 1048576: true; the input reads as it did. -/
def balancesUptoRow : OpenClaim := { program := "ytedaknlacigbhab", sum := "7534de4243922e2d46df12d77b1272aadf6d09fc130b9bc12c43f5cae9aea027", func := "bridge/bridgelaw.Balances", spec := "balances", inPlace := ["maps.clone", "sync/atomic.AddInt64", "sync/atomic.LoadInt64"], unfollowed := true, recurses := true, plainKeys := false, leaving := true, apart := false, narrowed := true }
def BalancesUptoSaid : Prop := balancesUptoRow.holds Try.pinned (OpenSpec.upto balancesSpec)

/-- 'bridgelaw.Closes', WHERE WHAT IT READS IS OF BULK AT MOST 1048576: true; the input reads as it did. -/
def closesUptoRow : OpenClaim := { program := "ytedaknlacigbhab", sum := "7534de4243922e2d46df12d77b1272aadf6d09fc130b9bc12c43f5cae9aea027", func := "bridge/bridgelaw.Closes", spec := "closes", inPlace := ["maps.clone", "sync/atomic.AddInt64", "sync/atomic.LoadInt64"], unfollowed := true, recurses := true, plainKeys := false, leaving := true, apart := false, narrowed := true }
def ClosesUptoSaid : Prop := closesUptoRow.holds Try.pinned (OpenSpec.upto closesSpec)

/-- 'bridgelaw.Takens', WHERE WHAT IT READS IS OF BULK AT MOST 1048576: true; the input reads as it did. -/
def takensUptoRow : OpenClaim := { program := "ytedaknlacigbhab", sum := "7534de4243922e2d46df12d77b1272aadf6d09fc130b9bc12c43f5cae9aea027", func := "bridge/bridgelaw.Takens", spec := "takens", inPlace := ["maps.clone", "sync/atomic.AddInt64", "sync/atomic.LoadInt64"], unfollowed := true, recurses := true, plainKeys := false, leaving := true, apart := false, narrowed := true }
def TakensUptoSaid : Prop := takensUptoRow.holds Try.pinned (OpenSpec.upto takensSpec)

end Rows
end Go.Proofs.Ytedaknlacigbhab
