/-
  No cell of these rows narrows 'for every input' (looked for: loops, veiled, ifaces, maps, wideKeys, modest, calm, conditions, laid).
  DERIVED. THE GIVEN ROWS OF THIS SEAT. 12 by the template 'for every input the law returns true; each argument reads behind the call as it read before'; 0 by the template 'total and deterministic' (their statements: YtedaknlacigbhaaTotals.lean).
  GIVEN WITH THE SEED: the statements are not yours to turn. If you find one false, say at which input.
  Laid BY PROGRAM, IN A SANDBOX (cutbox-rows.mjs): the forced cells as the released guide's own fill.sh prints them over the translation a8895956b564f7ac… (all of the seat's roots in one cut). By AI agents, Wed Nov 11 2026. No macro, syntax, notation, axiom, sorry.
-/
import Derived.Test.YtedaknlacigbhaaChecked
import GoSem.Claim
import GoSem.ClaimJoined
import GoSem.ClaimMapViews
import Derived.JoinedTies
import Derived.KernelRfl
namespace Go.Proofs.Ytedaknlacigbhaa
/- THE CELL 'sum', in the pinned program and in every row, IS THE sha256 OF THE DUMP (.gsa) THAT YtedaknlacigbhaaProg.lean LOADS. Nothing in Lean hashes anything: it is a label: what it is worth is what the hold of that sum in a sandbox is worth. -/
noncomputable def Try.pinned : Pinned := { name := "ytedaknlacigbhaa", sum := "a8895956b564f7acf2ffbf3f04d79c87b244a19dcee17922a55bb7a5dafaeb74", checked := Try.checked }
namespace Rows
def none {H : Type} : Left H := { results := [], args := [] }

/-- 'bridgelaw.Names': WHATEVER THE INPUT: true; the input reads as it did. -/
def namesSpec : ChangeSpec := { name := "names", fn := fun _ => fun
  | [] => { results := [.lit (.bool true)], args := [] }
  | _ => none }
def namesRow : OpenClaim := { program := "ytedaknlacigbhaa", sum := "a8895956b564f7acf2ffbf3f04d79c87b244a19dcee17922a55bb7a5dafaeb74", func := "bridge/bridgelaw.Names", spec := "names", plainKeys := false, apart := false }
def NamesSaid : Prop := namesRow.holds Try.pinned (OpenSpec.ofChange namesSpec)

/-- ITS FALSE NEIGHBOUR: 'it returns false'. Refute it at one input. -/
def namesWrong : ChangeSpec := { name := "names", fn := fun _ => fun
  | [] => { results := [.lit (.bool false)], args := [] }
  | _ => none }
def NamesWrongFalsely : Prop := namesRow.holds Try.pinned (OpenSpec.ofChange namesWrong)

/-- 'bridgekeep.Once': WHATEVER THE INPUT: true; the input reads as it did. -/
def onceSpec : ChangeSpec := { name := "once", fn := fun _ => fun
  | [d] => { results := [.lit (.bool true)], args := [d] }
  | _ => none }
def onceRow : OpenClaim := { program := "ytedaknlacigbhaa", sum := "a8895956b564f7acf2ffbf3f04d79c87b244a19dcee17922a55bb7a5dafaeb74", func := "bridge/bridgekeep.Once", spec := "once", inPlace := ["maps.clone", "sync/atomic.AddInt64"], unfollowed := true, recurses := true, plainKeys := false, leaving := true, apart := false }
def OnceSaid : Prop := onceRow.holds Try.pinned (OpenSpec.ofChange onceSpec)

/-- ITS FALSE NEIGHBOUR: 'it returns false'. Refute it at one input. -/
def onceWrong : ChangeSpec := { name := "once", fn := fun _ => fun
  | [d] => { results := [.lit (.bool false)], args := [d] }
  | _ => none }
def OnceWrongFalsely : Prop := onceRow.holds Try.pinned (OpenSpec.ofChange onceWrong)

/-- 'bridgekeep.Conserved': WHATEVER THE INPUT: true; the input reads as it did. -/
def conservedSpec : ChangeSpec := { name := "conserved", fn := fun _ => fun
  | [d] => { results := [.lit (.bool true)], args := [d] }
  | _ => none }
def conservedRow : OpenClaim := { program := "ytedaknlacigbhaa", sum := "a8895956b564f7acf2ffbf3f04d79c87b244a19dcee17922a55bb7a5dafaeb74", func := "bridge/bridgekeep.Conserved", spec := "conserved", inPlace := ["maps.clone", "sync/atomic.AddInt64"], unfollowed := true, recurses := true, plainKeys := false, leaving := true, apart := false }
def ConservedSaid : Prop := conservedRow.holds Try.pinned (OpenSpec.ofChange conservedSpec)

/-- ITS FALSE NEIGHBOUR: 'it returns false'. Refute it at one input. -/
def conservedWrong : ChangeSpec := { name := "conserved", fn := fun _ => fun
  | [d] => { results := [.lit (.bool false)], args := [d] }
  | _ => none }
def ConservedWrongFalsely : Prop := conservedRow.holds Try.pinned (OpenSpec.ofChange conservedWrong)

/-- 'bridgelaw.Owned': WHATEVER THE INPUT: true; the input reads as it did. -/
def ownedSpec : ChangeSpec := { name := "owned", fn := fun _ => fun
  | [d] => { results := [.lit (.bool true)], args := [d] }
  | _ => none }
def ownedRow : OpenClaim := { program := "ytedaknlacigbhaa", sum := "a8895956b564f7acf2ffbf3f04d79c87b244a19dcee17922a55bb7a5dafaeb74", func := "bridge/bridgelaw.Owned", spec := "owned", inPlace := ["maps.clone", "sync/atomic.AddInt64", "sync/atomic.LoadInt64"], unfollowed := true, recurses := true, plainKeys := false, leaving := true, apart := false }
def OwnedSaid : Prop := ownedRow.holds Try.pinned (OpenSpec.ofChange ownedSpec)

/-- ITS FALSE NEIGHBOUR: 'it returns false'. Refute it at one input. -/
def ownedWrong : ChangeSpec := { name := "owned", fn := fun _ => fun
  | [d] => { results := [.lit (.bool false)], args := [d] }
  | _ => none }
def OwnedWrongFalsely : Prop := ownedRow.holds Try.pinned (OpenSpec.ofChange ownedWrong)

/-- 'bridgelaw.All': WHATEVER THE INPUT: true; the input reads as it did. -/
def allSpec : ChangeSpec := { name := "all", fn := fun _ => fun
  | [d] => { results := [.lit (.bool true)], args := [d] }
  | _ => none }
def allRow : OpenClaim := { program := "ytedaknlacigbhaa", sum := "a8895956b564f7acf2ffbf3f04d79c87b244a19dcee17922a55bb7a5dafaeb74", func := "bridge/bridgelaw.All", spec := "all", inPlace := ["maps.clone", "sync/atomic.AddInt64", "sync/atomic.LoadInt64"], unfollowed := true, recurses := true, plainKeys := false, leaving := true, apart := false }
def AllSaid : Prop := allRow.holds Try.pinned (OpenSpec.ofChange allSpec)

/-- ITS FALSE NEIGHBOUR: 'it returns false'. Refute it at one input. -/
def allWrong : ChangeSpec := { name := "all", fn := fun _ => fun
  | [d] => { results := [.lit (.bool false)], args := [d] }
  | _ => none }
def AllWrongFalsely : Prop := allRow.holds Try.pinned (OpenSpec.ofChange allWrong)

/-- 'bridgekeep.Unwound': WHATEVER THE INPUT: true; the input reads as it did. -/
def unwoundSpec : ChangeSpec := { name := "unwound", fn := fun _ => fun
  | [d1, d2] => { results := [.lit (.bool true)], args := [d1, d2] }
  | _ => none }
def unwoundRow : OpenClaim := { program := "ytedaknlacigbhaa", sum := "a8895956b564f7acf2ffbf3f04d79c87b244a19dcee17922a55bb7a5dafaeb74", func := "bridge/bridgekeep.Unwound", spec := "unwound", inPlace := ["maps.clone", "sync/atomic.AddInt64"], unfollowed := true, recurses := true, plainKeys := false, leaving := true, apart := false }
def UnwoundSaid : Prop := unwoundRow.holds Try.pinned (OpenSpec.ofChange unwoundSpec)

/-- ITS FALSE NEIGHBOUR: 'it returns false'. Refute it at one input. -/
def unwoundWrong : ChangeSpec := { name := "unwound", fn := fun _ => fun
  | [d1, d2] => { results := [.lit (.bool false)], args := [d1, d2] }
  | _ => none }
def UnwoundWrongFalsely : Prop := unwoundRow.holds Try.pinned (OpenSpec.ofChange unwoundWrong)

/-- 'bridgekeep.Known': WHATEVER THE INPUT: true; the input reads as it did. -/
def knownSpec : ChangeSpec := { name := "known", fn := fun _ => fun
  | [] => { results := [.lit (.bool true)], args := [] }
  | _ => none }
def knownRow : OpenClaim := { program := "ytedaknlacigbhaa", sum := "a8895956b564f7acf2ffbf3f04d79c87b244a19dcee17922a55bb7a5dafaeb74", func := "bridge/bridgekeep.Known", spec := "known", inPlace := ["maps.clone", "sync/atomic.AddInt64"], unfollowed := true, recurses := true, plainKeys := false, leaving := true, apart := false }
def KnownSaid : Prop := knownRow.holds Try.pinned (OpenSpec.ofChange knownSpec)

/-- ITS FALSE NEIGHBOUR: 'it returns false'. Refute it at one input. -/
def knownWrong : ChangeSpec := { name := "known", fn := fun _ => fun
  | [] => { results := [.lit (.bool false)], args := [] }
  | _ => none }
def KnownWrongFalsely : Prop := knownRow.holds Try.pinned (OpenSpec.ofChange knownWrong)

/-- 'bridgekeep.Parted': WHATEVER THE INPUT: true; the input reads as it did. -/
def partedSpec : ChangeSpec := { name := "parted", fn := fun _ => fun
  | [d1, d2, d3] => { results := [.lit (.bool true)], args := [d1, d2, d3] }
  | _ => none }
def partedRow : OpenClaim := { program := "ytedaknlacigbhaa", sum := "a8895956b564f7acf2ffbf3f04d79c87b244a19dcee17922a55bb7a5dafaeb74", func := "bridge/bridgekeep.Parted", spec := "parted", inPlace := ["maps.clone", "sync/atomic.AddInt64", "sync/atomic.LoadInt64"], unfollowed := true, recurses := true, plainKeys := false, leaving := true, apart := false }
def PartedSaid : Prop := partedRow.holds Try.pinned (OpenSpec.ofChange partedSpec)

/-- ITS FALSE NEIGHBOUR: 'it returns false'. Refute it at one input. -/
def partedWrong : ChangeSpec := { name := "parted", fn := fun _ => fun
  | [d1, d2, d3] => { results := [.lit (.bool false)], args := [d1, d2, d3] }
  | _ => none }
def PartedWrongFalsely : Prop := partedRow.holds Try.pinned (OpenSpec.ofChange partedWrong)

/-- 'bridgelaw.Sends': WHATEVER THE INPUT: true; the input reads as it did. -/
def sendsSpec : ChangeSpec := { name := "sends", fn := fun _ => fun
  | [d] => { results := [.lit (.bool true)], args := [d] }
  | _ => none }
def sendsRow : OpenClaim := { program := "ytedaknlacigbhaa", sum := "a8895956b564f7acf2ffbf3f04d79c87b244a19dcee17922a55bb7a5dafaeb74", func := "bridge/bridgelaw.Sends", spec := "sends", inPlace := ["maps.clone", "sync/atomic.AddInt64", "sync/atomic.LoadInt64"], unfollowed := true, recurses := true, plainKeys := false, leaving := true, apart := false }
def SendsSaid : Prop := sendsRow.holds Try.pinned (OpenSpec.ofChange sendsSpec)

/-- ITS FALSE NEIGHBOUR: 'it returns false'. Refute it at one input. -/
def sendsWrong : ChangeSpec := { name := "sends", fn := fun _ => fun
  | [d] => { results := [.lit (.bool false)], args := [d] }
  | _ => none }
def SendsWrongFalsely : Prop := sendsRow.holds Try.pinned (OpenSpec.ofChange sendsWrong)

/-- 'bridgelaw.Looks': WHATEVER THE INPUT: true; the input reads as it did. -/
def looksSpec : ChangeSpec := { name := "looks", fn := fun _ => fun
  | [d] => { results := [.lit (.bool true)], args := [d] }
  | _ => none }
def looksRow : OpenClaim := { program := "ytedaknlacigbhaa", sum := "a8895956b564f7acf2ffbf3f04d79c87b244a19dcee17922a55bb7a5dafaeb74", func := "bridge/bridgelaw.Looks", spec := "looks", inPlace := ["maps.clone", "sync/atomic.AddInt64", "sync/atomic.LoadInt64"], unfollowed := true, recurses := true, plainKeys := false, leaving := true, apart := false }
def LooksSaid : Prop := looksRow.holds Try.pinned (OpenSpec.ofChange looksSpec)

/-- ITS FALSE NEIGHBOUR: 'it returns false'. Refute it at one input. -/
def looksWrong : ChangeSpec := { name := "looks", fn := fun _ => fun
  | [d] => { results := [.lit (.bool false)], args := [d] }
  | _ => none }
def LooksWrongFalsely : Prop := looksRow.holds Try.pinned (OpenSpec.ofChange looksWrong)

/-- 'bridgelaw.Heads': WHATEVER THE INPUT: true; the input reads as it did. -/
def headsSpec : ChangeSpec := { name := "heads", fn := fun _ => fun
  | [d] => { results := [.lit (.bool true)], args := [d] }
  | _ => none }
def headsRow : OpenClaim := { program := "ytedaknlacigbhaa", sum := "a8895956b564f7acf2ffbf3f04d79c87b244a19dcee17922a55bb7a5dafaeb74", func := "bridge/bridgelaw.Heads", spec := "heads", inPlace := ["maps.clone", "sync/atomic.AddInt64", "sync/atomic.LoadInt64"], unfollowed := true, recurses := true, plainKeys := false, leaving := true, apart := false }
def HeadsSaid : Prop := headsRow.holds Try.pinned (OpenSpec.ofChange headsSpec)

/-- ITS FALSE NEIGHBOUR: 'it returns false'. Refute it at one input. -/
def headsWrong : ChangeSpec := { name := "heads", fn := fun _ => fun
  | [d] => { results := [.lit (.bool false)], args := [d] }
  | _ => none }
def HeadsWrongFalsely : Prop := headsRow.holds Try.pinned (OpenSpec.ofChange headsWrong)

/-- 'bridgelaw.Moves': WHATEVER THE INPUT: true; the input reads as it did. -/
def movesSpec : ChangeSpec := { name := "moves", fn := fun _ => fun
  | [d] => { results := [.lit (.bool true)], args := [d] }
  | _ => none }
def movesRow : OpenClaim := { program := "ytedaknlacigbhaa", sum := "a8895956b564f7acf2ffbf3f04d79c87b244a19dcee17922a55bb7a5dafaeb74", func := "bridge/bridgelaw.Moves", spec := "moves", inPlace := ["maps.clone", "sync/atomic.AddInt64", "sync/atomic.LoadInt64"], unfollowed := true, recurses := true, plainKeys := false, leaving := true, apart := false }
def MovesSaid : Prop := movesRow.holds Try.pinned (OpenSpec.ofChange movesSpec)

/-- ITS FALSE NEIGHBOUR: 'it returns false'. Refute it at one input. -/
def movesWrong : ChangeSpec := { name := "moves", fn := fun _ => fun
  | [d] => { results := [.lit (.bool false)], args := [d] }
  | _ => none }
def MovesWrongFalsely : Prop := movesRow.holds Try.pinned (OpenSpec.ofChange movesWrong)

/- THE SECOND FORM. 'bulk': how many values and letters a reading holds, each counted each time it is reached (what is shared counts as often as it is met; a slice's spare places count too). A statement '..UptoSaid' is the law's where the arguments, and the package variables that the reading takes, are together of bulk at most 1048576: NARROWER than '..Said'. Prove '..Said' where nothing that the law and all that it calls make is longer than what came in: it says more and counts as full. Else prove '..UptoSaid'. A law counts once. -/
mutual
def uptoBulk {H : Type} : DataW H → Nat
  | .lit (.string bytes) => bytes.length + 1
  | .lit _ => 1
  | .nil => 1
  | .ptr d => uptoBulk d + 1
  | .slice elems spare => uptoBulkAll elems + uptoBulkAll spare + 1
  | .agg parts => uptoBulkAll parts + 1
  | .iface _ d => uptoBulk d + 1
  | .map entries => uptoBulkEntries entries + 1
  | .held _ => 1
def uptoBulkAll {H : Type} : List (DataW H) → Nat
  | [] => 0
  | d :: r => uptoBulk d + uptoBulkAll r
def uptoBulkEntries {H : Type} : List (Lit × DataW H) → Nat
  | [] => 0
  | x :: r => uptoBulkEntry x + uptoBulkEntries r
def uptoBulkEntry {H : Type} : Lit × DataW H → Nat
  | (.string bytes, d) => bytes.length + uptoBulk d + 1
  | (_, d) => uptoBulk d + 1
 end
def uptoSmall : (H : Type) → List (DataW H) → Bool := fun _ ds => decide (uptoBulkAll ds ≤ 1048576)
def OpenSpec.upto (s : _root_.Go.ChangeSpec) : _root_.Go.OpenSpec := { _root_.Go.OpenSpec.ofChange s with cond := some uptoSmall }

/-- 'bridgelaw.Names', WHERE WHAT IT READS IS OF BULK AT MOST 1048576: true; the input reads as it did. -/
def namesUptoRow : OpenClaim := { program := "ytedaknlacigbhaa", sum := "a8895956b564f7acf2ffbf3f04d79c87b244a19dcee17922a55bb7a5dafaeb74", func := "bridge/bridgelaw.Names", spec := "names", plainKeys := false, apart := false, narrowed := true }
def NamesUptoSaid : Prop := namesUptoRow.holds Try.pinned (OpenSpec.upto namesSpec)

/-- 'bridgekeep.Once', WHERE WHAT IT READS IS OF BULK AT MOST 1048576: true; the input reads as it did. -/
def onceUptoRow : OpenClaim := { program := "ytedaknlacigbhaa", sum := "a8895956b564f7acf2ffbf3f04d79c87b244a19dcee17922a55bb7a5dafaeb74", func := "bridge/bridgekeep.Once", spec := "once", inPlace := ["maps.clone", "sync/atomic.AddInt64"], unfollowed := true, recurses := true, plainKeys := false, leaving := true, apart := false, narrowed := true }
def OnceUptoSaid : Prop := onceUptoRow.holds Try.pinned (OpenSpec.upto onceSpec)

/-- 'bridgekeep.Conserved', WHERE WHAT IT READS IS OF BULK AT MOST 1048576: true; the input reads as it did. -/
def conservedUptoRow : OpenClaim := { program := "ytedaknlacigbhaa", sum := "a8895956b564f7acf2ffbf3f04d79c87b244a19dcee17922a55bb7a5dafaeb74", func := "bridge/bridgekeep.Conserved", spec := "conserved", inPlace := ["maps.clone", "sync/atomic.AddInt64"], unfollowed := true, recurses := true, plainKeys := false, leaving := true, apart := false, narrowed := true }
def ConservedUptoSaid : Prop := conservedUptoRow.holds Try.pinned (OpenSpec.upto conservedSpec)

/-- 'bridgelaw.Owned', WHERE WHAT IT READS IS OF BULK AT MOST 1048576: true; the input reads as it did. -/
def ownedUptoRow : OpenClaim := { program := "ytedaknlacigbhaa", sum := "a8895956b564f7acf2ffbf3f04d79c87b244a19dcee17922a55bb7a5dafaeb74", func := "bridge/bridgelaw.Owned", spec := "owned", inPlace := ["maps.clone", "sync/atomic.AddInt64", "sync/atomic.LoadInt64"], unfollowed := true, recurses := true, plainKeys := false, leaving := true, apart := false, narrowed := true }
def OwnedUptoSaid : Prop := ownedUptoRow.holds Try.pinned (OpenSpec.upto ownedSpec)

/-- 'bridgelaw.All', WHERE WHAT IT READS IS OF BULK AT MOST 1048576: true; the input reads as it did. -/
def allUptoRow : OpenClaim := { program := "ytedaknlacigbhaa", sum := "a8895956b564f7acf2ffbf3f04d79c87b244a19dcee17922a55bb7a5dafaeb74", func := "bridge/bridgelaw.All", spec := "all", inPlace := ["maps.clone", "sync/atomic.AddInt64", "sync/atomic.LoadInt64"], unfollowed := true, recurses := true, plainKeys := false, leaving := true, apart := false, narrowed := true }
def AllUptoSaid : Prop := allUptoRow.holds Try.pinned (OpenSpec.upto allSpec)

/-- 'bridgekeep.Unwound', WHERE WHAT IT READS IS OF BULK AT MOST 1048576: true; the input reads as it did. -/
def unwoundUptoRow : OpenClaim := { program := "ytedaknlacigbhaa", sum := "a8895956b564f7acf2ffbf3f04d79c87b244a19dcee17922a55bb7a5dafaeb74", func := "bridge/bridgekeep.Unwound", spec := "unwound", inPlace := ["maps.clone", "sync/atomic.AddInt64"], unfollowed := true, recurses := true, plainKeys := false, leaving := true, apart := false, narrowed := true }
def UnwoundUptoSaid : Prop := unwoundUptoRow.holds Try.pinned (OpenSpec.upto unwoundSpec)

/-- 'bridgekeep.Known', WHERE WHAT IT READS IS OF BULK AT MOST 1048576: true; the input reads as it did. -/
def knownUptoRow : OpenClaim := { program := "ytedaknlacigbhaa", sum := "a8895956b564f7acf2ffbf3f04d79c87b244a19dcee17922a55bb7a5dafaeb74", func := "bridge/bridgekeep.Known", spec := "known", inPlace := ["maps.clone", "sync/atomic.AddInt64"], unfollowed := true, recurses := true, plainKeys := false, leaving := true, apart := false, narrowed := true }
def KnownUptoSaid : Prop := knownUptoRow.holds Try.pinned (OpenSpec.upto knownSpec)

/-- 'bridgekeep.Parted', WHERE WHAT IT READS IS OF BULK AT MOST 1048576: true; the input reads as it did. -/
def partedUptoRow : OpenClaim := { program := "ytedaknlacigbhaa", sum := "a8895956b564f7acf2ffbf3f04d79c87b244a19dcee17922a55bb7a5dafaeb74", func := "bridge/bridgekeep.Parted", spec := "parted", inPlace := ["maps.clone", "sync/atomic.AddInt64", "sync/atomic.LoadInt64"], unfollowed := true, recurses := true, plainKeys := false, leaving := true, apart := false, narrowed := true }
def PartedUptoSaid : Prop := partedUptoRow.holds Try.pinned (OpenSpec.upto partedSpec)

/-- 'bridgelaw.Sends', WHERE WHAT IT READS IS OF BULK AT MOST 1048576: true; the input reads as it did. -/
def sendsUptoRow : OpenClaim := { program := "ytedaknlacigbhaa", sum := "a8895956b564f7acf2ffbf3f04d79c87b244a19dcee17922a55bb7a5dafaeb74", func := "bridge/bridgelaw.Sends", spec := "sends", inPlace := ["maps.clone", "sync/atomic.AddInt64", "sync/atomic.LoadInt64"], unfollowed := true, recurses := true, plainKeys := false, leaving := true, apart := false, narrowed := true }
def SendsUptoSaid : Prop := sendsUptoRow.holds Try.pinned (OpenSpec.upto sendsSpec)

/-- 'bridgelaw.Looks', WHERE WHAT IT READS IS OF BULK AT MOST 1048576: true; the input reads as it did. -/
def looksUptoRow : OpenClaim := { program := "ytedaknlacigbhaa", sum := "a8895956b564f7acf2ffbf3f04d79c87b244a19dcee17922a55bb7a5dafaeb74", func := "bridge/bridgelaw.Looks", spec := "looks", inPlace := ["maps.clone", "sync/atomic.AddInt64", "sync/atomic.LoadInt64"], unfollowed := true, recurses := true, plainKeys := false, leaving := true, apart := false, narrowed := true }
def LooksUptoSaid : Prop := looksUptoRow.holds Try.pinned (OpenSpec.upto looksSpec)

/-- 'bridgelaw.Heads', WHERE WHAT IT READS IS OF BULK AT MOST 1048576: true; the input reads as it did. -/
def headsUptoRow : OpenClaim := { program := "ytedaknlacigbhaa", sum := "a8895956b564f7acf2ffbf3f04d79c87b244a19dcee17922a55bb7a5dafaeb74", func := "bridge/bridgelaw.Heads", spec := "heads", inPlace := ["maps.clone", "sync/atomic.AddInt64", "sync/atomic.LoadInt64"], unfollowed := true, recurses := true, plainKeys := false, leaving := true, apart := false, narrowed := true }
def HeadsUptoSaid : Prop := headsUptoRow.holds Try.pinned (OpenSpec.upto headsSpec)

/-- 'bridgelaw.Moves', WHERE WHAT IT READS IS OF BULK AT MOST 1048576: true; the input reads as it did. -/
def movesUptoRow : OpenClaim := { program := "ytedaknlacigbhaa", sum := "a8895956b564f7acf2ffbf3f04d79c87b244a19dcee17922a55bb7a5dafaeb74", func := "bridge/bridgelaw.Moves", spec := "moves", inPlace := ["maps.clone", "sync/atomic.AddInt64", "sync/atomic.LoadInt64"], unfollowed := true, recurses := true, plainKeys := false, leaving := true, apart := false, narrowed := true }
def MovesUptoSaid : Prop := movesUptoRow.holds Try.pinned (OpenSpec.upto movesSpec)

end Rows
end Go.Proofs.Ytedaknlacigbhaa
