/-
  No cell of these rows narrows 'for every input' (looked for: loops, veiled, ifaces, maps, wideKeys, modest, calm, conditions, laid).
  DERIVED. THE GIVEN ROWS OF THIS SEAT. 12 by the template 'for every input the law returns true; each argument reads behind the call as it read before'; 0 by the template 'total and deterministic' (their statements: YtdagbeihjobmjaaTotals.lean).
  GIVEN WITH THE SEED: the statements are not yours to turn. If you find one false, say at which input.
  Laid BY PROGRAM, IN A SANDBOX (cutbox-rows.mjs): the forced cells as the released guide's own fill.sh prints them over the translation 8731c0cff2c34725… (all of the seat's roots in one cut). By AI agents, Wed Nov 11 2026. No macro, syntax, notation, axiom, sorry.
-/
import Derived.Test.YtdagbeihjobmjaaChecked
import GoSem.Claim
import GoSem.ClaimJoined
import GoSem.ClaimMapViews
import Derived.JoinedTies
import Derived.KernelRfl
namespace Go.Proofs.Ytdagbeihjobmjaa
/- THE CELL 'sum', in the pinned program and in every row, IS THE sha256 OF THE DUMP (.gsa) THAT YtdagbeihjobmjaaProg.lean LOADS. Nothing in Lean hashes anything: it is a label: what it is worth is what the hold of that sum in a sandbox is worth. -/
noncomputable def Try.pinned : Pinned := { name := "ytdagbeihjobmjaa", sum := "8731c0cff2c347254ee4b0d8617af7fc2e6fa684bd21208a2cf92af62bceef47", checked := Try.checked }
namespace Rows
def none {H : Type} : Left H := { results := [], args := [] }

/-- 'laws.FnDigests': WHATEVER THE INPUT: true; the input reads as it did. -/
def fnDigestsSpec : ChangeSpec := { name := "fnDigests", fn := fun _ => fun
  | [d] => { results := [.lit (.bool true)], args := [d] }
  | _ => none }
def fnDigestsRow : OpenClaim := { program := "ytdagbeihjobmjaa", sum := "8731c0cff2c347254ee4b0d8617af7fc2e6fa684bd21208a2cf92af62bceef47", func := "loop.example/g00399/laws.FnDigests", spec := "fnDigests", unfollowed := true, recurses := true, apart := false }
def FnDigestsSaid : Prop := fnDigestsRow.holds Try.pinned (OpenSpec.ofChange fnDigestsSpec)

/-- ITS FALSE NEIGHBOUR: 'it returns false'. Refute it at one input. -/
def fnDigestsWrong : ChangeSpec := { name := "fnDigests", fn := fun _ => fun
  | [d] => { results := [.lit (.bool false)], args := [d] }
  | _ => none }
def FnDigestsWrongFalsely : Prop := fnDigestsRow.holds Try.pinned (OpenSpec.ofChange fnDigestsWrong)

/-- 'laws.FnCompare': WHATEVER THE INPUT: true; the input reads as it did. -/
def fnCompareSpec : ChangeSpec := { name := "fnCompare", fn := fun _ => fun
  | [d] => { results := [.lit (.bool true)], args := [d] }
  | _ => none }
def fnCompareRow : OpenClaim := { program := "ytdagbeihjobmjaa", sum := "8731c0cff2c347254ee4b0d8617af7fc2e6fa684bd21208a2cf92af62bceef47", func := "loop.example/g00399/laws.FnCompare", spec := "fnCompare", unfollowed := true, recurses := true, apart := false }
def FnCompareSaid : Prop := fnCompareRow.holds Try.pinned (OpenSpec.ofChange fnCompareSpec)

/-- ITS FALSE NEIGHBOUR: 'it returns false'. Refute it at one input. -/
def fnCompareWrong : ChangeSpec := { name := "fnCompare", fn := fun _ => fun
  | [d] => { results := [.lit (.bool false)], args := [d] }
  | _ => none }
def FnCompareWrongFalsely : Prop := fnCompareRow.holds Try.pinned (OpenSpec.ofChange fnCompareWrong)

/-- 'laws.FnHotPrefix': WHATEVER THE INPUT: true; the input reads as it did. -/
def fnHotPrefixSpec : ChangeSpec := { name := "fnHotPrefix", fn := fun _ => fun
  | [d] => { results := [.lit (.bool true)], args := [d] }
  | _ => none }
def fnHotPrefixRow : OpenClaim := { program := "ytdagbeihjobmjaa", sum := "8731c0cff2c347254ee4b0d8617af7fc2e6fa684bd21208a2cf92af62bceef47", func := "loop.example/g00399/laws.FnHotPrefix", spec := "fnHotPrefix", unfollowed := true, recurses := true, apart := false }
def FnHotPrefixSaid : Prop := fnHotPrefixRow.holds Try.pinned (OpenSpec.ofChange fnHotPrefixSpec)

/-- ITS FALSE NEIGHBOUR: 'it returns false'. Refute it at one input. -/
def fnHotPrefixWrong : ChangeSpec := { name := "fnHotPrefix", fn := fun _ => fun
  | [d] => { results := [.lit (.bool false)], args := [d] }
  | _ => none }
def FnHotPrefixWrongFalsely : Prop := fnHotPrefixRow.holds Try.pinned (OpenSpec.ofChange fnHotPrefixWrong)

/-- 'laws.FnTurns': WHATEVER THE INPUT: true; the input reads as it did. -/
def fnTurnsSpec : ChangeSpec := { name := "fnTurns", fn := fun _ => fun
  | [d] => { results := [.lit (.bool true)], args := [d] }
  | _ => none }
def fnTurnsRow : OpenClaim := { program := "ytdagbeihjobmjaa", sum := "8731c0cff2c347254ee4b0d8617af7fc2e6fa684bd21208a2cf92af62bceef47", func := "loop.example/g00399/laws.FnTurns", spec := "fnTurns", apart := false }
def FnTurnsSaid : Prop := fnTurnsRow.holds Try.pinned (OpenSpec.ofChange fnTurnsSpec)

/-- ITS FALSE NEIGHBOUR: 'it returns false'. Refute it at one input. -/
def fnTurnsWrong : ChangeSpec := { name := "fnTurns", fn := fun _ => fun
  | [d] => { results := [.lit (.bool false)], args := [d] }
  | _ => none }
def FnTurnsWrongFalsely : Prop := fnTurnsRow.holds Try.pinned (OpenSpec.ofChange fnTurnsWrong)

/-- 'laws.FnExactHotBook': WHATEVER THE INPUT: true; the input reads as it did. -/
def fnExactHotBookSpec : ChangeSpec := { name := "fnExactHotBook", fn := fun _ => fun
  | [d] => { results := [.lit (.bool true)], args := [d] }
  | _ => none }
def fnExactHotBookRow : OpenClaim := { program := "ytdagbeihjobmjaa", sum := "8731c0cff2c347254ee4b0d8617af7fc2e6fa684bd21208a2cf92af62bceef47", func := "loop.example/g00399/laws.FnExactHotBook", spec := "fnExactHotBook", unfollowed := true, recurses := true, apart := false }
def FnExactHotBookSaid : Prop := fnExactHotBookRow.holds Try.pinned (OpenSpec.ofChange fnExactHotBookSpec)

/-- ITS FALSE NEIGHBOUR: 'it returns false'. Refute it at one input. -/
def fnExactHotBookWrong : ChangeSpec := { name := "fnExactHotBook", fn := fun _ => fun
  | [d] => { results := [.lit (.bool false)], args := [d] }
  | _ => none }
def FnExactHotBookWrongFalsely : Prop := fnExactHotBookRow.holds Try.pinned (OpenSpec.ofChange fnExactHotBookWrong)

/-- 'laws.FnExactHotReplay': WHATEVER THE INPUT: true; the input reads as it did. -/
def fnExactHotReplaySpec : ChangeSpec := { name := "fnExactHotReplay", fn := fun _ => fun
  | [d] => { results := [.lit (.bool true)], args := [d] }
  | _ => none }
def fnExactHotReplayRow : OpenClaim := { program := "ytdagbeihjobmjaa", sum := "8731c0cff2c347254ee4b0d8617af7fc2e6fa684bd21208a2cf92af62bceef47", func := "loop.example/g00399/laws.FnExactHotReplay", spec := "fnExactHotReplay", unfollowed := true, recurses := true, apart := false }
def FnExactHotReplaySaid : Prop := fnExactHotReplayRow.holds Try.pinned (OpenSpec.ofChange fnExactHotReplaySpec)

/-- ITS FALSE NEIGHBOUR: 'it returns false'. Refute it at one input. -/
def fnExactHotReplayWrong : ChangeSpec := { name := "fnExactHotReplay", fn := fun _ => fun
  | [d] => { results := [.lit (.bool false)], args := [d] }
  | _ => none }
def FnExactHotReplayWrongFalsely : Prop := fnExactHotReplayRow.holds Try.pinned (OpenSpec.ofChange fnExactHotReplayWrong)

/-- 'laws.FnExactBitsOf': WHATEVER THE INPUT: true; the input reads as it did. -/
def fnExactBitsOfSpec : ChangeSpec := { name := "fnExactBitsOf", fn := fun _ => fun
  | [d] => { results := [.lit (.bool true)], args := [d] }
  | _ => none }
def fnExactBitsOfRow : OpenClaim := { program := "ytdagbeihjobmjaa", sum := "8731c0cff2c347254ee4b0d8617af7fc2e6fa684bd21208a2cf92af62bceef47", func := "loop.example/g00399/laws.FnExactBitsOf", spec := "fnExactBitsOf", apart := false }
def FnExactBitsOfSaid : Prop := fnExactBitsOfRow.holds Try.pinned (OpenSpec.ofChange fnExactBitsOfSpec)

/-- ITS FALSE NEIGHBOUR: 'it returns false'. Refute it at one input. -/
def fnExactBitsOfWrong : ChangeSpec := { name := "fnExactBitsOf", fn := fun _ => fun
  | [d] => { results := [.lit (.bool false)], args := [d] }
  | _ => none }
def FnExactBitsOfWrongFalsely : Prop := fnExactBitsOfRow.holds Try.pinned (OpenSpec.ofChange fnExactBitsOfWrong)

/-- 'laws.FnHot': WHATEVER THE INPUT: true; the input reads as it did. -/
def fnHotSpec : ChangeSpec := { name := "fnHot", fn := fun _ => fun
  | [d] => { results := [.lit (.bool true)], args := [d] }
  | _ => none }
def fnHotRow : OpenClaim := { program := "ytdagbeihjobmjaa", sum := "8731c0cff2c347254ee4b0d8617af7fc2e6fa684bd21208a2cf92af62bceef47", func := "loop.example/g00399/laws.FnHot", spec := "fnHot", inPlace := ["slices.overlaps[int]"], unfollowed := true, recurses := true, apart := false }
def FnHotSaid : Prop := fnHotRow.holds Try.pinned (OpenSpec.ofChange fnHotSpec)

/-- ITS FALSE NEIGHBOUR: 'it returns false'. Refute it at one input. -/
def fnHotWrong : ChangeSpec := { name := "fnHot", fn := fun _ => fun
  | [d] => { results := [.lit (.bool false)], args := [d] }
  | _ => none }
def FnHotWrongFalsely : Prop := fnHotRow.holds Try.pinned (OpenSpec.ofChange fnHotWrong)

/-- 'laws.FnHotCovers': WHATEVER THE INPUT: true; the input reads as it did. -/
def fnHotCoversSpec : ChangeSpec := { name := "fnHotCovers", fn := fun _ => fun
  | [d] => { results := [.lit (.bool true)], args := [d] }
  | _ => none }
def fnHotCoversRow : OpenClaim := { program := "ytdagbeihjobmjaa", sum := "8731c0cff2c347254ee4b0d8617af7fc2e6fa684bd21208a2cf92af62bceef47", func := "loop.example/g00399/laws.FnHotCovers", spec := "fnHotCovers", inPlace := ["slices.overlaps[int]"], unfollowed := true, recurses := true, apart := false }
def FnHotCoversSaid : Prop := fnHotCoversRow.holds Try.pinned (OpenSpec.ofChange fnHotCoversSpec)

/-- ITS FALSE NEIGHBOUR: 'it returns false'. Refute it at one input. -/
def fnHotCoversWrong : ChangeSpec := { name := "fnHotCovers", fn := fun _ => fun
  | [d] => { results := [.lit (.bool false)], args := [d] }
  | _ => none }
def FnHotCoversWrongFalsely : Prop := fnHotCoversRow.holds Try.pinned (OpenSpec.ofChange fnHotCoversWrong)

/-- 'laws.FnRunsAll': WHATEVER THE INPUT: true; the input reads as it did. -/
def fnRunsAllSpec : ChangeSpec := { name := "fnRunsAll", fn := fun _ => fun
  | [d] => { results := [.lit (.bool true)], args := [d] }
  | _ => none }
def fnRunsAllRow : OpenClaim := { program := "ytdagbeihjobmjaa", sum := "8731c0cff2c347254ee4b0d8617af7fc2e6fa684bd21208a2cf92af62bceef47", func := "loop.example/g00399/laws.FnRunsAll", spec := "fnRunsAll", inPlace := ["slices.overlaps[int]"], unfollowed := true, recurses := true, apart := false }
def FnRunsAllSaid : Prop := fnRunsAllRow.holds Try.pinned (OpenSpec.ofChange fnRunsAllSpec)

/-- ITS FALSE NEIGHBOUR: 'it returns false'. Refute it at one input. -/
def fnRunsAllWrong : ChangeSpec := { name := "fnRunsAll", fn := fun _ => fun
  | [d] => { results := [.lit (.bool false)], args := [d] }
  | _ => none }
def FnRunsAllWrongFalsely : Prop := fnRunsAllRow.holds Try.pinned (OpenSpec.ofChange fnRunsAllWrong)

/-- 'laws.FnBits': WHATEVER THE INPUT: true; the input reads as it did. -/
def fnBitsSpec : ChangeSpec := { name := "fnBits", fn := fun _ => fun
  | [d] => { results := [.lit (.bool true)], args := [d] }
  | _ => none }
def fnBitsRow : OpenClaim := { program := "ytdagbeihjobmjaa", sum := "8731c0cff2c347254ee4b0d8617af7fc2e6fa684bd21208a2cf92af62bceef47", func := "loop.example/g00399/laws.FnBits", spec := "fnBits", apart := false }
def FnBitsSaid : Prop := fnBitsRow.holds Try.pinned (OpenSpec.ofChange fnBitsSpec)

/-- ITS FALSE NEIGHBOUR: 'it returns false'. Refute it at one input. -/
def fnBitsWrong : ChangeSpec := { name := "fnBits", fn := fun _ => fun
  | [d] => { results := [.lit (.bool false)], args := [d] }
  | _ => none }
def FnBitsWrongFalsely : Prop := fnBitsRow.holds Try.pinned (OpenSpec.ofChange fnBitsWrong)

/-- 'laws.FnHotBook': WHATEVER THE INPUT: true; the input reads as it did. -/
def fnHotBookSpec : ChangeSpec := { name := "fnHotBook", fn := fun _ => fun
  | [d] => { results := [.lit (.bool true)], args := [d] }
  | _ => none }
def fnHotBookRow : OpenClaim := { program := "ytdagbeihjobmjaa", sum := "8731c0cff2c347254ee4b0d8617af7fc2e6fa684bd21208a2cf92af62bceef47", func := "loop.example/g00399/laws.FnHotBook", spec := "fnHotBook", inPlace := ["slices.overlaps[int]"], unfollowed := true, recurses := true, apart := false }
def FnHotBookSaid : Prop := fnHotBookRow.holds Try.pinned (OpenSpec.ofChange fnHotBookSpec)

/-- ITS FALSE NEIGHBOUR: 'it returns false'. Refute it at one input. -/
def fnHotBookWrong : ChangeSpec := { name := "fnHotBook", fn := fun _ => fun
  | [d] => { results := [.lit (.bool false)], args := [d] }
  | _ => none }
def FnHotBookWrongFalsely : Prop := fnHotBookRow.holds Try.pinned (OpenSpec.ofChange fnHotBookWrong)

/- THE SECOND FORM. 'bulk': how many values and letters a reading holds, each counted each time it is reached (what is shared counts as often as it is met; a slice's spare places count too). A statement '..UptoSaid' is the law's where the arguments, and the package variables that the reading takes, are together of bulk at most 1048576: NARROWER than '..Said'. Prove '..Said' where nothing that the law and all that it calls make is longer than what came in: it says more and counts as full. Else prove '..UptoSaid'. A law counts once. -/
mutual
def uptoBulk {H : Type} : DataW H → Nat
  | .lit (.string bytes) => bytes.length + 1
  | .lit _ => 1
  | .nil => 1
  | .ptr d => uptoBulk d + 1
  | .slice elems spare => uptoBulkAll elems + uptoBulkAll spare + 1
  | .agg parts => uptoBulkAll parts + 1
  | .iface _ d => uptoBulk d + 1
  | .map entries => uptoBulkEntries entries + 1
  | .held _ => 1
def uptoBulkAll {H : Type} : List (DataW H) → Nat
  | [] => 0
  | d :: r => uptoBulk d + uptoBulkAll r
def uptoBulkEntries {H : Type} : List (Lit × DataW H) → Nat
  | [] => 0
  | x :: r => uptoBulkEntry x + uptoBulkEntries r
def uptoBulkEntry {H : Type} : Lit × DataW H → Nat
  | (.string bytes, d) => bytes.length + uptoBulk d + 1
  | (_, d) => uptoBulk d + 1
 end
def uptoSmall : (H : Type) → List (DataW H) → Bool := fun _ ds => decide (uptoBulkAll ds ≤ 1048576)
def OpenSpec.upto (s : _root_.Go.ChangeSpec) : _root_.Go.OpenSpec := { _root_.Go.OpenSpec.ofChange s with cond := some uptoSmall }

/-- 'laws.FnDigests', WHERE WHAT IT READS IS OF BULK AT MOST 1048576: true; the input reads as it did. -/
def fnDigestsUptoRow : OpenClaim := { program := "ytdagbeihjobmjaa", sum := "8731c0cff2c347254ee4b0d8617af7fc2e6fa684bd21208a2cf92af62bceef47", func := "loop.example/g00399/laws.FnDigests", spec := "fnDigests", unfollowed := true, recurses := true, apart := false, narrowed := true }
def FnDigestsUptoSaid : Prop := fnDigestsUptoRow.holds Try.pinned (OpenSpec.upto fnDigestsSpec)

/-- 'laws.FnCompare', WHERE WHAT IT READS IS OF BULK AT MOST 1048576: true; the input reads as it did. -/
def fnCompareUptoRow : OpenClaim := { program := "ytdagbeihjobmjaa", sum := "8731c0cff2c347254ee4b0d8617af7fc2e6fa684bd21208a2cf92af62bceef47", func := "loop.example/g00399/laws.FnCompare", spec := "fnCompare", unfollowed := true, recurses := true, apart := false, narrowed := true }
def FnCompareUptoSaid : Prop := fnCompareUptoRow.holds Try.pinned (OpenSpec.upto fnCompareSpec)

/-- 'laws.FnHotPrefix', WHERE WHAT IT READS IS OF BULK AT MOST 1048576: true; the input reads as it did. -/
def fnHotPrefixUptoRow : OpenClaim := { program := "ytdagbeihjobmjaa", sum := "8731c0cff2c347254ee4b0d8617af7fc2e6fa684bd21208a2cf92af62bceef47", func := "loop.example/g00399/laws.FnHotPrefix", spec := "fnHotPrefix", unfollowed := true, recurses := true, apart := false, narrowed := true }
def FnHotPrefixUptoSaid : Prop := fnHotPrefixUptoRow.holds Try.pinned (OpenSpec.upto fnHotPrefixSpec)

/-- 'laws.FnTurns', WHERE WHAT IT READS IS OF BULK AT MOST 1048576: true; the input reads as it did. -/
def fnTurnsUptoRow : OpenClaim := { program := "ytdagbeihjobmjaa", sum := "8731c0cff2c347254ee4b0d8617af7fc2e6fa684bd21208a2cf92af62bceef47", func := "loop.example/g00399/laws.FnTurns", spec := "fnTurns", apart := false, narrowed := true }
def FnTurnsUptoSaid : Prop := fnTurnsUptoRow.holds Try.pinned (OpenSpec.upto fnTurnsSpec)

/-- 'laws.FnExactHotBook', WHERE WHAT IT READS IS OF BULK AT MOST 1048576: true; the input reads as it did. -/
def fnExactHotBookUptoRow : OpenClaim := { program := "ytdagbeihjobmjaa", sum := "8731c0cff2c347254ee4b0d8617af7fc2e6fa684bd21208a2cf92af62bceef47", func := "loop.example/g00399/laws.FnExactHotBook", spec := "fnExactHotBook", unfollowed := true, recurses := true, apart := false, narrowed := true }
def FnExactHotBookUptoSaid : Prop := fnExactHotBookUptoRow.holds Try.pinned (OpenSpec.upto fnExactHotBookSpec)

/-- 'laws.FnExactHotReplay', WHERE WHAT IT READS IS OF BULK AT MOST 1048576: true; the input reads as it did. -/
def fnExactHotReplayUptoRow : OpenClaim := { program := "ytdagbeihjobmjaa", sum := "8731c0cff2c347254ee4b0d8617af7fc2e6fa684bd21208a2cf92af62bceef47", func := "loop.example/g00399/laws.FnExactHotReplay", spec := "fnExactHotReplay", unfollowed := true, recurses := true, apart := false, narrowed := true }
def FnExactHotReplayUptoSaid : Prop := fnExactHotReplayUptoRow.holds Try.pinned (OpenSpec.upto fnExactHotReplaySpec)

/-- 'laws.FnExactBitsOf', WHERE WHAT IT READS IS OF BULK AT MOST 1048576: true; the input reads as it did. -/
def fnExactBitsOfUptoRow : OpenClaim := { program := "ytdagbeihjobmjaa", sum := "8731c0cff2c347254ee4b0d8617af7fc2e6fa684bd21208a2cf92af62bceef47", func := "loop.example/g00399/laws.FnExactBitsOf", spec := "fnExactBitsOf", apart := false, narrowed := true }
def FnExactBitsOfUptoSaid : Prop := fnExactBitsOfUptoRow.holds Try.pinned (OpenSpec.upto fnExactBitsOfSpec)

/-- 'laws.FnHot', WHERE WHAT IT READS IS OF BULK AT MOST 1048576: true; the input reads as it did. -/
def fnHotUptoRow : OpenClaim := { program := "ytdagbeihjobmjaa", sum := "8731c0cff2c347254ee4b0d8617af7fc2e6fa684bd21208a2cf92af62bceef47", func := "loop.example/g00399/laws.FnHot", spec := "fnHot", inPlace := ["slices.overlaps[int]"], unfollowed := true, recurses := true, apart := false, narrowed := true }
def FnHotUptoSaid : Prop := fnHotUptoRow.holds Try.pinned (OpenSpec.upto fnHotSpec)

/-- 'laws.FnHotCovers', WHERE WHAT IT READS IS OF BULK AT MOST 1048576: true; the input reads as it did. -/
def fnHotCoversUptoRow : OpenClaim := { program := "ytdagbeihjobmjaa", sum := "8731c0cff2c347254ee4b0d8617af7fc2e6fa684bd21208a2cf92af62bceef47", func := "loop.example/g00399/laws.FnHotCovers", spec := "fnHotCovers", inPlace := ["slices.overlaps[int]"], unfollowed := true, recurses := true, apart := false, narrowed := true }
def FnHotCoversUptoSaid : Prop := fnHotCoversUptoRow.holds Try.pinned (OpenSpec.upto fnHotCoversSpec)

/-- 'laws.FnRunsAll', WHERE WHAT IT READS IS OF BULK AT MOST 1048576: true; the input reads as it did. -/
def fnRunsAllUptoRow : OpenClaim := { program := "ytdagbeihjobmjaa", sum := "8731c0cff2c347254ee4b0d8617af7fc2e6fa684bd21208a2cf92af62bceef47", func := "loop.example/g00399/laws.FnRunsAll", spec := "fnRunsAll", inPlace := ["slices.overlaps[int]"], unfollowed := true, recurses := true, apart := false, narrowed := true }
def FnRunsAllUptoSaid : Prop := fnRunsAllUptoRow.holds Try.pinned (OpenSpec.upto fnRunsAllSpec)

/-- 'laws.FnBits', WHERE WHAT IT READS IS OF BULK AT MOST 1048576: true; the input reads as it did. -/
def fnBitsUptoRow : OpenClaim := { program := "ytdagbeihjobmjaa", sum := "8731c0cff2c347254ee4b0d8617af7fc2e6fa684bd21208a2cf92af62bceef47", func := "loop.example/g00399/laws.FnBits", spec := "fnBits", apart := false, narrowed := true }
def FnBitsUptoSaid : Prop := fnBitsUptoRow.holds Try.pinned (OpenSpec.upto fnBitsSpec)

/-- 'laws.FnHotBook', WHERE WHAT IT READS IS OF BULK AT MOST 1048576: true; the input reads as it did. -/
def fnHotBookUptoRow : OpenClaim := { program := "ytdagbeihjobmjaa", sum := "8731c0cff2c347254ee4b0d8617af7fc2e6fa684bd21208a2cf92af62bceef47", func := "loop.example/g00399/laws.FnHotBook", spec := "fnHotBook", inPlace := ["slices.overlaps[int]"], unfollowed := true, recurses := true, apart := false, narrowed := true }
def FnHotBookUptoSaid : Prop := fnHotBookUptoRow.holds Try.pinned (OpenSpec.upto fnHotBookSpec)

end Rows
end Go.Proofs.Ytdagbeihjobmjaa
