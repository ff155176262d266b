/-
  No cell of these rows narrows 'for every input' (looked for: loops, veiled, ifaces, maps, wideKeys, modest, calm, conditions, laid).
  DERIVED. THE GIVEN ROWS OF THIS SEAT. 12 by the template 'for every input the law returns true; each argument reads behind the call as it read before'; 0 by the template 'total and deterministic' (their statements: YtklphaicchmmoaaTotals.lean).
  GIVEN WITH THE SEED: the statements are not yours to turn. If you find one false, say at which input.
  Laid BY PROGRAM, IN A SANDBOX (cutbox-rows.mjs): the forced cells as the released guide's own fill.sh prints them over the translation 5bcd20b4aae095c2… (all of the seat's roots in one cut). By AI agents, Wed Nov 11 2026. No macro, syntax, notation, axiom, sorry.
-/
import Derived.Test.YtklphaicchmmoaaChecked
import GoSem.Claim
import GoSem.ClaimJoined
import GoSem.ClaimMapViews
import Derived.JoinedTies
import Derived.KernelRfl
namespace Go.Proofs.Ytklphaicchmmoaa
/- THE CELL 'sum', in the pinned program and in every row, IS THE sha256 OF THE DUMP (.gsa) THAT YtklphaicchmmoaaProg.lean LOADS. Nothing in Lean hashes anything: it is a label: what it is worth is what the hold of that sum in a sandbox is worth. -/
noncomputable def Try.pinned : Pinned := { name := "ytklphaicchmmoaa", sum := "5bcd20b4aae095c201adaf7308605047a857c3aa6f5f2b4453018f6b08ebc387", checked := Try.checked }
namespace Rows
def none {H : Type} : Left H := { results := [], args := [] }

/-- 'laws.FnHotTorn': WHATEVER THE INPUT: true; the input reads as it did. -/
def fnHotTornSpec : ChangeSpec := { name := "fnHotTorn", fn := fun _ => fun
  | [d] => { results := [.lit (.bool true)], args := [d] }
  | _ => none }
def fnHotTornRow : OpenClaim := { program := "ytklphaicchmmoaa", sum := "5bcd20b4aae095c201adaf7308605047a857c3aa6f5f2b4453018f6b08ebc387", func := "loop.example/g00399/laws.FnHotTorn", spec := "fnHotTorn", inPlace := ["slices.overlaps[int]"], unfollowed := true, recurses := true, apart := false }
def FnHotTornSaid : Prop := fnHotTornRow.holds Try.pinned (OpenSpec.ofChange fnHotTornSpec)

/-- ITS FALSE NEIGHBOUR: 'it returns false'. Refute it at one input. -/
def fnHotTornWrong : ChangeSpec := { name := "fnHotTorn", fn := fun _ => fun
  | [d] => { results := [.lit (.bool false)], args := [d] }
  | _ => none }
def FnHotTornWrongFalsely : Prop := fnHotTornRow.holds Try.pinned (OpenSpec.ofChange fnHotTornWrong)

/-- 'laws.FnExactOthers': WHATEVER THE INPUT: true; the input reads as it did. -/
def fnExactOthersSpec : ChangeSpec := { name := "fnExactOthers", fn := fun _ => fun
  | [d] => { results := [.lit (.bool true)], args := [d] }
  | _ => none }
def fnExactOthersRow : OpenClaim := { program := "ytklphaicchmmoaa", sum := "5bcd20b4aae095c201adaf7308605047a857c3aa6f5f2b4453018f6b08ebc387", func := "loop.example/g00399/laws.FnExactOthers", spec := "fnExactOthers", apart := false }
def FnExactOthersSaid : Prop := fnExactOthersRow.holds Try.pinned (OpenSpec.ofChange fnExactOthersSpec)

/-- ITS FALSE NEIGHBOUR: 'it returns false'. Refute it at one input. -/
def fnExactOthersWrong : ChangeSpec := { name := "fnExactOthers", fn := fun _ => fun
  | [d] => { results := [.lit (.bool false)], args := [d] }
  | _ => none }
def FnExactOthersWrongFalsely : Prop := fnExactOthersRow.holds Try.pinned (OpenSpec.ofChange fnExactOthersWrong)

/-- 'laws.FnExactDigest': WHATEVER THE INPUT: true; the input reads as it did. -/
def fnExactDigestSpec : ChangeSpec := { name := "fnExactDigest", fn := fun _ => fun
  | [d1, d2] => { results := [.lit (.bool true)], args := [d1, d2] }
  | _ => none }
def fnExactDigestRow : OpenClaim := { program := "ytklphaicchmmoaa", sum := "5bcd20b4aae095c201adaf7308605047a857c3aa6f5f2b4453018f6b08ebc387", func := "loop.example/g00399/laws.FnExactDigest", spec := "fnExactDigest", unfollowed := true, recurses := true, apart := false }
def FnExactDigestSaid : Prop := fnExactDigestRow.holds Try.pinned (OpenSpec.ofChange fnExactDigestSpec)

/-- ITS FALSE NEIGHBOUR: 'it returns false'. Refute it at one input. -/
def fnExactDigestWrong : ChangeSpec := { name := "fnExactDigest", fn := fun _ => fun
  | [d1, d2] => { results := [.lit (.bool false)], args := [d1, d2] }
  | _ => none }
def FnExactDigestWrongFalsely : Prop := fnExactDigestRow.holds Try.pinned (OpenSpec.ofChange fnExactDigestWrong)

/-- 'laws.FnExactTurnBytes': WHATEVER THE INPUT: true; the input reads as it did. -/
def fnExactTurnBytesSpec : ChangeSpec := { name := "fnExactTurnBytes", fn := fun _ => fun
  | [d1, d2, d3] => { results := [.lit (.bool true)], args := [d1, d2, d3] }
  | _ => none }
def fnExactTurnBytesRow : OpenClaim := { program := "ytklphaicchmmoaa", sum := "5bcd20b4aae095c201adaf7308605047a857c3aa6f5f2b4453018f6b08ebc387", func := "loop.example/g00399/laws.FnExactTurnBytes", spec := "fnExactTurnBytes", apart := false }
def FnExactTurnBytesSaid : Prop := fnExactTurnBytesRow.holds Try.pinned (OpenSpec.ofChange fnExactTurnBytesSpec)

/-- ITS FALSE NEIGHBOUR: 'it returns false'. Refute it at one input. -/
def fnExactTurnBytesWrong : ChangeSpec := { name := "fnExactTurnBytes", fn := fun _ => fun
  | [d1, d2, d3] => { results := [.lit (.bool false)], args := [d1, d2, d3] }
  | _ => none }
def FnExactTurnBytesWrongFalsely : Prop := fnExactTurnBytesRow.holds Try.pinned (OpenSpec.ofChange fnExactTurnBytesWrong)

/-- 'laws.FnExactRuns': WHATEVER THE INPUT: true; the input reads as it did. -/
def fnExactRunsSpec : ChangeSpec := { name := "fnExactRuns", fn := fun _ => fun
  | [d] => { results := [.lit (.bool true)], args := [d] }
  | _ => none }
def fnExactRunsRow : OpenClaim := { program := "ytklphaicchmmoaa", sum := "5bcd20b4aae095c201adaf7308605047a857c3aa6f5f2b4453018f6b08ebc387", func := "loop.example/g00399/laws.FnExactRuns", spec := "fnExactRuns", apart := false }
def FnExactRunsSaid : Prop := fnExactRunsRow.holds Try.pinned (OpenSpec.ofChange fnExactRunsSpec)

/-- ITS FALSE NEIGHBOUR: 'it returns false'. Refute it at one input. -/
def fnExactRunsWrong : ChangeSpec := { name := "fnExactRuns", fn := fun _ => fun
  | [d] => { results := [.lit (.bool false)], args := [d] }
  | _ => none }
def FnExactRunsWrongFalsely : Prop := fnExactRunsRow.holds Try.pinned (OpenSpec.ofChange fnExactRunsWrong)

/-- 'laws.FnExactDigests': WHATEVER THE INPUT: true; the input reads as it did. -/
def fnExactDigestsSpec : ChangeSpec := { name := "fnExactDigests", fn := fun _ => fun
  | [d] => { results := [.lit (.bool true)], args := [d] }
  | _ => none }
def fnExactDigestsRow : OpenClaim := { program := "ytklphaicchmmoaa", sum := "5bcd20b4aae095c201adaf7308605047a857c3aa6f5f2b4453018f6b08ebc387", func := "loop.example/g00399/laws.FnExactDigests", spec := "fnExactDigests", unfollowed := true, recurses := true, apart := false }
def FnExactDigestsSaid : Prop := fnExactDigestsRow.holds Try.pinned (OpenSpec.ofChange fnExactDigestsSpec)

/-- ITS FALSE NEIGHBOUR: 'it returns false'. Refute it at one input. -/
def fnExactDigestsWrong : ChangeSpec := { name := "fnExactDigests", fn := fun _ => fun
  | [d] => { results := [.lit (.bool false)], args := [d] }
  | _ => none }
def FnExactDigestsWrongFalsely : Prop := fnExactDigestsRow.holds Try.pinned (OpenSpec.ofChange fnExactDigestsWrong)

/-- 'laws.FnExactTouch': WHATEVER THE INPUT: true; the input reads as it did. -/
def fnExactTouchSpec : ChangeSpec := { name := "fnExactTouch", fn := fun _ => fun
  | [d1, d2] => { results := [.lit (.bool true)], args := [d1, d2] }
  | _ => none }
def fnExactTouchRow : OpenClaim := { program := "ytklphaicchmmoaa", sum := "5bcd20b4aae095c201adaf7308605047a857c3aa6f5f2b4453018f6b08ebc387", func := "loop.example/g00399/laws.FnExactTouch", spec := "fnExactTouch", unfollowed := true, recurses := true, apart := false }
def FnExactTouchSaid : Prop := fnExactTouchRow.holds Try.pinned (OpenSpec.ofChange fnExactTouchSpec)

/-- ITS FALSE NEIGHBOUR: 'it returns false'. Refute it at one input. -/
def fnExactTouchWrong : ChangeSpec := { name := "fnExactTouch", fn := fun _ => fun
  | [d1, d2] => { results := [.lit (.bool false)], args := [d1, d2] }
  | _ => none }
def FnExactTouchWrongFalsely : Prop := fnExactTouchRow.holds Try.pinned (OpenSpec.ofChange fnExactTouchWrong)

/-- 'laws.FnExactCompare': WHATEVER THE INPUT: true; the input reads as it did. -/
def fnExactCompareSpec : ChangeSpec := { name := "fnExactCompare", fn := fun _ => fun
  | [d1, d2] => { results := [.lit (.bool true)], args := [d1, d2] }
  | _ => none }
def fnExactCompareRow : OpenClaim := { program := "ytklphaicchmmoaa", sum := "5bcd20b4aae095c201adaf7308605047a857c3aa6f5f2b4453018f6b08ebc387", func := "loop.example/g00399/laws.FnExactCompare", spec := "fnExactCompare", unfollowed := true, recurses := true, apart := false }
def FnExactCompareSaid : Prop := fnExactCompareRow.holds Try.pinned (OpenSpec.ofChange fnExactCompareSpec)

/-- ITS FALSE NEIGHBOUR: 'it returns false'. Refute it at one input. -/
def fnExactCompareWrong : ChangeSpec := { name := "fnExactCompare", fn := fun _ => fun
  | [d1, d2] => { results := [.lit (.bool false)], args := [d1, d2] }
  | _ => none }
def FnExactCompareWrongFalsely : Prop := fnExactCompareRow.holds Try.pinned (OpenSpec.ofChange fnExactCompareWrong)

/-- 'laws.FnExactTurnOf': WHATEVER THE INPUT: true; the input reads as it did. -/
def fnExactTurnOfSpec : ChangeSpec := { name := "fnExactTurnOf", fn := fun _ => fun
  | [d1, d2] => { results := [.lit (.bool true)], args := [d1, d2] }
  | _ => none }
def fnExactTurnOfRow : OpenClaim := { program := "ytklphaicchmmoaa", sum := "5bcd20b4aae095c201adaf7308605047a857c3aa6f5f2b4453018f6b08ebc387", func := "loop.example/g00399/laws.FnExactTurnOf", spec := "fnExactTurnOf", apart := false }
def FnExactTurnOfSaid : Prop := fnExactTurnOfRow.holds Try.pinned (OpenSpec.ofChange fnExactTurnOfSpec)

/-- ITS FALSE NEIGHBOUR: 'it returns false'. Refute it at one input. -/
def fnExactTurnOfWrong : ChangeSpec := { name := "fnExactTurnOf", fn := fun _ => fun
  | [d1, d2] => { results := [.lit (.bool false)], args := [d1, d2] }
  | _ => none }
def FnExactTurnOfWrongFalsely : Prop := fnExactTurnOfRow.holds Try.pinned (OpenSpec.ofChange fnExactTurnOfWrong)

/-- 'laws.FnExactOfRuns': WHATEVER THE INPUT: true; the input reads as it did. -/
def fnExactOfRunsSpec : ChangeSpec := { name := "fnExactOfRuns", fn := fun _ => fun
  | [d] => { results := [.lit (.bool true)], args := [d] }
  | _ => none }
def fnExactOfRunsRow : OpenClaim := { program := "ytklphaicchmmoaa", sum := "5bcd20b4aae095c201adaf7308605047a857c3aa6f5f2b4453018f6b08ebc387", func := "loop.example/g00399/laws.FnExactOfRuns", spec := "fnExactOfRuns", apart := false }
def FnExactOfRunsSaid : Prop := fnExactOfRunsRow.holds Try.pinned (OpenSpec.ofChange fnExactOfRunsSpec)

/-- ITS FALSE NEIGHBOUR: 'it returns false'. Refute it at one input. -/
def fnExactOfRunsWrong : ChangeSpec := { name := "fnExactOfRuns", fn := fun _ => fun
  | [d] => { results := [.lit (.bool false)], args := [d] }
  | _ => none }
def FnExactOfRunsWrongFalsely : Prop := fnExactOfRunsRow.holds Try.pinned (OpenSpec.ofChange fnExactOfRunsWrong)

/-- 'laws.FnExactBitsBytes': WHATEVER THE INPUT: true; the input reads as it did. -/
def fnExactBitsBytesSpec : ChangeSpec := { name := "fnExactBitsBytes", fn := fun _ => fun
  | [d] => { results := [.lit (.bool true)], args := [d] }
  | _ => none }
def fnExactBitsBytesRow : OpenClaim := { program := "ytklphaicchmmoaa", sum := "5bcd20b4aae095c201adaf7308605047a857c3aa6f5f2b4453018f6b08ebc387", func := "loop.example/g00399/laws.FnExactBitsBytes", spec := "fnExactBitsBytes", apart := false }
def FnExactBitsBytesSaid : Prop := fnExactBitsBytesRow.holds Try.pinned (OpenSpec.ofChange fnExactBitsBytesSpec)

/-- ITS FALSE NEIGHBOUR: 'it returns false'. Refute it at one input. -/
def fnExactBitsBytesWrong : ChangeSpec := { name := "fnExactBitsBytes", fn := fun _ => fun
  | [d] => { results := [.lit (.bool false)], args := [d] }
  | _ => none }
def FnExactBitsBytesWrongFalsely : Prop := fnExactBitsBytesRow.holds Try.pinned (OpenSpec.ofChange fnExactBitsBytesWrong)

/-- 'laws.FnExactHotMarks': WHATEVER THE INPUT: true; the input reads as it did. -/
def fnExactHotMarksSpec : ChangeSpec := { name := "fnExactHotMarks", fn := fun _ => fun
  | [d] => { results := [.lit (.bool true)], args := [d] }
  | _ => none }
def fnExactHotMarksRow : OpenClaim := { program := "ytklphaicchmmoaa", sum := "5bcd20b4aae095c201adaf7308605047a857c3aa6f5f2b4453018f6b08ebc387", func := "loop.example/g00399/laws.FnExactHotMarks", spec := "fnExactHotMarks", inPlace := ["slices.overlaps[int]"], unfollowed := true, recurses := true, apart := false }
def FnExactHotMarksSaid : Prop := fnExactHotMarksRow.holds Try.pinned (OpenSpec.ofChange fnExactHotMarksSpec)

/-- ITS FALSE NEIGHBOUR: 'it returns false'. Refute it at one input. -/
def fnExactHotMarksWrong : ChangeSpec := { name := "fnExactHotMarks", fn := fun _ => fun
  | [d] => { results := [.lit (.bool false)], args := [d] }
  | _ => none }
def FnExactHotMarksWrongFalsely : Prop := fnExactHotMarksRow.holds Try.pinned (OpenSpec.ofChange fnExactHotMarksWrong)

/- THE SECOND FORM. 'bulk': how many values and letters a reading holds, each counted each time it is reached (what is shared counts as often as it is met; a slice's spare places count too). A statement '..UptoSaid' is the law's where the arguments, and the package variables that the reading takes, are together of bulk at most 1048576: NARROWER than '..Said'. Prove '..Said' where nothing that the law and all that it calls make is longer than what came in: it says more and counts as full. Else prove '..UptoSaid'. A law counts once. -/
mutual
def uptoBulk {H : Type} : DataW H → Nat
  | .lit (.string bytes) => bytes.length + 1
  | .lit _ => 1
  | .nil => 1
  | .ptr d => uptoBulk d + 1
  | .slice elems spare => uptoBulkAll elems + uptoBulkAll spare + 1
  | .agg parts => uptoBulkAll parts + 1
  | .iface _ d => uptoBulk d + 1
  | .map entries => uptoBulkEntries entries + 1
  | .held _ => 1
def uptoBulkAll {H : Type} : List (DataW H) → Nat
  | [] => 0
  | d :: r => uptoBulk d + uptoBulkAll r
def uptoBulkEntries {H : Type} : List (Lit × DataW H) → Nat
  | [] => 0
  | x :: r => uptoBulkEntry x + uptoBulkEntries r
def uptoBulkEntry {H : Type} : Lit × DataW H → Nat
  | (.string bytes, d) => bytes.length + uptoBulk d + 1
  | (_, d) => uptoBulk d + 1
 end
def uptoSmall : (H : Type) → List (DataW H) → Bool := fun _ ds => decide (uptoBulkAll ds ≤ 1048576)
def OpenSpec.upto (s : _root_.Go.ChangeSpec) : _root_.Go.OpenSpec := { _root_.Go.OpenSpec.ofChange s with cond := some uptoSmall }

/-- 'laws.FnHotTorn', WHERE WHAT IT READS IS OF BULK AT MOST 1048576: true; the input reads as it did. -/
def fnHotTornUptoRow : OpenClaim := { program := "ytklphaicchmmoaa", sum := "5bcd20b4aae095c201adaf7308605047a857c3aa6f5f2b4453018f6b08ebc387", func := "loop.example/g00399/laws.FnHotTorn", spec := "fnHotTorn", inPlace := ["slices.overlaps[int]"], unfollowed := true, recurses := true, apart := false, narrowed := true }
def FnHotTornUptoSaid : Prop := fnHotTornUptoRow.holds Try.pinned (OpenSpec.upto fnHotTornSpec)

/-- 'laws.FnExactOthers', WHERE WHAT IT READS IS OF BULK AT MOST 1048576: true; the input reads as it did. -/
def fnExactOthersUptoRow : OpenClaim := { program := "ytklphaicchmmoaa", sum := "5bcd20b4aae095c201adaf7308605047a857c3aa6f5f2b4453018f6b08ebc387", func := "loop.example/g00399/laws.FnExactOthers", spec := "fnExactOthers", apart := false, narrowed := true }
def FnExactOthersUptoSaid : Prop := fnExactOthersUptoRow.holds Try.pinned (OpenSpec.upto fnExactOthersSpec)

/-- 'laws.FnExactDigest', WHERE WHAT IT READS IS OF BULK AT MOST 1048576: true; the input reads as it did. -/
def fnExactDigestUptoRow : OpenClaim := { program := "ytklphaicchmmoaa", sum := "5bcd20b4aae095c201adaf7308605047a857c3aa6f5f2b4453018f6b08ebc387", func := "loop.example/g00399/laws.FnExactDigest", spec := "fnExactDigest", unfollowed := true, recurses := true, apart := false, narrowed := true }
def FnExactDigestUptoSaid : Prop := fnExactDigestUptoRow.holds Try.pinned (OpenSpec.upto fnExactDigestSpec)

/-- 'laws.FnExactTurnBytes', WHERE WHAT IT READS IS OF BULK AT MOST 1048576: true; the input reads as it did. -/
def fnExactTurnBytesUptoRow : OpenClaim := { program := "ytklphaicchmmoaa", sum := "5bcd20b4aae095c201adaf7308605047a857c3aa6f5f2b4453018f6b08ebc387", func := "loop.example/g00399/laws.FnExactTurnBytes", spec := "fnExactTurnBytes", apart := false, narrowed := true }
def FnExactTurnBytesUptoSaid : Prop := fnExactTurnBytesUptoRow.holds Try.pinned (OpenSpec.upto fnExactTurnBytesSpec)

/-- 'laws.FnExactRuns', WHERE WHAT IT READS IS OF BULK AT MOST 1048576: true; the input reads as it did. -/
def fnExactRunsUptoRow : OpenClaim := { program := "ytklphaicchmmoaa", sum := "5bcd20b4aae095c201adaf7308605047a857c3aa6f5f2b4453018f6b08ebc387", func := "loop.example/g00399/laws.FnExactRuns", spec := "fnExactRuns", apart := false, narrowed := true }
def FnExactRunsUptoSaid : Prop := fnExactRunsUptoRow.holds Try.pinned (OpenSpec.upto fnExactRunsSpec)

/-- 'laws.FnExactDigests', WHERE WHAT IT READS IS OF BULK AT MOST 1048576: true; the input reads as it did. -/
def fnExactDigestsUptoRow : OpenClaim := { program := "ytklphaicchmmoaa", sum := "5bcd20b4aae095c201adaf7308605047a857c3aa6f5f2b4453018f6b08ebc387", func := "loop.example/g00399/laws.FnExactDigests", spec := "fnExactDigests", unfollowed := true, recurses := true, apart := false, narrowed := true }
def FnExactDigestsUptoSaid : Prop := fnExactDigestsUptoRow.holds Try.pinned (OpenSpec.upto fnExactDigestsSpec)

/-- 'laws.FnExactTouch', WHERE WHAT IT READS IS OF BULK AT MOST 1048576: true; the input reads as it did. -/
def fnExactTouchUptoRow : OpenClaim := { program := "ytklphaicchmmoaa", sum := "5bcd20b4aae095c201adaf7308605047a857c3aa6f5f2b4453018f6b08ebc387", func := "loop.example/g00399/laws.FnExactTouch", spec := "fnExactTouch", unfollowed := true, recurses := true, apart := false, narrowed := true }
def FnExactTouchUptoSaid : Prop := fnExactTouchUptoRow.holds Try.pinned (OpenSpec.upto fnExactTouchSpec)

/-- 'laws.FnExactCompare', WHERE WHAT IT READS IS OF BULK AT MOST 1048576: true; the input reads as it did. -/
def fnExactCompareUptoRow : OpenClaim := { program := "ytklphaicchmmoaa", sum := "5bcd20b4aae095c201adaf7308605047a857c3aa6f5f2b4453018f6b08ebc387", func := "loop.example/g00399/laws.FnExactCompare", spec := "fnExactCompare", unfollowed := true, recurses := true, apart := false, narrowed := true }
def FnExactCompareUptoSaid : Prop := fnExactCompareUptoRow.holds Try.pinned (OpenSpec.upto fnExactCompareSpec)

/-- 'laws.FnExactTurnOf', WHERE WHAT IT READS IS OF BULK AT MOST 1048576: true; the input reads as it did. -/
def fnExactTurnOfUptoRow : OpenClaim := { program := "ytklphaicchmmoaa", sum := "5bcd20b4aae095c201adaf7308605047a857c3aa6f5f2b4453018f6b08ebc387", func := "loop.example/g00399/laws.FnExactTurnOf", spec := "fnExactTurnOf", apart := false, narrowed := true }
def FnExactTurnOfUptoSaid : Prop := fnExactTurnOfUptoRow.holds Try.pinned (OpenSpec.upto fnExactTurnOfSpec)

/-- 'laws.FnExactOfRuns', WHERE WHAT IT READS IS OF BULK AT MOST 1048576: true; the input reads as it did. -/
def fnExactOfRunsUptoRow : OpenClaim := { program := "ytklphaicchmmoaa", sum := "5bcd20b4aae095c201adaf7308605047a857c3aa6f5f2b4453018f6b08ebc387", func := "loop.example/g00399/laws.FnExactOfRuns", spec := "fnExactOfRuns", apart := false, narrowed := true }
def FnExactOfRunsUptoSaid : Prop := fnExactOfRunsUptoRow.holds Try.pinned (OpenSpec.upto fnExactOfRunsSpec)

/-- 'laws.FnExactBitsBytes', WHERE WHAT IT READS IS OF BULK AT MOST 1048576: true; the input reads as it did. -/
def fnExactBitsBytesUptoRow : OpenClaim := { program := "ytklphaicchmmoaa", sum := "5bcd20b4aae095c201adaf7308605047a857c3aa6f5f2b4453018f6b08ebc387", func := "loop.example/g00399/laws.FnExactBitsBytes", spec := "fnExactBitsBytes", apart := false, narrowed := true }
def FnExactBitsBytesUptoSaid : Prop := fnExactBitsBytesUptoRow.holds Try.pinned (OpenSpec.upto fnExactBitsBytesSpec)

/-- 'laws.FnExactHotMarks', WHERE WHAT IT READS IS OF BULK AT MOST 1048576: true; the input reads as it did. -/
def fnExactHotMarksUptoRow : OpenClaim := { program := "ytklphaicchmmoaa", sum := "5bcd20b4aae095c201adaf7308605047a857c3aa6f5f2b4453018f6b08ebc387", func := "loop.example/g00399/laws.FnExactHotMarks", spec := "fnExactHotMarks", inPlace := ["slices.overlaps[int]"], unfollowed := true, recurses := true, apart := false, narrowed := true }
def FnExactHotMarksUptoSaid : Prop := fnExactHotMarksUptoRow.holds Try.pinned (OpenSpec.upto fnExactHotMarksSpec)

end Rows
end Go.Proofs.Ytklphaicchmmoaa
