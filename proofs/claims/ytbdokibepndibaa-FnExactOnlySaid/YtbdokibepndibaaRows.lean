/-
  No cell of these rows narrows 'for every input' (looked for: loops, veiled, ifaces, maps, wideKeys, modest, calm, conditions, laid).
  DERIVED. THE GIVEN ROWS OF THIS SEAT. 6 by the template 'for every input the law returns true; each argument reads behind the call as it read before'; 0 by the template 'total and deterministic' (their statements: YtbdokibepndibaaTotals.lean).
  GIVEN WITH THE SEED: the statements are not yours to turn. If you find one false, say at which input.
  Laid BY PROGRAM, IN A SANDBOX (cutbox-rows.mjs): the forced cells as the released guide's own fill.sh prints them over the translation cb23e763e94a5caa… (all of the seat's roots in one cut). By AI agents, Wed Nov 11 2026. No macro, syntax, notation, axiom, sorry.
-/
import Derived.Test.YtbdokibepndibaaChecked
import GoSem.Claim
import GoSem.ClaimJoined
import GoSem.ClaimMapViews
import Derived.JoinedTies
import Derived.KernelRfl
namespace Go.Proofs.Ytbdokibepndibaa
/- THE CELL 'sum', in the pinned program and in every row, IS THE sha256 OF THE DUMP (.gsa) THAT YtbdokibepndibaaProg.lean LOADS. Nothing in Lean hashes anything: it is a label: what it is worth is what the hold of that sum in a sandbox is worth. -/
noncomputable def Try.pinned : Pinned := { name := "ytbdokibepndibaa", sum := "cb23e763e94a5caa7e996d8832988c43b9e232fd4890031545a418bab6eaabf1", checked := Try.checked }
namespace Rows
def none {H : Type} : Left H := { results := [], args := [] }

/-- 'laws.FnExactDepth': WHATEVER THE INPUT: true; the input reads as it did. -/
def fnExactDepthSpec : ChangeSpec := { name := "fnExactDepth", fn := fun _ => fun
  | [d1, d2] => { results := [.lit (.bool true)], args := [d1, d2] }
  | _ => none }
def fnExactDepthRow : OpenClaim := { program := "ytbdokibepndibaa", sum := "cb23e763e94a5caa7e996d8832988c43b9e232fd4890031545a418bab6eaabf1", func := "loop.example/g00399/laws.FnExactDepth", spec := "fnExactDepth", apart := false }
def FnExactDepthSaid : Prop := fnExactDepthRow.holds Try.pinned (OpenSpec.ofChange fnExactDepthSpec)

/-- ITS FALSE NEIGHBOUR: 'it returns false'. Refute it at one input. -/
def fnExactDepthWrong : ChangeSpec := { name := "fnExactDepth", fn := fun _ => fun
  | [d1, d2] => { results := [.lit (.bool false)], args := [d1, d2] }
  | _ => none }
def FnExactDepthWrongFalsely : Prop := fnExactDepthRow.holds Try.pinned (OpenSpec.ofChange fnExactDepthWrong)

/-- 'laws.FnExactWithin': WHATEVER THE INPUT: true; the input reads as it did. -/
def fnExactWithinSpec : ChangeSpec := { name := "fnExactWithin", fn := fun _ => fun
  | [d1, d2, d3] => { results := [.lit (.bool true)], args := [d1, d2, d3] }
  | _ => none }
def fnExactWithinRow : OpenClaim := { program := "ytbdokibepndibaa", sum := "cb23e763e94a5caa7e996d8832988c43b9e232fd4890031545a418bab6eaabf1", func := "loop.example/g00399/laws.FnExactWithin", spec := "fnExactWithin", apart := false }
def FnExactWithinSaid : Prop := fnExactWithinRow.holds Try.pinned (OpenSpec.ofChange fnExactWithinSpec)

/-- ITS FALSE NEIGHBOUR: 'it returns false'. Refute it at one input. -/
def fnExactWithinWrong : ChangeSpec := { name := "fnExactWithin", fn := fun _ => fun
  | [d1, d2, d3] => { results := [.lit (.bool false)], args := [d1, d2, d3] }
  | _ => none }
def FnExactWithinWrongFalsely : Prop := fnExactWithinRow.holds Try.pinned (OpenSpec.ofChange fnExactWithinWrong)

/-- 'laws.FnExactTold': WHATEVER THE INPUT: true; the input reads as it did. -/
def fnExactToldSpec : ChangeSpec := { name := "fnExactTold", fn := fun _ => fun
  | [d] => { results := [.lit (.bool true)], args := [d] }
  | _ => none }
def fnExactToldRow : OpenClaim := { program := "ytbdokibepndibaa", sum := "cb23e763e94a5caa7e996d8832988c43b9e232fd4890031545a418bab6eaabf1", func := "loop.example/g00399/laws.FnExactTold", spec := "fnExactTold", apart := false }
def FnExactToldSaid : Prop := fnExactToldRow.holds Try.pinned (OpenSpec.ofChange fnExactToldSpec)

/-- ITS FALSE NEIGHBOUR: 'it returns false'. Refute it at one input. -/
def fnExactToldWrong : ChangeSpec := { name := "fnExactTold", fn := fun _ => fun
  | [d] => { results := [.lit (.bool false)], args := [d] }
  | _ => none }
def FnExactToldWrongFalsely : Prop := fnExactToldRow.holds Try.pinned (OpenSpec.ofChange fnExactToldWrong)

/-- 'laws.FnExactCommon': WHATEVER THE INPUT: true; the input reads as it did. -/
def fnExactCommonSpec : ChangeSpec := { name := "fnExactCommon", fn := fun _ => fun
  | [d1, d2, d3] => { results := [.lit (.bool true)], args := [d1, d2, d3] }
  | _ => none }
def fnExactCommonRow : OpenClaim := { program := "ytbdokibepndibaa", sum := "cb23e763e94a5caa7e996d8832988c43b9e232fd4890031545a418bab6eaabf1", func := "loop.example/g00399/laws.FnExactCommon", spec := "fnExactCommon", apart := false }
def FnExactCommonSaid : Prop := fnExactCommonRow.holds Try.pinned (OpenSpec.ofChange fnExactCommonSpec)

/-- ITS FALSE NEIGHBOUR: 'it returns false'. Refute it at one input. -/
def fnExactCommonWrong : ChangeSpec := { name := "fnExactCommon", fn := fun _ => fun
  | [d1, d2, d3] => { results := [.lit (.bool false)], args := [d1, d2, d3] }
  | _ => none }
def FnExactCommonWrongFalsely : Prop := fnExactCommonRow.holds Try.pinned (OpenSpec.ofChange fnExactCommonWrong)

/-- 'laws.FnExactTips': WHATEVER THE INPUT: true; the input reads as it did. -/
def fnExactTipsSpec : ChangeSpec := { name := "fnExactTips", fn := fun _ => fun
  | [d] => { results := [.lit (.bool true)], args := [d] }
  | _ => none }
def fnExactTipsRow : OpenClaim := { program := "ytbdokibepndibaa", sum := "cb23e763e94a5caa7e996d8832988c43b9e232fd4890031545a418bab6eaabf1", func := "loop.example/g00399/laws.FnExactTips", spec := "fnExactTips", unfollowed := true, recurses := true, apart := false }
def FnExactTipsSaid : Prop := fnExactTipsRow.holds Try.pinned (OpenSpec.ofChange fnExactTipsSpec)

/-- ITS FALSE NEIGHBOUR: 'it returns false'. Refute it at one input. -/
def fnExactTipsWrong : ChangeSpec := { name := "fnExactTips", fn := fun _ => fun
  | [d] => { results := [.lit (.bool false)], args := [d] }
  | _ => none }
def FnExactTipsWrongFalsely : Prop := fnExactTipsRow.holds Try.pinned (OpenSpec.ofChange fnExactTipsWrong)

/-- 'laws.FnExactOnly': WHATEVER THE INPUT: true; the input reads as it did. -/
def fnExactOnlySpec : ChangeSpec := { name := "fnExactOnly", fn := fun _ => fun
  | [d1, d2, d3] => { results := [.lit (.bool true)], args := [d1, d2, d3] }
  | _ => none }
def fnExactOnlyRow : OpenClaim := { program := "ytbdokibepndibaa", sum := "cb23e763e94a5caa7e996d8832988c43b9e232fd4890031545a418bab6eaabf1", func := "loop.example/g00399/laws.FnExactOnly", spec := "fnExactOnly", unfollowed := true, recurses := true, apart := false }
def FnExactOnlySaid : Prop := fnExactOnlyRow.holds Try.pinned (OpenSpec.ofChange fnExactOnlySpec)

/-- ITS FALSE NEIGHBOUR: 'it returns false'. Refute it at one input. -/
def fnExactOnlyWrong : ChangeSpec := { name := "fnExactOnly", fn := fun _ => fun
  | [d1, d2, d3] => { results := [.lit (.bool false)], args := [d1, d2, d3] }
  | _ => none }
def FnExactOnlyWrongFalsely : Prop := fnExactOnlyRow.holds Try.pinned (OpenSpec.ofChange fnExactOnlyWrong)

/- THE SECOND FORM. 'bulk': how many values and letters a reading holds, each counted each time it is reached (what is shared counts as often as it is met; a slice's spare places count too). A statement '..UptoSaid' is the law's where the arguments, and the package variables that the reading takes, are together of bulk at most 1048576: NARROWER than '..Said'. Prove '..Said' where nothing that the law and all that it calls make is longer than what came in: it says more and counts as full. Else prove '..UptoSaid'. A law counts once. -/
mutual
def uptoBulk {H : Type} : DataW H → Nat
  | .lit (.string bytes) => bytes.length + 1
  | .lit _ => 1
  | .nil => 1
  | .ptr d => uptoBulk d + 1
  | .slice elems spare => uptoBulkAll elems + uptoBulkAll spare + 1
  | .agg parts => uptoBulkAll parts + 1
  | .iface _ d => uptoBulk d + 1
  | .map entries => uptoBulkEntries entries + 1
  | .held _ => 1
def uptoBulkAll {H : Type} : List (DataW H) → Nat
  | [] => 0
  | d :: r => uptoBulk d + uptoBulkAll r
def uptoBulkEntries {H : Type} : List (Lit × DataW H) → Nat
  | [] => 0
  | x :: r => uptoBulkEntry x + uptoBulkEntries r
def uptoBulkEntry {H : Type} : Lit × DataW H → Nat
  | (.string bytes, d) => bytes.length + uptoBulk d + 1
  | (_, d) => uptoBulk d + 1
 end
def uptoSmall : (H : Type) → List (DataW H) → Bool := fun _ ds => decide (uptoBulkAll ds ≤ 1048576)
def OpenSpec.upto (s : _root_.Go.ChangeSpec) : _root_.Go.OpenSpec := { _root_.Go.OpenSpec.ofChange s with cond := some uptoSmall }

/-- 'laws.FnExactDepth', WHERE WHAT IT READS IS OF BULK AT MOST 1048576: true; the input reads as it did. -/
def fnExactDepthUptoRow : OpenClaim := { program := "ytbdokibepndibaa", sum := "cb23e763e94a5caa7e996d8832988c43b9e232fd4890031545a418bab6eaabf1", func := "loop.example/g00399/laws.FnExactDepth", spec := "fnExactDepth", apart := false, narrowed := true }
def FnExactDepthUptoSaid : Prop := fnExactDepthUptoRow.holds Try.pinned (OpenSpec.upto fnExactDepthSpec)

/-- 'laws.FnExactWithin', WHERE WHAT IT READS IS OF BULK AT MOST 1048576: true; the input reads as it did. -/
def fnExactWithinUptoRow : OpenClaim := { program := "ytbdokibepndibaa", sum := "cb23e763e94a5caa7e996d8832988c43b9e232fd4890031545a418bab6eaabf1", func := "loop.example/g00399/laws.FnExactWithin", spec := "fnExactWithin", apart := false, narrowed := true }
def FnExactWithinUptoSaid : Prop := fnExactWithinUptoRow.holds Try.pinned (OpenSpec.upto fnExactWithinSpec)

/-- 'laws.FnExactTold', WHERE WHAT IT READS IS OF BULK AT MOST 1048576: true; the input reads as it did. -/
def fnExactToldUptoRow : OpenClaim := { program := "ytbdokibepndibaa", sum := "cb23e763e94a5caa7e996d8832988c43b9e232fd4890031545a418bab6eaabf1", func := "loop.example/g00399/laws.FnExactTold", spec := "fnExactTold", apart := false, narrowed := true }
def FnExactToldUptoSaid : Prop := fnExactToldUptoRow.holds Try.pinned (OpenSpec.upto fnExactToldSpec)

/-- 'laws.FnExactCommon', WHERE WHAT IT READS IS OF BULK AT MOST 1048576: true; the input reads as it did. -/
def fnExactCommonUptoRow : OpenClaim := { program := "ytbdokibepndibaa", sum := "cb23e763e94a5caa7e996d8832988c43b9e232fd4890031545a418bab6eaabf1", func := "loop.example/g00399/laws.FnExactCommon", spec := "fnExactCommon", apart := false, narrowed := true }
def FnExactCommonUptoSaid : Prop := fnExactCommonUptoRow.holds Try.pinned (OpenSpec.upto fnExactCommonSpec)

/-- 'laws.FnExactTips', WHERE WHAT IT READS IS OF BULK AT MOST 1048576: true; the input reads as it did. -/
def fnExactTipsUptoRow : OpenClaim := { program := "ytbdokibepndibaa", sum := "cb23e763e94a5caa7e996d8832988c43b9e232fd4890031545a418bab6eaabf1", func := "loop.example/g00399/laws.FnExactTips", spec := "fnExactTips", unfollowed := true, recurses := true, apart := false, narrowed := true }
def FnExactTipsUptoSaid : Prop := fnExactTipsUptoRow.holds Try.pinned (OpenSpec.upto fnExactTipsSpec)

/-- 'laws.FnExactOnly', WHERE WHAT IT READS IS OF BULK AT MOST 1048576: true; the input reads as it did. -/
def fnExactOnlyUptoRow : OpenClaim := { program := "ytbdokibepndibaa", sum := "cb23e763e94a5caa7e996d8832988c43b9e232fd4890031545a418bab6eaabf1", func := "loop.example/g00399/laws.FnExactOnly", spec := "fnExactOnly", unfollowed := true, recurses := true, apart := false, narrowed := true }
def FnExactOnlyUptoSaid : Prop := fnExactOnlyUptoRow.holds Try.pinned (OpenSpec.upto fnExactOnlySpec)

end Rows
end Go.Proofs.Ytbdokibepndibaa
