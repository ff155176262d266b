/-
  No cell of these rows narrows 'for every input' (looked for: loops, veiled, ifaces, maps, wideKeys, modest, calm, conditions, laid).
  DERIVED. THE GIVEN ROWS OF THIS SEAT. 12 by the template 'for every input the law returns true; each argument reads behind the call as it read before'; 0 by the template 'total and deterministic' (their statements: YtnbgdddcbmlcpaaTotals.lean).
  GIVEN WITH THE SEED: the statements are not yours to turn. If you find one false, say at which input.
  Laid BY PROGRAM, IN A SANDBOX (cutbox-rows.mjs): the forced cells as the released guide's own fill.sh prints them over the translation b111dfa632ecea7f… (all of the seat's roots in one cut). By AI agents, Wed Nov 11 2026. No macro, syntax, notation, axiom, sorry.
-/
import Derived.Test.YtnbgdddcbmlcpaaChecked
import GoSem.Claim
import GoSem.ClaimJoined
import GoSem.ClaimMapViews
import Derived.JoinedTies
import Derived.KernelRfl
namespace Go.Proofs.Ytnbgdddcbmlcpaa
/- THE CELL 'sum', in the pinned program and in every row, IS THE sha256 OF THE DUMP (.gsa) THAT YtnbgdddcbmlcpaaProg.lean LOADS. Nothing in Lean hashes anything: it is a label: what it is worth is what the hold of that sum in a sandbox is worth. -/
noncomputable def Try.pinned : Pinned := { name := "ytnbgdddcbmlcpaa", sum := "b111dfa632ecea7fe0260a608b6c9e9813b9f6cf7dd710bce13ccf69e5d6f17d", checked := Try.checked }
namespace Rows
def none {H : Type} : Left H := { results := [], args := [] }

/-- 'laws.FnExactExtOf': WHATEVER THE INPUT: true; the input reads as it did. -/
def fnExactExtOfSpec : ChangeSpec := { name := "fnExactExtOf", fn := fun _ => fun
  | [d] => { results := [.lit (.bool true)], args := [d] }
  | _ => none }
def fnExactExtOfRow : OpenClaim := { program := "ytnbgdddcbmlcpaa", sum := "b111dfa632ecea7fe0260a608b6c9e9813b9f6cf7dd710bce13ccf69e5d6f17d", func := "loop.example/g00399/laws.FnExactExtOf", spec := "fnExactExtOf", apart := false }
def FnExactExtOfSaid : Prop := fnExactExtOfRow.holds Try.pinned (OpenSpec.ofChange fnExactExtOfSpec)

/-- ITS FALSE NEIGHBOUR: 'it returns false'. Refute it at one input. -/
def fnExactExtOfWrong : ChangeSpec := { name := "fnExactExtOf", fn := fun _ => fun
  | [d] => { results := [.lit (.bool false)], args := [d] }
  | _ => none }
def FnExactExtOfWrongFalsely : Prop := fnExactExtOfRow.holds Try.pinned (OpenSpec.ofChange fnExactExtOfWrong)

/-- 'laws.FnExactBlockOk': WHATEVER THE INPUT: true; the input reads as it did. -/
def fnExactBlockOkSpec : ChangeSpec := { name := "fnExactBlockOk", fn := fun _ => fun
  | [d] => { results := [.lit (.bool true)], args := [d] }
  | _ => none }
def fnExactBlockOkRow : OpenClaim := { program := "ytnbgdddcbmlcpaa", sum := "b111dfa632ecea7fe0260a608b6c9e9813b9f6cf7dd710bce13ccf69e5d6f17d", func := "loop.example/g00399/laws.FnExactBlockOk", spec := "fnExactBlockOk", apart := false }
def FnExactBlockOkSaid : Prop := fnExactBlockOkRow.holds Try.pinned (OpenSpec.ofChange fnExactBlockOkSpec)

/-- ITS FALSE NEIGHBOUR: 'it returns false'. Refute it at one input. -/
def fnExactBlockOkWrong : ChangeSpec := { name := "fnExactBlockOk", fn := fun _ => fun
  | [d] => { results := [.lit (.bool false)], args := [d] }
  | _ => none }
def FnExactBlockOkWrongFalsely : Prop := fnExactBlockOkRow.holds Try.pinned (OpenSpec.ofChange fnExactBlockOkWrong)

/-- 'laws.FnExactBlockSame': WHATEVER THE INPUT: true; the input reads as it did. -/
def fnExactBlockSameSpec : ChangeSpec := { name := "fnExactBlockSame", fn := fun _ => fun
  | [d1, d2] => { results := [.lit (.bool true)], args := [d1, d2] }
  | _ => none }
def fnExactBlockSameRow : OpenClaim := { program := "ytnbgdddcbmlcpaa", sum := "b111dfa632ecea7fe0260a608b6c9e9813b9f6cf7dd710bce13ccf69e5d6f17d", func := "loop.example/g00399/laws.FnExactBlockSame", spec := "fnExactBlockSame", apart := false }
def FnExactBlockSameSaid : Prop := fnExactBlockSameRow.holds Try.pinned (OpenSpec.ofChange fnExactBlockSameSpec)

/-- ITS FALSE NEIGHBOUR: 'it returns false'. Refute it at one input. -/
def fnExactBlockSameWrong : ChangeSpec := { name := "fnExactBlockSame", fn := fun _ => fun
  | [d1, d2] => { results := [.lit (.bool false)], args := [d1, d2] }
  | _ => none }
def FnExactBlockSameWrongFalsely : Prop := fnExactBlockSameRow.holds Try.pinned (OpenSpec.ofChange fnExactBlockSameWrong)

/-- 'laws.FnExactBlockNew': WHATEVER THE INPUT: true; the input reads as it did. -/
def fnExactBlockNewSpec : ChangeSpec := { name := "fnExactBlockNew", fn := fun _ => fun
  | [] => { results := [.lit (.bool true)], args := [] }
  | _ => none }
def fnExactBlockNewRow : OpenClaim := { program := "ytnbgdddcbmlcpaa", sum := "b111dfa632ecea7fe0260a608b6c9e9813b9f6cf7dd710bce13ccf69e5d6f17d", func := "loop.example/g00399/laws.FnExactBlockNew", spec := "fnExactBlockNew", apart := false }
def FnExactBlockNewSaid : Prop := fnExactBlockNewRow.holds Try.pinned (OpenSpec.ofChange fnExactBlockNewSpec)

/-- ITS FALSE NEIGHBOUR: 'it returns false'. Refute it at one input. -/
def fnExactBlockNewWrong : ChangeSpec := { name := "fnExactBlockNew", fn := fun _ => fun
  | [] => { results := [.lit (.bool false)], args := [] }
  | _ => none }
def FnExactBlockNewWrongFalsely : Prop := fnExactBlockNewRow.holds Try.pinned (OpenSpec.ofChange fnExactBlockNewWrong)

/-- 'laws.FnExactDigestsOk': WHATEVER THE INPUT: true; the input reads as it did. -/
def fnExactDigestsOkSpec : ChangeSpec := { name := "fnExactDigestsOk", fn := fun _ => fun
  | [d] => { results := [.lit (.bool true)], args := [d] }
  | _ => none }
def fnExactDigestsOkRow : OpenClaim := { program := "ytnbgdddcbmlcpaa", sum := "b111dfa632ecea7fe0260a608b6c9e9813b9f6cf7dd710bce13ccf69e5d6f17d", func := "loop.example/g00399/laws.FnExactDigestsOk", spec := "fnExactDigestsOk", unfollowed := true, recurses := true, apart := false }
def FnExactDigestsOkSaid : Prop := fnExactDigestsOkRow.holds Try.pinned (OpenSpec.ofChange fnExactDigestsOkSpec)

/-- ITS FALSE NEIGHBOUR: 'it returns false'. Refute it at one input. -/
def fnExactDigestsOkWrong : ChangeSpec := { name := "fnExactDigestsOk", fn := fun _ => fun
  | [d] => { results := [.lit (.bool false)], args := [d] }
  | _ => none }
def FnExactDigestsOkWrongFalsely : Prop := fnExactDigestsOkRow.holds Try.pinned (OpenSpec.ofChange fnExactDigestsOkWrong)

/-- 'laws.FnExactBlockSum': WHATEVER THE INPUT: true; the input reads as it did. -/
def fnExactBlockSumSpec : ChangeSpec := { name := "fnExactBlockSum", fn := fun _ => fun
  | [d] => { results := [.lit (.bool true)], args := [d] }
  | _ => none }
def fnExactBlockSumRow : OpenClaim := { program := "ytnbgdddcbmlcpaa", sum := "b111dfa632ecea7fe0260a608b6c9e9813b9f6cf7dd710bce13ccf69e5d6f17d", func := "loop.example/g00399/laws.FnExactBlockSum", spec := "fnExactBlockSum", apart := false }
def FnExactBlockSumSaid : Prop := fnExactBlockSumRow.holds Try.pinned (OpenSpec.ofChange fnExactBlockSumSpec)

/-- ITS FALSE NEIGHBOUR: 'it returns false'. Refute it at one input. -/
def fnExactBlockSumWrong : ChangeSpec := { name := "fnExactBlockSum", fn := fun _ => fun
  | [d] => { results := [.lit (.bool false)], args := [d] }
  | _ => none }
def FnExactBlockSumWrongFalsely : Prop := fnExactBlockSumRow.holds Try.pinned (OpenSpec.ofChange fnExactBlockSumWrong)

/-- 'laws.FnExactMany': WHATEVER THE INPUT: true; the input reads as it did. -/
def fnExactManySpec : ChangeSpec := { name := "fnExactMany", fn := fun _ => fun
  | [d] => { results := [.lit (.bool true)], args := [d] }
  | _ => none }
def fnExactManyRow : OpenClaim := { program := "ytnbgdddcbmlcpaa", sum := "b111dfa632ecea7fe0260a608b6c9e9813b9f6cf7dd710bce13ccf69e5d6f17d", func := "loop.example/g00399/laws.FnExactMany", spec := "fnExactMany", apart := false }
def FnExactManySaid : Prop := fnExactManyRow.holds Try.pinned (OpenSpec.ofChange fnExactManySpec)

/-- ITS FALSE NEIGHBOUR: 'it returns false'. Refute it at one input. -/
def fnExactManyWrong : ChangeSpec := { name := "fnExactMany", fn := fun _ => fun
  | [d] => { results := [.lit (.bool false)], args := [d] }
  | _ => none }
def FnExactManyWrongFalsely : Prop := fnExactManyRow.holds Try.pinned (OpenSpec.ofChange fnExactManyWrong)

/-- 'laws.FnExactHotOk': WHATEVER THE INPUT: true; the input reads as it did. -/
def fnExactHotOkSpec : ChangeSpec := { name := "fnExactHotOk", fn := fun _ => fun
  | [d] => { results := [.lit (.bool true)], args := [d] }
  | _ => none }
def fnExactHotOkRow : OpenClaim := { program := "ytnbgdddcbmlcpaa", sum := "b111dfa632ecea7fe0260a608b6c9e9813b9f6cf7dd710bce13ccf69e5d6f17d", func := "loop.example/g00399/laws.FnExactHotOk", spec := "fnExactHotOk", apart := false }
def FnExactHotOkSaid : Prop := fnExactHotOkRow.holds Try.pinned (OpenSpec.ofChange fnExactHotOkSpec)

/-- ITS FALSE NEIGHBOUR: 'it returns false'. Refute it at one input. -/
def fnExactHotOkWrong : ChangeSpec := { name := "fnExactHotOk", fn := fun _ => fun
  | [d] => { results := [.lit (.bool false)], args := [d] }
  | _ => none }
def FnExactHotOkWrongFalsely : Prop := fnExactHotOkRow.holds Try.pinned (OpenSpec.ofChange fnExactHotOkWrong)

/-- 'laws.FnExactBlockGet': WHATEVER THE INPUT: true; the input reads as it did. -/
def fnExactBlockGetSpec : ChangeSpec := { name := "fnExactBlockGet", fn := fun _ => fun
  | [d1, d2, d3] => { results := [.lit (.bool true)], args := [d1, d2, d3] }
  | _ => none }
def fnExactBlockGetRow : OpenClaim := { program := "ytnbgdddcbmlcpaa", sum := "b111dfa632ecea7fe0260a608b6c9e9813b9f6cf7dd710bce13ccf69e5d6f17d", func := "loop.example/g00399/laws.FnExactBlockGet", spec := "fnExactBlockGet", apart := false }
def FnExactBlockGetSaid : Prop := fnExactBlockGetRow.holds Try.pinned (OpenSpec.ofChange fnExactBlockGetSpec)

/-- ITS FALSE NEIGHBOUR: 'it returns false'. Refute it at one input. -/
def fnExactBlockGetWrong : ChangeSpec := { name := "fnExactBlockGet", fn := fun _ => fun
  | [d1, d2, d3] => { results := [.lit (.bool false)], args := [d1, d2, d3] }
  | _ => none }
def FnExactBlockGetWrongFalsely : Prop := fnExactBlockGetRow.holds Try.pinned (OpenSpec.ofChange fnExactBlockGetWrong)

/-- 'laws.FnExactBlockPut': WHATEVER THE INPUT: true; the input reads as it did. -/
def fnExactBlockPutSpec : ChangeSpec := { name := "fnExactBlockPut", fn := fun _ => fun
  | [d1, d2, d3] => { results := [.lit (.bool true)], args := [d1, d2, d3] }
  | _ => none }
def fnExactBlockPutRow : OpenClaim := { program := "ytnbgdddcbmlcpaa", sum := "b111dfa632ecea7fe0260a608b6c9e9813b9f6cf7dd710bce13ccf69e5d6f17d", func := "loop.example/g00399/laws.FnExactBlockPut", spec := "fnExactBlockPut", apart := false }
def FnExactBlockPutSaid : Prop := fnExactBlockPutRow.holds Try.pinned (OpenSpec.ofChange fnExactBlockPutSpec)

/-- ITS FALSE NEIGHBOUR: 'it returns false'. Refute it at one input. -/
def fnExactBlockPutWrong : ChangeSpec := { name := "fnExactBlockPut", fn := fun _ => fun
  | [d1, d2, d3] => { results := [.lit (.bool false)], args := [d1, d2, d3] }
  | _ => none }
def FnExactBlockPutWrongFalsely : Prop := fnExactBlockPutRow.holds Try.pinned (OpenSpec.ofChange fnExactBlockPutWrong)

/-- 'laws.FnBlocksApart': WHATEVER THE INPUT: true; the input reads as it did. -/
def fnBlocksApartSpec : ChangeSpec := { name := "fnBlocksApart", fn := fun _ => fun
  | [d] => { results := [.lit (.bool true)], args := [d] }
  | _ => none }
def fnBlocksApartRow : OpenClaim := { program := "ytnbgdddcbmlcpaa", sum := "b111dfa632ecea7fe0260a608b6c9e9813b9f6cf7dd710bce13ccf69e5d6f17d", func := "loop.example/g00399/laws.FnBlocksApart", spec := "fnBlocksApart", apart := false }
def FnBlocksApartSaid : Prop := fnBlocksApartRow.holds Try.pinned (OpenSpec.ofChange fnBlocksApartSpec)

/-- ITS FALSE NEIGHBOUR: 'it returns false'. Refute it at one input. -/
def fnBlocksApartWrong : ChangeSpec := { name := "fnBlocksApart", fn := fun _ => fun
  | [d] => { results := [.lit (.bool false)], args := [d] }
  | _ => none }
def FnBlocksApartWrongFalsely : Prop := fnBlocksApartRow.holds Try.pinned (OpenSpec.ofChange fnBlocksApartWrong)

/-- 'laws.FnBlocks': WHATEVER THE INPUT: true; the input reads as it did. -/
def fnBlocksSpec : ChangeSpec := { name := "fnBlocks", fn := fun _ => fun
  | [d] => { results := [.lit (.bool true)], args := [d] }
  | _ => none }
def fnBlocksRow : OpenClaim := { program := "ytnbgdddcbmlcpaa", sum := "b111dfa632ecea7fe0260a608b6c9e9813b9f6cf7dd710bce13ccf69e5d6f17d", func := "loop.example/g00399/laws.FnBlocks", spec := "fnBlocks", apart := false }
def FnBlocksSaid : Prop := fnBlocksRow.holds Try.pinned (OpenSpec.ofChange fnBlocksSpec)

/-- ITS FALSE NEIGHBOUR: 'it returns false'. Refute it at one input. -/
def fnBlocksWrong : ChangeSpec := { name := "fnBlocks", fn := fun _ => fun
  | [d] => { results := [.lit (.bool false)], args := [d] }
  | _ => none }
def FnBlocksWrongFalsely : Prop := fnBlocksRow.holds Try.pinned (OpenSpec.ofChange fnBlocksWrong)

/- THE SECOND FORM. 'bulk': how many values and letters a reading holds, each counted each time it is reached (what is shared counts as often as it is met; a slice's spare places count too). A statement '..UptoSaid' is the law's where the arguments, and the package variables that the reading takes, are together of bulk at most 1048576: NARROWER than '..Said'. Prove '..Said' where nothing that the law and all that it calls make is longer than what came in: it says more and counts as full. Else prove '..UptoSaid'. A law counts once. -/
mutual
def uptoBulk {H : Type} : DataW H → Nat
  | .lit (.string bytes) => bytes.length + 1
  | .lit _ => 1
  | .nil => 1
  | .ptr d => uptoBulk d + 1
  | .slice elems spare => uptoBulkAll elems + uptoBulkAll spare + 1
  | .agg parts => uptoBulkAll parts + 1
  | .iface _ d => uptoBulk d + 1
  | .map entries => uptoBulkEntries entries + 1
  | .held _ => 1
def uptoBulkAll {H : Type} : List (DataW H) → Nat
  | [] => 0
  | d :: r => uptoBulk d + uptoBulkAll r
def uptoBulkEntries {H : Type} : List (Lit × DataW H) → Nat
  | [] => 0
  | x :: r => uptoBulkEntry x + uptoBulkEntries r
def uptoBulkEntry {H : Type} : Lit × DataW H → Nat
  | (.string bytes, d) => bytes.length + uptoBulk d + 1
  | (_, d) => uptoBulk d + 1
 end
def uptoSmall : (H : Type) → List (DataW H) → Bool := fun _ ds => decide (uptoBulkAll ds ≤ 1048576)
def OpenSpec.upto (s : _root_.Go.ChangeSpec) : _root_.Go.OpenSpec := { _root_.Go.OpenSpec.ofChange s with cond := some uptoSmall }

/-- 'laws.FnExactExtOf', WHERE WHAT IT READS IS OF BULK AT MOST 1048576: true; the input reads as it did. -/
def fnExactExtOfUptoRow : OpenClaim := { program := "ytnbgdddcbmlcpaa", sum := "b111dfa632ecea7fe0260a608b6c9e9813b9f6cf7dd710bce13ccf69e5d6f17d", func := "loop.example/g00399/laws.FnExactExtOf", spec := "fnExactExtOf", apart := false, narrowed := true }
def FnExactExtOfUptoSaid : Prop := fnExactExtOfUptoRow.holds Try.pinned (OpenSpec.upto fnExactExtOfSpec)

/-- 'laws.FnExactBlockOk', WHERE WHAT IT READS IS OF BULK AT MOST 1048576: true; the input reads as it did. -/
def fnExactBlockOkUptoRow : OpenClaim := { program := "ytnbgdddcbmlcpaa", sum := "b111dfa632ecea7fe0260a608b6c9e9813b9f6cf7dd710bce13ccf69e5d6f17d", func := "loop.example/g00399/laws.FnExactBlockOk", spec := "fnExactBlockOk", apart := false, narrowed := true }
def FnExactBlockOkUptoSaid : Prop := fnExactBlockOkUptoRow.holds Try.pinned (OpenSpec.upto fnExactBlockOkSpec)

/-- 'laws.FnExactBlockSame', WHERE WHAT IT READS IS OF BULK AT MOST 1048576: true; the input reads as it did. -/
def fnExactBlockSameUptoRow : OpenClaim := { program := "ytnbgdddcbmlcpaa", sum := "b111dfa632ecea7fe0260a608b6c9e9813b9f6cf7dd710bce13ccf69e5d6f17d", func := "loop.example/g00399/laws.FnExactBlockSame", spec := "fnExactBlockSame", apart := false, narrowed := true }
def FnExactBlockSameUptoSaid : Prop := fnExactBlockSameUptoRow.holds Try.pinned (OpenSpec.upto fnExactBlockSameSpec)

/-- 'laws.FnExactBlockNew', WHERE WHAT IT READS IS OF BULK AT MOST 1048576: true; the input reads as it did. -/
def fnExactBlockNewUptoRow : OpenClaim := { program := "ytnbgdddcbmlcpaa", sum := "b111dfa632ecea7fe0260a608b6c9e9813b9f6cf7dd710bce13ccf69e5d6f17d", func := "loop.example/g00399/laws.FnExactBlockNew", spec := "fnExactBlockNew", apart := false, narrowed := true }
def FnExactBlockNewUptoSaid : Prop := fnExactBlockNewUptoRow.holds Try.pinned (OpenSpec.upto fnExactBlockNewSpec)

/-- 'laws.FnExactDigestsOk', WHERE WHAT IT READS IS OF BULK AT MOST 1048576: true; the input reads as it did. -/
def fnExactDigestsOkUptoRow : OpenClaim := { program := "ytnbgdddcbmlcpaa", sum := "b111dfa632ecea7fe0260a608b6c9e9813b9f6cf7dd710bce13ccf69e5d6f17d", func := "loop.example/g00399/laws.FnExactDigestsOk", spec := "fnExactDigestsOk", unfollowed := true, recurses := true, apart := false, narrowed := true }
def FnExactDigestsOkUptoSaid : Prop := fnExactDigestsOkUptoRow.holds Try.pinned (OpenSpec.upto fnExactDigestsOkSpec)

/-- 'laws.FnExactBlockSum', WHERE WHAT IT READS IS OF BULK AT MOST 1048576: true; the input reads as it did. -/
def fnExactBlockSumUptoRow : OpenClaim := { program := "ytnbgdddcbmlcpaa", sum := "b111dfa632ecea7fe0260a608b6c9e9813b9f6cf7dd710bce13ccf69e5d6f17d", func := "loop.example/g00399/laws.FnExactBlockSum", spec := "fnExactBlockSum", apart := false, narrowed := true }
def FnExactBlockSumUptoSaid : Prop := fnExactBlockSumUptoRow.holds Try.pinned (OpenSpec.upto fnExactBlockSumSpec)

/-- 'laws.FnExactMany', WHERE WHAT IT READS IS OF BULK AT MOST 1048576: true; the input reads as it did. -/
def fnExactManyUptoRow : OpenClaim := { program := "ytnbgdddcbmlcpaa", sum := "b111dfa632ecea7fe0260a608b6c9e9813b9f6cf7dd710bce13ccf69e5d6f17d", func := "loop.example/g00399/laws.FnExactMany", spec := "fnExactMany", apart := false, narrowed := true }
def FnExactManyUptoSaid : Prop := fnExactManyUptoRow.holds Try.pinned (OpenSpec.upto fnExactManySpec)

/-- 'laws.FnExactHotOk', WHERE WHAT IT READS IS OF BULK AT MOST 1048576: true; the input reads as it did. -/
def fnExactHotOkUptoRow : OpenClaim := { program := "ytnbgdddcbmlcpaa", sum := "b111dfa632ecea7fe0260a608b6c9e9813b9f6cf7dd710bce13ccf69e5d6f17d", func := "loop.example/g00399/laws.FnExactHotOk", spec := "fnExactHotOk", apart := false, narrowed := true }
def FnExactHotOkUptoSaid : Prop := fnExactHotOkUptoRow.holds Try.pinned (OpenSpec.upto fnExactHotOkSpec)

/-- 'laws.FnExactBlockGet', WHERE WHAT IT READS IS OF BULK AT MOST 1048576: true; the input reads as it did. -/
def fnExactBlockGetUptoRow : OpenClaim := { program := "ytnbgdddcbmlcpaa", sum := "b111dfa632ecea7fe0260a608b6c9e9813b9f6cf7dd710bce13ccf69e5d6f17d", func := "loop.example/g00399/laws.FnExactBlockGet", spec := "fnExactBlockGet", apart := false, narrowed := true }
def FnExactBlockGetUptoSaid : Prop := fnExactBlockGetUptoRow.holds Try.pinned (OpenSpec.upto fnExactBlockGetSpec)

/-- 'laws.FnExactBlockPut', WHERE WHAT IT READS IS OF BULK AT MOST 1048576: true; the input reads as it did. -/
def fnExactBlockPutUptoRow : OpenClaim := { program := "ytnbgdddcbmlcpaa", sum := "b111dfa632ecea7fe0260a608b6c9e9813b9f6cf7dd710bce13ccf69e5d6f17d", func := "loop.example/g00399/laws.FnExactBlockPut", spec := "fnExactBlockPut", apart := false, narrowed := true }
def FnExactBlockPutUptoSaid : Prop := fnExactBlockPutUptoRow.holds Try.pinned (OpenSpec.upto fnExactBlockPutSpec)

/-- 'laws.FnBlocksApart', WHERE WHAT IT READS IS OF BULK AT MOST 1048576: true; the input reads as it did. -/
def fnBlocksApartUptoRow : OpenClaim := { program := "ytnbgdddcbmlcpaa", sum := "b111dfa632ecea7fe0260a608b6c9e9813b9f6cf7dd710bce13ccf69e5d6f17d", func := "loop.example/g00399/laws.FnBlocksApart", spec := "fnBlocksApart", apart := false, narrowed := true }
def FnBlocksApartUptoSaid : Prop := fnBlocksApartUptoRow.holds Try.pinned (OpenSpec.upto fnBlocksApartSpec)

/-- 'laws.FnBlocks', WHERE WHAT IT READS IS OF BULK AT MOST 1048576: true; the input reads as it did. -/
def fnBlocksUptoRow : OpenClaim := { program := "ytnbgdddcbmlcpaa", sum := "b111dfa632ecea7fe0260a608b6c9e9813b9f6cf7dd710bce13ccf69e5d6f17d", func := "loop.example/g00399/laws.FnBlocks", spec := "fnBlocks", apart := false, narrowed := true }
def FnBlocksUptoSaid : Prop := fnBlocksUptoRow.holds Try.pinned (OpenSpec.upto fnBlocksSpec)

end Rows
end Go.Proofs.Ytnbgdddcbmlcpaa
