/-
  No cell of these rows narrows 'for every input' (looked for: loops, veiled, ifaces, maps, wideKeys, modest, calm, conditions, laid).
  DERIVED. THE GIVEN ROWS OF THIS SEAT. 12 by the template 'for every input the law returns true; each argument reads behind the call as it read before'; 0 by the template 'total and deterministic' (their statements: YtdgnojjemlfhdaaTotals.lean).
  GIVEN WITH THE SEED: the statements are not yours to turn. If you find one false, say at which input.
  Laid BY PROGRAM, IN A SANDBOX (cutbox-rows.mjs): the forced cells as the released guide's own fill.sh prints them over the translation ff5783bcbd3df4f3… (all of the seat's roots in one cut). By AI agents, Wed Nov 11 2026. No macro, syntax, notation, axiom, sorry.
-/
import Derived.Test.YtdgnojjemlfhdaaChecked
import GoSem.Claim
import GoSem.ClaimJoined
import GoSem.ClaimMapViews
import Derived.JoinedTies
import Derived.KernelRfl
namespace Go.Proofs.Ytdgnojjemlfhdaa
/- THE CELL 'sum', in the pinned program and in every row, IS THE sha256 OF THE DUMP (.gsa) THAT YtdgnojjemlfhdaaProg.lean LOADS. Nothing in Lean hashes anything: it is a label: what it is worth is what the hold of that sum in a sandbox is worth. -/
noncomputable def Try.pinned : Pinned := { name := "ytdgnojjemlfhdaa", sum := "ff5783bcbd3df4f3fb375df4c8a7aecec90827dfb7c5fe350bd7c67d9be274b7", checked := Try.checked }
namespace Rows
def none {H : Type} : Left H := { results := [], args := [] }

/-- 'laws.FnExactSamePieces': WHATEVER THE INPUT: true; the input reads as it did. -/
def fnExactSamePiecesSpec : ChangeSpec := { name := "fnExactSamePieces", fn := fun _ => fun
  | [d1, d2] => { results := [.lit (.bool true)], args := [d1, d2] }
  | _ => none }
def fnExactSamePiecesRow : OpenClaim := { program := "ytdgnojjemlfhdaa", sum := "ff5783bcbd3df4f3fb375df4c8a7aecec90827dfb7c5fe350bd7c67d9be274b7", func := "loop.example/steerage/laws.FnExactSamePieces", spec := "fnExactSamePieces", unfollowed := true, recurses := true, apart := false }
def FnExactSamePiecesSaid : Prop := fnExactSamePiecesRow.holds Try.pinned (OpenSpec.ofChange fnExactSamePiecesSpec)

/-- ITS FALSE NEIGHBOUR: 'it returns false'. Refute it at one input. -/
def fnExactSamePiecesWrong : ChangeSpec := { name := "fnExactSamePieces", fn := fun _ => fun
  | [d1, d2] => { results := [.lit (.bool false)], args := [d1, d2] }
  | _ => none }
def FnExactSamePiecesWrongFalsely : Prop := fnExactSamePiecesRow.holds Try.pinned (OpenSpec.ofChange fnExactSamePiecesWrong)

/-- 'laws.FnExactFlowBlocks': WHATEVER THE INPUT: true; the input reads as it did. -/
def fnExactFlowBlocksSpec : ChangeSpec := { name := "fnExactFlowBlocks", fn := fun _ => fun
  | [d] => { results := [.lit (.bool true)], args := [d] }
  | _ => none }
def fnExactFlowBlocksRow : OpenClaim := { program := "ytdgnojjemlfhdaa", sum := "ff5783bcbd3df4f3fb375df4c8a7aecec90827dfb7c5fe350bd7c67d9be274b7", func := "loop.example/steerage/laws.FnExactFlowBlocks", spec := "fnExactFlowBlocks", recurses := true, apart := false }
def FnExactFlowBlocksSaid : Prop := fnExactFlowBlocksRow.holds Try.pinned (OpenSpec.ofChange fnExactFlowBlocksSpec)

/-- ITS FALSE NEIGHBOUR: 'it returns false'. Refute it at one input. -/
def fnExactFlowBlocksWrong : ChangeSpec := { name := "fnExactFlowBlocks", fn := fun _ => fun
  | [d] => { results := [.lit (.bool false)], args := [d] }
  | _ => none }
def FnExactFlowBlocksWrongFalsely : Prop := fnExactFlowBlocksRow.holds Try.pinned (OpenSpec.ofChange fnExactFlowBlocksWrong)

/-- 'laws.FnExactFlowAhead': WHATEVER THE INPUT: true; the input reads as it did. -/
def fnExactFlowAheadSpec : ChangeSpec := { name := "fnExactFlowAhead", fn := fun _ => fun
  | [d1, d2, d3] => { results := [.lit (.bool true)], args := [d1, d2, d3] }
  | _ => none }
def fnExactFlowAheadRow : OpenClaim := { program := "ytdgnojjemlfhdaa", sum := "ff5783bcbd3df4f3fb375df4c8a7aecec90827dfb7c5fe350bd7c67d9be274b7", func := "loop.example/steerage/laws.FnExactFlowAhead", spec := "fnExactFlowAhead", recurses := true, apart := false }
def FnExactFlowAheadSaid : Prop := fnExactFlowAheadRow.holds Try.pinned (OpenSpec.ofChange fnExactFlowAheadSpec)

/-- ITS FALSE NEIGHBOUR: 'it returns false'. Refute it at one input. -/
def fnExactFlowAheadWrong : ChangeSpec := { name := "fnExactFlowAhead", fn := fun _ => fun
  | [d1, d2, d3] => { results := [.lit (.bool false)], args := [d1, d2, d3] }
  | _ => none }
def FnExactFlowAheadWrongFalsely : Prop := fnExactFlowAheadRow.holds Try.pinned (OpenSpec.ofChange fnExactFlowAheadWrong)

/-- 'laws.FnExactFlowNext': WHATEVER THE INPUT: true; the input reads as it did. -/
def fnExactFlowNextSpec : ChangeSpec := { name := "fnExactFlowNext", fn := fun _ => fun
  | [d1, d2] => { results := [.lit (.bool true)], args := [d1, d2] }
  | _ => none }
def fnExactFlowNextRow : OpenClaim := { program := "ytdgnojjemlfhdaa", sum := "ff5783bcbd3df4f3fb375df4c8a7aecec90827dfb7c5fe350bd7c67d9be274b7", func := "loop.example/steerage/laws.FnExactFlowNext", spec := "fnExactFlowNext", recurses := true, apart := false }
def FnExactFlowNextSaid : Prop := fnExactFlowNextRow.holds Try.pinned (OpenSpec.ofChange fnExactFlowNextSpec)

/-- ITS FALSE NEIGHBOUR: 'it returns false'. Refute it at one input. -/
def fnExactFlowNextWrong : ChangeSpec := { name := "fnExactFlowNext", fn := fun _ => fun
  | [d1, d2] => { results := [.lit (.bool false)], args := [d1, d2] }
  | _ => none }
def FnExactFlowNextWrongFalsely : Prop := fnExactFlowNextRow.holds Try.pinned (OpenSpec.ofChange fnExactFlowNextWrong)

/-- 'laws.FnExactSameFind': WHATEVER THE INPUT: true; the input reads as it did. -/
def fnExactSameFindSpec : ChangeSpec := { name := "fnExactSameFind", fn := fun _ => fun
  | [d1, d2] => { results := [.lit (.bool true)], args := [d1, d2] }
  | _ => none }
def fnExactSameFindRow : OpenClaim := { program := "ytdgnojjemlfhdaa", sum := "ff5783bcbd3df4f3fb375df4c8a7aecec90827dfb7c5fe350bd7c67d9be274b7", func := "loop.example/steerage/laws.FnExactSameFind", spec := "fnExactSameFind", unfollowed := true, recurses := true, apart := false }
def FnExactSameFindSaid : Prop := fnExactSameFindRow.holds Try.pinned (OpenSpec.ofChange fnExactSameFindSpec)

/-- ITS FALSE NEIGHBOUR: 'it returns false'. Refute it at one input. -/
def fnExactSameFindWrong : ChangeSpec := { name := "fnExactSameFind", fn := fun _ => fun
  | [d1, d2] => { results := [.lit (.bool false)], args := [d1, d2] }
  | _ => none }
def FnExactSameFindWrongFalsely : Prop := fnExactSameFindRow.holds Try.pinned (OpenSpec.ofChange fnExactSameFindWrong)

/-- 'laws.FnExactSameRules': WHATEVER THE INPUT: true; the input reads as it did. -/
def fnExactSameRulesSpec : ChangeSpec := { name := "fnExactSameRules", fn := fun _ => fun
  | [d1, d2] => { results := [.lit (.bool true)], args := [d1, d2] }
  | _ => none }
def fnExactSameRulesRow : OpenClaim := { program := "ytdgnojjemlfhdaa", sum := "ff5783bcbd3df4f3fb375df4c8a7aecec90827dfb7c5fe350bd7c67d9be274b7", func := "loop.example/steerage/laws.FnExactSameRules", spec := "fnExactSameRules", unfollowed := true, recurses := true, apart := false }
def FnExactSameRulesSaid : Prop := fnExactSameRulesRow.holds Try.pinned (OpenSpec.ofChange fnExactSameRulesSpec)

/-- ITS FALSE NEIGHBOUR: 'it returns false'. Refute it at one input. -/
def fnExactSameRulesWrong : ChangeSpec := { name := "fnExactSameRules", fn := fun _ => fun
  | [d1, d2] => { results := [.lit (.bool false)], args := [d1, d2] }
  | _ => none }
def FnExactSameRulesWrongFalsely : Prop := fnExactSameRulesRow.holds Try.pinned (OpenSpec.ofChange fnExactSameRulesWrong)

/-- 'laws.FnExactFlowReach': WHATEVER THE INPUT: true; the input reads as it did. -/
def fnExactFlowReachSpec : ChangeSpec := { name := "fnExactFlowReach", fn := fun _ => fun
  | [d] => { results := [.lit (.bool true)], args := [d] }
  | _ => none }
def fnExactFlowReachRow : OpenClaim := { program := "ytdgnojjemlfhdaa", sum := "ff5783bcbd3df4f3fb375df4c8a7aecec90827dfb7c5fe350bd7c67d9be274b7", func := "loop.example/steerage/laws.FnExactFlowReach", spec := "fnExactFlowReach", recurses := true, apart := false }
def FnExactFlowReachSaid : Prop := fnExactFlowReachRow.holds Try.pinned (OpenSpec.ofChange fnExactFlowReachSpec)

/-- ITS FALSE NEIGHBOUR: 'it returns false'. Refute it at one input. -/
def fnExactFlowReachWrong : ChangeSpec := { name := "fnExactFlowReach", fn := fun _ => fun
  | [d] => { results := [.lit (.bool false)], args := [d] }
  | _ => none }
def FnExactFlowReachWrongFalsely : Prop := fnExactFlowReachRow.holds Try.pinned (OpenSpec.ofChange fnExactFlowReachWrong)

/-- 'laws.FnExactFlowRound': WHATEVER THE INPUT: true; the input reads as it did. -/
def fnExactFlowRoundSpec : ChangeSpec := { name := "fnExactFlowRound", fn := fun _ => fun
  | [d] => { results := [.lit (.bool true)], args := [d] }
  | _ => none }
def fnExactFlowRoundRow : OpenClaim := { program := "ytdgnojjemlfhdaa", sum := "ff5783bcbd3df4f3fb375df4c8a7aecec90827dfb7c5fe350bd7c67d9be274b7", func := "loop.example/steerage/laws.FnExactFlowRound", spec := "fnExactFlowRound", recurses := true, apart := false }
def FnExactFlowRoundSaid : Prop := fnExactFlowRoundRow.holds Try.pinned (OpenSpec.ofChange fnExactFlowRoundSpec)

/-- ITS FALSE NEIGHBOUR: 'it returns false'. Refute it at one input. -/
def fnExactFlowRoundWrong : ChangeSpec := { name := "fnExactFlowRound", fn := fun _ => fun
  | [d] => { results := [.lit (.bool false)], args := [d] }
  | _ => none }
def FnExactFlowRoundWrongFalsely : Prop := fnExactFlowRoundRow.holds Try.pinned (OpenSpec.ofChange fnExactFlowRoundWrong)

/-- 'laws.FnFlowNext': WHATEVER THE INPUT: true; the input reads as it did. -/
def fnFlowNextSpec : ChangeSpec := { name := "fnFlowNext", fn := fun _ => fun
  | [d] => { results := [.lit (.bool true)], args := [d] }
  | _ => none }
def fnFlowNextRow : OpenClaim := { program := "ytdgnojjemlfhdaa", sum := "ff5783bcbd3df4f3fb375df4c8a7aecec90827dfb7c5fe350bd7c67d9be274b7", func := "loop.example/steerage/laws.FnFlowNext", spec := "fnFlowNext", recurses := true, apart := false }
def FnFlowNextSaid : Prop := fnFlowNextRow.holds Try.pinned (OpenSpec.ofChange fnFlowNextSpec)

/-- ITS FALSE NEIGHBOUR: 'it returns false'. Refute it at one input. -/
def fnFlowNextWrong : ChangeSpec := { name := "fnFlowNext", fn := fun _ => fun
  | [d] => { results := [.lit (.bool false)], args := [d] }
  | _ => none }
def FnFlowNextWrongFalsely : Prop := fnFlowNextRow.holds Try.pinned (OpenSpec.ofChange fnFlowNextWrong)

/-- 'laws.FnFlowOrder': WHATEVER THE INPUT: true; the input reads as it did. -/
def fnFlowOrderSpec : ChangeSpec := { name := "fnFlowOrder", fn := fun _ => fun
  | [d] => { results := [.lit (.bool true)], args := [d] }
  | _ => none }
def fnFlowOrderRow : OpenClaim := { program := "ytdgnojjemlfhdaa", sum := "ff5783bcbd3df4f3fb375df4c8a7aecec90827dfb7c5fe350bd7c67d9be274b7", func := "loop.example/steerage/laws.FnFlowOrder", spec := "fnFlowOrder", recurses := true, apart := false }
def FnFlowOrderSaid : Prop := fnFlowOrderRow.holds Try.pinned (OpenSpec.ofChange fnFlowOrderSpec)

/-- ITS FALSE NEIGHBOUR: 'it returns false'. Refute it at one input. -/
def fnFlowOrderWrong : ChangeSpec := { name := "fnFlowOrder", fn := fun _ => fun
  | [d] => { results := [.lit (.bool false)], args := [d] }
  | _ => none }
def FnFlowOrderWrongFalsely : Prop := fnFlowOrderRow.holds Try.pinned (OpenSpec.ofChange fnFlowOrderWrong)

/-- 'laws.FnFlowBlocks': WHATEVER THE INPUT: true; the input reads as it did. -/
def fnFlowBlocksSpec : ChangeSpec := { name := "fnFlowBlocks", fn := fun _ => fun
  | [d] => { results := [.lit (.bool true)], args := [d] }
  | _ => none }
def fnFlowBlocksRow : OpenClaim := { program := "ytdgnojjemlfhdaa", sum := "ff5783bcbd3df4f3fb375df4c8a7aecec90827dfb7c5fe350bd7c67d9be274b7", func := "loop.example/steerage/laws.FnFlowBlocks", spec := "fnFlowBlocks", recurses := true, apart := false }
def FnFlowBlocksSaid : Prop := fnFlowBlocksRow.holds Try.pinned (OpenSpec.ofChange fnFlowBlocksSpec)

/-- ITS FALSE NEIGHBOUR: 'it returns false'. Refute it at one input. -/
def fnFlowBlocksWrong : ChangeSpec := { name := "fnFlowBlocks", fn := fun _ => fun
  | [d] => { results := [.lit (.bool false)], args := [d] }
  | _ => none }
def FnFlowBlocksWrongFalsely : Prop := fnFlowBlocksRow.holds Try.pinned (OpenSpec.ofChange fnFlowBlocksWrong)

/-- 'laws.FnFlowBack': WHATEVER THE INPUT: true; the input reads as it did. -/
def fnFlowBackSpec : ChangeSpec := { name := "fnFlowBack", fn := fun _ => fun
  | [d] => { results := [.lit (.bool true)], args := [d] }
  | _ => none }
def fnFlowBackRow : OpenClaim := { program := "ytdgnojjemlfhdaa", sum := "ff5783bcbd3df4f3fb375df4c8a7aecec90827dfb7c5fe350bd7c67d9be274b7", func := "loop.example/steerage/laws.FnFlowBack", spec := "fnFlowBack", recurses := true, apart := false }
def FnFlowBackSaid : Prop := fnFlowBackRow.holds Try.pinned (OpenSpec.ofChange fnFlowBackSpec)

/-- ITS FALSE NEIGHBOUR: 'it returns false'. Refute it at one input. -/
def fnFlowBackWrong : ChangeSpec := { name := "fnFlowBack", fn := fun _ => fun
  | [d] => { results := [.lit (.bool false)], args := [d] }
  | _ => none }
def FnFlowBackWrongFalsely : Prop := fnFlowBackRow.holds Try.pinned (OpenSpec.ofChange fnFlowBackWrong)

/- THE SECOND FORM. 'bulk': how many values and letters a reading holds, each counted each time it is reached (what is shared counts as often as it is met; a slice's spare places count too). A statement '..UptoSaid' is the law's where the arguments, and the package variables that the reading takes, are together of bulk at most 1048576: NARROWER than '..Said'. Prove '..Said' where nothing that the law and all that it calls make is longer than what came in: it says more and counts as full. Else prove '..UptoSaid'. A law counts once. -/
mutual
def uptoBulk {H : Type} : DataW H → Nat
  | .lit (.string bytes) => bytes.length + 1
  | .lit _ => 1
  | .nil => 1
  | .ptr d => uptoBulk d + 1
  | .slice elems spare => uptoBulkAll elems + uptoBulkAll spare + 1
  | .agg parts => uptoBulkAll parts + 1
  | .iface _ d => uptoBulk d + 1
  | .map entries => uptoBulkEntries entries + 1
  | .held _ => 1
def uptoBulkAll {H : Type} : List (DataW H) → Nat
  | [] => 0
  | d :: r => uptoBulk d + uptoBulkAll r
def uptoBulkEntries {H : Type} : List (Lit × DataW H) → Nat
  | [] => 0
  | x :: r => uptoBulkEntry x + uptoBulkEntries r
def uptoBulkEntry {H : Type} : Lit × DataW H → Nat
  | (.string bytes, d) => bytes.length + uptoBulk d + 1
  | (_, d) => uptoBulk d + 1
 end
def uptoSmall : (H : Type) → List (DataW H) → Bool := fun _ ds => decide (uptoBulkAll ds ≤ 1048576)
def OpenSpec.upto (s : _root_.Go.ChangeSpec) : _root_.Go.OpenSpec := { _root_.Go.OpenSpec.ofChange s with cond := some uptoSmall }

/-- 'laws.FnExactSamePieces', WHERE WHAT IT READS IS OF BULK AT MOST 1048576: true; the input reads as it did. -/
def fnExactSamePiecesUptoRow : OpenClaim := { program := "ytdgnojjemlfhdaa", sum := "ff5783bcbd3df4f3fb375df4c8a7aecec90827dfb7c5fe350bd7c67d9be274b7", func := "loop.example/steerage/laws.FnExactSamePieces", spec := "fnExactSamePieces", unfollowed := true, recurses := true, apart := false, narrowed := true }
def FnExactSamePiecesUptoSaid : Prop := fnExactSamePiecesUptoRow.holds Try.pinned (OpenSpec.upto fnExactSamePiecesSpec)

/-- 'laws.FnExactFlowBlocks', WHERE WHAT IT READS IS OF BULK AT MOST 1048576: true; the input reads as it did. -/
def fnExactFlowBlocksUptoRow : OpenClaim := { program := "ytdgnojjemlfhdaa", sum := "ff5783bcbd3df4f3fb375df4c8a7aecec90827dfb7c5fe350bd7c67d9be274b7", func := "loop.example/steerage/laws.FnExactFlowBlocks", spec := "fnExactFlowBlocks", recurses := true, apart := false, narrowed := true }
def FnExactFlowBlocksUptoSaid : Prop := fnExactFlowBlocksUptoRow.holds Try.pinned (OpenSpec.upto fnExactFlowBlocksSpec)

/-- 'laws.FnExactFlowAhead', WHERE WHAT IT READS IS OF BULK AT MOST 1048576: true; the input reads as it did. -/
def fnExactFlowAheadUptoRow : OpenClaim := { program := "ytdgnojjemlfhdaa", sum := "ff5783bcbd3df4f3fb375df4c8a7aecec90827dfb7c5fe350bd7c67d9be274b7", func := "loop.example/steerage/laws.FnExactFlowAhead", spec := "fnExactFlowAhead", recurses := true, apart := false, narrowed := true }
def FnExactFlowAheadUptoSaid : Prop := fnExactFlowAheadUptoRow.holds Try.pinned (OpenSpec.upto fnExactFlowAheadSpec)

/-- 'laws.FnExactFlowNext', WHERE WHAT IT READS IS OF BULK AT MOST 1048576: true; the input reads as it did. -/
def fnExactFlowNextUptoRow : OpenClaim := { program := "ytdgnojjemlfhdaa", sum := "ff5783bcbd3df4f3fb375df4c8a7aecec90827dfb7c5fe350bd7c67d9be274b7", func := "loop.example/steerage/laws.FnExactFlowNext", spec := "fnExactFlowNext", recurses := true, apart := false, narrowed := true }
def FnExactFlowNextUptoSaid : Prop := fnExactFlowNextUptoRow.holds Try.pinned (OpenSpec.upto fnExactFlowNextSpec)

/-- 'laws.FnExactSameFind', WHERE WHAT IT READS IS OF BULK AT MOST 1048576: true; the input reads as it did. -/
def fnExactSameFindUptoRow : OpenClaim := { program := "ytdgnojjemlfhdaa", sum := "ff5783bcbd3df4f3fb375df4c8a7aecec90827dfb7c5fe350bd7c67d9be274b7", func := "loop.example/steerage/laws.FnExactSameFind", spec := "fnExactSameFind", unfollowed := true, recurses := true, apart := false, narrowed := true }
def FnExactSameFindUptoSaid : Prop := fnExactSameFindUptoRow.holds Try.pinned (OpenSpec.upto fnExactSameFindSpec)

/-- 'laws.FnExactSameRules', WHERE WHAT IT READS IS OF BULK AT MOST 1048576: true; the input reads as it did. -/
def fnExactSameRulesUptoRow : OpenClaim := { program := "ytdgnojjemlfhdaa", sum := "ff5783bcbd3df4f3fb375df4c8a7aecec90827dfb7c5fe350bd7c67d9be274b7", func := "loop.example/steerage/laws.FnExactSameRules", spec := "fnExactSameRules", unfollowed := true, recurses := true, apart := false, narrowed := true }
def FnExactSameRulesUptoSaid : Prop := fnExactSameRulesUptoRow.holds Try.pinned (OpenSpec.upto fnExactSameRulesSpec)

/-- 'laws.FnExactFlowReach', WHERE WHAT IT READS IS OF BULK AT MOST 1048576: true; the input reads as it did. -/
def fnExactFlowReachUptoRow : OpenClaim := { program := "ytdgnojjemlfhdaa", sum := "ff5783bcbd3df4f3fb375df4c8a7aecec90827dfb7c5fe350bd7c67d9be274b7", func := "loop.example/steerage/laws.FnExactFlowReach", spec := "fnExactFlowReach", recurses := true, apart := false, narrowed := true }
def FnExactFlowReachUptoSaid : Prop := fnExactFlowReachUptoRow.holds Try.pinned (OpenSpec.upto fnExactFlowReachSpec)

/-- 'laws.FnExactFlowRound', WHERE WHAT IT READS IS OF BULK AT MOST 1048576: true; the input reads as it did. -/
def fnExactFlowRoundUptoRow : OpenClaim := { program := "ytdgnojjemlfhdaa", sum := "ff5783bcbd3df4f3fb375df4c8a7aecec90827dfb7c5fe350bd7c67d9be274b7", func := "loop.example/steerage/laws.FnExactFlowRound", spec := "fnExactFlowRound", recurses := true, apart := false, narrowed := true }
def FnExactFlowRoundUptoSaid : Prop := fnExactFlowRoundUptoRow.holds Try.pinned (OpenSpec.upto fnExactFlowRoundSpec)

/-- 'laws.FnFlowNext', WHERE WHAT IT READS IS OF BULK AT MOST 1048576: true; the input reads as it did. -/
def fnFlowNextUptoRow : OpenClaim := { program := "ytdgnojjemlfhdaa", sum := "ff5783bcbd3df4f3fb375df4c8a7aecec90827dfb7c5fe350bd7c67d9be274b7", func := "loop.example/steerage/laws.FnFlowNext", spec := "fnFlowNext", recurses := true, apart := false, narrowed := true }
def FnFlowNextUptoSaid : Prop := fnFlowNextUptoRow.holds Try.pinned (OpenSpec.upto fnFlowNextSpec)

/-- 'laws.FnFlowOrder', WHERE WHAT IT READS IS OF BULK AT MOST 1048576: true; the input reads as it did. -/
def fnFlowOrderUptoRow : OpenClaim := { program := "ytdgnojjemlfhdaa", sum := "ff5783bcbd3df4f3fb375df4c8a7aecec90827dfb7c5fe350bd7c67d9be274b7", func := "loop.example/steerage/laws.FnFlowOrder", spec := "fnFlowOrder", recurses := true, apart := false, narrowed := true }
def FnFlowOrderUptoSaid : Prop := fnFlowOrderUptoRow.holds Try.pinned (OpenSpec.upto fnFlowOrderSpec)

/-- 'laws.FnFlowBlocks', WHERE WHAT IT READS IS OF BULK AT MOST 1048576: true; the input reads as it did. -/
def fnFlowBlocksUptoRow : OpenClaim := { program := "ytdgnojjemlfhdaa", sum := "ff5783bcbd3df4f3fb375df4c8a7aecec90827dfb7c5fe350bd7c67d9be274b7", func := "loop.example/steerage/laws.FnFlowBlocks", spec := "fnFlowBlocks", recurses := true, apart := false, narrowed := true }
def FnFlowBlocksUptoSaid : Prop := fnFlowBlocksUptoRow.holds Try.pinned (OpenSpec.upto fnFlowBlocksSpec)

/-- 'laws.FnFlowBack', WHERE WHAT IT READS IS OF BULK AT MOST 1048576: true; the input reads as it did. -/
def fnFlowBackUptoRow : OpenClaim := { program := "ytdgnojjemlfhdaa", sum := "ff5783bcbd3df4f3fb375df4c8a7aecec90827dfb7c5fe350bd7c67d9be274b7", func := "loop.example/steerage/laws.FnFlowBack", spec := "fnFlowBack", recurses := true, apart := false, narrowed := true }
def FnFlowBackUptoSaid : Prop := fnFlowBackUptoRow.holds Try.pinned (OpenSpec.upto fnFlowBackSpec)

end Rows
end Go.Proofs.Ytdgnojjemlfhdaa
