/-
  No cell of these rows narrows 'for every input' (looked for: loops, veiled, ifaces, maps, wideKeys, modest, calm, conditions, laid).
  DERIVED. THE GIVEN ROWS OF THIS SEAT. 4 by the template 'for every input the law returns true; each argument reads behind the call as it read before'; 0 by the template 'total and deterministic' (their statements: YtihllippchgkgaaGreatTotals.lean).
  GIVEN WITH THE SEED: the statements are not yours to turn. If you find one false, say at which input.
  Laid BY PROGRAM, IN A SANDBOX (cutbox-rows.mjs): the forced cells as the released guide's own fill.sh prints them over the translation dbd87b59d7340cd4… (all of the seat's roots in one cut). By AI agents, Wed Nov 11 2026. No macro, syntax, notation, axiom, sorry.
-/
import Derived.Test.YtihllippchgkgaaGreatChecked
import GoSem.Claim
import GoSem.ClaimJoined
import GoSem.ClaimMapViews
import Derived.JoinedTies
import Derived.KernelRfl
namespace Go.Proofs.YtihllippchgkgaaGreat
/- THE CELL 'sum', in the pinned program and in every row, IS THE sha256 OF THE DUMP (.gsa) THAT YtihllippchgkgaaGreatProg.lean LOADS. Nothing in Lean hashes anything: it is a label: what it is worth is what the hold of that sum in a sandbox is worth. -/
noncomputable def Tryz.pinned : Pinned := { name := "ytihllippchgkgaagreat", sum := "dbd87b59d7340cd49fe447222a303e75b8095c83cf66d301530f451e20a79ab1", checked := Tryz.checked }
namespace Rows
def none {H : Type} : Left H := { results := [], args := [] }

/-- 'laws.FnFlowReach': WHATEVER THE INPUT: true; the input reads as it did. -/
def fnFlowReachSpec : ChangeSpec := { name := "fnFlowReach", fn := fun _ => fun
  | [d] => { results := [.lit (.bool true)], args := [d] }
  | _ => none }
def fnFlowReachRow : OpenClaim := { program := "ytihllippchgkgaagreat", sum := "dbd87b59d7340cd49fe447222a303e75b8095c83cf66d301530f451e20a79ab1", func := "loop.example/steerage/laws.FnFlowReach", spec := "fnFlowReach", unfollowed := true, recurses := true, apart := false }
def FnFlowReachSaid : Prop := fnFlowReachRow.holds Tryz.pinned (OpenSpec.ofChange fnFlowReachSpec)

/-- ITS FALSE NEIGHBOUR: 'it returns false'. Refute it at one input. -/
def fnFlowReachWrong : ChangeSpec := { name := "fnFlowReach", fn := fun _ => fun
  | [d] => { results := [.lit (.bool false)], args := [d] }
  | _ => none }
def FnFlowReachWrongFalsely : Prop := fnFlowReachRow.holds Tryz.pinned (OpenSpec.ofChange fnFlowReachWrong)

/-- 'laws.FnFlowAhead': WHATEVER THE INPUT: true; the input reads as it did. -/
def fnFlowAheadSpec : ChangeSpec := { name := "fnFlowAhead", fn := fun _ => fun
  | [d1, d2] => { results := [.lit (.bool true)], args := [d1, d2] }
  | _ => none }
def fnFlowAheadRow : OpenClaim := { program := "ytihllippchgkgaagreat", sum := "dbd87b59d7340cd49fe447222a303e75b8095c83cf66d301530f451e20a79ab1", func := "loop.example/steerage/laws.FnFlowAhead", spec := "fnFlowAhead", unfollowed := true, recurses := true, apart := false }
def FnFlowAheadSaid : Prop := fnFlowAheadRow.holds Tryz.pinned (OpenSpec.ofChange fnFlowAheadSpec)

/-- ITS FALSE NEIGHBOUR: 'it returns false'. Refute it at one input. -/
def fnFlowAheadWrong : ChangeSpec := { name := "fnFlowAhead", fn := fun _ => fun
  | [d1, d2] => { results := [.lit (.bool false)], args := [d1, d2] }
  | _ => none }
def FnFlowAheadWrongFalsely : Prop := fnFlowAheadRow.holds Tryz.pinned (OpenSpec.ofChange fnFlowAheadWrong)

/-- 'laws.FnFlowRun': WHATEVER THE INPUT: true; the input reads as it did. -/
def fnFlowRunSpec : ChangeSpec := { name := "fnFlowRun", fn := fun _ => fun
  | [d] => { results := [.lit (.bool true)], args := [d] }
  | _ => none }
def fnFlowRunRow : OpenClaim := { program := "ytihllippchgkgaagreat", sum := "dbd87b59d7340cd49fe447222a303e75b8095c83cf66d301530f451e20a79ab1", func := "loop.example/steerage/laws.FnFlowRun", spec := "fnFlowRun", unfollowed := true, recurses := true, apart := false }
def FnFlowRunSaid : Prop := fnFlowRunRow.holds Tryz.pinned (OpenSpec.ofChange fnFlowRunSpec)

/-- ITS FALSE NEIGHBOUR: 'it returns false'. Refute it at one input. -/
def fnFlowRunWrong : ChangeSpec := { name := "fnFlowRun", fn := fun _ => fun
  | [d] => { results := [.lit (.bool false)], args := [d] }
  | _ => none }
def FnFlowRunWrongFalsely : Prop := fnFlowRunRow.holds Tryz.pinned (OpenSpec.ofChange fnFlowRunWrong)

/-- 'laws.FnFlowRound': WHATEVER THE INPUT: true; the input reads as it did. -/
def fnFlowRoundSpec : ChangeSpec := { name := "fnFlowRound", fn := fun _ => fun
  | [d] => { results := [.lit (.bool true)], args := [d] }
  | _ => none }
def fnFlowRoundRow : OpenClaim := { program := "ytihllippchgkgaagreat", sum := "dbd87b59d7340cd49fe447222a303e75b8095c83cf66d301530f451e20a79ab1", func := "loop.example/steerage/laws.FnFlowRound", spec := "fnFlowRound", unfollowed := true, recurses := true, apart := false }
def FnFlowRoundSaid : Prop := fnFlowRoundRow.holds Tryz.pinned (OpenSpec.ofChange fnFlowRoundSpec)

/-- ITS FALSE NEIGHBOUR: 'it returns false'. Refute it at one input. -/
def fnFlowRoundWrong : ChangeSpec := { name := "fnFlowRound", fn := fun _ => fun
  | [d] => { results := [.lit (.bool false)], args := [d] }
  | _ => none }
def FnFlowRoundWrongFalsely : Prop := fnFlowRoundRow.holds Tryz.pinned (OpenSpec.ofChange fnFlowRoundWrong)

/- THE SECOND FORM. 'bulk': how many values and letters a reading holds, each counted each time it is reached (what is shared counts as often as it is met; a slice's spare places count too). A statement '..UptoSaid' is the law's where the arguments, and the package variables that the reading takes, are together of bulk at most 1048576: NARROWER than '..Said'. Prove '..Said' where nothing that the law and all that it calls make is longer than what came in: it says more and counts as full. Else prove '..UptoSaid'. A law counts once. -/
mutual
def uptoBulk {H : Type} : DataW H → Nat
  | .lit (.string bytes) => bytes.length + 1
  | .lit _ => 1
  | .nil => 1
  | .ptr d => uptoBulk d + 1
  | .slice elems spare => uptoBulkAll elems + uptoBulkAll spare + 1
  | .agg parts => uptoBulkAll parts + 1
  | .iface _ d => uptoBulk d + 1
  | .map entries => uptoBulkEntries entries + 1
  | .held _ => 1
def uptoBulkAll {H : Type} : List (DataW H) → Nat
  | [] => 0
  | d :: r => uptoBulk d + uptoBulkAll r
def uptoBulkEntries {H : Type} : List (Lit × DataW H) → Nat
  | [] => 0
  | x :: r => uptoBulkEntry x + uptoBulkEntries r
def uptoBulkEntry {H : Type} : Lit × DataW H → Nat
  | (.string bytes, d) => bytes.length + uptoBulk d + 1
  | (_, d) => uptoBulk d + 1
 end
def uptoSmall : (H : Type) → List (DataW H) → Bool := fun _ ds => decide (uptoBulkAll ds ≤ 1048576)
def OpenSpec.upto (s : _root_.Go.ChangeSpec) : _root_.Go.OpenSpec := { _root_.Go.OpenSpec.ofChange s with cond := some uptoSmall }

/-- 'laws.FnFlowReach', WHERE WHAT IT READS IS OF BULK AT MOST 1048576: true; the input reads as it did. -/
def fnFlowReachUptoRow : OpenClaim := { program := "ytihllippchgkgaagreat", sum := "dbd87b59d7340cd49fe447222a303e75b8095c83cf66d301530f451e20a79ab1", func := "loop.example/steerage/laws.FnFlowReach", spec := "fnFlowReach", unfollowed := true, recurses := true, apart := false, narrowed := true }
def FnFlowReachUptoSaid : Prop := fnFlowReachUptoRow.holds Tryz.pinned (OpenSpec.upto fnFlowReachSpec)

/-- 'laws.FnFlowAhead', WHERE WHAT IT READS IS OF BULK AT MOST 1048576: true; the input reads as it did. -/
def fnFlowAheadUptoRow : OpenClaim := { program := "ytihllippchgkgaagreat", sum := "dbd87b59d7340cd49fe447222a303e75b8095c83cf66d301530f451e20a79ab1", func := "loop.example/steerage/laws.FnFlowAhead", spec := "fnFlowAhead", unfollowed := true, recurses := true, apart := false, narrowed := true }
def FnFlowAheadUptoSaid : Prop := fnFlowAheadUptoRow.holds Tryz.pinned (OpenSpec.upto fnFlowAheadSpec)

/-- 'laws.FnFlowRun', WHERE WHAT IT READS IS OF BULK AT MOST 1048576: true; the input reads as it did. -/
def fnFlowRunUptoRow : OpenClaim := { program := "ytihllippchgkgaagreat", sum := "dbd87b59d7340cd49fe447222a303e75b8095c83cf66d301530f451e20a79ab1", func := "loop.example/steerage/laws.FnFlowRun", spec := "fnFlowRun", unfollowed := true, recurses := true, apart := false, narrowed := true }
def FnFlowRunUptoSaid : Prop := fnFlowRunUptoRow.holds Tryz.pinned (OpenSpec.upto fnFlowRunSpec)

/-- 'laws.FnFlowRound', WHERE WHAT IT READS IS OF BULK AT MOST 1048576: true; the input reads as it did. -/
def fnFlowRoundUptoRow : OpenClaim := { program := "ytihllippchgkgaagreat", sum := "dbd87b59d7340cd49fe447222a303e75b8095c83cf66d301530f451e20a79ab1", func := "loop.example/steerage/laws.FnFlowRound", spec := "fnFlowRound", unfollowed := true, recurses := true, apart := false, narrowed := true }
def FnFlowRoundUptoSaid : Prop := fnFlowRoundUptoRow.holds Tryz.pinned (OpenSpec.upto fnFlowRoundSpec)

end Rows
end Go.Proofs.YtihllippchgkgaaGreat
