/- The law ExactSameRules: both sides answer alike, for all arguments. No condition. -/
import Derived.Test.YtdgnojjemlfhdaaRY
namespace Go.Proofs.Ytdgnojjemlfhdaa.V
open Go Go.RowKit
set_option linter.unusedVariables false
theorem laws.FnExactSameRules.pure {w : World} (sa : Sl) (la : List Rule) (ha : SlR kRule w sa la) (sb : Sl) (lb : List Rule) (hb : SlR kRule w sb lb) :
    CallT (.o (.lf .b)) P0 8 [sa.v, sb.v] w fun b w' => b = true ∧ Below w.heap.size w w' := by
  refine laws.FnExactSameRules.ok (laws.szRuleS.c ha (by decide) (by decide) ?_)
  refine And.intro (fun _ => ⟨rfl, Below.refl _ _⟩) (fun hs => ?_)
  simp only [decide_eq_false_iff_not] at hs
  have hla : la.length ≤ 1048576 := by split at hs <;> omega
  refine laws.szRuleS.c hb (by split <;> omega) (by split <;> omega) ?_
  refine And.intro (fun _ => ⟨rfl, Below.refl _ _⟩) (fun hs2 => ?_)
  simp only [decide_eq_false_iff_not] at hs2
  have hlb : lb.length ≤ 1048576 := by split at hs2 <;> (try omega) <;> split at hs2 <;> omega
  clear hs hs2
  refine laws.toRuleS.c ha hla fun a1 w1 b1 ha1 => ?_
  refine laws.toRuleS.c (hb.below b1) hlb fun a2 w2 b2' ha2 => ?_
  have b2 := b1.trans (b2'.mono b1.size)
  refine spec.SameRules.c (ha1.below b2').read ha2.read fun w3 b3' => ?_
  have b3 := b2.trans (b3'.mono b2.size)
  refine laws.toRuleS.c (ha.below b3) hla fun x0 w4 b4' hx0 => ?_
  have b4 := b3.trans (b4'.mono b3.size)
  refine laws.toRuleS.c (hb.below b4) hlb fun x1 w5 b5' hx1 => ?_
  have b5 := b4.trans (b5'.mono b4.size)
  refine impl.SameRules.c (hx0.below b5').read hx1.read fun w6 b6' => ?_
  have b6 := b5.trans (b6'.mono b5.size)
  refine And.intro (fun hc => by simp at hc) (fun _ => ?_)
  refine laws.toRuleS.c (ha.below b6) hla fun y0 w7 b7' hy0 => ?_
  have b7 := b6.trans (b7'.mono b6.size)
  refine laws.eqRuleS.c (((hx0.below b5').below b6').below b7').read hy0.read fun w8 b8' => ?_
  have b8 := b7.trans (b8'.mono b7.size)
  refine And.intro (fun hc => by simp at hc) (fun _ => ?_)
  refine laws.toRuleS.c (hb.below b8) hlb fun y1 w9 b9' hy1 => ?_
  have b9 := b8.trans (b9'.mono b8.size)
  refine laws.eqRuleS.c ((((hx1.below b6').below b7').below b8').below b9').read hy1.read fun w10 b10' => ?_
  refine And.intro (fun hc => by simp at hc) (fun _ => ⟨rfl, b9.trans (b10'.mono b9.size)⟩)
end Go.Proofs.Ytdgnojjemlfhdaa.V
