/- The law ExactFlowAhead: both sides answer alike, for all arguments. No condition. -/
import Derived.Test.YtdgnojjemlfhdaaFT
namespace Go.Proofs.Ytdgnojjemlfhdaa.V
open Go Go.RowKit
set_option linter.unusedVariables false
theorem laws.FnExactFlowAhead.pure {w : World} (s : Sl) (l : List Ins) (h : SlR kIns w s l) (a : Int) (ha : (Lit.int .i64 a).wf = true) (b : Int) (hb : (Lit.int .i64 b).wf = true) :
    CallT (.o (.lf .b)) P0 5 [s.v, .int .i64 a, .int .i64 b] w fun b w' => b = true ∧ Below w.heap.size w w' := by
  refine laws.FnExactFlowAhead.ok (laws.szInsS.c h (by decide) (by decide) ?_)
  refine And.intro (fun _ => ⟨rfl, Below.refl _ _⟩) (fun hs => ?_)
  have hl : l.length ≤ 1048576 := by
    simp only [decide_eq_false_iff_not] at hs
    split at hs <;> omega
  clear hs
  refine laws.toInsS.c h hl fun r w1 hb1 hr => ?_
  refine spec.FlowAhead.c hr.read hl fun w2 hb2 => ?_
  have b2 := hb1.trans (hb2.mono hb1.size)
  refine laws.toInsS.c (h.below b2) hl fun x0 w3 hb3 hx0 => ?_
  have b3 := b2.trans (hb3.mono b2.size)
  refine impl.FlowAhead.c hx0.read hl ha hb fun w4 hb4 => ?_
  have b4 := b3.trans (hb4.mono b3.size)
  refine And.intro (fun hc => by simp at hc) (fun _ => ?_)
  refine laws.toInsS.c (h.below b4) hl fun a' w5 hb5 ha' => ?_
  have b5 := b4.trans (hb5.mono b4.size)
  refine laws.eqInsS.c ((hx0.below hb4).below hb5).read ha'.read fun w6 hb6 => ?_
  refine And.intro (fun hc => by simp at hc) (fun _ => ⟨rfl, b5.trans (hb6.mono b5.size)⟩)
end Go.Proofs.Ytdgnojjemlfhdaa.V
