/- The law ExactFlowReach: both sides answer alike, for all arguments. No condition. -/
import Derived.Test.YtdgnojjemlfhdaaFT
namespace Go.Proofs.Ytdgnojjemlfhdaa.V
open Go Go.RowKit
set_option linter.unusedVariables false
theorem laws.FnExactFlowReach.pure {w : World} (s : Sl) (l : List Ins) (h : SlR kIns w s l) :
    CallT (.o (.lf .b)) P0 9 [s.v] w fun b w' => b = true ∧ Below w.heap.size w w' := by
  refine laws.FnExactFlowReach.ok (laws.szInsS.c h (by decide) (by decide) ?_)
  refine And.intro (fun _ => ⟨rfl, Below.refl _ _⟩) (fun hs => ?_)
  have hl : l.length ≤ 1048576 := by
    simp only [decide_eq_false_iff_not] at hs
    split at hs <;> omega
  clear hs
  -- the spec's answer
  refine laws.toInsS.c h hl fun a w1 hb1 ha => ?_
  refine spec.FlowReach.c ha.read hl fun r w2 hb2 hr0 => ?_
  have hr := hr0.wr
  have b2 := hb1.trans (hb2.mono hb1.size)
  -- the implementation's answer
  refine laws.toInsS.c (h.below b2) hl fun x0 w3 hb3 hx0 => ?_
  have b3 := b2.trans (hb3.mono b2.size)
  refine impl.FlowReach.c hx0.read hl fun g0 w4 hb4 hg0 => ?_
  have b4 := b3.trans (hb4.mono b3.size)
  have r4 := (hr.below hb3).below hb4
  have x4 := hx0.below hb4
  refine laws.eqIntS.c hg0.read r4.read fun w5 hb5 => ?_
  refine And.intro (fun hc => by simp at hc) (fun _ => ?_)
  have b5 := b4.trans (hb5.mono b4.size)
  have r5 := r4.below hb5; have x5 := x4.below hb5; have g5 := hg0.below hb5
  refine laws.toInsS.c (h.below b5) hl fun a' w6 hb6 ha' => ?_
  have b6 := b5.trans (hb6.mono b5.size)
  have r6 := r5.below hb6; have x6 := x5.below hb6; have g6 := g5.below hb6
  refine laws.eqInsS.c x6.read ha'.read fun w7 hb7 => ?_
  refine And.intro (fun hc => by simp at hc) (fun _ => ?_)
  have b7 := b6.trans (hb7.mono b6.size)
  have r7 := r6.below hb7; have x7 := x6.below hb7; have g7 := g6.below hb7
  clear r4 x4 r5 x5 g5 r6 x6 g6
  -- the input is marked
  refine laws.markInsS.c x7 (by decide) (by omega) fun w8 hg8 => ?_
  have b8 : Below w.heap.size w w8 := b7.grown hg8 b7.size (fun b hb => by have := (hx0.blk hb).1; have := b2.size; omega)
  have r8 := r7.kept hg8 (fun b hb hb' => by have := (hx0.blk hb).1; have := (hr.blk hb').2; omega)
  have g8 := g7.kept hg8 (fun b hb hb' => by have := (hx0.blk hb).2; have := (hg0.blk hb').1; omega)
  refine ⟨fun w' => Below w8.heap.size w8 w', And.intro (fun hc => by simp at hc; omega) (fun _ => laws.eqIntS.c g8.read r8.read fun w9 hb9 => And.intro (fun hc => by simp at hc) (fun _ => hb9)), fun w10 hb10 _ => ?_⟩
  have b10 := b8.trans (hb10.mono b8.size)
  have r10 := r8.below hb10; have g10 := g8.below hb10
  have hlen := flowReach_length l
  -- the result is marked
  refine laws.markIntS.c g10 (by decide) (by omega) fun w11 hg11' hg11 => ?_
  have b11 : Below w.heap.size w w11 := b10.grown hg11 b10.size (fun b hb => by have := (hg0.blk hb).1; have := b3.size; omega)
  have r11 := r10.kept hg11 (fun b hb hb' => by have := (hg0.blk hb).1; have := (hr.blk hb').2; have := hb3.size; omega)
  refine laws.heldIntS.c hg11'.read (by decide) (by omega) ?_
  refine And.intro (fun hc => by simp at hc; omega) (fun _ => And.intro (fun hc => by simp at hc) (fun _ => ?_))
  -- once more
  refine laws.toInsS.c (h.below b11) hl fun y0 w13 hb13 hy0 => ?_
  have b13 := b11.trans (hb13.mono b11.size)
  refine impl.FlowReach.c hy0.read hl fun g1 w14 hb14 hg1 => ?_
  have b14 := b13.trans (hb14.mono b13.size)
  have r14 := (r11.below hb13).below hb14
  have g14 := (hg11'.below hb13).below hb14
  refine laws.eqIntS.c hg1.read r14.read fun w15 hb15 => ?_
  refine And.intro (fun hc => by simp at hc) (fun _ => ?_)
  have b15 := b14.trans (hb15.mono b14.size)
  refine laws.heldIntS.c (g14.below hb15).read (by decide) (by omega) ?_
  refine And.intro (fun hc => by simp at hc; omega) (fun _ => And.intro (fun hc => by simp at hc) (fun _ => ⟨rfl, b15⟩))
end Go.Proofs.Ytdgnojjemlfhdaa.V
