/- Contracts: SameFind and SameRules on both sides. -/
import Derived.Test.YtdgnojjemlfhdaaRX
namespace Go.Proofs.Ytdgnojjemlfhdaa.V
open Go Go.RowKit
set_option linter.unusedVariables false
def SameOk (la lb : List Rule) : Prop := RulesP la ∧ RulesP lb ∧ pieces la lb ≤ 400
open Classical in
/-- The first bytes of which rules say something else, if there are such. -/
noncomputable def sameFind (la lb : List Rule) : ByteArray × Bool := if SameOk la lb then fres la lb 12 [] else (⟨#[]⟩, false)
open Classical in
noncomputable def sameRules (la lb : List Rule) : Bool := if SameOk la lb then !(fres la lb 12 []).2 else false
section
variable {la lb : List Rule} {sa sb : Sl} {w : World}
open Classical in
theorem impl.looked.c {K : Bool → World → Prop} (ha : SlR kRule w sa la) (hb : SlR kRule w sb lb) (hk : ∀ w', Below w.heap.size w w' → K (decide (SameOk la lb)) w') : CallT (.o (.lf .b)) P0 69 [sa.v, sb.v] w K := by
  refine impl.looked.ok (impl.RulesOk.c ha fun w1 b1 => ?_)
  refine And.intro (fun h1 => ?_) (fun h1 => ?_)
  · simp only [decide_eq_true_eq] at h1
    refine impl.RulesOk.c (hb.below b1) fun w2 b2 => ?_
    have b12 := b1.trans (b2.mono b1.size)
    refine And.intro (fun h2 => ?_) (fun h2 => ?_)
    · simp only [decide_eq_true_eq] at h2
      refine impl.pieces.c (ha.below b12) (hb.below b12) h1 h2 fun w3 b3 => ?_
      refine kof (hk w3 (b12.trans (b3.mono b12.size))) ?_
      rw [decide_eq_decide]
      exact ⟨fun h => h.2.2, fun h => ⟨h1, h2, h⟩⟩
    · simp only [decide_eq_false_iff_not] at h2
      exact kof (hk w2 b12) (by simp only [decide_eq_false_iff_not]; exact fun h => h2 h.2.1)
  · simp only [decide_eq_false_iff_not] at h1
    exact kof (hk w1 b1) (by simp only [decide_eq_false_iff_not]; exact fun h => h1 h.1)
theorem impl.SameFind.c {K : ByteArray × Bool × Unit → World → Prop} (ha : SlR kRule w sa la) (hb : SlR kRule w sb lb) (hk : ∀ w', Below w.heap.size w w' → K ((sameFind la lb).1, (sameFind la lb).2, ()) w') :
    CallT (.n [(.lf .s), (.lf .b)]) P0 34 [sa.v, sb.v] w K := by
  refine impl.SameFind.ok (impl.looked.c ha hb fun w1 b1 => ?_)
  unfold sameFind at hk
  refine And.intro (fun h => ?_) (fun h => ?_)
  · simp only [Bool.not_eq_true', decide_eq_false_iff_not] at h
    rw [if_neg h] at hk
    exact hk w1 b1
  · simp only [Bool.not_eq_false', decide_eq_true_eq] at h
    rw [if_pos h] at hk
    exact impl.differ.c h.1 h.2.1 (ha.below b1) (hb.below b1) fun w2 b2 => hk w2 (b1.trans (b2.mono b1.size))
theorem impl.SameRules.c {K : Bool → World → Prop} (ha : SlR kRule w sa la) (hb : SlR kRule w sb lb) (hk : ∀ w', Below w.heap.size w w' → K (sameRules la lb) w') :
    CallT (.o (.lf .b)) P0 36 [sa.v, sb.v] w K := by
  refine impl.SameRules.ok (impl.looked.c ha hb fun w1 b1 => ?_)
  unfold sameRules at hk
  refine And.intro (fun h => ?_) (fun h => ?_)
  · simp only [Bool.not_eq_true', decide_eq_false_iff_not] at h
    rw [if_neg h] at hk
    exact hk w1 b1
  · simp only [Bool.not_eq_false', decide_eq_true_eq] at h
    rw [if_pos h] at hk
    exact impl.differ.c h.1 h.2.1 (ha.below b1) (hb.below b1) fun w2 b2 => hk w2 (b1.trans (b2.mono b1.size))
theorem spec.SameFind.c {K : ByteArray × Bool × Unit → World → Prop} (ha : SlR kRule w sa la) (hb : SlR kRule w sb lb) (hk : ∀ w', Below w.heap.size w w' → K ((sameFind la lb).1, (sameFind la lb).2, ()) w') :
    CallT (.n [(.lf .s), (.lf .b)]) P0 33 [sa.v, sb.v] w K := by
  unfold sameFind at hk
  refine spec.SameFind.ok ⟨fun w' => Below w.heap.size w w' ∧ SameOk la lb, ?_, ?_⟩
  · refine spec.l9Ok.c ha fun w1 b1 => ?_
    refine And.intro (fun h => ?_) (fun h1 => ?_)
    · simp only [Bool.not_eq_true', decide_eq_false_iff_not] at h
      rw [if_neg (fun hh => h hh.1)] at hk
      exact hk w1 b1
    · simp only [Bool.not_eq_false', decide_eq_true_eq] at h1
      refine spec.l9Ok.c (hb.below b1) fun w2 b2 => ?_
      have b12 := b1.trans (b2.mono b1.size)
      refine And.intro (fun h => ?_) (fun h2 => ?_)
      · simp only [Bool.not_eq_true', decide_eq_false_iff_not] at h
        rw [if_neg (fun hh => h hh.2.1)] at hk
        exact hk w2 b12
      · simp only [Bool.not_eq_false', decide_eq_true_eq] at h2
        refine spec.l14Ways.c (ha.below b12) (hb.below b12) h1 h2 fun w3 b3 => ?_
        have b13 := b12.trans (b3.mono b12.size)
        refine And.intro (fun h => ?_) (fun h3 => ?_)
        · simp only [decide_eq_true_eq] at h
          rw [if_neg (fun hh => by have := hh.2.2; omega)] at hk
          exact hk w3 b13
        · simp only [decide_eq_false_iff_not] at h3
          exact ⟨b13, h1, h2, by omega⟩
  · rintro w3 ⟨b3, hok⟩ _
    rw [if_pos hok] at hk
    exact spec.l14Find.c hok.1 hok.2.1 12 (cs := []) rfl (by simp) (ha.below b3) (hb.below b3) fun w4 b4 => hk w4 (b3.trans (b4.mono b3.size))
theorem spec.SameRules.c {K : Bool → World → Prop} (ha : SlR kRule w sa la) (hb : SlR kRule w sb lb) (hk : ∀ w', Below w.heap.size w w' → K (sameRules la lb) w') :
    CallT (.o (.lf .b)) P0 35 [sa.v, sb.v] w K := by
  unfold sameRules at hk
  refine spec.SameRules.ok ⟨fun w' => Below w.heap.size w w' ∧ SameOk la lb, ?_, ?_⟩
  · refine spec.l9Ok.c ha fun w1 b1 => ?_
    refine And.intro (fun h => ?_) (fun h1 => ?_)
    · simp only [Bool.not_eq_true', decide_eq_false_iff_not] at h
      rw [if_neg (fun hh => h hh.1)] at hk
      exact hk w1 b1
    · simp only [Bool.not_eq_false', decide_eq_true_eq] at h1
      refine spec.l9Ok.c (hb.below b1) fun w2 b2 => ?_
      have b12 := b1.trans (b2.mono b1.size)
      refine And.intro (fun h => ?_) (fun h2 => ?_)
      · simp only [Bool.not_eq_true', decide_eq_false_iff_not] at h
        rw [if_neg (fun hh => h hh.2.1)] at hk
        exact hk w2 b12
      · simp only [Bool.not_eq_false', decide_eq_true_eq] at h2
        refine spec.l14Ways.c (ha.below b12) (hb.below b12) h1 h2 fun w3 b3 => ?_
        have b13 := b12.trans (b3.mono b12.size)
        refine And.intro (fun h => ?_) (fun h3 => ?_)
        · simp only [decide_eq_true_eq] at h
          rw [if_neg (fun hh => by have := hh.2.2; omega)] at hk
          exact hk w3 b13
        · simp only [decide_eq_false_iff_not] at h3
          exact ⟨b13, h1, h2, by omega⟩
  · rintro w3 ⟨b3, hok⟩ _
    rw [if_pos hok] at hk
    exact spec.l14Find.c hok.1 hok.2.1 12 (cs := []) rfl (by simp) (ha.below b3) (hb.below b3) fun w4 b4 => hk w4 (b3.trans (b4.mono b3.size))
end
end Go.Proofs.Ytdgnojjemlfhdaa.V
