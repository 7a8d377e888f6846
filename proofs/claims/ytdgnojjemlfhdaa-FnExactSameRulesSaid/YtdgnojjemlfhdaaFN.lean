/- Contracts: spec.FlowNext and impl.FlowNext, and the law ExactFlowNext. -/
import Derived.Test.YtdgnojjemlfhdaaFC3
import Derived.Test.YtdgnojjemlfhdaaFL1
namespace Go.Proofs.Ytdgnojjemlfhdaa.V
open Go Go.RowKit
set_option linter.unusedVariables false
set_option linter.unusedSimpArgs false
theorem formGo_ins {all : List Ins} : ∀ {m : Nat} {l : List Ins}, formGo all m l = 0 → ∀ x ∈ l, InsP x
  | _, [], _, x, hx => by simp at hx
  | m, y :: l, h, x, hx => by
    simp only [formGo] at h
    split at h
    · simp at h
    · rename_i hy
      split at h
      · simp at h
      · rcases List.mem_cons.1 hx with rfl | hx
        · exact Classical.not_not.1 hy
        · exact formGo_ins h x hx
theorem formP_ins {l : List Ins} (h : formP l = 0) {x : Ins} (hx : x ∈ l) : InsP x := formGo_ins h x hx
/-- What both sides answer. -/
def flowNext (l : List Ins) (i : Int) : List Int :=
  if formP l ≠ 0 ∨ ¬ (0 ≤ i ∧ i ≤ (l.length : Int) - 1) then [] else match l[i.toNat]? with | some x => nextX i x | none => []
section
variable {w : World} {s : Sl} {l : List Ins}
theorem spec.FlowNext.c {i : Int} {K : Sl → World → Prop} (h : SlR kIns w s l) (hl : l.length ≤ 1048576)
    (hk : ∀ r w', Below w.heap.size w w' → WrS kI 3 w.heap.size w' r (flowNext l i) → K r w') : CallT (.o (.lf .sl)) P0 31 [s.v, .int .i64 i] w K := by
  have hn := h.len
  refine spec.FlowNext.ok (spec.l12Fine.c h hl fun w1 hb1 => ?_)
  refine And.intro (fun hq => ?_) (fun hq => ?_)
  · simp at hq
    exact hk _ _ hb1 (by unfold flowNext; rw [if_pos (.inl hq)]; exact WrS.nil _ _ _ _)
  · simp at hq
    simp (disch := omega) only [i64_of]
    refine spec.l1In.c ?_
    refine And.intro (fun hr => ?_) (fun hr => ?_)
    · simp only [Bool.not_eq_true', decide_eq_false_iff_not] at hr
      exact hk _ _ hb1 (by unfold flowNext; rw [if_pos (.inr (by omega))]; exact WrS.nil _ _ _ _)
    · simp only [Bool.not_eq_false', decide_eq_true_eq] at hr
      obtain ⟨x, hx⟩ := get_some (l := l) (k := i.toNat) (by omega)
      have hp := formP_ins hq (List.mem_of_getElem? hx)
      refine spec.l12Next.c (h.below hb1) hr.1 hx hl hp.2.2.1 fun r w2 hb2 hr2 => ?_
      refine hk _ _ (hb1.trans (hb2.mono hb1.size)) ?_
      unfold flowNext
      rw [if_neg (by simp [hq]; omega), hx]
      exact hr2.low hb1.size
theorem impl.FlowNext.c {i : Int} {K : Sl → World → Prop} (h : SlR kIns w s l) (hl : l.length ≤ 1048576)
    (hk : ∀ r w', Below w.heap.size w w' → WrS kI 3 w.heap.size w' r (flowNext l i) → K r w') : CallT (.o (.lf .sl)) P0 32 [s.v, .int .i64 i] w K := by
  have hn := h.len
  refine impl.FlowNext.ok (impl.ProgForm.c h hl fun w1 hb1 => ?_)
  refine And.intro (fun hq => ?_) (fun hq => ?_)
  · simp at hq
    exact hk _ _ hb1 (by unfold flowNext; rw [if_pos (.inl hq)]; exact WrS.nil _ _ _ _)
  · simp at hq
    simp (disch := omega) only [i64_of]
    refine impl.within.c ?_
    refine And.intro (fun hr => ?_) (fun hr => ?_)
    · simp only [Bool.not_eq_true', decide_eq_false_iff_not] at hr
      exact hk _ _ hb1 (by unfold flowNext; rw [if_pos (.inr (by omega))]; exact WrS.nil _ _ _ _)
    · simp only [Bool.not_eq_false', decide_eq_true_eq] at hr
      obtain ⟨x, hx⟩ := get_some (l := l) (k := i.toNat) (by omega)
      have hp := formP_ins hq (List.mem_of_getElem? hx)
      refine impl.ahead.c (h.below hb1) hr.1 hx hl hp.2.2.1 fun r w2 hb2 hr2 => ?_
      refine hk _ _ (hb1.trans (hb2.mono hb1.size)) ?_
      unfold flowNext
      rw [if_neg (by simp [hq]; omega), hx]
      exact hr2.low hb1.size
theorem nextX_length (i : Int) (x : Ins) : (nextX i x).length ≤ 2 := by unfold nextX; split <;> (try split) <;> (try split) <;> (try split) <;> (try split) <;> simp
theorem flowNext_length (l : List Ins) (i : Int) : (flowNext l i).length ≤ 2 := by
  unfold flowNext
  split
  · simp
  · split
    · exact nextX_length _ _
    · simp
end
end Go.Proofs.Ytdgnojjemlfhdaa.V
