/- The law FlowOrder: what is ahead of what is ahead is ahead; not both ways, unless they are one. No condition. -/
import Derived.Test.YtdgnojjemlfhdaaFM
namespace Go.Proofs.Ytdgnojjemlfhdaa.V
open Go Go.RowKit
set_option linter.unusedVariables false
theorem Pth.split {l : List Ins} {c b : Int} (a : Int) (h : Pth l c 0 b) : Pth l a 0 b ∨ Pth l c 0 a := by
  induction h with
  | @one y h =>
    by_cases e : y = a
    · right; exact .one (e ▸ h)
    · left
      obtain ⟨i, h1, h2, h3, _⟩ := h
      exact .one ⟨i, h1, h2, h3, e⟩
  | @more x y h1 h2 ih =>
    rcases ih with ih | ih
    · by_cases e : y = a
      · right; exact .more h1 (e ▸ h2)
      · left
        obtain ⟨i, g1, g2, g3, _⟩ := h2
        exact .more ih ⟨i, g1, g2, g3, e⟩
    · exact .inr ih
theorem Pth.but {l : List Ins} {a b : Int} (h : Pth l a 0 b) : b ≠ a := by
  cases h with
  | one h => obtain ⟨_, _, _, _, h⟩ := h; exact h
  | more _ h => obtain ⟨_, _, _, _, h⟩ := h; exact h
theorem Ahead.trans {l : List Ins} {a b c : Int} (h1 : Ahead l c a) (h2 : Ahead l a b) : Ahead l c b := by
  obtain ⟨hq, hc, ha, h3⟩ := h1
  obtain ⟨_, _, hb, h4⟩ := h2
  refine ⟨hq, hc, hb, ?_⟩
  refine Classical.byContradiction fun hn => ?_
  rw [not_or, not_or, Classical.not_not] at hn
  obtain ⟨n1, n2, n3⟩ := hn
  rcases h3 with rfl | rfl | h3
  · rcases h4 with h | h | h
    · exact n1 h
    · exact n2 h
    · exact h n3
  · exact n2 rfl
  · simp only [not_or] at h3
    rcases h4 with rfl | h | h
    · rcases n3 with h | h
      · exact h3.1 h
      · exact h3.2 h
    · exact h3.1 h
    · simp only [not_or] at h
      rcases n3 with h5 | h5
      · exact h.1 h5
      · rcases h5.split a with h6 | h6
        · exact h.2 h6
        · exact h3.2 h6
theorem Pth.first {l : List Ins} {a b x : Int} (hab : a ≠ b) (h : Pth l (-1) 0 x) : (Pth l a 0 x ∧ Pth l b 0 x) ∨ Pth l b 0 a ∨ Pth l a 0 b := by
  induction h with
  | @one y h =>
    obtain ⟨i, h1, h2, h3, _⟩ := h
    by_cases ea : y = a
    · subst ea; exact .inr (.inl (.one ⟨i, h1, h2, h3, hab⟩))
    · by_cases eb : y = b
      · subst eb; exact .inr (.inr (.one ⟨i, h1, h2, h3, ea⟩))
      · exact .inl ⟨.one ⟨i, h1, h2, h3, ea⟩, .one ⟨i, h1, h2, h3, eb⟩⟩
  | @more x y g1 h ih =>
    rcases ih with ⟨ih1, ih2⟩ | ih
    · obtain ⟨i, h1, h2, h3, _⟩ := h
      by_cases ea : y = a
      · subst ea; exact .inr (.inl (.more ih2 ⟨i, h1, h2, h3, hab⟩))
      · by_cases eb : y = b
        · subst eb; exact .inr (.inr (.more ih1 ⟨i, h1, h2, h3, ea⟩))
        · exact .inl ⟨.more ih1 ⟨i, h1, h2, h3, ea⟩, .more ih2 ⟨i, h1, h2, h3, eb⟩⟩
    · exact .inr ih
theorem Ahead.anti {l : List Ins} {a b : Int} (h1 : Ahead l a b) (h2 : Ahead l b a) : a = b := by
  obtain ⟨hq, ha, hb, h3⟩ := h1
  obtain ⟨_, _, _, h4⟩ := h2
  refine Classical.byContradiction fun hab => ?_
  rcases h3 with h | rfl | h3
  · exact hab h
  · rcases h4 with h | h | h
    · exact hab h.symm
    · exact hab h.symm
    · exact h (.inl rfl)
  · rcases h4 with h | rfl | h4
    · exact hab h.symm
    · exact h3 (.inl rfl)
    · simp only [not_or] at h3 h4
      rcases ha with h | h
      · exact h4.1 h
      · rcases h.first (b := b) hab with h5 | h5 | h5
        · exact h5.1.but rfl
        · exact h4.2 h5
        · exact h3.2 h5
theorem wf_small {i : Int} (h : -1 ≤ i ∧ i ≤ 64) : (Lit.int .i64 i).wf = true := by
  have e1 : IntKind.i64.min = -9223372036854775808 := rfl
  have e2 : IntKind.i64.max = 9223372036854775807 := rfl
  simp only [Lit.wf, Bool.and_eq_true, decide_eq_true_eq, e1, e2]
  omega
open Classical in
theorem laws.FnFlowOrder.pure {w : World} (s : Sl) (bs : List Int) (h : SlR kU8 w s bs ∧ ∀ x ∈ bs, (Lit.int .u8 x).wf = true) :
    CallT (.o (.lf .b)) P0 12 [s.v] w fun b w' => b = true ∧ Below w.heap.size w w' := by
  refine laws.FnFlowOrder.ok (And.intro (fun _ => ⟨rfl, Below.refl _ _⟩) (fun _ => ?_))
  refine spec.DrawFlowAhead.c h.1 (u8_all h.2) fun r a b w1 l b1 hr hl ha hb => ?_
  have hrn := hr.len
  have ha' := wf_small ha
  have hb' := wf_small hb
  refine impl.FlowAhead.c (a := a) (b := b) hr (by omega) ha' hb' fun w2 b2' => ?_
  have b2 := b1.trans (b2'.mono b1.size)
  have hr2 := hr.below b2'
  refine ⟨fun w' => Below w.heap.size w w' ∧ Below w2.heap.size w2 w' ∧ Ahead l a b, ?_, ?_⟩
  · refine spec.FlowAhead.c (a := a) (b := b) hr2 (by omega) fun w3 b3' => ?_
    have b3 := b2.trans (b3'.mono b2.size)
    refine And.intro (fun hc => by simp at hc) (fun _ => And.intro (fun _ => ?_) (fun ht => ?_))
    · refine spec.FlowAhead.c (a := a) (b := b) (hr2.below b3') (by omega) fun w4 b4' => ⟨by simp, b3.trans (b4'.mono b3.size)⟩
    · simp at ht
      exact ⟨b3, b3', ht⟩
  · rintro w5 ⟨b5, b25, hab⟩ _
    have hr5 := hr2.below b25
    refine ⟨fun c w' => ∃ n : Nat, c = n ∧ n ≤ l.length ∧ Below w5.heap.size w5 w', fun c _ => l.length - c.toNat, ⟨0, rfl, by omega, Below.refl _ _⟩, ?_⟩
    rintro c w6 ⟨n, rfl, hn, b6'⟩ _
    have hr6 := hr5.below b6'
    have b6 := b5.trans (b6'.mono b5.size)
    have hnw := wf_small (i := (n : Int)) (by omega)
    refine And.intro (fun hlt => ?_) (fun hge => ?_)
    · simp only [decide_eq_true_eq] at hlt
      refine impl.FlowAhead.c (a := (n : Int)) (b := a) hr6 (by omega) hnw ha' fun w7 b7' => ?_
      have b57 := b6'.trans (b7'.mono b6'.size)
      rw [i64_of (n := (n : Int) + 1) (by omega) (by omega)]
      refine And.intro (fun hca => ?_) (fun _ => ⟨⟨n + 1, by omega, by omega, b57⟩, by simp only; omega⟩)
      simp only [decide_eq_true_eq] at hca
      refine impl.FlowAhead.c (a := (n : Int)) (b := b) (hr6.below b7') (by omega) hnw hb' fun w8 b8' => ?_
      refine And.intro (fun hc => ?_) (fun _ => ⟨⟨n + 1, by omega, by omega, b57.trans (b8'.mono b57.size)⟩, by simp only; omega⟩)
      simp at hc
      exact absurd (hca.trans hab) hc
    · refine And.intro (fun _ => ⟨rfl, b6⟩) (fun hne => ?_)
      simp only [beq_eq_false_iff_ne, ne_eq] at hne
      refine impl.FlowAhead.c (a := b) (b := a) hr6 (by omega) hb' ha' fun w7 b7' => ⟨?_, b6.trans (b7'.mono b6.size)⟩
      simp only [Bool.not_eq_true', decide_eq_false_iff_not]
      exact fun hba => hne (hab.anti hba)
end Go.Proofs.Ytdgnojjemlfhdaa.V
