/- The law FlowBack: each op that leads to itself leads to one that does. No condition. -/
import Derived.Test.YtdgnojjemlfhdaaFM
namespace Go.Proofs.Ytdgnojjemlfhdaa.V
open Go Go.RowKit
set_option linter.unusedVariables false
open Classical in
theorem mem_flowRound {l : List Ins} {x : Int} : x ∈ flowRound l ↔ formP l = 0 ∧ Rch l x ∧ Pth l (-1) x x := by
  unfold flowRound
  split
  · rename_i h; simp [h]
  · rename_i h
    have hq : formP l = 0 := Classical.not_not.1 h
    rw [mem_picks]
    constructor
    · rintro ⟨i, rfl, _, hi⟩; simp only [decide_eq_true_eq] at hi; exact ⟨hq, hi⟩
    · rintro ⟨_, h1, h2⟩
      have := h1.rng hq
      exact ⟨x.toNat, by omega, by omega, by rw [decide_eq_true_eq, show ((x.toNat : Nat) : Int) = x by omega]; exact ⟨h1, h2⟩⟩
open Classical in
theorem mem_flowReach {l : List Ins} {x : Int} : x ∈ flowReach l ↔ formP l = 0 ∧ Rch l x := by
  unfold flowReach
  split
  · rename_i h; simp [h]
  · rename_i h
    have hq : formP l = 0 := Classical.not_not.1 h
    rw [mem_picks]
    constructor
    · rintro ⟨i, rfl, _, hi⟩; simp only [decide_eq_true_eq] at hi; exact ⟨hq, hi⟩
    · rintro ⟨_, h1⟩
      have := h1.rng hq
      exact ⟨x.toNat, by omega, by omega, by rw [decide_eq_true_eq, show ((x.toNat : Nat) : Int) = x by omega]; exact h1⟩
theorem Rch.step {l : List Ins} {x y : Int} (h : Rch l x) (hs : Step l (-1) x y) : Rch l y := by
  rcases h with rfl | h
  · exact .inr (.one hs)
  · exact .inr (.more h hs)
theorem round_next {l : List Ins} {x : Int} (h : x ∈ flowRound l) : ∃ y, y ∈ flowNext l x ∧ y ∈ flowRound l := by
  obtain ⟨hq, hr, hp⟩ := mem_flowRound.1 h
  obtain ⟨y, hs, hy⟩ := hp.head
  have hx := hr.rng hq
  refine ⟨y, ?_, mem_flowRound.2 ⟨hq, hr.step hs, ?_⟩⟩
  · obtain ⟨i, h0, h1, h2, _⟩ := hs
    unfold flowNext
    rw [if_neg (by simp [hq]; omega), h1]
    exact h2
  · rcases hy with rfl | hy
    · exact hp
    · exact .more hy hs
theorem laws.FnFlowBack.pure {w : World} (s : Sl) (bs : List Int) (h : SlR kU8 w s bs ∧ ∀ x ∈ bs, (Lit.int .u8 x).wf = true) :
    CallT (.o (.lf .b)) P0 14 [s.v] w fun b w' => b = true ∧ Below w.heap.size w w' := by
  refine laws.FnFlowBack.ok (And.intro (fun _ => ⟨rfl, Below.refl _ _⟩) (fun _ => ?_))
  refine spec.DrawFlowRound.c h.1 (u8_all h.2) fun r w1 l b1 hr hl => ?_
  have hrn := hr.len
  refine impl.FlowRound.c hr (by omega) fun q w2 b2' hq2 => ?_
  have b2 := b1.trans (b2'.mono b1.size)
  have hr2 := hr.below b2'
  refine spec.FlowRound.c hr2 (by omega) fun q2 w3 b3' hq3 => ?_
  refine laws.sgInts.c (hq2.below b3').read hq3.read fun w4 b4' => ?_
  have b24 := b3'.trans (b4'.mono b3'.size)
  have b4 := b2.trans (b24.mono b2.size)
  have hr4 := hr2.below b24
  refine And.intro (fun hc => by simp at hc) (fun _ => ?_)
  refine impl.FlowReach.c hr4 (by omega) fun p w5 b5' hp5 => ?_
  have b5 := b4.trans (b5'.mono b4.size)
  have hr5 := hr4.below b5'
  have hq5 := (hq2.below b24).below b5'
  have hqn := hq5.len
  have hqm := flowRound_length l
  refine ⟨fun c w' => ∃ n : Nat, c = n ∧ n ≤ (flowRound l).length ∧ Below w5.heap.size w5 w', fun c _ => (flowRound l).length - c.toNat, ⟨0, rfl, by omega, Below.refl _ _⟩, ?_⟩
  rintro c w6 ⟨n, rfl, hn, b6'⟩ _
  have hr6 := hr5.below b6'
  have hq6 := hq5.below b6'
  have hp6 := hp5.below b6'
  have b6 := b5.trans (b6'.mono b5.size)
  refine And.intro (fun hlt => ?_) (fun _ => ⟨rfl, b6⟩)
  simp only [decide_eq_true_eq] at hlt
  obtain ⟨x, hx⟩ := get_some (l := flowRound l) (k := n) (by omega)
  have hxm := List.mem_of_getElem? hx
  refine ixL hq6.read (i := n) (by omega) (x := x) (by simpa using hx) rfl (l := .i .i64) (v := x) rfl ?_
  refine impl.FlowNext.c (i := x) hr6 (by omega) fun u w7 b7' hu => ?_
  have b57 := b6'.trans (b7'.mono b6'.size)
  have hun := hu.len
  have hle := flowNext_length l x
  have hq7 := hq6.below b7'
  refine ⟨fun is k w' => ∃ m : Nat, k = m ∧ m ≤ (flowNext l x).length ∧ w' = w7 ∧ (is = true ∨ ∀ y ∈ (flowNext l x).take m, y ∉ flowRound l), fun _ k _ => (flowNext l x).length - k.toNat, ⟨0, rfl, by omega, rfl, by simp⟩, ?_⟩
  rintro is k w8 ⟨m, rfl, hm, rfl, his⟩ _
  rw [i64_of (n := (m : Int) + 1) (by omega) (by omega), i64_of (n := (n : Int) + 1) (by omega) (by omega)]
  refine And.intro (fun hlt2 => ?_) (fun hge2 => ?_)
  · simp only [decide_eq_true_eq] at hlt2
    obtain ⟨y, hy⟩ := get_some (l := flowNext l x) (k := m) (by omega)
    refine And.intro (fun _ => ⟨⟨m + 1, by omega, by omega, rfl, .inl rfl⟩, by simp only; omega⟩) (fun hf => ?_)
    subst hf
    refine ixL hu.read (i := m) (by omega) (x := y) (by simpa using hy) rfl (l := .i .i64) (v := y) rfl ?_
    refine laws.sgIn.c hq7.read ?_
    rintro w9 rfl
    refine ⟨⟨m + 1, by omega, by omega, rfl, ?_⟩, by simp only; omega⟩
    by_cases hyr : y ∈ flowRound l
    · left; simpa using hyr
    · right
      intro z hz
      rw [List.take_add_one, hy] at hz
      rcases List.mem_append.1 hz with h1 | h1
      · rcases his with h2 | h2
        · simp at h2
        · exact h2 z h1
      · simp at h1; subst h1; exact hyr
  · simp only [decide_eq_false_iff_not] at hge2
    obtain rfl : m = (flowNext l x).length := by omega
    rw [List.take_length] at his
    obtain ⟨y, hy1, hy2⟩ := round_next hxm
    refine And.intro (fun hc => ?_) (fun _ => ?_)
    · rcases his with h2 | h2
      · simp [h2] at hc
      · exact absurd hy2 (h2 y hy1)
    · refine ixL hq7.read (i := n) (by omega) (x := x) (by simpa using hx) rfl (l := .i .i64) (v := x) rfl ?_
      refine laws.sgIn.c (hp6.below b7').read ?_
      rintro w9 rfl
      refine And.intro (fun hc => ?_) (fun _ => ⟨⟨n + 1, by omega, by omega, b57⟩, by simp only; omega⟩)
      simp only [Bool.not_eq_true', decide_eq_false_iff_not] at hc
      obtain ⟨hq, hrx, _⟩ := mem_flowRound.1 hxm
      exact absurd (mem_flowReach.2 ⟨hq, hrx⟩) hc
end Go.Proofs.Ytdgnojjemlfhdaa.V
