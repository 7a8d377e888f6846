/- The law FlowNext: an op leads to no more than two places, all of the program, ascending; an exit to none. No condition. -/
import Derived.Test.YtdgnojjemlfhdaaFM
namespace Go.Proofs.Ytdgnojjemlfhdaa.V
open Go Go.RowKit
set_option linter.unusedVariables false
theorem nextX_asc (i : Int) (x : Ins) : (nextX i x).Pairwise (· < ·) := by
  unfold nextX tgt
  split
  · simp
  · split
    · simp
    · split
      · split
        · simp
        · split <;> simp <;> omega
      · simp
theorem nextX_nil (i : Int) (x : Ins) : nextX i x = [] ↔ x.op = 20 := by
  unfold nextX
  split
  · simp_all
  · split
    · simp_all
    · split
      · split
        · simp_all
        · split <;> simp_all
      · simp_all
theorem flowNext_get {l : List Ins} {i : Int} (hq : formP l = 0) (h0 : 0 ≤ i) (h1 : i < l.length) : ∃ x, l[i.toNat]? = some x ∧ flowNext l i = nextX i x := by
  obtain ⟨x, hx⟩ := get_some (l := l) (k := i.toNat) (by omega)
  refine ⟨x, hx, ?_⟩
  unfold flowNext
  rw [if_neg (by simp [hq]; omega), hx]
theorem laws.FnFlowNext.pure {w : World} (s : Sl) (bs : List Int) (h : SlR kU8 w s bs ∧ ∀ x ∈ bs, (Lit.int .u8 x).wf = true) :
    CallT (.o (.lf .b)) P0 11 [s.v] w fun b w' => b = true ∧ Below w.heap.size w w' := by
  refine laws.FnFlowNext.ok (And.intro (fun _ => ⟨rfl, Below.refl _ _⟩) (fun _ => ?_))
  refine spec.DrawFlowNext.c h.1 (u8_all h.2) fun r i w1 l b1 hr hl hi => ?_
  have hrn := hr.len
  refine impl.FlowNext.c (i := i) hr (by omega) fun q w2 b2' hq2 => ?_
  have b2 := b1.trans (b2'.mono b1.size)
  have hqn := hq2.len
  have hr2 := hr.below b2'
  refine ⟨fun b w' => Below w.heap.size w w' ∧ Below w2.heap.size w2 w' ∧ (b = false → formP l = 0 ∧ 0 ≤ i ∧ i < l.length), ?_, ?_⟩
  · refine spec.FlowNext.c (i := i) hr2 (by omega) fun q2 w3 b3' hq3 => ?_
    refine laws.sgInts.c (hq2.below b3').read hq3.read fun w4 b4' => ?_
    have b24 := b3'.trans (b4'.mono b3'.size)
    refine And.intro (fun hc => by simp at hc) (fun _ => ?_)
    refine impl.ProgForm.c (hr2.below b24) (by omega) fun w5 b5' => ?_
    have b25 := b24.trans (b5'.mono b24.size)
    have b5 := b2.trans (b25.mono b2.size)
    refine And.intro (fun _ => ⟨b5, b25, by simp⟩) (fun hf => And.intro (fun _ => ⟨b5, b25, by simp⟩) (fun h0 => ⟨b5, b25, fun hge => ?_⟩))
    simp only [bne_eq_false_iff_eq, decide_eq_false_iff_not] at hf h0 hge
    exact ⟨hf, by omega, by omega⟩
  · rintro b w5 ⟨b5, b25, hb⟩ _
    have hr5 := hr2.below b25
    have hq5 := hq2.below b25
    refine And.intro (fun _ => ?_) (fun hbf => ?_)
    · refine spec.FlowNext.c (i := i) hr5 (by omega) fun q2 w6 b6' hq6 => ?_
      refine laws.sgInts.c (hq5.below b6').read hq6.read fun w7 b7' => ?_
      exact ⟨by simp, b5.trans ((b6'.trans (b7'.mono b6'.size)).mono b5.size)⟩
    · obtain ⟨hf, h0, h1⟩ := hb hbf
      obtain ⟨x, hx, hnx⟩ := flowNext_get hf h0 h1
      have hin : ∀ y ∈ flowNext l i, 0 ≤ y ∧ y < l.length := fun y hy => by
        rw [hnx] at hy
        have := nextX_in hf hx (y := y)
        rw [show ((i.toNat : Nat) : Int) = i by omega] at this
        exact this hy
      have hasc : (flowNext l i).Pairwise (· < ·) := by rw [hnx]; exact nextX_asc i x
      have hle := flowNext_length l i
      refine ⟨fun k w' => ∃ n : Nat, k = n ∧ n ≤ (flowNext l i).length ∧ Below w5.heap.size w5 w', fun k _ => (flowNext l i).length - k.toNat, ⟨0, rfl, by omega, Below.refl _ _⟩, ?_⟩
      rintro k w6 ⟨n, rfl, hn, b6'⟩ _
      have hq6 := hq5.below b6'
      have b6 := b5.trans (b6'.mono b5.size)
      refine And.intro (fun hlt => ?_) (fun hge => ?_)
      · simp only [decide_eq_true_eq] at hlt
        obtain ⟨y, hy⟩ := get_some (l := flowNext l i) (k := n) (by omega)
        have hyr := hin y (List.mem_of_getElem? hy)
        refine qixL hq6.read (i := n) (by omega) (x := y) (by simpa using hy) rfl (l := .i .i64) (v := y) rfl ?_
        refine And.intro (fun hc => by simp only [decide_eq_true_eq] at hc; omega) (fun _ => ?_)
        refine qixL hq6.read (i := n) (by omega) (x := y) (by simpa using hy) rfl (l := .i .i64) (v := y) rfl ?_
        refine And.intro (fun hc => by simp only [decide_eq_true_eq] at hc; omega) (fun _ => ?_)
        have next : ∀ w7, Below w6.heap.size w6 w7 → (∃ m : Nat, IntKind.wrap .i64 ((n : Int) + 1) = m ∧ m ≤ (flowNext l i).length ∧ Below w5.heap.size w5 w7) ∧ (flowNext l i).length - (IntKind.wrap .i64 ((n : Int) + 1)).toNat < (flowNext l i).length - ((n : Nat) : Int).toNat := fun w7 b7' => by
          rw [i64_of (by omega) (by omega)]
          exact ⟨⟨n + 1, by omega, by omega, b6'.trans (b7'.mono b6'.size)⟩, by omega⟩
        refine And.intro (fun hpos => ?_) (fun _ w7 b7' => next w7 b7')
        simp only [decide_eq_true_eq] at hpos
        obtain ⟨z, hz⟩ := get_some (l := flowNext l i) (k := n - 1) (by omega)
        refine qixL hq6.read (i := n) (by omega) (x := y) (by simpa using hy) rfl (l := .i .i64) (v := y) rfl ?_
        rw [i64_of (n := (n : Int) - 1) (by omega) (by omega)]
        refine qixL hq6.read (i := (n : Int) - 1) (by omega) (x := z) (by rw [show ((n : Int) - 1).toNat = n - 1 by omega]; exact hz) rfl (l := .i .i64) (v := z) rfl ?_
        intro w7 b7'
        have hzy : z < y := by
          rw [List.pairwise_iff_getElem] at hasc
          obtain ⟨hz1, hz2⟩ := List.getElem?_eq_some_iff.1 hz
          obtain ⟨hy1, hy2⟩ := List.getElem?_eq_some_iff.1 hy
          have := hasc (n - 1) n hz1 hy1 (by omega)
          rwa [hz2, hy2] at this
        refine And.intro (fun hc => by simp only [decide_eq_true_eq] at hc; omega) (fun _ => next w7 b7')
      · refine And.intro (fun _ => ?_) (fun hc => by simp only [decide_eq_false_iff_not] at hc; omega)
        refine ixF (hr5.below b6') h0 hx rfl (v := x.op) rfl ⟨?_, b6⟩
        have h3 := nextX_nil i x
        rw [← hnx] at h3
        by_cases h20 : x.op = 20
        · have := h3.2 h20
          rw [this] at hqn
          simp [h20, hqn]
        · have : flowNext l i ≠ [] := fun e => h20 (h3.1 e)
          have := List.length_pos_iff.2 this
          have e1 : (((q.n : Nat) : Int) == 0) = false := by rw [beq_eq_false_iff_ne]; omega
          have e2 : (x.op == 20) = false := by rw [beq_eq_false_iff_ne]; exact h20
          rw [e1, e2]; rfl
end Go.Proofs.Ytdgnojjemlfhdaa.V
