/- The law FlowBlocks: behind an op that is not the last of its run comes the next one alone. No condition. -/
import Derived.Test.YtdgnojjemlfhdaaFM
namespace Go.Proofs.Ytdgnojjemlfhdaa.V
open Go Go.RowKit
set_option linter.unusedVariables false
theorem picks_zero {n : Nat} {f : Nat → Bool} (hn : 0 < n) (h : f 0 = true) : (picks n f)[0]? = some 0 := by
  obtain ⟨m, rfl⟩ : ∃ m, n = m + 1 := ⟨n - 1, by omega⟩
  unfold picks
  rw [List.range_succ_eq_map, List.filter_cons, if_pos h]
  rfl
theorem flowNext_at {l : List Ins} {i : Int} (hq : formP l = 0) (h0 : 0 ≤ i) (h1 : i < l.length) : ∃ x, l[i.toNat]? = some x ∧ flowNext l i = nextX i x := by
  obtain ⟨x, hx⟩ := get_some (l := l) (k := i.toNat) (by omega)
  refine ⟨x, hx, ?_⟩
  unfold flowNext
  rw [if_neg (by simp [hq]; omega), hx]
open Classical in
theorem flowBlocks_next {l : List Ins} (hq : formP l = 0) {n : Nat} (hn : n < l.length) {y : Int} (hy : y ∈ flowNext l n) : y ∈ flowBlocks l ∨ (flowNext l n = [(n : Int) + 1]) := by
  obtain ⟨x, hx, hnx⟩ := flowNext_at (i := (n : Int)) hq (by omega) (by omega)
  have hx' : l[n]? = some x := by simpa using hx
  have hyr := nextX_in hq hx' (by rw [← hnx]; exact hy)
  have mem : begins l l.length y → y ∈ flowBlocks l := fun hb => by
    unfold flowBlocks
    rw [if_neg (by simp [hq]), mem_picks]
    exact ⟨y.toNat, by omega, by omega, by rw [decide_eq_true_eq, show ((y.toNat : Nat) : Int) = y by omega]; exact hb⟩
  rw [hnx] at hy ⊢
  by_cases hg : goesP x
  · left
    refine mem (.inr ⟨n, x, hn, hx', .inl ⟨hg, ?_⟩⟩)
    unfold nextX at hy
    unfold goesP at hg
    split at hy
    · omega
    · split at hy
      · simp at hy; exact .inl hy.symm
      · split at hy
        · split at hy
          · simp at hy; exact .inr hy.symm
          · split at hy
            · simp at hy; rcases hy with h | h
              · exact .inl h.symm
              · exact .inr h.symm
            · simp at hy; rcases hy with h | h
              · exact .inr h.symm
              · exact .inl h.symm
        · omega
  · right
    unfold goesP at hg
    unfold nextX at hy ⊢
    split at hy
    · simp at hy
    · rename_i h20
      rw [if_neg h20, if_neg (by omega), if_neg (by omega)]
theorem flowBlocks_form {l : List Ins} (h : flowBlocks l ≠ []) : formP l = 0 := by
  refine Classical.byContradiction fun hq => h ?_
  unfold flowBlocks
  rw [if_pos hq]
theorem flowBlocks_zero {l : List Ins} (hq : formP l = 0) : (flowBlocks l)[0]? = some 0 := by
  have := formP_size hq
  unfold flowBlocks
  rw [if_neg (by simp [hq])]
  exact picks_zero (by omega) (by simp [begins])
theorem laws.FnFlowBlocks.pure {w : World} (s : Sl) (bs : List Int) (h : SlR kU8 w s bs ∧ ∀ x ∈ bs, (Lit.int .u8 x).wf = true) :
    CallT (.o (.lf .b)) P0 13 [s.v] w fun b w' => b = true ∧ Below w.heap.size w w' := by
  refine laws.FnFlowBlocks.ok (And.intro (fun _ => ⟨rfl, Below.refl _ _⟩) (fun _ => ?_))
  refine spec.DrawFlowBlocks.c h.1 (u8_all h.2) fun r w1 l b1 hr hl => ?_
  have hrn := hr.len
  refine impl.FlowBlocks.c hr (by omega) fun q w2 b2' hq2 => ?_
  have b2 := b1.trans (b2'.mono b1.size)
  have hqn := hq2.len
  have hr2 := hr.below b2'
  refine ⟨fun w' => Below w.heap.size w w' ∧ Below w2.heap.size w2 w' ∧ flowBlocks l ≠ [], ?_, ?_⟩
  · refine spec.FlowBlocks.c hr2 (by omega) fun q2 w3 b3' hq3 => ?_
    refine laws.sgInts.c (hq2.below b3').read hq3.read fun w4 b4' => ?_
    have b24 := b3'.trans (b4'.mono b3'.size)
    have b4 := b2.trans (b24.mono b2.size)
    refine And.intro (fun hc => by simp at hc) (fun _ => And.intro (fun _ => ?_) (fun hne => ?_))
    · refine spec.FlowBlocks.c (hr2.below b24) (by omega) fun q4 w5 b5' hq5 => ?_
      have b25 := b24.trans (b5'.mono b24.size)
      refine laws.sgInts.c (hq2.below b25).read hq5.read fun w6 b6' => ⟨by simp, b2.trans ((b25.trans (b6'.mono b25.size)).mono b2.size)⟩
    · refine ⟨b4, b24, fun e => ?_⟩
      rw [e] at hqn
      simp [hqn] at hne
  · rintro w5 ⟨b5, b25, hne⟩ _
    have hq := flowBlocks_form hne
    have hz := flowBlocks_zero hq
    have hr5 := hr2.below b25
    have hq5 := hq2.below b25
    refine ⟨fun c w' => ∃ n : Nat, c = n ∧ n ≤ l.length ∧ Below w5.heap.size w5 w', fun c _ => l.length - c.toNat, ⟨0, rfl, by omega, Below.refl _ _⟩, ?_⟩
    rintro c w6 ⟨n, rfl, hn, b6'⟩ _
    have hr6 := hr5.below b6'
    have hq6 := hq5.below b6'
    have b6 := b5.trans (b6'.mono b5.size)
    refine And.intro (fun hlt => ?_) (fun _ => ?_)
    · simp only [decide_eq_true_eq] at hlt
      refine impl.FlowNext.c (i := (n : Int)) hr6 (by omega) fun u w7 b7' hu => ?_
      have b57 := b6'.trans (b7'.mono b6'.size)
      have hun := hu.len
      have hle := flowNext_length l n
      have hq7 := hq6.below b7'
      rw [i64_of (n := (n : Int) + 1) (by omega) (by omega)]
      refine ⟨fun k w' => ∃ m : Nat, k = m ∧ m ≤ (flowNext l n).length ∧ w' = w7, fun k _ => (flowNext l n).length - k.toNat, ⟨0, rfl, by omega, rfl⟩, ?_⟩
      rintro k w8 ⟨m, rfl, hm, rfl⟩ _
      refine And.intro (fun hlt2 => ?_) (fun _ => ⟨⟨n + 1, by omega, by omega, b57⟩, by simp only; omega⟩)
      simp only [decide_eq_true_eq] at hlt2
      obtain ⟨y, hy⟩ := get_some (l := flowNext l n) (k := m) (by omega)
      rw [i64_of (n := (m : Int) + 1) (by omega) (by omega)]
      refine ixL hu.read (i := m) (by omega) (x := y) (by simpa using hy) rfl (l := .i .i64) (v := y) rfl ?_
      have next : (∃ m' : Nat, (m : Int) + 1 = m' ∧ m' ≤ (flowNext l n).length ∧ w8 = w8) ∧ (flowNext l n).length - ((m : Int) + 1).toNat < (flowNext l n).length - ((m : Nat) : Int).toNat := ⟨⟨m + 1, by omega, by omega, rfl⟩, by omega⟩
      refine laws.sgIn.c hq7.read ?_
      rintro w9 rfl
      refine And.intro (fun hno => ?_) (fun _ => next)
      simp only [Bool.not_eq_true', decide_eq_false_iff_not] at hno
      rcases flowBlocks_next hq (n := n) (by omega) (List.mem_of_getElem? hy) with h1 | h1
      · exact absurd h1 hno
      · rw [h1] at hun
        simp only [List.length_cons, List.length_nil] at hun
        refine And.intro (fun hc => by simp [hun] at hc) (fun _ => ?_)
        refine ixL hu.read (i := m) (by omega) (x := y) (by simpa using hy) rfl (l := .i .i64) (v := y) rfl ?_
        have hyv : y = (n : Int) + 1 := by
          rw [h1] at hy
          have hm0 := lt_of_get hy
          simp only [List.length_cons, List.length_nil] at hm0
          obtain rfl : m = 0 := by omega
          simpa using hy.symm
        refine And.intro (fun hc => by simp [hyv] at hc) (fun _ => next)
    · exact ixL hq6.read (i := 0) (by omega) (x := 0) (by simpa using hz) rfl (l := .i .i64) (v := 0) rfl ⟨rfl, b6⟩
end Go.Proofs.Ytdgnojjemlfhdaa.V
