/- Contracts: the places to which an op may lead. -/
import Derived.Test.YtdgnojjemlfhdaaFC2
import Derived.Test.YtdgnojjemlfhdaaVT
namespace Go.Proofs.Ytdgnojjemlfhdaa.V
open Go Go.RowKit
set_option linter.unusedVariables false
set_option linter.unusedSimpArgs false

/-- The places to which an op may lead, ascending. -/
def nextX (i : Int) (x : Ins) : List Int :=
  if x.op = 20 then [] else if x.op = 16 then [tgt i x] else if 12 ≤ x.op ∧ x.op ≤ 15 then (if x.off = 0 then [i + 1] else if x.off < 0 then [tgt i x, i + 1] else [i + 1, tgt i x]) else [i + 1]
theorem sorted2 (a b : Int) : sorted [a, b] = if a ≤ b then [a, b] else [b, a] := by
  unfold sorted
  by_cases h : a ≤ b <;> simp [List.mergeSort, List.MergeSort.Internal.splitInTwo, h, List.merge]
theorem compact2 (a b : Int) : Lib.compact [a, b] = if a = b then [a] else [a, b] := by
  by_cases h : a = b
  · subst h; simp [Lib.compact, Lib.compactUpTo, Lib.keeps, List.range_succ, List.filter]
  · have h' : b ≠ a := fun e => h e.symm
    simp [Lib.compact, Lib.compactUpTo, Lib.keeps, List.range_succ, List.filter, h, h']
section
variable {w : World} {s : Sl} {l : List Ins}
theorem spec.l12Next.c {i : Int} {x : Ins} {K : Sl → World → Prop} (h : SlR kIns w s l) (h0 : 0 ≤ i) (hx : l[i.toNat]? = some x) (hl : l.length ≤ 1048576) (ho : -128 ≤ x.off ∧ x.off ≤ 127)
    (hk : ∀ r w', Below w.heap.size w w' → WrS kI 3 w.heap.size w' r (nextX i x) → K r w') :
    CallT (.o (.lf .sl)) P0 65 [s.v, .int .i64 i] w K := by
  have hi : i.toNat < l.length := by
    rcases Nat.lt_or_ge i.toNat l.length with h1 | h1
    · exact h1
    · simp [List.getElem?_eq_none h1] at hx
  have fin : ∀ (w1 w2 : World) (cs : List Int) (n : Nat), Below w.heap.size w w1 → Below w1.heap.size w1 w2 → w2.heap[w1.heap.size]? = some (.cells (cs.map (.int .i64)).toArray 3 (0, 0)) → n = cs.length → n ≤ 2 → cs = nextX i x → K ⟨some ⟨w1.heap.size, 0, none⟩, n, n⟩ w2 := by
    intro w1 w2 cs n hb hb2 hc hn hn2 he
    refine hk _ _ (hb.trans (hb2.mono hb.size)) ?_
    rw [← he]
    exact (OwnS.lit (k := kI) hb.size hc hn (by rw [kI_flat]) (by simp only [maxLen]; omega)).wr
  refine spec.l12Next.ok (ixA h h0 hx rfl ?_)
  refine nwStIns (x := x) fun w2 hb2 hs2 hc2 => ?_
  refine ldB hc2 (x := x.op) rfl ?_
  simp (disch := omega) only [i64_of]
  refine And.intro (fun h20 => ?_) (fun h20 => ?_)
  · exact nw fun w3 hb3 hs3 hc3 => fin w2 w3 [] 0 hb2 hb3 hc3 rfl (by omega) (by simp at h20; simp [nextX, h20])
  · refine ldB hc2 (x := x.op) rfl ?_
    refine And.intro (fun h16 => ?_) (fun h16 => ?_)
    · refine ldB hc2 (x := x.off) rfl ?_
      simp (disch := omega) only [i64_of]
      exact nw fun w3 hb3 hs3 hc3 => fin w2 w3 [i + 1 + x.off] 1 hb2 hb3 hc3 rfl (by omega) (by simp at h20 h16; simp [nextX, h16, tgt])
    · refine ⟨fun b w3 => b = decide (¬ (12 ≤ x.op ∧ x.op ≤ 15) ∨ x.off = 0) ∧ w3 = w2, ?_, ?_⟩
      · refine ldB hc2 (x := x.op) rfl ?_
        refine spec.l1Jump.c ?_
        refine And.intro (fun hj => ?_) (fun hj => ?_)
        · exact ⟨by simp only [Bool.not_eq_true', decide_eq_false_iff_not] at hj; simp [hj], rfl⟩
        · refine ldB hc2 (x := x.off) rfl ?_
          exact ⟨by simp only [Bool.not_eq_false', decide_eq_true_eq] at hj; rw [Bool.eq_iff_iff]; simp [hj.1, hj.2], rfl⟩
      · rintro b w3 ⟨rfl, rfl⟩ _
        refine And.intro (fun hg => ?_) (fun hg => ?_)
        · simp only [decide_eq_true_eq] at hg
          exact nw fun w4 hb4 hs4 hc4 => fin w3 w4 [i + 1] 1 hb2 hb4 hc4 rfl (by omega) (by clear hk fin h; simp at h20 h16; grind [nextX])
        · simp only [decide_eq_false_iff_not, not_or, Decidable.not_not] at hg
          refine ldB hc2 (x := x.off) rfl ?_
          refine And.intro (fun hn => ?_) (fun hn => ?_)
          · refine ldB hc2 (x := x.off) rfl ?_
            simp (disch := omega) only [i64_of]
            exact nw fun w4 hb4 hs4 hc4 => fin w3 w4 [i + 1 + x.off, i + 1] 2 hb2 hb4 hc4 rfl (by omega) (by clear hk fin h; simp at h20 h16 hn; grind [nextX, tgt])
          · refine ldB hc2 (x := x.off) rfl ?_
            simp (disch := omega) only [i64_of]
            exact nw fun w4 hb4 hs4 hc4 => fin w3 w4 [i + 1, i + 1 + x.off] 2 hb2 hb4 hc4 rfl (by omega) (by clear hk fin h; simp at h20 h16 hn; grind [nextX, tgt])
theorem impl.ahead.c {i : Int} {x : Ins} {K : Sl → World → Prop} (h : SlR kIns w s l) (h0 : 0 ≤ i) (hx : l[i.toNat]? = some x) (hl : l.length ≤ 1048576) (ho : -128 ≤ x.off ∧ x.off ≤ 127)
    (hk : ∀ r w', Below w.heap.size w w' → WrS kI 3 w.heap.size w' r (nextX i x) → K r w') :
    CallT (.o (.lf .sl)) P0 67 [s.v, .int .i64 i] w K := by
  have hi : i.toNat < l.length := by
    rcases Nat.lt_or_ge i.toNat l.length with h1 | h1
    · exact h1
    · simp [List.getElem?_eq_none h1] at hx
  have fin : ∀ (w1 w2 : World) (cs : List Int) (n : Nat), Below w.heap.size w w1 → Below w1.heap.size w1 w2 → w2.heap[w1.heap.size]? = some (.cells (cs.map (.int .i64)).toArray 3 (0, 0)) → n = cs.length → n ≤ 2 → cs = nextX i x → K ⟨some ⟨w1.heap.size, 0, none⟩, n, n⟩ w2 := by
    intro w1 w2 cs n hb hb2 hc hn hn2 he
    refine hk _ _ (hb.trans (hb2.mono hb.size)) ?_
    rw [← he]
    exact (OwnS.lit (k := kI) hb.size hc hn (by rw [kI_flat]) (by simp only [maxLen]; omega)).wr
  refine impl.ahead.ok (ixA h h0 hx rfl ?_)
  refine nwStIns (x := x) fun w2 hb2 hs2 hc2 => ?_
  have h2 := h.below hb2
  refine ldB hc2 (x := x.op) rfl ?_
  simp (disch := omega) only [i64_of]
  refine And.intro (fun h20 => ?_) (fun h20 => ?_)
  · simp at h20
    exact hk _ _ hb2 (by simp only [nextX, h20, if_true]; exact WrS.nil _ _ _ _)
  · refine ldB hc2 (x := x.op) rfl ?_
    refine And.intro (fun h16 => ?_) (fun h16 => ?_)
    · refine impl.target.c h2 h0 hx hl ho ?_
      exact nw fun w3 hb3 hs3 hc3 => fin w2 w3 [tgt i x] 1 hb2 hb3 hc3 rfl (by omega) (by simp at h20 h16; simp [nextX, h16])
    · refine ldB hc2 (x := x.op) rfl ?_
      refine impl.kind.asks.c ?_
      refine And.intro (fun hj => ?_) (fun hj => ?_)
      · refine impl.target.c h2 h0 hx hl ho ?_
        refine nw fun w3 hb3 hs3 hc3 => ?_
        have ho3 : OwnS kI 3 w2.heap.size w3 ⟨some ⟨w2.heap.size, 0, none⟩, 2, 2⟩ [i + 1, tgt i x] := OwnS.lit (k := kI) (Nat.le_refl _) hc3 rfl rfl (by simp [maxLen])
        refine sort_own ho3 (by simp) fun w4 ho4 hg4 => ?_
        refine compact_own ho4 fun s5 w5 ho5 hg5 => ?_
        have hb3' : Below w.heap.size w w3 := hb2.trans (hb3.mono hb2.size)
        have hw4 : Below w.heap.size w w4 := hb3'.grown hg4 hb3'.size (fun b hb => by have := (ho3.blk hb).1; have := hb2.size; omega)
        have hw5 : Below w.heap.size w w5 := hw4.grown hg5 hw4.size (fun b hb => by have := (ho4.blk hb).1; have := hb2.size; omega)
        refine slices.Clip.c ho5.cap.1 ?_
        refine hk _ _ hw5 ?_
        have he : Lib.compact (sorted [i + 1, tgt i x]) = nextX i x := by
          clear hk fin h h2
          simp at h20 h16 hj
          rw [sorted2]
          split
          · rw [compact2]; grind [nextX, tgt]
          · rw [compact2]; grind [nextX, tgt]
        rw [← he]
        exact (ho5.wr.low hb2.size).clip
      · simp only [decide_eq_false_iff_not] at hj
        exact nw fun w3 hb3 hs3 hc3 => fin w2 w3 [i + 1] 1 hb2 hb3 hc3 rfl (by omega) (by clear hk fin h h2; simp at h20 h16; grind [nextX])
end
end Go.Proofs.Ytdgnojjemlfhdaa.V
