/- Results in new memory: read, written; Compact, Clip. -/
import Derived.Test.YtdgnojjemlfhdaaVS
namespace Go.Proofs.Ytdgnojjemlfhdaa.V
open Go Go.RowKit Go.Sort
set_option linter.unusedSimpArgs false

/-- A slice over new memory (from block B on): it reads as a list, and may be written. -/
def WrS {α : Type} (k : Kd α) (t : TypeId) (B : Nat) (w : World) (s : Sl) (xs : List α) : Prop :=
  s.n = xs.length ∧ s.n ≤ s.c ∧ s.c ≤ maxLen ∧ ((s.a = none ∧ xs = []) ∨ ∃ b o cur, s.a = some ⟨b, o, none⟩ ∧ B ≤ b ∧ w.heap[b]? = some (.cells cur t (0, 0)) ∧ ∀ i x, xs[i]? = some x → ∀ j v, (k.cells x)[j]? = some v → cur[o + i * k.ls.length + j]? = some v)
def Sl.bk (s : Sl) : Option Nat := s.a.map (·.block)
section
variable {α : Type} {k : Kd α} {t : TypeId} {B : Nat} {w : World} {s : Sl} {xs : List α}
theorem OwnS.wr (h : OwnS k t B w s xs) : WrS k t B w s xs := by
  refine ⟨h.1, h.cap.1, h.cap.2, ?_⟩
  rcases h.2.2 with ⟨hv, hn⟩ | ⟨g, cap, cur, hv, hB, hg, hnc, hcm, hcs, ht⟩
  · simp only [Value.slice.injEq] at hv
    exact .inl ⟨hv.1, List.eq_nil_of_length_eq_zero (by rw [← h.1]; exact hn)⟩
  · simp only [Value.slice.injEq] at hv
    refine .inr ⟨g, 0, cur, hv.1, hB, hg, fun i x hi j v hm => ?_⟩
    have hm := flat_get k xs i x hi j v hm
    rw [← ht, List.getElem?_take] at hm
    split at hm
    · simpa using hm
    · simp at hm
theorem WrS.read (h : WrS k t B w s xs) : SlR k w s xs := by
  refine ⟨h.1, h.2.1, h.2.2.1, ?_⟩
  rcases h.2.2.2 with h0 | ⟨b, o, cur, ha, hB, hg, hc⟩
  · exact .inl h0.2
  · refine .inr ⟨b, o, ha, fun i x hi j v hj => ?_⟩
    rw [cell_of hg]
    exact hc i x hi j v hj
theorem WrS.len (h : WrS k t B w s xs) : s.n = xs.length := h.1
theorem WrS.blk (h : WrS k t B w s xs) {b : Nat} (hb : s.bk = some b) : B ≤ b ∧ b < w.heap.size := by
  rcases h.2.2.2 with h0 | ⟨b', o, cur, ha, hB, hg, hc⟩
  · simp [Sl.bk, h0.1] at hb
  · simp only [Sl.bk, ha, Option.map_some, Option.some.injEq] at hb
    subst hb
    exact ⟨hB, (Array.getElem?_eq_some_iff.1 hg).1⟩
theorem WrS.kept {w' : World} {row : Option Nat} (h : WrS k t B w s xs) (hg : w.grownBy w' row) (hne : ∀ b, row = some b → s.bk ≠ some b) : WrS k t B w' s xs := by
  refine ⟨h.1, h.2.1, h.2.2.1, ?_⟩
  rcases h.2.2.2 with h0 | ⟨b, o, cur, ha, hB, hgb, hc⟩
  · exact .inl h0
  · exact .inr ⟨b, o, cur, ha, hB, by rw [hg.block b (Array.getElem?_eq_some_iff.1 hgb).1 (fun e => by have := hne b e.symm; simp [Sl.bk, ha] at this)]; exact hgb, hc⟩
theorem WrS.below {w' : World} (h : WrS k t B w s xs) (hb : Below w.heap.size w w') : WrS k t B w' s xs := h.kept (grown_of_below hb) (by simp)
theorem WrS.low {B' : Nat} (h : WrS k t B w s xs) (hB : B' ≤ B) : WrS k t B' w s xs := by
  refine ⟨h.1, h.2.1, h.2.2.1, ?_⟩
  rcases h.2.2.2 with h0 | ⟨b, o, cur, ha, hb, r⟩
  · exact .inl h0
  · exact .inr ⟨b, o, cur, ha, Nat.le_trans hB hb, r⟩
theorem WrS.nil (k : Kd α) (t : TypeId) (B : Nat) (w : World) : WrS k t B w ⟨none, 0, 0⟩ [] := (OwnS.nil k t B w).wr
theorem ob_bk (s : Sl) : (Value.slice s.a s.n s.c).ownBlock = s.bk := by cases h : s.a <;> simp [Value.ownBlock, Sl.bk, h]
/-- A readable slice stays readable behind a write elsewhere. -/
theorem SlR.kept2 {w' : World} {row : Option Nat} (h : SlR k w s xs) (hg : w.grownBy w' row) (hb : ∀ b o, s.a = some ⟨b, o, none⟩ → row ≠ some b) : SlR k w' s xs := by
  refine ⟨h.1, h.2.1, h.2.2.1, ?_⟩
  rcases h.2.2.2 with h0 | ⟨b', o, ha, hx⟩
  · exact .inl h0
  · refine .inr ⟨b', o, ha, fun i x hi m v hv => ?_⟩
    have hc := hx i x hi m v hv
    have hlt := World.block_lt_of_cell? w _ hc
    have := hg.block b' hlt (fun e => hb b' o ha e.symm)
    unfold World.cell? at hc ⊢
    simp only at hc ⊢
    rw [this]; exact hc
theorem run_clip {P : Program} {tS e : TypeId} (hu : P.underlying tS = some (.slice e)) {sz : Nat} (hs : szOf P e = some sz) (hc : s.n ≤ s.c) :
    (Instr.sliceAt tS s.v none (some (.int .i64 (s.n : Int))) (some (.int .i64 (s.n : Int)))).run P w = .ok (.slice s.a s.n s.n) w := by
  have hmap : s.a.map (fun x => x.add 0) = s.a := by cases s.a <;> simp [Addr.add]
  have h1 : ((s.n : Int) ≤ (s.c : Int)) := by omega
  simp [Instr.sliceAt, Instr.slice, Sl.v, underlying, hu, Instr.sliceBounds, Instr.sliceBound, asIntOf, run_sizeOf hs, h1, hc, hmap]
end
theorem own_cut {B : Nat} {w : World} {s : Sl} {xs ys : List Int} {t : TypeId} (h : OwnS kI t B w s (xs ++ ys)) {b : Nat} (hb : s.a = some ⟨b, 0, none⟩) : OwnS kI t B w ⟨s.a, xs.length, s.c⟩ xs := by
  refine ⟨rfl, by rw [flat_length], ?_⟩
  rcases h.2.2 with ⟨hv, _⟩ | ⟨g, cap, cur, hv, hB, hg, hnc, hcm, hcs, ht⟩
  · simp only [Value.slice.injEq] at hv; rw [hb] at hv; simp at hv
  · simp only [Value.slice.injEq] at hv
    have hle : xs.length ≤ s.n := by rw [h.1]; simp
    refine .inr ⟨g, cap, cur, by rw [hv.1, hv.2.2], hB, hg, Nat.le_trans hle hnc, hcm, hcs, ?_⟩
    have := congrArg (List.take (xs.length * kI.ls.length)) ht
    rw [List.take_take, Nat.min_eq_left (Nat.mul_le_mul_right _ hle), List.flatMap_append, List.take_append_of_le_length (by rw [flat_length]; exact Nat.le_refl _)] at this
    show List.take (xs.length * kI.ls.length) _ = _
    rw [this, List.take_of_length_le (by rw [flat_length]; exact Nat.le_refl _)]
theorem compact_le (xs : List Int) : (Lib.compact xs).length ≤ xs.length := by
  unfold Lib.compact Lib.compactUpTo
  rw [List.length_map]
  exact Nat.le_trans (List.length_filter_le _ _) (by simp)
theorem grow0 (w : World) : Sort.grow w #[] = w := by cases w; simp [Sort.grow]
theorem compact_own {B : Nat} {w : World} {s : Sl} {xs : List Int} {t : TypeId} (h : OwnS kI t B w s xs) {K : Sl → World → Prop}
    (hk : ∀ s' w', OwnS kI t B w' s' (Lib.compact xs) → w.grownBy w' (Value.slice s.a s.n s.c).ownBlock → K s' w') : CallT (.o (.lf .sl)) P0 87 [.slice s.a s.n s.c] w K := by
  rcases own_cases h with ⟨rfl, rfl⟩ | ⟨b, cur, ha, hg, ht⟩
  · refine (Try.slices_Compact_int_empty none 0 w).mono ?_
    rintro e w' ⟨rfl, rfl⟩
    exact ⟨⟨none, 0, 0⟩, rfl, hk _ _ (by simpa [Lib.compact, Lib.compactUpTo] using h) ⟨rfl, rfl, rfl, Nat.le_refl _, fun _ _ _ => rfl⟩⟩
  · have hH := holds_of (xs := xs) hg (by rw [kI_flat] at ht; simpa [kI] using ht)
    have hcap := h.cap
    have hc := Try.slices_Compact_int b 0 s.c xs w hH (by have := hcap.1; have := hcap.2; have := h.1; simp only [maxLen] at *; omega) (by rw [← h.1]; exact hcap.1)
    rw [← h.1, ← ha] at hc
    refine hc.mono ?_
    rintro e w' ⟨rfl, n, hw⟩
    have hlen : (Lib.compact xs ++ List.replicate (xs.length - (Lib.compact xs).length) 0).length = xs.length := by
      have := compact_le xs; simp; omega
    obtain ⟨h1, h2⟩ := own_putRow (ys := Lib.compact xs ++ List.replicate (xs.length - (Lib.compact xs).length) 0) (os := #[]) (n := n) (w' := w') h ha hlen (by rw [hw, h.1, grow0])
    exact ⟨⟨s.a, (Lib.compact xs).length, s.c⟩, rfl, hk _ _ (own_cut h1 ha) (by rw [ha]; exact h2)⟩
theorem elI : El P0 31 3 kI 8 := ⟨by kernel_rfl, ⟨_, _, Option.eq_some_of_isSome (by kernel_rfl), Option.eq_some_of_isSome (by kernel_rfl), by kernel_rfl, by kernel_rfl, by kernel_rfl⟩, by decide, by intro l hl; simp [kI] at hl; simp [hl]⟩
theorem slices.Clip.c {w : World} {s : Sl} (hc : s.n ≤ s.c) {K : Sl → World → Prop} (hk : K ⟨s.a, s.n, s.n⟩ w) : CallT (.o (.lf .sl)) P0 86 [s.v] w K :=
  slices.Clip_int.ok ⟨⟨s.a, s.n, s.n⟩, w, run_clip (e := 3) (sz := 1) (by kernel_rfl) (by kernel_rfl) hc, hk⟩
theorem WrS.clip {B : Nat} {w : World} {s : Sl} {xs : List Int} {t : TypeId} (h : WrS kI t B w s xs) : WrS kI t B w ⟨s.a, s.n, s.n⟩ xs :=
  ⟨h.1, Nat.le_refl _, by have := h.2.1; have := h.2.2.1; simp only; omega, h.2.2.2⟩
end Go.Proofs.Ytdgnojjemlfhdaa.V
