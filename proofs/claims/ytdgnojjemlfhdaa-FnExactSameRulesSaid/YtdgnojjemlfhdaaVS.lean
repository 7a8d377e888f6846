/- The library's sort, its like, over what the call owns. -/
import Derived.Test.YtdgnojjemlfhdaaVL
import Derived.Test.YtdgnojjemlfhdaaC1
import Derived.Test.YtdgnojjemlfhdaaShelf
namespace Go.Proofs.Ytdgnojjemlfhdaa.V
open Go Go.RowKit Go.Sort

theorem kI_flat : ∀ xs : List Int, xs.flatMap kI.cells = xs.map (.int .i64)
  | [] => rfl
  | x :: xs => by rw [List.flatMap_cons, kI_flat xs]; rfl
theorem putCells_take {enc : Int → Value} {d : Array Int} {c : Array Value} (h : d.size ≤ c.size) : (putCells enc 0 d c).toList.take d.size = d.toList.map enc := by
  apply List.ext_getElem?
  intro i
  rw [List.getElem?_take]
  split
  · rename_i hi
    have hc : i < c.size := by omega
    simp [putCells, hc, hi]
  · rename_i hi
    rw [List.getElem?_eq_none (by simp; omega)]
theorem heap_putRow {w : World} {b : Nat} {cs : Array Value} {t : TypeId} {f : Nat × Nat} (h : w.heap[b]? = some (.cells cs t f)) (enc : Int → Value) (d : Array Int) : (putRow enc w b 0 d).heap[b]? = some (.cells (putCells enc 0 d cs) t f) := by
  simp [putRow, mapBlock, Array.getElem?_modify, h, onCells]
theorem heap_putRow_ne {w : World} {b k : Nat} (h : k ≠ b) (enc : Int → Value) (d : Array Int) : (putRow enc w b 0 d).heap[k]? = w.heap[k]? := by
  simp only [putRow, mapBlock, Array.getElem?_modify]
  rw [if_neg (by omega)]
theorem holds_of {w : World} {b : Nat} {cs : Array Value} {t : TypeId} {xs : List Int} (h : w.heap[b]? = some (.cells cs t (0, 0))) (hx : cs.toList.take xs.length = xs.map (.int .i64)) : Holds (Value.int .i64) w b 0 xs.toArray := by
  intro j hj
  simp only [List.size_toArray] at hj
  refine ⟨?_, by simp [World.frozen?, h]⟩
  rw [Nat.zero_add, cell_of h, getElem!_pos _ _ (by simpa using hj)]
  have := congrArg (·[j]?) hx
  simp only [List.getElem?_take, hj, if_true] at this
  simpa [hj] using this
theorem own_putRow {B : Nat} {w w' : World} {s : Sl} {xs ys : List Int} {t : TypeId} (h : OwnS kI t B w s xs) {b : Nat} (hb : s.a = some ⟨b, 0, none⟩) (hl : ys.length = xs.length) {n : Nat} {os : Array Obj}
    (hw : w' = grow (putRow (Value.int .i64) (Sort.ahead w n) b 0 ys.toArray) os) : OwnS kI t B w' s ys ∧ w.grownBy w' (some b) := by
  rcases h.2.2 with ⟨hv, _⟩ | ⟨g, cap, cur, hv, hB, hg, hnc, hcm, hcs, ht⟩
  · simp only [Value.slice.injEq] at hv; rw [hb] at hv; simp at hv
  · simp only [Value.slice.injEq] at hv
    obtain ⟨ha, _, hcap⟩ := hv
    rw [hb] at ha
    simp only [Option.some.injEq, Addr.mk.injEq, and_true] at ha
    subst ha
    have hbl : b < w.heap.size := (Array.getElem?_eq_some_iff.1 hg).1
    have hheap : w'.heap[b]? = some (.cells (putCells (Value.int .i64) 0 ys.toArray cur) t (0, 0)) := by
      rw [hw, heap_grow_old _ _ (by simpa using hbl)]
      exact heap_putRow (w := Sort.ahead w n) hg _ _
    have hys : ys.toArray.size ≤ cur.size := by
      rw [hcs, List.size_toArray, hl, ← h.1]
      simpa [kI] using hnc
    have hsz : (putCells (Value.int .i64) 0 ys.toArray cur).size = cur.size := by simp [putCells]
    refine ⟨⟨by rw [h.1, hl], ?_, .inr ⟨b, cap, _, by rw [hb, hcap], hB, hheap, hnc, hcm, by rw [hsz]; exact hcs, ?_⟩⟩, ?_⟩
    · rw [flat_length, h.1, hl]
    · rw [kI_flat]
      have := putCells_take (enc := Value.int .i64) hys
      simp only [List.size_toArray] at this
      rw [show s.n * kI.ls.length = ys.length by simp [kI, h.1, hl]]
      exact this
    · subst hw
      exact ⟨rfl, rfl, rfl, by simp, fun k hk hne => by
        rw [heap_grow_old _ _ (by simpa using hk), heap_putRow_ne (by simp at hne; exact hne)]; rfl⟩
def sorted (xs : List Int) : List Int := xs.mergeSort fun x y => decide (x ≤ y)
theorem own_cases {α : Type} {k : Kd α} {B : Nat} {w : World} {s : Sl} {xs : List α} {t : TypeId} (h : OwnS k t B w s xs) : (s = ⟨none, 0, 0⟩ ∧ xs = []) ∨ ∃ b cur, s.a = some ⟨b, 0, none⟩ ∧ w.heap[b]? = some (.cells cur t (0, 0)) ∧ cur.toList.take (xs.length * k.ls.length) = xs.flatMap k.cells := by
  obtain ⟨a, n, c⟩ := s
  rcases h.2.2 with ⟨hv, hn⟩ | ⟨g, cap, cur, hv, hB, hg, hnc, hcm, hcs, ht⟩
  · simp only [Value.slice.injEq] at hv
    obtain ⟨rfl, rfl, rfl⟩ := hv
    exact .inl ⟨rfl, List.eq_nil_of_length_eq_zero (by rw [← h.1])⟩
  · simp only [Value.slice.injEq] at hv
    exact .inr ⟨g, cur, hv.1, hg, by rw [← h.1]; exact ht⟩
theorem sort_own {B : Nat} {w : World} {s : Sl} {xs : List Int} {t : TypeId} (h : OwnS kI t B w s xs) (hl : xs.length < 4611686018427387904) {K : Unit → World → Prop}
    (hk : ∀ w', OwnS kI t B w' s (sorted xs) → w.grownBy w' (Value.slice s.a s.n s.c).ownBlock → K () w') : CallT .z P0 84 [.slice s.a s.n s.c] w K := by
  rcases own_cases h with ⟨rfl, rfl⟩ | ⟨b, cur, ha, hg, ht⟩
  · refine (Try.slices_Sort_int_none none 0 w).mono ?_
    intro e w' he
    obtain ⟨rfl, hw⟩ := he
    subst hw
    exact ⟨(), rfl, hk _ (by simpa [sorted] using h) ⟨rfl, rfl, rfl, Nat.le_refl _, fun _ _ _ => rfl⟩⟩
  · have hb : b < w.heap.size := (Array.getElem?_eq_some_iff.1 hg).1
    have hH := holds_of (xs := xs) hg (by rw [kI_flat] at ht; simpa [kI] using ht)
    have hc := Try.slices_Sort_int b 0 s.c xs w hH hb hl
    rw [← h.1, ← ha] at hc
    refine hc.mono ?_
    rintro e w' ⟨rfl, n, os, hw⟩
    obtain ⟨h1, h2⟩ := own_putRow (ys := sorted xs) h ha (by simp [sorted]) hw
    exact ⟨(), rfl, hk _ h1 (by rw [ha]; exact h2)⟩
end Go.Proofs.Ytdgnojjemlfhdaa.V
