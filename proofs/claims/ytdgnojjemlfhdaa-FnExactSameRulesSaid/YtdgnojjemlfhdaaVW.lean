/- Writes into new memory: make, an element, a field. -/
import Derived.Test.YtdgnojjemlfhdaaVT
import Derived.Laws.MakeOwn
namespace Go.Proofs.Ytdgnojjemlfhdaa.V
open Go Go.RowKit Go.Sort
set_option linter.unusedSimpArgs false
set_option linter.unusedVariables false

theorem lt_of_get {α : Type} {l : List α} {i : Nat} {x : α} (h : l[i]? = some x) : i < l.length := (List.getElem?_eq_some_iff.1 h).1
theorem idx_apart {i i' n j : Nat} (h : i' < i) (hj : j < n) : i' * n + j < i * n := by
  have : (i' + 1) * n ≤ i * n := Nat.mul_le_mul_right n h
  rw [Nat.succ_mul] at this; omega
/-- storeCells anywhere in a block. -/
theorem run_storeCells_in (P : Program) {b : Nat} {t : TypeId} (o : Nat) : ∀ (vs : List Value) (i : Nat) (cur : Array Value) (w : World), (∀ v ∈ vs, v.oneCell' = true) → o + i + vs.length ≤ cur.size →
    w.heap[b]? = some (.cells cur t (0, 0)) → ∃ w' cur', (storeCells ⟨b, o, none⟩ vs i).run P w = .ok () w' ∧ w.grownBy w' (some b) ∧ w'.heap.size = w.heap.size ∧ w'.heap[b]? = some (.cells cur' t (0, 0)) ∧
      (∀ j v, vs[j]? = some v → cur'[o + i + j]? = some v) ∧ (∀ p, (p < o + i ∨ o + i + vs.length ≤ p) → cur'[p]? = cur[p]?)
  | [], i, cur, w, _, _, h => ⟨w, cur, by simp [storeCells], ⟨rfl, rfl, rfl, Nat.le_refl _, fun _ _ _ => rfl⟩, rfl, h, by simp, fun _ _ => rfl⟩
  | v :: vs, i, cur, w, h1, hs, h => by
    have hv := h1 v List.mem_cons_self
    simp only [List.length_cons] at hs
    have hi : o + i < cur.size := by omega
    have hc : w.cell? ⟨b, o + i, none⟩ = some cur[o + i] := by rw [cell_of h]; simp [hi]
    have hfz : w.frozen? ⟨b, o + i, none⟩ = false := by simp [World.frozen?, h]
    have hst : (store ⟨b, o + i, none⟩ v).run P w = .ok () (w.setCell ⟨b, o + i, none⟩ v) := by simp [run_store P w _ v .plain hv, hc, hfz]
    obtain ⟨w', cur', hr, hg, hsz, hh, hin, hout⟩ := run_storeCells_in P o vs (i + 1) (cur.setIfInBounds (o + i) v) (w.setCell ⟨b, o + i, none⟩ v) (fun u hu => h1 u (List.mem_cons_of_mem _ hu)) (by simp; omega) (setCell_heap h v)
    have g0 := grown_setCell w b (o + i) v
    refine ⟨w', cur', ?_, ⟨hg.os.trans g0.os, hg.tape.trans g0.tape, hg.output.trans g0.output, Nat.le_trans g0.size hg.size, fun k hk hne => (hg.block k (by simpa using hk) hne).trans (g0.block k hk hne)⟩, by rw [hsz]; simp, hh, ?_, ?_⟩
    · simp only [storeCells, Sem.run_bind, add_mk, hst, Result.andThen_ok, hr]
    · intro j u hj
      cases j with
      | zero =>
        simp only [List.getElem?_cons_zero, Option.some.injEq] at hj
        subst hj
        rw [Nat.add_zero, hout _ (.inl (by omega)), Array.getElem?_setIfInBounds_self_of_lt hi]
      | succ j =>
        have := hin j u (by simpa using hj)
        rw [show o + i + (j + 1) = o + (i + 1) + j by omega]; exact this
    · intro p hp
      simp only [List.length_cons] at hp
      rw [hout p (by omega), Array.getElem?_setIfInBounds_ne (by omega)]
section
variable {α : Type} {k : Kd α} {t : TypeId} {B : Nat} {w : World} {s : Sl} {xs : List α} {i : Int} {sz : Nat}
theorem upd {cur cur' : Array Value} {o i : Nat} {y : α} (h : ∀ i x, xs[i]? = some x → ∀ j v, (k.cells x)[j]? = some v → cur[o + i * k.ls.length + j]? = some v)
    (hin : ∀ j v, (k.cells y)[j]? = some v → cur'[o + i * k.ls.length + j]? = some v) (hout : ∀ p, (p < o + i * k.ls.length ∨ o + i * k.ls.length + k.ls.length ≤ p) → cur'[p]? = cur[p]?) :
    ∀ i' x, (xs.set i y)[i']? = some x → ∀ j v, (k.cells x)[j]? = some v → cur'[o + i' * k.ls.length + j]? = some v := by
  intro i' x hx j v hj
  have hjl := lt_of_get hj
  rw [k.cells_length] at hjl
  rcases Nat.lt_trichotomy i' i with hlt | rfl | hlt
  · rw [List.getElem?_set_ne (by omega)] at hx
    have := idx_apart hlt hjl
    rw [hout _ (.inl (by omega))]
    exact h _ _ hx _ _ hj
  · have hl := lt_of_get hx
    rw [List.getElem?_set_self (by simpa using hl)] at hx
    simp only [Option.some.injEq] at hx
    subst hx
    exact hin _ _ hj
  · rw [List.getElem?_set_ne (by omega)] at hx
    have : (i + 1) * k.ls.length ≤ i' * k.ls.length := Nat.mul_le_mul_right _ hlt
    rw [Nat.succ_mul] at this
    rw [hout _ (.inr (by omega))]
    exact h _ _ hx _ _ hj
theorem WrS.at (h : WrS k t B w s xs) {i : Nat} {x : α} (hx : xs[i]? = some x) (hp : 0 < k.ls.length) : ∃ b o cur, s.a = some ⟨b, o, none⟩ ∧ B ≤ b ∧ w.heap[b]? = some (.cells cur t (0, 0)) ∧
    (∀ i x, xs[i]? = some x → ∀ j v, (k.cells x)[j]? = some v → cur[o + i * k.ls.length + j]? = some v) ∧ o + i * k.ls.length + k.ls.length ≤ cur.size := by
  rcases h.2.2.2 with h0 | ⟨b, o, cur, ha, hB, hg, hc⟩
  · rw [h0.2] at hx; simp at hx
  · refine ⟨b, o, cur, ha, hB, hg, hc, ?_⟩
    have hl := k.cells_length x
    have hj : (k.cells x)[k.ls.length - 1]? = some ((k.cells x)[k.ls.length - 1]'(by omega)) := List.getElem?_eq_getElem _
    have := (Array.getElem?_eq_some_iff.1 (hc i x hx _ _ hj)).1
    omega
/-- Write an element. -/
theorem ixStA {P : Program} (h : WrS k t B w s xs) (hi : 0 ≤ i) {x : α} (hx : xs[i.toNat]? = some x) (hsz : sz = k.ls.length) (hp : 0 < k.ls.length) (h1 : ∀ l ∈ k.ls, l ≠ .any) (y : α) {vs : List Value} (hvs : vs = k.cells y) {K : World → Prop}
    (hK : ∀ w', WrS k t B w' s (xs.set i.toNat y) → w.grownBy w' s.bk → w'.heap.size = w.heap.size → K w') : Ix s.a s.n i sz w (fun a w1 => StA P a vs w1 K) := by
  obtain ⟨b, o, cur, ha, hB, hg, hc, hcs⟩ := h.at hx hp
  have hl := lt_of_get hx
  subst hsz hvs
  obtain ⟨w', cur', hr, hgr, hss, hh, hin, hout⟩ := run_storeCells_in P (o + i.toNat * k.ls.length) (k.cells y) 0 cur w (oneCell_cells k h1 y) (by rw [k.cells_length]; omega) hg
  refine ⟨_, ha, hi, by rw [h.1]; omega, w', by rw [add_mk]; exact hr, hK w' ⟨by simpa using h.1, h.2.1, h.2.2.1, .inr ⟨b, o, cur', ha, hB, hh, upd hc hin (fun p hp => hout p (by rw [k.cells_length]; exact hp))⟩⟩ (by simpa [Sl.bk, ha] using hgr) hss⟩
/-- Write a field of an element. -/
theorem ixStF (h : WrS k t B w s xs) (hi : 0 ≤ i) {x : α} (hx : xs[i.toNat]? = some x) (hsz : sz = k.ls.length) {j : Nat} (hj : j < k.ls.length) {v : Value} (hv : v.oneCell' = true) (y : α) (hy : k.cells y = (k.cells x).set j v) {K : World → Prop}
    (hK : ∀ w', WrS k t B w' s (xs.set i.toNat y) → w.grownBy w' s.bk → w'.heap.size = w.heap.size → K w') : Ix s.a s.n i sz w (fun a w1 => St (Addr.add a j) v w1 K) := by
  obtain ⟨b, o, cur, ha, hB, hg, hc, hcs⟩ := h.at hx (by omega)
  have hl := lt_of_get hx
  subst hsz
  refine ⟨_, ha, hi, by rw [h.1]; omega, hv, ⟨cur[o + i.toNat * k.ls.length + j]'(by omega), ?_⟩, ?_, ?_⟩
  · rw [add_mk, add_mk, cell_of hg]; exact Array.getElem?_eq_getElem _
  · simp [add_mk, World.frozen?, hg]
  · rw [add_mk, add_mk]
    refine hK _ ⟨by simpa using h.1, h.2.1, h.2.2.1, .inr ⟨b, o, _, ha, hB, setCell_heap hg v, upd hc ?_ ?_⟩⟩ (by simpa [Sl.bk, ha] using grown_setCell w b _ v) (by simp)
    · intro j' u hu
      rw [hy] at hu
      by_cases he : j' = j
      · subst he
        rw [List.getElem?_set_self (by rw [k.cells_length]; exact hj)] at hu
        rw [Array.getElem?_setIfInBounds_self_of_lt (by omega)]; exact hu
      · rw [List.getElem?_set_ne (by omega)] at hu
        rw [Array.getElem?_setIfInBounds_ne (by omega)]
        exact hc _ _ hx _ _ hu
    · intro p hp
      exact Array.getElem?_setIfInBounds_ne (by omega)
theorem ixStL (h : WrS k t B w s xs) (hi : 0 ≤ i) {x : α} (hx : xs[i.toNat]? = some x) (hsz : sz = k.ls.length) (hl : k.ls.length = 1) {v : Value} (hv : v.oneCell' = true) (y : α) (hy : k.cells y = [v]) {K : World → Prop}
    (hK : ∀ w', WrS k t B w' s (xs.set i.toNat y) → w.grownBy w' s.bk → w'.heap.size = w.heap.size → K w') : Ix s.a s.n i sz w (fun a w1 => St a v w1 K) := by
  have := ixStF (j := 0) h hi hx hsz (by omega) hv y (by
    have := k.cells_length x
    match hh : k.cells x, this with
    | [u], _ => simp [hy]
    | [], h => simp [hl] at h
    | _ :: _ :: _, h => simp [hl] at h) hK
  simpa [Addr.add] using this
/-- An element type, for make. -/
structure Mk (P : Program) (tS t : TypeId) (k : Kd α) (bytes : Nat) (z0 : α) : Prop where
  elem : P.underlying tS = some (.slice t)
  info : ∃ i z, P.info? t = some i ∧ i.zero = some z ∧ i.size = k.ls.length ∧ i.bytes = bytes ∧ z.cells.toList = k.cells z0
theorem mkS {P : Program} {tS : TypeId} {bytes : Nat} {z0 : α} (hM : Mk P tS t k bytes z0) {n : Nat} (hb : n * bytes ≤ 281474976710656) (hm : n ≤ maxLen) {K : Sl → World → Prop}
    (hK : ∀ s w', Below w.heap.size w w' → WrS k t w.heap.size w' s (List.replicate n z0) → K s w') :
    RunT (.o (.lf .sl)) P (Instr.makeSlice tS (.int .i64 (n : Int)) (.int .i64 (n : Int))) w K := by
  obtain ⟨i, z, hi, hz, hsz, hbs, hzc⟩ := hM.info
  have hm' : (n : Int) ≤ 9223372036854775807 := by simp only [maxLen] at hm; omega
  have hbb : (i.bytes : Int) * (n : Int) ≤ 281474976710656 := by
    have h : ((n * bytes : Nat) : Int) ≤ 281474976710656 := by omega
    rw [Int.natCast_mul] at h
    rw [hbs, Int.mul_comm]; exact h
  have hr := run_make (P := P) w tS t i z hM.elem hi hz .i64 .i64 n n (by omega) (Int.le_refl _) hbb hm'
  refine ⟨⟨some ⟨w.heap.size, 0, none⟩, n, n⟩, _, hr, hK _ _ ((Below.refl _ _).alloc (Nat.le_refl _) _) ⟨by rw [List.length_replicate], Nat.le_refl _, hm, .inr ⟨w.heap.size, 0, _, rfl, Nat.le_refl _, heap_alloc_new w _, ?_⟩⟩⟩
  intro i' x hx j v hj
  have hjl := lt_of_get hj
  rw [k.cells_length] at hjl
  have hil := lt_of_get hx
  simp only [List.length_replicate] at hil
  rw [List.getElem?_replicate_of_lt hil] at hx
  simp only [Option.some.injEq] at hx
  subst hx
  have hlt : i' * k.ls.length + j < n * k.ls.length := idx_apart hil hjl
  have hzs : z.cells.size = k.ls.length := by rw [← Array.length_toList, hzc, k.cells_length]
  have hmod : (i' * k.ls.length + j) % k.ls.length = j := by rw [Nat.add_comm, Nat.add_mul_mod_self_right, Nat.mod_eq_of_lt hjl]
  simp only [madeCells, Nat.zero_add, Int.toNat_natCast, hsz, hzs]
  rw [Array.getElem?_map, Array.getElem?_range, if_pos hlt]
  simp only [Option.map_some, hmod]
  rw [getElem!_pos z.cells j (by omega)]
  rw [← hzc, Array.getElem?_toList, Array.getElem?_eq_getElem (by omega)] at hj
  exact hj
theorem set_next {l zs : List α} {n : Nat} {x : α} (hx : l[n]? = some x) (hz : zs.length = l.length - n) : (l.take n ++ zs).set n x = l.take (n + 1) ++ zs.tail := by
  have hl := lt_of_get hx
  match zs, hz with
  | [], hz => simp at hz; omega
  | z :: zs, _ =>
    rw [List.set_append_right _ _ (by simp; omega)]
    simp only [List.length_take, Nat.min_eq_left (Nat.le_of_lt hl), Nat.sub_self, List.set_cons_zero, List.tail_cons]
    rw [List.take_add_one, hx]
    simp
theorem grown_refl (w : World) (row : Option Nat) : w.grownBy w row := ⟨rfl, rfl, rfl, Nat.le_refl _, fun _ _ _ => rfl⟩
theorem grown_trans {w w1 w2 : World} {row : Option Nat} (h : w.grownBy w1 row) (h2 : w1.grownBy w2 row) : w.grownBy w2 row :=
  ⟨h2.os.trans h.os, h2.tape.trans h.tape, h2.output.trans h.output, Nat.le_trans h.size h2.size, fun k hk hne => (h2.block k (Nat.lt_of_lt_of_le hk h.size) hne).trans (h.block k hk hne)⟩
end
end Go.Proofs.Ytdgnojjemlfhdaa.V
