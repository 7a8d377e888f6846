/- Rows of bits, what is collected from them, and sorted sets. -/
import Derived.Test.YtdgnojjemlfhdaaVM
import Derived.Test.YtdgnojjemlfhdaaVS
namespace Go.Proofs.Ytdgnojjemlfhdaa.V
open Go Go.RowKit Go.Maps
set_option linter.unusedSimpArgs false
set_option linter.unusedVariables false

def bits (n : Nat) (f : Nat → Bool) : List Bool := (List.range n).map f
theorem bits_get {n i : Nat} {f : Nat → Bool} (h : i < n) : (bits n f)[i]? = some (f i) := by simp [bits, h]
theorem bits_length (n : Nat) (f : Nat → Bool) : (bits n f).length = n := by simp [bits]
theorem bits_set {n j : Nat} {f : Nat → Bool} : (bits n f).set j true = bits n (fun i => f i || decide (i = j)) := by
  refine List.ext_getElem? fun i => ?_
  rcases Nat.lt_or_ge i n with hi | hi
  · by_cases hj : j = i
    · subst hj
      rw [List.getElem?_set_self (by simpa [bits_length] using hi), bits_get hi]; simp
    · rw [List.getElem?_set_ne hj, bits_get hi, bits_get hi]; simp; intro e; exact absurd e.symm hj
  · rw [List.getElem?_eq_none (by simp [bits_length, hi]), List.getElem?_eq_none (by simp [bits_length, hi])]
theorem bits_rep (n : Nat) : List.replicate n false = bits n (fun _ => false) := by
  refine List.ext_getElem? fun i => ?_
  rcases Nat.lt_or_ge i n with hi | hi
  · rw [bits_get hi, List.getElem?_replicate_of_lt hi]
  · rw [List.getElem?_eq_none (by simp [hi]), List.getElem?_eq_none (by simp [bits_length, hi])]
/-- The places at which a bit is set, ascending. -/
def picks (n : Nat) (f : Nat → Bool) : List Int := ((List.range n).filter f).map fun i : Nat => (i : Int)
theorem picks_succ (n : Nat) (f : Nat → Bool) : picks (n + 1) f = if f n = true then picks n f ++ [(n : Int)] else picks n f := by
  unfold picks
  rw [List.range_succ, List.filter_append, List.map_append]
  split
  · rename_i h; simp [h]
  · rename_i h; simp [h]
theorem picks_le (n : Nat) (f : Nat → Bool) : (picks n f).length ≤ n := by
  unfold picks
  rw [List.length_map]
  exact Nat.le_trans (List.length_filter_le _ _) (by simp)
theorem mem_picks {n : Nat} {f : Nat → Bool} {x : Int} : x ∈ picks n f ↔ ∃ i : Nat, x = i ∧ i < n ∧ f i = true := by
  unfold picks
  simp only [List.mem_map, List.mem_filter, List.mem_range]
  constructor
  · rintro ⟨i, ⟨h1, h2⟩, rfl⟩; exact ⟨i, rfl, h1, h2⟩
  · rintro ⟨i, rfl, h1, h2⟩; exact ⟨i, ⟨h1, h2⟩, rfl⟩
theorem picks_asc (n : Nat) (f : Nat → Bool) : (picks n f).Pairwise (· < ·) := by
  induction n with
  | zero => exact List.Pairwise.nil
  | succ n ih =>
    rw [picks_succ]
    split
    · refine List.pairwise_append.2 ⟨ih, by simp, fun a ha b hb => ?_⟩
      obtain ⟨i, rfl, hi, _⟩ := mem_picks.1 ha
      simp at hb; omega
    · exact ih
theorem picks_nodup (n : Nat) (f : Nat → Bool) : (picks n f).Nodup := (picks_asc n f).imp fun h => by omega
theorem picks_congr {n : Nat} {f g : Nat → Bool} (h : ∀ i, i < n → f i = g i) : picks n f = picks n g := by
  unfold picks
  rw [List.filter_congr fun x hx => h x (List.mem_range.1 hx)]
theorem sorted_id {xs : List Int} (h : xs.Pairwise (· < ·)) : sorted xs = xs := by
  unfold sorted
  exact List.mergeSort_of_pairwise (h.imp fun h => by simp; omega)
theorem sorted_perm' {xs ys : List Int} (h : xs.Perm ys) : sorted xs = sorted ys := mergeSort_of_perm_i h
theorem sorted_length (xs : List Int) : (sorted xs).length = xs.length := by simp [sorted]
theorem sorted_eq {S : List Int} {n : Nat} {f : Nat → Bool} (h : S.Nodup) (hS : ∀ x, x ∈ S ↔ ∃ i : Nat, x = i ∧ i < n ∧ f i = true) : sorted S = picks n f := by
  rw [← sorted_id (picks_asc n f)]
  exact sorted_perm' ((List.perm_ext_iff_of_nodup h (picks_nodup n f)).2 fun x => by rw [hS, mem_picks])
theorem mkB : Mk P0 64 4 kB 1 false := ⟨by kernel_rfl, ⟨_, _, Option.eq_some_of_isSome (by kernel_rfl), Option.eq_some_of_isSome (by kernel_rfl), by kernel_rfl, by kernel_rfl, by kernel_rfl⟩⟩
theorem nodup_nat : ∀ (n : Nat) (l : List Nat), l.Nodup → (∀ x ∈ l, x < n) → l.length ≤ n
  | 0, l, _, h => by
    cases l with
    | nil => simp
    | cons x l => exact absurd (h x List.mem_cons_self) (by omega)
  | n + 1, l, hl, h => by
    by_cases hm : n ∈ l
    · have := nodup_nat n (l.erase n) (hl.erase n) (fun x hx => by have h1 := (List.Nodup.mem_erase_iff hl).1 hx; have := h x h1.2; have := h1.1; omega)
      rw [List.length_erase_of_mem hm] at this
      omega
    · have := nodup_nat n l hl (fun x hx => by have := h x hx; have : x ≠ n := fun e => hm (e ▸ hx); omega)
      omega
/-- A nodup list of places below n is no longer than n. -/
theorem nodup_le {S : List Int} {n : Nat} (h : S.Nodup) (hS : ∀ x ∈ S, 0 ≤ x ∧ x < (n : Int)) : S.length ≤ n := by
  have h1 : (S.map Int.toNat).Nodup := by
    refine List.pairwise_map.2 (List.Pairwise.imp_of_mem (fun {a b} ha hb hne e => hne ?_) h)
    have := hS a ha; have := hS b hb; omega
  have := nodup_nat n _ h1 (fun x hx => by obtain ⟨y, hy, rfl⟩ := List.mem_map.1 hx; have := hS y hy; omega)
  simpa using this
/-- The loop that collects places. -/
theorem collect {isS out0 : Sl} {n m : Nat} {f : Nat → Bool} {w : World} {B : Nat} {K : Sl → World → Prop} (h : SlR kB w isS (bits m f)) (hn : n ≤ m) (hm : n ≤ 1048600) (ho : OwnS kI 3 B w out0 []) (hB : B ≤ w.heap.size)
    (hsep : ∀ b o, isS.a = some ⟨b, o, none⟩ → b < w.heap.size ∧ ∀ b', out0.bk = some b' → b ≠ b')
    (hk : ∀ out w', OwnS kI 3 B w' out (picks n f) → (∀ B', B' ≤ B → Below B' w w') → K out w') :
    ∃ (I : Sl → Int → World → Prop) (M : Sl → Int → World → Nat), I out0 0 w ∧ (∀ (out : Sl) (i : Int) w1, I out i w1 → ∀ _ : Nat → Value,
      ((decide ((i : Int) < (n : Int))) = true → Ix isS.a isS.n i 1 w1 fun a w2 => Ld .b a w2 fun (t : Bool) w3 =>
        (t = true → Nw #[(.int .i64 i)] 3 w3 fun a w4 => RunT (.o (.lf .sl)) P0 (Builtin.append_ #[31, 31] 31 #[out.v, (.slice (some a) 1 1)]) w4 fun (t75 : Sl) w5 =>
          (I t75 (IntKind.wrap .i64 (i + 1)) w5 ∧ M t75 (IntKind.wrap .i64 (i + 1)) w5 < M out i w1)) ∧
        (t = false → (I out (IntKind.wrap .i64 (i + 1)) w3 ∧ M out (IntKind.wrap .i64 (i + 1)) w3 < M out i w1))) ∧
      ((decide ((i : Int) < (n : Int))) = false → K out w1)) := by
  refine ⟨fun out i w' => ∃ j : Nat, i = j ∧ j ≤ n ∧ OwnS kI 3 B w' out (picks j f) ∧ SlR kB w' isS (bits m f) ∧ w.heap.size ≤ w'.heap.size ∧ (∀ B', B' ≤ B → Below B' w w') ∧
      (∀ b o, isS.a = some ⟨b, o, none⟩ → ∀ b', out.bk = some b' → b ≠ b'), fun _ i _ => n - i.toNat,
    ⟨0, rfl, by omega, by simpa [picks] using ho, h, Nat.le_refl _, fun B' hB' => (Below.refl _ _), fun b o hb => (hsep b o hb).2⟩, ?_⟩
  rintro out i w1 ⟨j, rfl, hj, ho1, h1, hs1, hb1, hsep1⟩ _
  refine And.intro (fun hlt => ?_) (fun hge => ?_)
  · simp only [decide_eq_true_eq] at hlt
    refine ixL h1 (i := j) (by omega) (x := f j) (by rw [Int.toNat_natCast]; exact bits_get (by omega)) rfl (l := .b) (v := f j) rfl ?_
    have hp := picks_le j f
    refine And.intro (fun hf => ?_) (fun hf => ?_)
    · refine ap1 elI ho1 (j : Int) rfl (by omega) (by omega) (by omega) fun s' w' ho' hg' hbk => ?_
      rw [i64_in (by omega) (by omega)]
      refine ⟨⟨j + 1, by omega, by omega, by rw [picks_succ, if_pos hf]; exact ho', h1.kept2 hg' (fun b o hb e => hsep1 b o hb b ((ob_bk out).symm.trans e) rfl), Nat.le_trans hs1 hg'.size, ?_, ?_⟩, by simp only; omega⟩
      · intro B' hB'
        exact (hb1 B' hB').grown hg' (by omega) (fun b hb => by have := (ho1.blk hb).1; omega)
      · intro b o hb b' hb' e
        rcases hbk b' ((ob_bk s').trans hb') with h2 | h2
        · exact hsep1 b o hb b' ((ob_bk out).symm.trans h2) e
        · have := (hsep b o hb).1; omega
    · rw [i64_in (by omega) (by omega)]
      exact ⟨⟨j + 1, by omega, by omega, by rw [picks_succ, if_neg (by simp [hf])]; exact ho1, h1, hs1, hb1, hsep1⟩, by simp only; omega⟩
  · simp only [decide_eq_false_iff_not] at hge
    obtain rfl : j = n := by omega
    exact hk _ _ ho1 hb1
end Go.Proofs.Ytdgnojjemlfhdaa.V
