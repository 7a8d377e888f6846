/- Contracts: which rules are ok, on both sides; what they cut bytes at. -/
import Derived.Test.YtdgnojjemlfhdaaRL
import Derived.Test.YtdgnojjemlfhdaaVN
import Derived.Test.YtdgnojjemlfhdaaFB
import Derived.Lib.AppendZerosOnto
import Derived.Lib.SlicesCompact
namespace Go.Proofs.Ytdgnojjemlfhdaa.V
open Go Go.RowKit
set_option linter.unusedVariables false
set_option linter.unusedSimpArgs false
def RuleP (x : Rule) : Prop := (0 ≤ x.at_ ∧ x.at_ ≤ 11) ∧ (12 ≤ x.op ∧ x.op ≤ 15) ∧ (0 ≤ x.num ∧ x.num ≤ 255) ∧ (0 ≤ x.verdict ∧ x.verdict ≤ 2) ∧ (0 ≤ x.key ∧ x.key ≤ 4294967295) ∧ (x.key = 0 ∨ x.verdict = 2)
instance (x : Rule) : Decidable (RuleP x) := by unfold RuleP; infer_instance
def RulesP (l : List Rule) : Prop := l.length ≤ 6 ∧ ∀ x ∈ l, RuleP x
instance (l : List Rule) : Decidable (RulesP l) := by unfold RulesP; infer_instance
section
variable {w : World} {s : Sl} {l : List Rule} {K : Bool → World → Prop}
theorem impl.Rule.valid.c {x : Rule} (hk : ∀ w', Below w.heap.size w w' → K (decide (RuleP x)) w') : CallT (.o (.lf .b)) P0 81 [.agg (Tup.cells (R 5 (.i .i64)) x.t).toArray] w K := by
  refine impl.Rule.valid.ok (nwRule fun w1 hb hs hc => ?_)
  have hk := hk w1 hb
  (repeat' (first | refine ldB hc rfl ?_ | refine impl.within.c ?_ | refine impl.kind.asks.c ?_ | refine impl.numOk.c ?_ | refine And.intro (fun _ => ?_) (fun _ => ?_)))
  all_goals
    refine kof hk (dec_eq ?_)
    clear hk hb hc
    grind [RuleP]
theorem spec.l9RuleOk.c {x : Rule} (hk : ∀ w', Below w.heap.size w w' → K (decide (RuleP x)) w') : CallT (.o (.lf .b)) P0 77 [.agg (Tup.cells (R 5 (.i .i64)) x.t).toArray] w K := by
  refine spec.l9RuleOk.ok (nwRule fun w1 hb hs hc => ?_)
  have top : ∀ {C : World → Prop} {K : Int → Prop}, K 4294967295 → QCl (.o (.lf (.i .i64))) P0 101 [] C K := fun hK => qcl _ (fun w2 hb2 => spec.l2Top.ok ⟨rfl, hb2⟩) hK
  have q : ∀ {C : World → Prop} {K : Bool → Prop} {n lo hi : Int}, K (decide (lo ≤ n ∧ n ≤ hi)) → QCl (.o (.lf .b)) P0 61 [.int .i64 n, .int .i64 lo, .int .i64 hi] C K := fun hK => qcl _ (fun w2 hb2 => spec.l1In.c ⟨rfl, hb2⟩) hK
  (repeat' (first | refine qldB hc rfl ?_ | refine q ?_ | refine top ?_ | refine And.intro (fun _ => ?_) (fun _ => ?_) | refine fun w2 hb2 => ?_))
  all_goals
    refine kof (hk _ (hb.trans (hb2.mono hb.size))) (dec_eq ?_)
    clear hk hb hc hb2 q top
    grind [RuleP]
theorem impl.RulesOk_1.c {x : Rule} (hk : ∀ w', Below w.heap.size w w' → K (!decide (RuleP x)) w') : CallT (.o (.lf .b)) P0 80 [.agg (Tup.cells (R 5 (.i .i64)) x.t).toArray] w K := by
  refine impl.RulesOk_1.ok (nwRule fun w1 hb hs hc => ?_)
  refine ldAB hc (x := x.t) rfl ?_
  exact impl.Rule.valid.c (x := x) fun w2 hb2 => hk w2 (hb.trans (hb2.mono hb.size))
theorem slices.IndexFunc_Rule_ok.c {K : Int → World → Prop} (h : SlR kRule w s l) (hk : ∀ w' (i : Int), Below w.heap.size w w' → (i < 0 ↔ ∀ x ∈ l, RuleP x) → K i w') :
    CallT (.o (.lf (.i .i64))) P0 102 [s.v, (.func (.func 80) #[] #[])] w K := by
  have hn := h.len; have hm := h.max
  refine slices.IndexFunc_Rule_ok.ok ⟨fun i w' => ∃ n : Nat, i = n ∧ n ≤ l.length ∧ (∀ x ∈ l.take n, RuleP x) ∧ Below w.heap.size w w', fun i _ => l.length - i.toNat, ⟨0, rfl, by omega, by simp, Below.refl _ _⟩, ?_⟩
  rintro i w1 ⟨n, rfl, hnl, hp, hb⟩ _
  refine And.intro (fun hlt => ?_) (fun hge => ?_)
  · simp only [decide_eq_true_eq] at hlt
    obtain ⟨x, hx⟩ := get_some (l := l) (k := n) (by omega)
    refine ixA (h.below hb) (i := n) (by omega) (x := x) (by simpa using hx) rfl ?_
    refine impl.RulesOk_1.c (x := x) fun w2 hb2 => ?_
    have hbb := hb.trans (hb2.mono hb.size)
    refine And.intro (fun hq => ?_) (fun hq => ?_)
    · simp only [Bool.not_eq_true', decide_eq_false_iff_not] at hq
      refine hk _ _ hbb ⟨fun h0 => by omega, fun hall => absurd (hall x (List.mem_of_getElem? hx)) hq⟩
    · simp only [Bool.not_eq_false', decide_eq_true_eq] at hq
      rw [i64_of (by omega) (by omega)]
      refine ⟨⟨n + 1, by omega, by omega, ?_, hbb⟩, by simp only; omega⟩
      rw [List.take_add_one, hx]
      intro y hy
      rcases List.mem_append.1 hy with h | h
      · exact hp y h
      · simp at h; subst h; exact hq
  · simp only [decide_eq_false_iff_not] at hge
    obtain rfl : n = l.length := by omega
    rw [List.take_length] at hp
    exact hk _ _ hb ⟨fun _ => hp, fun _ => by omega⟩
theorem impl.RulesOk.c (h : SlR kRule w s l) (hk : ∀ w', Below w.heap.size w w' → K (decide (RulesP l)) w') : CallT (.o (.lf .b)) P0 51 [s.v] w K := by
  have hn := h.len
  refine impl.RulesOk.ok ?_
  unfold impl.RulesOk.vc
  refine And.intro (fun hq => ?_) (fun hq => ?_)
  · simp only [decide_eq_true_eq] at hq
    refine slices.ContainsFunc_Rule_ok.ok (slices.IndexFunc_Rule_ok.c h fun w1 i hb hi => ?_)
    refine kof (hk _ hb) ?_
    rw [Bool.eq_iff_iff]
    simp only [decide_eq_true_eq, Bool.not_eq_true', decide_eq_false_iff_not]
    constructor
    · rintro ⟨_, h2⟩; have := hi.2 h2; omega
    · intro h2; exact ⟨by omega, hi.1 (by omega)⟩
  · simp only [decide_eq_false_iff_not] at hq
    exact kof (hk _ (Below.refl _ _)) (by simp only [decide_eq_false_iff_not]; rintro ⟨h1, _⟩; omega)
theorem spec.l9Ok.c (h : SlR kRule w s l) (hk : ∀ w', Below w.heap.size w w' → K (decide (RulesP l)) w') : CallT (.o (.lf .b)) P0 48 [s.v] w K := by
  have hn := h.len; have hm := h.max
  refine spec.l9Ok.ok ⟨fun i w' => ∃ n : Nat, i = n ∧ n ≤ l.length ∧ (∀ x ∈ l.take n, RuleP x) ∧ Below w.heap.size w w', fun i _ => l.length - i.toNat, ⟨0, rfl, by omega, by simp, Below.refl _ _⟩, ?_⟩
  rintro i w1 ⟨n, rfl, hnl, hp, hb⟩ _
  refine And.intro (fun hlt => ?_) (fun hge => ?_)
  · simp only [decide_eq_true_eq] at hlt
    obtain ⟨x, hx⟩ := get_some (l := l) (k := n) (by omega)
    refine ixA (h.below hb) (i := n) (by omega) (x := x) (by simpa using hx) rfl ?_
    refine spec.l9RuleOk.c (x := x) fun w2 hb2 => ?_
    have hbb := hb.trans (hb2.mono hb.size)
    refine And.intro (fun hq => ?_) (fun hq => ?_)
    · simp only [Bool.not_eq_true', decide_eq_false_iff_not] at hq
      exact kof (hk _ hbb) (by simp only [decide_eq_false_iff_not]; rintro ⟨_, h2⟩; exact hq (h2 x (List.mem_of_getElem? hx)))
    · simp only [Bool.not_eq_false', decide_eq_true_eq] at hq
      rw [i64_of (by omega) (by omega)]
      refine ⟨⟨n + 1, by omega, by omega, ?_, hbb⟩, by simp only; omega⟩
      rw [List.take_add_one, hx]
      intro y hy
      rcases List.mem_append.1 hy with h | h
      · exact hp y h
      · simp at h; subst h; exact hq
  · simp only [decide_eq_false_iff_not] at hge
    obtain rfl : n = l.length := by omega
    rw [List.take_length] at hp
    refine kof (hk _ hb) ?_
    rw [Bool.eq_iff_iff]
    simp only [decide_eq_true_eq]
    exact ⟨fun h => by have := h.1; omega, fun h => ⟨by omega, hp⟩⟩
end
/-! compact of a sorted list -/
theorem compact_asc (d : Array Int) (hd : ∀ i j, i ≤ j → j < d.size → d[i]! ≤ d[j]!) : ∀ m, m ≤ d.size → (Lib.compactUpTo d m).Pairwise (· < ·) ∧ ∀ x, x ∈ Lib.compactUpTo d m ↔ ∃ j, j < m ∧ d[j]! = x := by
  intro m
  induction m with
  | zero => intro _; simp [Lib.compactUpTo]
  | succ m ih =>
    intro hm
    obtain ⟨h1, h2⟩ := ih (by omega)
    rw [Lib.compactUpTo_succ]
    by_cases hk : Lib.keeps d m = true
    · rw [if_pos hk]
      have hk' : m = 0 ∨ d[m]! ≠ d[m - 1]! := by simpa [Lib.keeps] using hk
      constructor
      · refine List.pairwise_append.2 ⟨h1, by simp, fun a ha b hb => ?_⟩
        simp only [List.mem_singleton] at hb; subst hb
        obtain ⟨j, hj, rfl⟩ := (h2 a).1 ha
        have e1 := hd j (m - 1) (by omega) (by omega)
        have e2 := hd (m - 1) m (by omega) (by omega)
        rcases hk' with h | h <;> omega
      · intro x
        rw [List.mem_append, h2, List.mem_singleton]
        constructor
        · rintro (⟨j, hj, rfl⟩ | rfl)
          · exact ⟨j, by omega, rfl⟩
          · exact ⟨m, by omega, rfl⟩
        · rintro ⟨j, hj, rfl⟩
          rcases Nat.lt_or_ge j m with h | h
          · exact .inl ⟨j, h, rfl⟩
          · obtain rfl : j = m := by omega
            exact .inr rfl
    · rw [if_neg hk, List.append_nil]
      have hk' : m ≠ 0 ∧ d[m]! = d[m - 1]! := by simpa [Lib.keeps] using hk
      refine ⟨h1, fun x => ?_⟩
      rw [h2]
      constructor
      · rintro ⟨j, hj, rfl⟩; exact ⟨j, by omega, rfl⟩
      · rintro ⟨j, hj, rfl⟩
        rcases Nat.lt_or_ge j m with h | h
        · exact ⟨j, h, rfl⟩
        · obtain rfl : j = m := by omega
          exact ⟨j - 1, by omega, hk'.2.symm⟩
theorem sorted_le (xs : List Int) : (sorted xs).Pairwise (· ≤ ·) := by
  have := List.pairwise_mergeSort (le := fun x y : Int => decide (x ≤ y)) (by intro a b c; simp; omega) (by intro a b; simp; omega) xs
  exact this.imp fun h => by simpa using h
theorem mem_sorted' {x : Int} {xs : List Int} : x ∈ sorted xs ↔ x ∈ xs := by unfold sorted; exact List.mem_mergeSort
theorem compact_sorted {xs : List Int} {n : Nat} {f : Nat → Bool} (h : ∀ x, x ∈ xs ↔ ∃ i : Nat, x = i ∧ i < n ∧ f i = true) : Lib.compact (sorted xs) = picks n f := by
  have hd : ∀ i j, i ≤ j → j < (sorted xs).toArray.size → (sorted xs).toArray[i]! ≤ (sorted xs).toArray[j]! := by
    intro i j hij hj
    have hj' : j < (sorted xs).length := by simpa using hj
    rw [getElem!_pos _ i (by simp; omega), getElem!_pos _ j (by simp; omega)]
    rcases Nat.lt_or_ge i j with hlt | hge
    · exact List.pairwise_iff_getElem.1 (sorted_le xs) i j (by omega) hj' hlt
    · obtain rfl : i = j := by omega
      exact Int.le_refl _
  obtain ⟨h1, h2⟩ := compact_asc _ hd (sorted xs).length (by simp)
  have hc : Lib.compact (sorted xs) = Lib.compactUpTo (sorted xs).toArray (sorted xs).length := rfl
  rw [← hc] at h1 h2
  rw [← sorted_id h1]
  refine sorted_eq (h1.imp fun h => by omega) fun x => ?_
  rw [h2, ← h, ← mem_sorted']
  constructor
  · rintro ⟨j, hj, rfl⟩
    rw [getElem!_pos _ j (by simpa using hj)]
    simp
  · intro hx
    obtain ⟨j, hj⟩ := List.getElem?_of_mem hx
    have hl := lt_of_get hj
    refine ⟨j, hl, ?_⟩
    rw [getElem!_pos _ j (by simpa using hl)]
    rw [List.getElem?_eq_getElem hl] at hj
    simpa using hj
/-! what rules cut bytes at -/
def hits (rs : List Rule) (at_ n : Int) : Prop := n = 0 ∨ ∃ r ∈ rs, r.at_ = at_ ∧ (r.num = n ∨ r.num + 1 = n)
theorem hits_nil (at_ n : Int) : hits [] at_ n ↔ n = 0 := by simp [hits]
theorem hits_snoc (rs : List Rule) (r : Rule) (at_ n : Int) : hits (rs ++ [r]) at_ n ↔ hits rs at_ n ∨ (r.at_ = at_ ∧ (r.num = n ∨ r.num + 1 = n)) := by
  unfold hits
  constructor
  · rintro (h | ⟨q, hq, h⟩)
    · exact .inl (.inl h)
    · rcases List.mem_append.1 hq with h1 | h1
      · exact .inl (.inr ⟨q, h1, h⟩)
      · simp at h1; subst h1; exact .inr h
  · rintro ((h | ⟨q, hq, h⟩) | h)
    · exact .inl h
    · exact .inr ⟨q, List.mem_append.2 (.inl hq), h⟩
    · exact .inr ⟨r, by simp, h⟩
open Classical in
noncomputable def cuts (a b : List Rule) (at_ : Int) : List Int := picks 256 fun n => decide (hits (a ++ b) at_ n)
theorem elRule : El P0 25 59 kRule 40 := ⟨by kernel_rfl, ⟨_, _, Option.eq_some_of_isSome (by kernel_rfl), Option.eq_some_of_isSome (by kernel_rfl), by kernel_rfl, by kernel_rfl, by kernel_rfl⟩, by decide, noAnyRule⟩
section
variable {w : World} {s sa sb : Sl} {la lb : List Rule} {K : Sl → World → Prop}
theorem run_sl0 {a : Option Addr} {n c : Nat} (hc : n ≤ c) (m : Nat) (hm : m ≤ c) : (Instr.sliceAt 25 (.slice a n c) none (some (.int .i64 (m : Int))) none).run P0 w = .ok (.slice a m c) w := by
  have hmap : a.map (fun x => x.add 0) = a := by cases a <;> simp [Addr.add]
  have h1 : ((m : Int) ≤ (c : Int)) := by omega
  have hs : szOf P0 59 = some 5 := by kernel_rfl
  have hu : P0.underlying 25 = some (.slice 59) := by kernel_rfl
  simp [Instr.sliceAt, Instr.slice, underlying, hu, Instr.sliceBounds, Instr.sliceBound, asIntOf, run_sizeOf hs, h1, hm, hmap]
theorem slices.Grow_Rule.c {n : Nat} (hn : n ≤ 1048600) (hk : ∀ r w', OwnS kRule 59 w.heap.size w' r [] → Below w.heap.size w w' → K r w') :
    CallT (.o (.lf .sl)) P0 113 [.slice none 0 0, .int .i64 (n : Int)] w K := by
  refine slices.Grow_Rule.ok (s := ⟨none, 0, 0⟩) ⟨fun w' => w' = w, And.intro (fun h => by simp only [decide_eq_true_eq] at h; omega) (fun _ => rfl), ?_⟩
  rintro w1 rfl _
  have hw : IntKind.wrap .i64 ((n : Int) - IntKind.wrap .i64 (((0 : Nat) : Int) - ((0 : Nat) : Int))) = n := by
    rw [i64_of (n := ((0 : Nat) : Int) - ((0 : Nat) : Int)) (by omega) (by omega), i64_of (by omega) (by omega)]; omega
  simp only [hw]
  refine And.intro (fun h0 => ?_) (fun h0 => ?_)
  · simp only [decide_eq_true_eq] at h0
    refine ⟨⟨none, 0, 0⟩, w1, run_sl0 (Nat.le_refl _) 0 (Nat.le_refl _), ?_⟩
    obtain ⟨i, z, hi, hz, hsz, hby, hzs⟩ := elRule.info
    have hsz5 : i.size = 5 := hsz
    have hfit := growslice_fits (bytes := i.bytes) (show 0 < 0 + n by omega) (by rw [hby]; omega)
    have hr := Lib.run_append_grow_zeros (P := P0) w1 25 3 25 59 i z .i64 .i64 elRule.elem uI hi hz none 0 0 [] (run_firstCells_none w1.drew i.size 0 0 0) n (by omega) (by rw [hsz5]; decide) (by omega) (by omega) (by rw [hby]; omega) hfit
    have hG : 0 + n ≤ grownCap w1 (0 + n) 0 59 := grownCap_ge w1 _ _ _
    have hGm := grownCap_le_maxLen w1 (0 + n) 0 59 (by simp only [maxLen]; omega)
    obtain ⟨G, hGe⟩ : ∃ G, G = grownCap w1 (0 + n) 0 59 := ⟨_, rfl⟩
    rw [← hGe] at hr hG hGm
    refine ⟨⟨some ⟨w1.heap.size, 0, none⟩, 0 + n, G⟩, _, hr, ?_⟩
    refine ⟨⟨some ⟨w1.heap.size, 0, none⟩, 0, G⟩, _, run_sl0 hG 0 (Nat.zero_le _), hk _ _ ⟨rfl, rfl, .inr ⟨w1.heap.size, G, _, rfl, Nat.le_refl _, heap_alloc_new w1.drew _, Nat.zero_le _, hGm, ?_, by simp⟩⟩ ?_⟩
    · simp only [Array.size_append, size_zeroCells, hzs, List.size_toArray, List.length_nil, Nat.zero_add, ← Nat.add_mul]
      exact congrArg (· * kRule.ls.length) (show n + (G - n) = G by omega)
    · refine (Below.refl _ _).grown (row := none) ?_ (Nat.le_refl _) (by simp)
      exact ⟨rfl, rfl, rfl, by simp, fun k hk _ => heap_alloc_old w1.drew _ hk⟩
  · simp only [decide_eq_false_iff_not] at h0
    exact hk _ _ (OwnS.nil _ _ _ _) (Below.refl _ _)
theorem slices.Concat_Rule.c (h : SlR kSl w s [sa, sb]) (ha : SlR kRule w sa la) (hb : SlR kRule w sb lb) (hla : la.length ≤ 6) (hlb : lb.length ≤ 6)
    (hk : ∀ r w', OwnS kRule 59 w.heap.size w' r (la ++ lb) → Below w.heap.size w w' → K r w') : CallT (.o (.lf .sl)) P0 104 [s.v] w K := by
  have hn := h.len; have hna := ha.len; have hnb := hb.len
  have hn2 : s.n = 2 := hn
  refine slices.Concat_Rule.ok ⟨fun size i w' => ∃ n : Nat, i = n ∧ n ≤ 2 ∧ size = (([sa, sb].take n).map Sl.n).sum ∧ w' = w, fun _ i _ => 2 - i.toNat, ⟨0, rfl, by omega, by simp, rfl⟩, ?_⟩
  rintro size i w1 ⟨n, rfl, hn', rfl, rfl⟩ _
  have hle : ∀ m : Nat, m ≤ 2 → (([sa, sb].take m).map Sl.n).sum ≤ 12 := by
    intro m hm
    match m, hm with
    | 0, _ => simp
    | 1, _ => simp; omega
    | 2, _ => simp; omega
  refine And.intro (fun hlt => ?_) (fun hge => ?_)
  · simp only [decide_eq_true_eq] at hlt
    obtain ⟨x, hx⟩ := get_some (l := [sa, sb]) (k := n) (by simp; omega)
    refine ixL h (i := n) (by omega) (x := x) (by simpa using hx) rfl (l := .sl) (v := x) rfl ?_
    have h1 := hle n hn'
    have h2 := hle (n + 1) (by omega)
    have h3 : (([sa, sb].take (n + 1)).map Sl.n).sum = (([sa, sb].take n).map Sl.n).sum + x.n := by rw [List.take_add_one, hx]; simp
    rw [i64_of (n := (((([sa, sb].take n).map Sl.n).sum : Nat) : Int) + (x.n : Int)) (by omega) (by omega)]
    refine And.intro (fun hc => by simp only [decide_eq_true_eq] at hc; omega) (fun _ => ?_)
    rw [i64_of (by omega) (by omega)]
    exact ⟨⟨n + 1, by omega, by omega, by rw [h3]; omega, rfl⟩, by simp only; omega⟩
  · simp only [decide_eq_false_iff_not] at hge
    obtain rfl : n = 2 := by omega
    have h12 := hle 2 (by omega)
    refine slices.Grow_Rule.c (by omega) fun r w2 hr hb2 => ?_
    refine ⟨fun out i w' => ∃ n : Nat, i = n ∧ n ≤ 2 ∧ OwnS kRule 59 w1.heap.size w' out (([la, lb].take n).flatten) ∧ Below w1.heap.size w1 w', fun _ i _ => 2 - i.toNat, ⟨0, rfl, by omega, by simpa using hr, hb2⟩, ?_⟩
    rintro out i w3 ⟨n, rfl, hn3, ho3, hb3⟩ _
    refine And.intro (fun hlt => ?_) (fun hge => ?_)
    · simp only [decide_eq_true_eq] at hlt
      obtain ⟨x, hx⟩ := get_some (l := [sa, sb]) (k := n) (by simp; omega)
      obtain ⟨L, hL⟩ := get_some (l := [la, lb]) (k := n) (by simp; omega)
      have hxL : SlR kRule w1 x L ∧ L.length ≤ 6 ∧ ([la, lb].take n).flatten.length ≤ 6 := by
        have : n = 0 ∨ n = 1 := by omega
        rcases this with rfl | rfl
        · simp at hx hL; subst hx; subst hL; exact ⟨ha, hla, by simp⟩
        · simp at hx hL; subst hx; subst hL; exact ⟨hb, hlb, by simpa using hla⟩
      refine ixL (h.below hb3) (i := n) (by omega) (x := x) (by simpa using hx) rfl (l := .sl) (v := x) rfl ?_
      refine apS elRule ho3 (hxL.1.below hb3) (by omega) (by omega) hb3.size fun s' w4 ho4 hg4 _ _ => ?_
      rw [i64_of (by omega) (by omega)]
      refine ⟨⟨n + 1, by omega, by omega, ?_, hb3.grown hg4 hb3.size (fun b hb => (ho3.blk hb).1)⟩, by simp only; omega⟩
      rw [List.take_add_one, hL]
      simpa using ho4
    · simp only [decide_eq_false_iff_not] at hge
      obtain rfl : n = 2 := by omega
      exact hk _ _ (by simpa using ho3) hb3
theorem kSl_lit {w : World} {x y : Sl} {t : TypeId} {w' : World} (hc : w'.heap[w.heap.size]? = some (.cells #[x.v, y.v] t (0, 0))) : SlR kSl w' ⟨some ⟨w.heap.size, 0, none⟩, 2, 2⟩ [x, y] :=
  (OwnS.lit (k := kSl) (t := t) (B := 0) (xs := [x, y]) (Nat.zero_le _) hc rfl rfl (by simp [maxLen])).read
theorem impl.cuts.c {at_ : Int} (ha : SlR kRule w sa la) (hb : SlR kRule w sb lb) (hpa : RulesP la) (hpb : RulesP lb)
    (hk : ∀ r w', OwnS kI 3 w.heap.size w' r (cuts la lb at_) → Below w.heap.size w w' → K r w') : CallT (.o (.lf .sl)) P0 82 [sa.v, sb.v, .int .i64 at_] w K := by
  refine impl.cuts.ok (nw fun w1 hb1 hs1 hc1 => ?_)
  have ho1 : OwnS kI 3 w.heap.size w1 ⟨some ⟨w.heap.size, 0, none⟩, 1, 1⟩ [0] := OwnS.lit (k := kI) (Nat.le_refl _) hc1 rfl rfl (by simp [maxLen])
  refine nw fun w2 hb2 hs2 hc2 => ?_
  have hb12 := hb1.trans (hb2.mono hb1.size)
  refine slices.Concat_Rule.c (s := ⟨some ⟨w1.heap.size, 0, none⟩, 2, 2⟩) (kSl_lit hc2) (ha.below hb12) (hb.below hb12) hpa.1 hpb.1 fun r w3 hr3 hb3 => ?_
  have hb13 := hb12.trans (hb3.mono hb12.size)
  have hrn := hr3.len
  have hall : ∀ x ∈ la ++ lb, RuleP x := fun x hx => (List.mem_append.1 hx).elim (hpa.2 x) (hpb.2 x)
  have hlen : (la ++ lb).length ≤ 12 := by rw [List.length_append]; have := hpa.1; have := hpb.1; omega
  refine ⟨fun out i w' => ∃ (n : Nat) (xs : List Int), i = n ∧ n ≤ (la ++ lb).length ∧ OwnS kI 3 w.heap.size w' out xs ∧ OwnS kRule 59 w2.heap.size w' r (la ++ lb) ∧ xs.length ≤ 1 + 2 * n ∧ (∀ x, x ∈ xs ↔ hits ((la ++ lb).take n) at_ x ∧ x < 256) ∧ Below w.heap.size w w', fun _ i _ => (la ++ lb).length - i.toNat,
    ⟨0, [0], rfl, by omega, (ho1.below hb2).below hb3, hr3, by simp, fun x => by simp [hits_nil]; omega, hb13⟩, ?_⟩
  rintro out i w4 ⟨n, xs, rfl, hn, ho4, hr4, hxl, hx4, hb4⟩ _
  -- rows of rules and rows of numbers lie apart
  have apart : ∀ {w' : World} {t : Sl} {T : List Int}, OwnS kRule 59 w2.heap.size w' r (la ++ lb) → OwnS kI 3 w.heap.size w' t T → ∀ b, t.bk = some b → (Value.slice r.a r.n r.c).ownBlock ≠ some b := by
    intro w' t T h1 h2 b hb e
    rw [ob_bk] at e
    rcases h1.wr.2.2.2 with h0 | ⟨b1, o1, c1, ha1, _, hh1, _⟩
    · simp [Sl.bk, h0.1] at e
    · rcases h2.wr.2.2.2 with h0 | ⟨b2, o2, c2, ha2, _, hh2, _⟩
      · simp [Sl.bk, h0.1] at hb
      · simp only [Sl.bk, ha1, ha2, Option.map_some, Option.some.injEq] at hb e
        subst hb; subst e
        rw [hh1] at hh2
        simp at hh2
  refine And.intro (fun hlt => ?_) (fun hge => ?_)
  · simp only [decide_eq_true_eq] at hlt
    obtain ⟨x, hx⟩ := get_some (l := la ++ lb) (k := n) (by omega)
    have hp := hall x (List.mem_of_getElem? hx)
    have htk : (la ++ lb).take (n + 1) = (la ++ lb).take n ++ [x] := by rw [List.take_add_one, hx]; rfl
    have hwr : IntKind.wrap .i64 ((n : Int) + 1) = (n : Int) + 1 := i64_of (by omega) (by omega)
    refine ixA hr4.read (i := n) (by omega) (x := x) (by simpa using hx) rfl ?_
    refine nwStRule (x := x) fun w5 hb5 hs5 hc5 => ?_
    have hb45 := hb4.trans (hb5.mono hb4.size)
    refine ldB hc5 (x := x.at_) rfl ?_
    refine And.intro (fun hne => ?_) (fun he => ?_)
    · simp only [bne_iff_ne, ne_eq] at hne
      rw [hwr]
      refine ⟨⟨n + 1, xs, by omega, by omega, ho4.below hb5, hr4.below hb5, by omega, fun y => ?_, hb45⟩, by simp only; omega⟩
      rw [htk, hits_snoc, hx4 y]
      simp [hne]
    · simp only [bne_eq_false_iff_eq] at he
      refine ldB hc5 (x := x.num) rfl ?_
      refine ap1 elI (ho4.below hb5) x.num rfl (by omega) (by omega) hb45.size fun o6 w6 ho6 hg6 hbk6 => ?_
      rw [ob_bk] at hg6
      have hb6 := hb45.grown hg6 hb45.size (fun b hb => (ho4.blk ((ob_bk _).trans hb)).1)
      have hr6 := (hr4.below hb5).kept hg6 (apart (hr4.below hb5) (ho4.below hb5))
      have hc6 := (hg6.block w4.heap.size (by omega) (fun e => by have := (ho4.blk ((ob_bk _).trans e.symm)).2; omega)).trans hc5
      refine ldB hc6 (x := x.num) rfl ?_
      refine And.intro (fun hlt => ?_) (fun hge => ?_)
      · simp only [decide_eq_true_eq] at hlt
        refine ldB hc6 (x := x.num) rfl ?_
        rw [i64_of (n := x.num + 1) (by have := hp.2.2.1; omega) (by omega)]
        refine ap1 elI ho6 (x.num + 1) rfl (by simp; omega) (by simp; omega) hb6.size fun o7 w7 ho7 hg7 hbk7 => ?_
        rw [ob_bk] at hg7
        rw [hwr]
        refine ⟨⟨n + 1, _, by omega, by omega, ho7, hr6.kept hg7 (apart hr6 ho6), by simp; omega, fun y => ?_, hb6.grown hg7 hb6.size (fun b hb => (ho6.blk ((ob_bk _).trans hb)).1)⟩, by simp only; omega⟩
        rw [htk, hits_snoc, List.mem_append, List.mem_append, hx4 y]
        simp only [List.mem_singleton, he, true_and]
        constructor
        · rintro ((⟨h1, h2⟩ | h) | h)
          · exact ⟨.inl h1, h2⟩
          · exact ⟨.inr (.inl h.symm), by omega⟩
          · exact ⟨.inr (.inr h.symm), by omega⟩
        · rintro ⟨h1 | h1 | h1, h2⟩
          · exact .inl (.inl ⟨h1, h2⟩)
          · exact .inl (.inr h1.symm)
          · exact .inr h1.symm
      · simp only [decide_eq_false_iff_not] at hge
        have := hp.2.2.1
        rw [hwr]
        refine ⟨⟨n + 1, _, by omega, by omega, ho6, hr6, by simp; omega, fun y => ?_, hb6⟩, by simp only; omega⟩
        rw [htk, hits_snoc, List.mem_append, hx4 y]
        simp only [List.mem_singleton, he, true_and]
        constructor
        · rintro (⟨h1, h2⟩ | h)
          · exact ⟨.inl h1, h2⟩
          · exact ⟨.inr (.inl h.symm), by omega⟩
        · rintro ⟨h1 | h1 | h1, h2⟩
          · exact .inl ⟨h1, h2⟩
          · exact .inr h1.symm
          · omega
  · simp only [decide_eq_false_iff_not] at hge
    obtain rfl : n = (la ++ lb).length := by omega
    rw [List.take_length] at hx4
    refine sort_own ho4 (by omega) fun w5 ho5 hg5 => ?_
    refine compact_own ho5 fun o6 w6 ho6 hg6 => ?_
    have hb5 := hb4.grown hg5 hb4.size (fun b hb => (ho4.blk hb).1)
    have hb6 := hb5.grown hg6 hb5.size (fun b hb => (ho5.blk hb).1)
    refine hk _ _ ?_ hb6
    rw [compact_sorted (n := 256) (f := fun n => @decide (hits (la ++ lb) at_ n) (Classical.propDecidable _))] at ho6
    · exact ho6
    · intro x
      rw [hx4]
      simp only [decide_eq_true_eq]
      constructor
      · rintro ⟨h1, h2⟩
        have h0 : 0 ≤ x := by
          rcases h1 with h | ⟨r, hr, _, h⟩
          · omega
          · have := (hall r hr).2.2.1; omega
        exact ⟨x.toNat, by omega, by omega, by rw [show ((x.toNat : Nat) : Int) = x by omega]; exact h1⟩
      · rintro ⟨i, rfl, hi, h⟩; exact ⟨h, by omega⟩
theorem spec.l14Cuts.c {at_ : Int} (h : SlR kSl w s [sa, sb]) (ha : SlR kRule w sa la) (hb : SlR kRule w sb lb) (hpa : RulesP la) (hpb : RulesP lb)
    (hk : ∀ r w', OwnS kI 3 w.heap.size w' r (cuts la lb at_) → Below w.heap.size w w' → K r w') : CallT (.o (.lf .sl)) P0 78 [s.v, .int .i64 at_] w K := by
  have hn := h.len
  have hn2 : s.n = 2 := hn
  refine spec.l14Cuts.ok (mkS (n := 257) mkB (by omega) (by simp [maxLen]) fun r w1 hb1 hr1 => ?_)
  rw [bits_rep] at hr1
  have bk : ∀ b, r.bk = some b → w.heap.size ≤ b := fun b hb => (hr1.blk hb).1
  refine stBit hr1 (Int.le_refl _) (by omega) fun w2 hr2 hg2 => ?_
  have hb2 := hb1.grown hg2 hb1.size bk
  refine ⟨fun i w' => ∃ (n : Nat) (f : Nat → Bool), i = n ∧ n ≤ 2 ∧ WrS kB 4 w.heap.size w' r (bits 257 f) ∧ (∀ j : Nat, j < 257 → (f j = true ↔ hits (([la, lb].take n).flatten) at_ j)) ∧ Below w.heap.size w w', fun i _ => 2 - i.toNat,
    ⟨0, _, rfl, by omega, hr2, fun j hj => by simp [hits_nil], hb2⟩, ?_⟩
  rintro i w3 ⟨n, f, rfl, hn3, hr3, hf3, hb3⟩ _
  refine And.intro (fun hlt => ?_) (fun hge => ?_)
  · simp only [decide_eq_true_eq] at hlt
    obtain ⟨x, hx⟩ := get_some (l := [sa, sb]) (k := n) (by simp; omega)
    obtain ⟨L, hL⟩ := get_some (l := [la, lb]) (k := n) (by simp; omega)
    have hxL : SlR kRule w x L ∧ RulesP L := by
      have : n = 0 ∨ n = 1 := by omega
      rcases this with rfl | rfl
      · simp at hx hL; subst hx; subst hL; exact ⟨ha, hpa⟩
      · simp at hx hL; subst hx; subst hL; exact ⟨hb, hpb⟩
    have hxn := hxL.1.len
    have hL6 := hxL.2.1
    have hx' : [sa, sb][((n : Nat) : Int).toNat]? = some x := by simpa using hx
    refine ⟨fun k w' => ∃ (m : Nat) (g : Nat → Bool), k = m ∧ m ≤ L.length ∧ WrS kB 4 w.heap.size w' r (bits 257 g) ∧ (∀ j : Nat, j < 257 → (g j = true ↔ hits (([la, lb].take n).flatten ++ L.take m) at_ j)) ∧ Below w.heap.size w w', fun k _ => L.length - k.toNat,
      ⟨0, f, rfl, by omega, hr3, by simpa using hf3, hb3⟩, ?_⟩
    rintro k w4 ⟨m, g, rfl, hm, hr4, hg4, hb4⟩ _
    refine ixL (h.below hb4) (i := n) (by omega) hx' rfl (l := .sl) (v := x) rfl ?_
    refine And.intro (fun hlt4 => ?_) (fun hge4 => ?_)
    · simp only [decide_eq_true_eq] at hlt4
      obtain ⟨y, hy⟩ := get_some (l := L) (k := m) (by omega)
      have hy' : L[((m : Nat) : Int).toNat]? = some y := by simpa using hy
      have hyp := hxL.2.2 y (List.mem_of_getElem? hy)
      have hnum := hyp.2.2.1
      have htk : ([la, lb].take n).flatten ++ L.take (m + 1) = (([la, lb].take n).flatten ++ L.take m) ++ [y] := by rw [List.take_add_one, hy, List.append_assoc]; rfl
      have hwr : IntKind.wrap .i64 ((m : Int) + 1) = (m : Int) + 1 := i64_of (by omega) (by omega)
      refine ixL (h.below hb4) (i := n) (by omega) hx' rfl (l := .sl) (v := x) rfl ?_
      refine ixF (hxL.1.below hb4) (i := m) (by omega) hy' rfl (v := y.at_) rfl ?_
      refine And.intro (fun he => ?_) (fun hne => ?_)
      · simp only [beq_iff_eq] at he
        refine ixL (h.below hb4) (i := n) (by omega) hx' rfl (l := .sl) (v := x) rfl ?_
        refine ixF (hxL.1.below hb4) (i := m) (by omega) hy' rfl (v := y.num) rfl ?_
        refine stBit hr4 hnum.1 (by omega) fun w5 hr5 hg5 => ?_
        have hb5 := hb4.grown hg5 hb4.size bk
        refine ixL (h.below hb5) (i := n) (by omega) hx' rfl (l := .sl) (v := x) rfl ?_
        refine ixF (hxL.1.below hb5) (i := m) (by omega) hy' rfl (v := y.num) rfl ?_
        rw [i64_of (n := y.num + 1) (by omega) (by omega)]
        refine stBit hr5 (by omega) (by omega) fun w6 hr6 hg6 => ?_
        have hb6 := hb5.grown hg6 hb5.size bk
        rw [hwr]
        refine ⟨⟨m + 1, _, by omega, by omega, hr6, fun j hj => ?_, hb6⟩, by simp only; omega⟩
        rw [htk, hits_snoc, Bool.or_eq_true, Bool.or_eq_true, hg4 j hj]
        simp only [decide_eq_true_eq, he, true_and]
        constructor
        · rintro ((h | h) | h)
          · exact .inl h
          · exact .inr (.inl (by omega))
          · exact .inr (.inr (by omega))
        · rintro (h | h | h)
          · exact .inl (.inl h)
          · exact .inl (.inr (by omega))
          · exact .inr (by omega)
      · simp only [beq_eq_false_iff_ne, ne_eq] at hne
        rw [hwr]
        refine ⟨⟨m + 1, g, by omega, by omega, hr4, fun j hj => ?_, hb4⟩, by simp only; omega⟩
        rw [htk, hits_snoc, hg4 j hj]
        simp [hne]
    · simp only [decide_eq_false_iff_not] at hge4
      obtain rfl : m = L.length := by omega
      rw [i64_of (by omega) (by omega)]
      refine ⟨⟨n + 1, g, by omega, by omega, hr4, fun j hj => ?_, hb4⟩, by simp only; omega⟩
      rw [hg4 j hj, List.take_length, List.take_add_one, hL]
      simp
  · simp only [decide_eq_false_iff_not] at hge
    obtain rfl : n = 2 := by omega
    refine nw fun w4 hb4 hs4 hc4 => ?_
    have ho4 : OwnS kI 3 w.heap.size w4 ⟨some ⟨w3.heap.size, 0, none⟩, 0, 0⟩ [] := OwnS.lit hb3.size hc4 rfl rfl (by simp)
    refine collect (n := 256) (m := 257) (f := f) (hr3.below hb4).read (by omega) (by omega) ho4 (by have := hb3.size; omega) ?_ ?_
    · intro b o hb
      have hbk : r.bk = some b := by simp [Sl.bk, hb]
      have h1 := hr3.blk hbk
      refine ⟨by omega, fun b' hb' e => ?_⟩
      simp only [Sl.bk, Option.map_some, Option.some.injEq] at hb'
      omega
    · intro out w5 ho5 hb5
      refine hk _ _ ?_ ((hb3.trans (hb4.mono hb3.size)).trans (hb5 _ (Nat.le_refl _)))
      have : cuts la lb at_ = picks 256 f := by
        unfold cuts
        refine picks_congr fun i hi => ?_
        rw [Bool.eq_iff_iff, hf3 i (by omega)]
        simp
      rw [this]; exact ho5
/-- How many pieces, after so many bytes. -/
noncomputable def many (a b : List Rule) : Nat → Int
  | 0 => 1
  | n + 1 => IntKind.wrap .i64 (many a b n * ((cuts a b n).length : Int))
noncomputable def pieces (a b : List Rule) : Int := many a b 12
theorem impl.pieces.c {K : Int → World → Prop} (ha : SlR kRule w sa la) (hb : SlR kRule w sb lb) (hpa : RulesP la) (hpb : RulesP lb) (hk : ∀ w', Below w.heap.size w w' → K (pieces la lb) w') :
    CallT (.o (.lf (.i .i64))) P0 52 [sa.v, sb.v] w K := by
  refine impl.pieces.ok ⟨fun p i w' => ∃ n : Nat, i = n ∧ n ≤ 12 ∧ p = many la lb n ∧ Below w.heap.size w w', fun _ i _ => 12 - i.toNat, ⟨0, rfl, by omega, rfl, Below.refl _ _⟩, ?_⟩
  rintro p i w1 ⟨n, rfl, hn, rfl, hb1⟩ _
  refine And.intro (fun hlt => ?_) (fun hge => ?_)
  · simp only [decide_eq_true_eq] at hlt
    refine impl.cuts.c (ha.below hb1) (hb.below hb1) hpa hpb fun r w2 hr hb2 => ?_
    rw [i64_of (n := (n : Int) + 1) (by omega) (by omega), hr.len]
    exact ⟨⟨n + 1, by omega, by omega, rfl, hb1.trans (hb2.mono hb1.size)⟩, by simp only; omega⟩
  · simp only [decide_eq_false_iff_not] at hge
    obtain rfl : n = 12 := by omega
    exact hk _ hb1
theorem spec.l14Ways.c {K : Int → World → Prop} (ha : SlR kRule w sa la) (hb : SlR kRule w sb lb) (hpa : RulesP la) (hpb : RulesP lb) (hk : ∀ w', Below w.heap.size w w' → K (pieces la lb) w') :
    CallT (.o (.lf (.i .i64))) P0 49 [sa.v, sb.v] w K := by
  refine spec.l14Ways.ok ⟨fun p i w' => ∃ n : Nat, i = n ∧ n ≤ 12 ∧ p = many la lb n ∧ Below w.heap.size w w', fun _ i _ => 12 - i.toNat, ⟨0, rfl, by omega, rfl, Below.refl _ _⟩, ?_⟩
  rintro p i w1 ⟨n, rfl, hn, rfl, hb1⟩ _
  refine And.intro (fun hlt => ?_) (fun hge => ?_)
  · simp only [decide_eq_true_eq] at hlt
    refine nw fun w2 hb2 hs2 hc2 => ?_
    have hb12 := hb1.trans (hb2.mono hb1.size)
    refine spec.l14Cuts.c (s := ⟨some ⟨w1.heap.size, 0, none⟩, 2, 2⟩) (kSl_lit hc2) (ha.below hb12) (hb.below hb12) hpa hpb fun r w3 hr hb3 => ?_
    rw [i64_of (n := (n : Int) + 1) (by omega) (by omega), hr.len]
    exact ⟨⟨n + 1, by omega, by omega, rfl, hb12.trans (hb3.mono hb12.size)⟩, by simp only; omega⟩
  · simp only [decide_eq_false_iff_not] at hge
    obtain rfl : n = 12 := by omega
    exact hk _ hb1
noncomputable def samePieces (a b : List Rule) : Int := if RulesP a ∧ RulesP b then pieces a b else -1
theorem impl.SamePieces.c {K : Int → World → Prop} (ha : SlR kRule w sa la) (hb : SlR kRule w sb lb) (hk : ∀ w', Below w.heap.size w w' → K (samePieces la lb) w') :
    CallT (.o (.lf (.i .i64))) P0 18 [sa.v, sb.v] w K := by
  refine impl.SamePieces.ok (impl.RulesOk.c ha fun w1 hb1 => ?_)
  refine And.intro (fun hq => ?_) (fun hq => ?_)
  · simp at hq; exact kof (hk _ hb1) (by simp [samePieces, hq])
  · simp at hq
    refine impl.RulesOk.c (hb.below hb1) fun w2 hb2 => ?_
    have hb12 := hb1.trans (hb2.mono hb1.size)
    refine And.intro (fun hp => ?_) (fun hp => ?_)
    · simp at hp; exact kof (hk _ hb12) (by simp [samePieces, hp])
    · simp at hp
      refine impl.pieces.c (ha.below hb12) (hb.below hb12) hq hp fun w3 hb3 => kof (hk _ (hb12.trans (hb3.mono hb12.size))) (by simp [samePieces, hp, hq])
theorem spec.SamePieces.c {K : Int → World → Prop} (ha : SlR kRule w sa la) (hb : SlR kRule w sb lb) (hk : ∀ w', Below w.heap.size w w' → K (samePieces la lb) w') :
    CallT (.o (.lf (.i .i64))) P0 16 [sa.v, sb.v] w K := by
  refine spec.SamePieces.ok (spec.l9Ok.c ha fun w1 hb1 => ?_)
  refine And.intro (fun hq => ?_) (fun hq => ?_)
  · simp at hq; exact kof (hk _ hb1) (by simp [samePieces, hq])
  · simp at hq
    refine spec.l9Ok.c (hb.below hb1) fun w2 hb2 => ?_
    have hb12 := hb1.trans (hb2.mono hb1.size)
    refine And.intro (fun hp => ?_) (fun hp => ?_)
    · simp at hp; exact kof (hk _ hb12) (by simp [samePieces, hp])
    · simp at hp
      refine spec.l14Ways.c (ha.below hb12) (hb.below hb12) hq hp fun w3 hb3 => kof (hk _ (hb12.trans (hb3.mono hb12.size))) (by simp [samePieces, hp, hq])
end
end Go.Proofs.Ytdgnojjemlfhdaa.V
