/- Contracts: FlowReach, FlowAhead, FlowRound on both sides. -/
import Derived.Test.YtdgnojjemlfhdaaFR
namespace Go.Proofs.Ytdgnojjemlfhdaa.V
open Go Go.RowKit
set_option linter.unusedVariables false
set_option linter.unusedSimpArgs false
section
variable {w : World} {s : Sl} {l : List Ins}
open Classical in
theorem spec.FlowReach.c {K : Sl → World → Prop} (h : SlR kIns w s l) (hl : l.length ≤ 1048576)
    (hk : ∀ r w', Below w.heap.size w w' → OwnS kI 3 w.heap.size w' r (flowReach l) → K r w') : CallT (.o (.lf .sl)) P0 37 [s.v] w K := by
  have hn := h.len
  refine spec.FlowReach.ok (nw fun w0 hb0 hs0 hc0 => ?_)
  have ho0 : OwnS kI 3 w.heap.size w0 ⟨some ⟨w.heap.size, 0, none⟩, 0, 0⟩ [] := OwnS.lit (Nat.le_refl _) hc0 rfl rfl (by simp)
  refine spec.l12Fine.c (h.below hb0) hl fun w1 hb1' => ?_
  have hb1 := hb0.trans (hb1'.mono hb0.size)
  have ho1 := ho0.below hb1'
  refine And.intro (fun hq => ?_) (fun hq => ?_)
  · simp at hq
    exact hk _ _ hb1 (by unfold flowReach; rw [if_pos hq]; exact ho1)
  · simp at hq
    have hz := formP_size hq
    refine spec.l12Reach.c hq hl (h.below hb1) (Int.le_refl 0) (by omega) fun r w2 f hr2 hf hb2 => ?_
    have hb02 := hb1.trans (hb2.mono hb1.size)
    have hrn := hr2.len
    rw [bits_length] at hrn
    have := collect (n := l.length) (K := K) hr2.read (Nat.le_refl _) (by omega) (ho1.below hb2) hb02.size ?_ ?_
    · rw [← hrn] at this; exact this
    · intro b o hb
      have hbk : r.bk = some b := by simp [Sl.bk, hb]
      have h1 := hr2.blk hbk
      refine ⟨h1.2, fun b' hb' e => ?_⟩
      simp only [Sl.bk, Option.map_some, Option.some.injEq] at hb'
      have := hb0.size; have := hb1'.size; omega
    · intro out w5 ho5 hb5
      refine hk _ _ (hb02.trans (hb5 _ (Nat.le_refl _))) ?_
      have : flowReach l = picks l.length f := by
        unfold flowReach
        rw [if_neg (by simp [hq])]
        exact picks_congr fun i hi => by rw [Bool.eq_iff_iff, hf i hi, decide_eq_true_eq]; simp [Rch, RchF]
      rw [this]; exact ho5
/-- Each way to b goes over a. -/
def Ahead (l : List Ins) (a b : Int) : Prop := formP l = 0 ∧ Rch l a ∧ Rch l b ∧ (a = b ∨ a = 0 ∨ ¬ (b = 0 ∨ Pth l a 0 b))
open Classical in
theorem impl.FlowAhead.c {a b : Int} {K : Bool → World → Prop} (h : SlR kIns w s l) (hl : l.length ≤ 1048576) (ha : (Lit.int .i64 a).wf = true) (hbw : (Lit.int .i64 b).wf = true)
    (hk : ∀ w', Below w.heap.size w w' → K (decide (Ahead l a b)) w') : CallT (.o (.lf .b)) P0 30 [s.v, .int .i64 a, .int .i64 b] w K := by
  refine impl.FlowAhead.ok ⟨fun w' => Below w.heap.size w w' ∧ formP l = 0 ∧ Rch l a ∧ Rch l b, ?_, ?_⟩
  · refine impl.ProgForm.c h hl fun w1 hb1 => ?_
    refine And.intro (fun hq => ?_) (fun hq => ?_)
    · simp at hq
      exact kof (hk _ hb1) (by simp [Ahead, hq])
    · simp at hq
      refine impl.reached.c hq hl (h.below hb1) fun m w2 S hm2 hS hb2 => ?_
      have hb12 := hb1.trans (hb2.mono hb1.size)
      refine mapGet hm2 ha ?_
      refine And.intro (fun hi => ?_) (fun hi => ?_)
      · simp only [Bool.not_eq_true', decide_eq_false_iff_not, hS] at hi
        exact kof (hk _ hb12) (by simp [Ahead, hi])
      · simp only [Bool.not_eq_false', decide_eq_true_eq, hS] at hi
        refine impl.reached.c hq hl (h.below hb12) fun m' w3 S' hm3 hS' hb3 => ?_
        have hb13 := hb12.trans (hb3.mono hb12.size)
        refine mapGet hm3 hbw ?_
        refine And.intro (fun hj => ?_) (fun hj => ?_)
        · simp only [Bool.not_eq_true', decide_eq_false_iff_not, hS'] at hj
          exact kof (hk _ hb13) (by simp [Ahead, hj])
        · simp only [Bool.not_eq_false', decide_eq_true_eq, hS'] at hj
          exact ⟨hb13, hq, hi, hj⟩
  · rintro w1 ⟨hb1, hq, hra, hrb⟩ _
    have hz := formP_size hq
    have hk1 := hk _ hb1
    refine ⟨fun w' => w' = w1 ∧ a ≠ b ∧ a ≠ 0, ?_, ?_⟩
    · refine And.intro (fun he => ?_) (fun he => ?_)
      · simp only [beq_iff_eq] at he
        exact kof hk1 (by simp only [decide_eq_true_eq]; exact ⟨hq, hra, hrb, .inl he⟩)
      · simp only [beq_eq_false_iff_ne, ne_eq] at he
        refine And.intro (fun h0 => ?_) (fun h0 => ?_)
        · simp only [beq_iff_eq] at h0
          exact kof hk1 (by simp only [decide_eq_true_eq]; exact ⟨hq, hra, hrb, .inr (.inl h0)⟩)
        · simp only [beq_eq_false_iff_ne, ne_eq] at h0
          exact ⟨rfl, he, h0⟩
    · rintro w2 ⟨rfl, hab, ha0⟩ _
      refine mapNew fun m w3 hm3 hb3 hs3 => ?_
      refine mapPut hm3 (x := 0) (by decide) (by simp [maxLen]) fun w4 hm4 hg4 => ?_
      have hb4 := hb3.grown hg4 hb3.size (fun b hb => (hm3.blk hb).1)
      have hb14 := hb1.trans (hb4.mono hb1.size)
      refine impl.places.spread.c hq hl a l.length (h.below hb14) hm4 (ins_all (by simp) (by omega)) (by omega) (Int.le_refl _) (by omega) fun w5 S' hm5 hsp hrg hg5 => ?_
      have hb5 := hb14.grown hg5 hb14.size (fun b hb => by have := (hm3.blk hb).1; have := hb1.size; omega)
      refine mapGet hm5 hbw (kof (hk _ hb5) ?_)
      have := hsp.all (fun x hx => by simpa [mem_ins] using hx) b
      simp only [mem_ins, List.not_mem_nil, or_false] at this
      rw [Bool.eq_iff_iff]
      simp only [decide_eq_true_eq, Bool.not_eq_true', decide_eq_false_iff_not, this]
      constructor
      · rintro ⟨_, _, _, h | h | h⟩
        · exact absurd h hab
        · exact absurd h ha0
        · exact h
      · intro h
        exact ⟨hq, hra, hrb, .inr (.inr h)⟩
open Classical in
theorem spec.FlowAhead.c {a b : Int} {K : Bool → World → Prop} (h : SlR kIns w s l) (hl : l.length ≤ 1048576)
    (hk : ∀ w', Below w.heap.size w w' → K (decide (Ahead l a b)) w') : CallT (.o (.lf .b)) P0 29 [s.v, .int .i64 a, .int .i64 b] w K := by
  have hn := h.len
  refine spec.FlowAhead.ok ⟨fun w' => Below w.heap.size w w' ∧ formP l = 0 ∧ (0 ≤ a ∧ a < l.length) ∧ (0 ≤ b ∧ b < l.length), ?_, ?_⟩
  · refine spec.l12Fine.c h hl fun w1 hb1 => ?_
    refine And.intro (fun hq => ?_) (fun hq => ?_)
    · simp at hq
      exact kof (hk _ hb1) (by simp [Ahead, hq])
    · simp at hq
      rw [i64_of (by omega) (by omega)]
      refine spec.l1In.c ?_
      refine And.intro (fun hi => ?_) (fun hi => ?_)
      · simp only [Bool.not_eq_true', decide_eq_false_iff_not] at hi
        exact kof (hk _ hb1) (by simp only [decide_eq_false_iff_not]; rintro ⟨_, h1, _⟩; have := h1.rng hq; omega)
      · simp only [Bool.not_eq_false', decide_eq_true_eq] at hi
        refine spec.l1In.c ?_
        refine And.intro (fun hj => ?_) (fun hj => ?_)
        · simp only [Bool.not_eq_true', decide_eq_false_iff_not] at hj
          exact kof (hk _ hb1) (by simp only [decide_eq_false_iff_not]; rintro ⟨_, _, h1, _⟩; have := h1.rng hq; omega)
        · simp only [Bool.not_eq_false', decide_eq_true_eq] at hj
          exact ⟨hb1, hq, by omega, by omega⟩
  · rintro w1 ⟨hb1, hq, hra, hrb⟩ _
    have hz := formP_size hq
    refine spec.l12Reach.c hq hl (h.below hb1) (Int.le_refl 0) (by omega) fun r w2 f hr2 hf hb2 => ?_
    have hb12 := hb1.trans (hb2.mono hb1.size)
    have hfi : ∀ x : Int, 0 ≤ x → x < l.length → (f x.toNat = true ↔ Rch l x) := by
      intro x h0 h1
      rw [hf x.toNat (by omega), show ((x.toNat : Nat) : Int) = x by omega]
      simp [Rch, RchF]
    refine ixL hr2.read hra.1 (bits_get (by omega)) rfl (l := .b) (v := f a.toNat) rfl ?_
    refine And.intro (fun hfa => ?_) (fun hfa => ?_)
    · rw [hfi a hra.1 hra.2] at hfa
      refine ixL hr2.read hrb.1 (bits_get (by omega)) rfl (l := .b) (v := f b.toNat) rfl ?_
      refine And.intro (fun hfb => ?_) (fun hfb => ?_)
      · rw [hfi b hrb.1 hrb.2] at hfb
        refine And.intro (fun he => ?_) (fun he => ?_)
        · simp only [beq_iff_eq] at he
          exact kof (hk _ hb12) (by simp only [decide_eq_true_eq]; exact ⟨hq, hfa, hfb, .inl he⟩)
        · simp only [beq_eq_false_iff_ne, ne_eq] at he
          refine spec.l12Reach.c hq hl (h.below hb12) (Int.le_refl 0) (by omega) fun r3 w3 g hr3 hg hb3 => ?_
          have hb13 := hb12.trans (hb3.mono hb12.size)
          refine ixL hr3.read hrb.1 (bits_get (by omega)) rfl (l := .b) (v := g b.toNat) rfl (kof (hk _ hb13) ?_)
          have := hg b.toNat (by omega)
          rw [show ((b.toNat : Nat) : Int) = b by omega] at this
          rw [Bool.eq_iff_iff, Bool.not_eq_true', ← Bool.not_eq_true, this]
          simp only [decide_eq_true_eq, RchF]
          constructor
          · rintro ⟨_, _, _, h | h | h⟩
            · exact absurd h he
            · rintro ⟨h1, _⟩; exact h1 h.symm
            · rintro ⟨_, h1⟩; exact h h1
          · intro h
            refine ⟨hq, hfa, hfb, ?_⟩
            by_cases h0 : a = 0
            · exact .inr (.inl h0)
            · exact .inr (.inr fun h1 => h ⟨fun e => h0 e.symm, h1⟩)
      · have : ¬ Rch l b := by rw [← hfi b hrb.1 hrb.2]; simp [hfb]
        exact kof (hk _ hb12) (by simp [Ahead, this])
    · have : ¬ Rch l a := by rw [← hfi a hra.1 hra.2]; simp [hfa]
      exact kof (hk _ hb12) (by simp [Ahead, this])
open Classical in
noncomputable def flowRound (l : List Ins) : List Int := if formP l ≠ 0 then [] else picks l.length fun i => decide (Rch l i ∧ Pth l (-1) i i)
theorem flowRound_length (l : List Ins) : (flowRound l).length ≤ 48 := by
  unfold flowRound
  split
  · simp
  · rename_i h
    have h1 := formP_size (l := l) (Classical.not_not.1 h)
    exact Nat.le_trans (picks_le _ _) h1.2
open Classical in
theorem spec.l12Round.c {a : Int} {K : Bool → World → Prop} (hq : formP l = 0) (h : SlR kIns w s l) (hl : l.length ≤ 1048576) (ha : 0 ≤ a ∧ a < l.length)
    (hk : ∀ w', Below w.heap.size w w' → K (decide (Pth l (-1) a a)) w') : CallT (.o (.lf .b)) P0 71 [s.v, .int .i64 a] w K := by
  have hz := formP_size hq
  obtain ⟨x, hx⟩ := get_some (l := l) (k := a.toNat) (by omega)
  have hix := formP_ins hq (List.mem_of_getElem? hx)
  have hx2 := nextX_length a x
  refine spec.l12Round.ok (spec.l12Next.c h ha.1 hx hl hix.2.2.1 fun r w1 hb1 hr1 => ?_)
  have hrn := hr1.len
  refine ⟨fun k w' => ∃ j : Nat, k = j ∧ j ≤ (nextX a x).length ∧ Below w1.heap.size w1 w' ∧ (∀ i y, i < j → (nextX a x)[i]? = some y → ¬ (a = y ∨ Pth l (-1) y a)), fun k _ => (nextX a x).length - k.toNat,
    ⟨0, rfl, by omega, Below.refl _ _, fun i y hi => by omega⟩, ?_⟩
  rintro k w2 ⟨j, rfl, hj, hb2, hno⟩ _
  have hb12 := hb1.trans (hb2.mono hb1.size)
  refine And.intro (fun hlt => ?_) (fun hge => ?_)
  · simp only [decide_eq_true_eq] at hlt
    obtain ⟨y, hy⟩ := get_some (l := nextX a x) (k := j) (by omega)
    have hyr : 0 ≤ y ∧ y < l.length := by
      have := nextX_in hq hx (y := y)
      rw [show ((a.toNat : Nat) : Int) = a by omega] at this
      exact this (List.mem_of_getElem? hy)
    refine ixL (hr1.read.below hb2) (i := j) (by omega) (x := y) (by simpa using hy) rfl (l := .i .i64) (v := y) rfl ?_
    refine spec.l12Reach.c hq hl (h.below hb12) hyr.1 hyr.2 fun r3 w3 g hr3 hg hb3 => ?_
    have hb13 := hb12.trans (hb3.mono hb12.size)
    refine ixL hr3.read ha.1 (bits_get (by omega)) rfl (l := .b) (v := g a.toNat) rfl ?_
    have hga := hg a.toNat (by omega)
    rw [show ((a.toNat : Nat) : Int) = a by omega] at hga
    have hst : Step l (-1) a y := ⟨x, ha.1, hx, List.mem_of_getElem? hy, by omega⟩
    refine And.intro (fun ht => ?_) (fun hf => ?_)
    · rw [hga] at ht
      refine kof (hk _ hb13) ?_
      simp only [decide_eq_true_eq]
      rcases ht.2 with h | h
      · rw [h]; rw [h] at hst; exact .one hst
      · exact Pth.cons hst h
    · have : ¬ RchF l y (-1) a := by rw [← hga]; simp [hf]
      rw [i64_of (by omega) (by omega)]
      refine ⟨⟨j + 1, by omega, by omega, hb2.trans (hb3.mono hb2.size), fun i u hi hu => ?_⟩, by simp only; omega⟩
      rcases Nat.lt_or_ge i j with h1 | h1
      · exact hno i u h1 hu
      · obtain rfl : i = j := by omega
        rw [hy] at hu; simp only [Option.some.injEq] at hu; subst hu
        intro h2; exact this ⟨by omega, h2⟩
  · simp only [decide_eq_false_iff_not] at hge
    obtain rfl : j = (nextX a x).length := by omega
    refine kof (hk _ hb12) ?_
    simp only [decide_eq_false_iff_not]
    intro hp
    obtain ⟨y, ⟨x', _, hx', hy, _⟩, h2⟩ := hp.head
    rw [hx] at hx'; simp only [Option.some.injEq] at hx'; subst hx'
    obtain ⟨i, hi⟩ := List.getElem?_of_mem hy
    exact hno i y (lt_of_get hi) hi h2
theorem getElem_flowReach {k : Nat} {x : Int} (h : (flowReach l)[k]? = some x) : formP l = 0 ∧ Rch l x := by
  have := List.mem_of_getElem? h
  unfold flowReach at this
  split at this
  · simp at this
  · rename_i hq
    obtain ⟨i, rfl, _, hi⟩ := mem_picks.1 this
    exact ⟨Classical.not_not.1 hq, by simpa using hi⟩
open Classical in
theorem spec.FlowRound.c {K : Sl → World → Prop} (h : SlR kIns w s l) (hl : l.length ≤ 1048576)
    (hk : ∀ r w', Below w.heap.size w w' → WrS kI 3 w.heap.size w' r (flowRound l) → K r w') : CallT (.o (.lf .sl)) P0 39 [s.v] w K := by
  refine spec.FlowRound.ok (nw fun w0 hb0 hs0 hc0 => ?_)
  have ho0 : OwnS kI 3 w.heap.size w0 ⟨some ⟨w.heap.size, 0, none⟩, 0, 0⟩ [] := OwnS.lit (Nat.le_refl _) hc0 rfl rfl (by simp)
  refine spec.FlowReach.c (h.below hb0) hl fun r w1 hb1 hr1 => ?_
  have hb01 := hb0.trans (hb1.mono hb0.size)
  have hrn := hr1.len
  have hlen := flowReach_length l
  refine ⟨fun out i w' => ∃ n : Nat, i = n ∧ n ≤ (flowReach l).length ∧ OwnS kI 3 w.heap.size w' out (((flowReach l).take n).filter fun x => decide (Pth l (-1) x x)) ∧ OwnS kI 3 w0.heap.size w' r (flowReach l) ∧ Below w.heap.size w w' ∧ (∀ b, out.bk = some b → r.bk ≠ some b), fun _ i _ => (flowReach l).length - i.toNat,
    ⟨0, rfl, by omega, by simpa using ho0.below hb1, hr1, hb01, fun b hb e => by have := (hr1.blk ((ob_bk _).trans e)).1; simp only [Sl.bk, Option.map_some, Option.some.injEq] at hb; omega⟩, ?_⟩
  rintro out i w2 ⟨n, rfl, hn, ho2, hr2, hb2, hsep⟩ _
  refine And.intro (fun hlt => ?_) (fun hge => ?_)
  · simp only [decide_eq_true_eq] at hlt
    obtain ⟨x, hx⟩ := get_some (l := flowReach l) (k := n) (by omega)
    have hx' : (flowReach l)[((n : Nat) : Int).toNat]? = some x := by simpa using hx
    obtain ⟨hq, hrx⟩ := getElem_flowReach hx
    have htk : (flowReach l).take (n + 1) = (flowReach l).take n ++ [x] := by rw [List.take_add_one, hx]; rfl
    refine ixL hr2.read (i := n) (by omega) hx' rfl (l := .i .i64) (v := x) rfl ?_
    refine spec.l12Round.c hq (h.below hb2) hl (hrx.rng hq) fun w3 hb3 => ?_
    have hb23 := hb2.trans (hb3.mono hb2.size)
    have hwr : IntKind.wrap .i64 ((n : Int) + 1) = (n : Int) + 1 := i64_of (by omega) (by omega)
    refine And.intro (fun hp => ?_) (fun hp => ?_)
    · refine ixL (hr2.below hb3).read (i := n) (by omega) hx' rfl (l := .i .i64) (v := x) rfl ?_
      have hfl : (((flowReach l).take n).filter fun x => decide (Pth l (-1) x x)).length ≤ 48 := Nat.le_trans (List.length_filter_le _ _) (by simp; omega)
      refine ap1 elI (ho2.below hb3) x rfl (by omega) (by omega) hb23.size fun s' w4 ho4 hg4 hbk => ?_
      rw [hwr]
      rw [ob_bk] at hg4
      refine ⟨⟨n + 1, by omega, by omega, by rw [htk, List.filter_append]; simpa [List.filter, hp] using ho4, (hr2.below hb3).kept hg4 (fun b hb e => hsep b hb ((ob_bk _).symm.trans e)), hb23.grown hg4 hb23.size (fun b hb => (ho2.blk ((ob_bk _).trans hb)).1), fun b hb e => ?_⟩, by simp only; omega⟩
      rcases hbk b ((ob_bk _).trans hb) with h1 | h1
      · exact hsep b ((ob_bk _).symm.trans h1) e
      · have := ((hr2.below hb3).blk ((ob_bk _).trans e)).2; omega
    · rw [hwr]
      exact ⟨⟨n + 1, by omega, by omega, by rw [htk, List.filter_append]; simpa [List.filter, hp] using ho2.below hb3, hr2.below hb3, hb23, hsep⟩, by simp only; omega⟩
  · simp only [decide_eq_false_iff_not] at hge
    obtain rfl : n = (flowReach l).length := by omega
    rw [List.take_length] at ho2
    have : flowRound l = (flowReach l).filter fun x => decide (Pth l (-1) x x) := by
      unfold flowRound flowReach
      split
      · rfl
      · unfold picks
        rw [List.filter_map, List.filter_filter]
        congr 2
        funext i
        simp [Function.comp, Bool.and_comm]
    refine hk _ _ hb2 ?_
    rw [this]; exact ho2.wr
theorem impl.FlowRound.c {K : Sl → World → Prop} (h : SlR kIns w s l) (hl : l.length ≤ 1048576)
    (hk : ∀ r w', Below w.heap.size w w' → WrS kI 3 w.heap.size w' r (flowRound l) → K r w') : CallT (.o (.lf .sl)) P0 40 [s.v] w K := by
  refine impl.FlowRound.ok (impl.ProgForm.c h hl fun w1 hb1 => ?_)
  refine And.intro (fun hq => ?_) (fun hq => ?_)
  · simp at hq
    exact hk _ _ hb1 (by unfold flowRound; rw [if_pos hq]; exact WrS.nil _ _ _ _)
  · simp at hq
    have hz := formP_size hq
    refine mapNew fun o w2 ho2 hb2 hs2 => ?_
    have hb12 := hb1.trans (hb2.mono hb1.size)
    refine impl.reached.c hq hl (h.below hb12) fun m w3 S hm3 hS hb3 => ?_
    have hb13 := hb12.trans (hb3.mono hb12.size)
    have hle := nodup_le (n := l.length) hm3.nodup fun x hx => ((hS x).1 hx).rng hq
    have ho3 := ho2.below hb3
    refine mapRange hm3 fun a w4 hr4 hb4 => ?_
    have hb14 := hb13.trans (hb4.mono hb13.size)
    have hs1 := hb1.size; have hs3 := hb3.size; have hs4 := hb4.size; have hs2' := hb2.size
    refine ⟨fun w' => ∃ ss R, SetM w1.heap.size w' o R ∧ RgM w2.heap.size w3.heap.size w' m a S ss ∧ (∀ x, x ∈ R ↔ x ∈ ss ∧ Pth l (-1) x x) ∧ Below w.heap.size w w' ∧ w3.heap.size ≤ w'.heap.size, fun w' => rgl w' m a,
      ⟨[], [], ho3.below hb4, hr4, by simp, hb14, hs4⟩, ?_⟩
    rintro w5 ⟨ss, R, ho5, hr5, hR, hb5, hs5⟩ _
    have om : o ≠ m := fun e => by
      cases o with
      | none => obtain ⟨b, D, hb, _⟩ := ho2; simp at hb
      | some b => have := (ho2.blk rfl).2; have := (hm3.blk e.symm).1; omega
    have oa : o ≠ some a.block := fun e => by have := (ho2.blk e).2; have := hr5.blk.1; omega
    refine mapNext hr5 (fun x u w6 hx hnx hw hr6 hg6 hlt => ?_) (fun hp => ?_)
    · have hrx := (hS x).1 hx
      have hxr := hrx.rng hq
      have ho6 := ho5.kept hg6 oa
      have hb6 := hb5.grown hg6 hb5.size (fun b hb => by simp only [Option.some.injEq] at hb; have := hr5.blk.1; omega)
      have hs6 := hg6.size
      refine mapNew fun p w7 hp7 hb7 hs7 => ?_
      have hb67 := hb6.trans (hb7.mono hb6.size)
      refine impl.places.spread.c hq hl (-1) l.length (h.below hb67) hp7 (by simp) (by simp) hxr.1 hxr.2 fun w8 S' hp8 hsp hrg hg8 => ?_
      have hpb : ∀ b, p = some b → w6.heap.size ≤ b := fun b hb => (hp7.blk hb).1
      have hb8 := hb67.grown hg8 hb67.size (fun b hb => by have := hpb b hb; have := hb6.size; omega)
      have pne : p ≠ none := fun e => by obtain ⟨b, D, hb, _⟩ := hp7; rw [e] at hb; simp at hb
      have ho8 := (ho6.below hb7).kept hg8 (fun e => by
        cases o with
        | none => exact pne e.symm
        | some b => have := (ho6.blk rfl).2; have := hpb b e.symm; omega)
      have hr67 := hr6.kept (grown_of_below hb7) (fun e => by have := hr6.set; obtain ⟨b, D, hb, _⟩ := this; rw [e] at hb; simp at hb) (by simp)
      have hr8 := hr67.1.kept hg8 (fun e => by
        cases m with
        | none => exact pne e.symm
        | some b => have := (hr6.set.blk rfl).2; have := hpb b e.symm; omega) (fun e => by have := hpb _ e.symm; have := hr6.blk.2; omega)
      have hlt8 : rgl w8 m a < rgl w5 m a := by rw [hr8.2, hr67.2]; exact hlt
      have hs8 : w6.heap.size ≤ w8.heap.size := Nat.le_trans hb7.size hg8.size
      have hall := hsp.all (by simp) x
      simp only [List.not_mem_nil, false_or] at hall
      refine mapGet hp8 hw ?_
      refine And.intro (fun ht => ?_) (fun ht => ?_)
      · simp only [decide_eq_true_eq, hall] at ht
        have hRl : R.length ≤ l.length := nodup_le ho5.nodup fun y hy => by have := (hR y).1 hy; exact ((hS y).1 (hr5.nodup.2 y this.1)).rng hq
        refine mapPut ho8 hw (by simp only [maxLen]; omega) fun w9 ho9 hg9 => ?_
        have hr9 := hr8.1.kept hg9 om.symm (fun e => oa e.symm)
        refine ⟨⟨_, _, ho9, hr9.1, fun y => ?_, hb8.grown hg9 hb8.size (fun b hb => by have := (ho2.blk hb).1; omega), by have := hg9.size; omega⟩, by show rgl w9 m a < rgl w5 m a; rw [hr9.2]; exact hlt8⟩
        rw [mem_ins, hR, List.mem_append, List.mem_singleton]
        constructor
        · rintro (rfl | ⟨h1, h2⟩)
          · exact ⟨.inr rfl, ht⟩
          · exact ⟨.inl h1, h2⟩
        · rintro ⟨h1 | h1, h2⟩
          · exact .inr ⟨h1, h2⟩
          · exact .inl h1
      · simp only [decide_eq_false_iff_not, hall] at ht
        refine ⟨⟨_, R, ho8, hr8.1, fun y => ?_, hb8, by omega⟩, hlt8⟩
        rw [hR, List.mem_append, List.mem_singleton]
        constructor
        · rintro ⟨h1, h2⟩; exact ⟨.inl h1, h2⟩
        · rintro ⟨h1 | h1, h2⟩
          · exact ⟨h1, h2⟩
          · subst h1; exact absurd h2 ht
    · have hRl : R.length ≤ l.length := nodup_le ho5.nodup fun y hy => by have := (hR y).1 hy; exact ((hS y).1 (hr5.nodup.2 y this.1)).rng hq
      refine impl.places.sorted.c ho5 (by omega) fun r w6 hb6 ho6 => ?_
      refine hk _ _ (hb5.trans (hb6.mono hb5.size)) ?_
      have : sorted R = flowRound l := by
        unfold flowRound
        rw [if_neg (by simp [hq])]
        refine sorted_eq ho5.nodup fun x => ?_
        rw [hR, hp.mem_iff, hS]
        simp only [decide_eq_true_eq]
        constructor
        · rintro ⟨h1, h2⟩
          have h0 := h1.rng hq
          exact ⟨x.toNat, by omega, by omega, by rw [show ((x.toNat : Nat) : Int) = x by omega]; exact ⟨h1, h2⟩⟩
        · rintro ⟨i, rfl, _, hb⟩; exact hb
      rw [← this]
      exact (ho6.wr).low hb5.size
end
end Go.Proofs.Ytdgnojjemlfhdaa.V
