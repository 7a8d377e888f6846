/- Contracts: why a program cannot be. -/
import Derived.Test.YtdgnojjemlfhdaaFC1
namespace Go.Proofs.Ytdgnojjemlfhdaa.V
open Go Go.RowKit
set_option linter.unusedVariables false
set_option linter.unusedSimpArgs false

section
variable {w : World} {K : Bool → World → Prop}
set_option maxHeartbeats 1000000 in
theorem spec.l1Bare.c {x : Ins} (hk : ∀ w', Below w.heap.size w w' → K (decide (BareP x)) w') : CallT (.o (.lf .b)) P0 114 [.agg (Tup.cells (R 6 (.i .i64)) x.t).toArray] w K := by
  refine spec.l1Bare.ok (nwIns fun w1 hb hs hc => ?_)
  have hk := hk w1 hb
  (repeat' (first | refine ldB hc rfl ?_ | refine ldAB (x := x.t) hc rfl ?_ | refine spec.l1In.c ?_ | refine spec.l1Alu.c ?_ | refine spec.l1Jump.c ?_ | refine eqlIns rfl ?_ | refine And.intro (fun _ => ?_) (fun _ => ?_)))
  all_goals
    refine kof hk (dec_eq ?_)
    clear hk hb hc
    grind [BareP, szP]
theorem spec.l1InsOk.c {x : Ins} (hk : ∀ w', Below w.heap.size w w' → K (decide (InsP x)) w') : CallT (.o (.lf .b)) P0 105 [.agg (Tup.cells (R 6 (.i .i64)) x.t).toArray] w K := by
  refine spec.l1InsOk.ok (nwIns fun w1 hb hs hc => ?_)
  (repeat' (first | refine ldB hc rfl ?_ | refine ldAB (x := x.t) hc rfl ?_ | refine spec.l1In.c ?_ | refine And.intro (fun _ => ?_) (fun _ => ?_) | (refine spec.l1Bare.c (x := x) fun w2 hb2 => ?_; replace hc := (hb2.block _ (by omega)).trans hc; replace hb := hb.trans (hb2.mono (by omega)))))
  all_goals
    refine kof (hk _ hb) (dec_eq ?_)
    clear hk hb hc
    grind [InsP]
end
theorem getElem?_drop_cons {α : Type} {l : List α} {k : Nat} {x : α} (h : l[k]? = some x) : l.drop k = x :: l.drop (k + 1) := by
  have hk : k < l.length := by
    rcases Nat.lt_or_ge k l.length with h1 | h1
    · exact h1
    · simp [List.getElem?_eq_none h1] at h
  rw [List.drop_eq_getElem_cons hk]
  rw [List.getElem?_eq_getElem hk] at h
  simp only [Option.some.injEq] at h
  rw [h]
theorem get_some {α : Type} {l : List α} {k : Nat} (h : k < l.length) : ∃ x, l[k]? = some x := ⟨l[k], List.getElem?_eq_getElem h⟩
theorem last_get {l : List Ins} {x : Ins} (h : l[l.length - 1]? = some x) : l.getLast? = some x := by rw [List.getLast?_eq_getElem?]; exact h
theorem i64_of {n : Int} (h0 : -9223372036854775808 ≤ n) (h1 : n ≤ 9223372036854775807) : IntKind.wrap .i64 n = n := i64_in h0 h1
section
variable {w : World} {s : Sl} {l : List Ins}
theorem impl.target.c {i : Int} {x : Ins} {K : Int → World → Prop} (h : SlR kIns w s l) (h0 : 0 ≤ i) (hx : l[i.toNat]? = some x) (hl : l.length ≤ 1048576) (ho : -128 ≤ x.off ∧ x.off ≤ 127) (hk : K (tgt i x) w) :
    CallT (.o (.lf (.i .i64))) P0 58 [s.v, .int .i64 i] w K := by
  refine impl.target.ok (ixF h h0 hx rfl (v := x.off) rfl ?_)
  have hi : i.toNat < l.length := by
    rcases Nat.lt_or_ge i.toNat l.length with h1 | h1
    · exact h1
    · simp [List.getElem?_eq_none h1] at hx
  simp (disch := omega) only [i64_of]
  exact hk
theorem endP_many (h : 48 < l.length) : endP l = 3 := by unfold endP; rw [if_pos h]
theorem endP_nil (h : l = []) : endP l = 4 := by subst h; rfl
theorem endP_last {x : Ins} (h : ¬ 48 < l.length) (hx : l[l.length - 1]? = some x) : endP l = if x.op ≠ 20 ∧ x.op ≠ 16 then 4 else 0 := by
  unfold endP; rw [if_neg h, last_get hx]
theorem spec.l1Form.c {K : Int → World → Prop} (h : SlR kIns w s l) (hl : l.length ≤ 1048576) (hk : ∀ w', Below w.heap.size w w' → K (formP l) w') :
    CallT (.o (.lf (.i .i64))) P0 83 [s.v] w K := by
  have hn := h.len
  refine spec.l1Form.ok ⟨fun i w' => ∃ k : Nat, i = k ∧ k ≤ l.length ∧ formGo l k (l.drop k) = formP l ∧ Below w.heap.size w w', fun i _ => l.length - i.toNat, ⟨0, rfl, by omega, rfl, Below.refl _ _⟩, ?_⟩
  rintro i w1 ⟨k, rfl, hkl, hf, hb⟩ _
  have h1 := h.below hb
  refine And.intro (fun hlt => ?_) (fun hge => ?_)
  · simp only [decide_eq_true_eq] at hlt
    obtain ⟨x, hx⟩ := get_some (l := l) (k := k) (by omega)
    rw [getElem?_drop_cons hx] at hf
    refine ixA h1 (by omega) (x := x) (by simpa using hx) rfl ?_
    refine spec.l1InsOk.c (x := x) fun w2 hb2 => ?_
    have h2 := h1.below hb2
    have hbb := hb.trans (hb2.mono hb.size)
    refine And.intro (fun hq => ?_) (fun hq => ?_)
    · simp at hq
      exact kof (hk _ hbb) (by rw [← hf]; simp [formGo, hq])
    · simp at hq
      have ho := hq.2.2.1
      refine ⟨fun b w3 => b = decide (goesP x) ∧ w3 = w2, ?_, ?_⟩
      · refine ixF h2 (by omega) (x := x) (by simpa using hx) rfl (v := x.op) rfl ?_
        refine spec.l1Jump.c ?_
        refine And.intro (fun hj => ?_) (fun hj => ?_)
        · exact ⟨by clear hk h1 h2 hbb hb hb2; grind [goesP], rfl⟩
        · refine ixF h2 (by omega) (x := x) (by simpa using hx) rfl (v := x.op) rfl ?_
          exact ⟨by clear hk h1 h2 hbb hb hb2; grind [goesP], rfl⟩
      · rintro b w3 ⟨rfl, rfl⟩ _
        refine And.intro (fun hg => ?_) (fun hg => ?_)
        · simp only [decide_eq_true_eq] at hg
          refine ixF h2 (by omega) (x := x) (by simpa using hx) rfl (v := x.off) rfl ?_
          simp (disch := omega) only [i64_of]
          refine spec.l1In.c ?_
          refine And.intro (fun ht => ?_) (fun ht => ?_)
          · simp only [Bool.not_eq_true', decide_eq_false_iff_not] at ht
            exact kof (hk _ hbb) (by rw [← hf]; simp only [formGo, hq, hg, tgt]; rw [if_neg (by simp), if_pos ⟨trivial, by omega⟩])
          · simp only [Bool.not_eq_false', decide_eq_true_eq] at ht
            refine ⟨⟨k + 1, by omega, by omega, ?_, hbb⟩, by omega⟩
            rw [← hf]; simp only [formGo, hq, hg, tgt]; rw [if_neg (by simp), if_neg (by omega)]
        · simp only [decide_eq_false_iff_not] at hg
          simp (disch := omega) only [i64_of]
          refine ⟨⟨k + 1, by omega, by omega, ?_, hbb⟩, by omega⟩
          rw [← hf]; simp only [formGo, hq, hg]; rw [if_neg (by simp), if_neg (by simp)]
  · simp only [decide_eq_false_iff_not] at hge
    have hkl' : k = l.length := by omega
    rw [hkl', List.drop_length] at hf
    simp only [formGo] at hf
    refine And.intro (fun hm => ?_) (fun hm => ?_)
    · simp only [decide_eq_true_eq] at hm
      exact kof (hk _ hb) (by rw [← hf, endP_many (by omega)])
    · simp only [decide_eq_false_iff_not] at hm
      refine And.intro (fun hz => ?_) (fun hz => ?_)
      · simp only [beq_iff_eq] at hz
        exact kof (hk _ hb) (by rw [← hf, endP_nil (List.eq_nil_of_length_eq_zero (by omega))])
      · simp only [beq_eq_false_iff_ne, ne_eq] at hz
        obtain ⟨x, hx⟩ := get_some (l := l) (k := l.length - 1) (by omega)
        have he := endP_last (l := l) (by omega) hx
        simp (disch := omega) only [i64_of]
        have hx' : l[((s.n : Int) - 1).toNat]? = some x := by rw [show ((s.n : Int) - 1).toNat = l.length - 1 by omega]; exact hx
        refine ixF h1 (by omega) hx' rfl (v := x.op) rfl ?_
        refine And.intro (fun h20 => ?_) (fun h20 => ?_)
        · refine ixF h1 (by omega) hx' rfl (v := x.op) rfl ?_
          refine And.intro (fun h16 => ?_) (fun h16 => ?_)
          · exact kof (hk _ hb) (by rw [← hf, he]; simp at h20 h16; simp [h20, h16])
          · exact kof (hk _ hb) (by rw [← hf, he]; simp at h20 h16; simp [h16])
        · exact kof (hk _ hb) (by rw [← hf, he]; simp at h20; simp [h20])
theorem spec.l12Fine.c {K : Bool → World → Prop} (h : SlR kIns w s l) (hl : l.length ≤ 1048576) (hk : ∀ w', Below w.heap.size w w' → K (decide (formP l = 0)) w') :
    CallT (.o (.lf .b)) P0 54 [s.v] w K := by
  refine spec.l12Fine.ok (spec.l1Form.c h hl fun w' hb => ?_)
  exact kof (hk _ hb) (dec_eq (by simp))
theorem zIns : (zc P0 51).toList.length = 6 := by kernel_rfl
/-- An op is copied into a variable of its own. -/
theorem nwStIns {x : Ins} {P : Program} {w : World} {K : Addr → World → Prop}
    (hk : ∀ w', Below w.heap.size w w' → w'.heap.size = w.heap.size + 1 → w'.heap[w.heap.size]? = some (.cells x.cs 51 (0, 0)) → K ⟨w.heap.size, 0, none⟩ w') :
    Nw (zc P0 51) 51 w (fun a w' => StA P a (Tup.cells (R 6 (.i .i64)) x.t) w' (K a)) :=
  nwSt (cs := Tup.cells (R 6 (.i .i64)) x.t) zIns (oneCell_cells kIns (by intro l hl; simp [kIns] at hl; simp [hl]) x) hk rfl
theorem impl.ProgForm.c {K : Int → World → Prop} (h : SlR kIns w s l) (hl : l.length ≤ 1048576) (hk : ∀ w', Below w.heap.size w w' → K (formP l) w') :
    CallT (.o (.lf (.i .i64))) P0 43 [s.v] w K := by
  have hn := h.len
  refine impl.ProgForm.ok ⟨fun i w' => ∃ k : Nat, i = k ∧ k ≤ l.length ∧ formGo l k (l.drop k) = formP l ∧ Below w.heap.size w w', fun i _ => l.length - i.toNat, ⟨0, rfl, by omega, rfl, Below.refl _ _⟩, ?_⟩
  rintro i w1 ⟨k, rfl, hkl, hf, hb⟩ _
  have h1 := h.below hb
  refine And.intro (fun hlt => ?_) (fun hge => ?_)
  · simp only [decide_eq_true_eq] at hlt
    obtain ⟨x, hx⟩ := get_some (l := l) (k := k) (by omega)
    rw [getElem?_drop_cons hx] at hf
    refine ixA h1 (by omega) (x := x) (by simpa using hx) rfl ?_
    refine nwStIns (x := x) fun w2 hb2 hs2 hc2 => ?_
    refine ldAB (x := x.t) hc2 rfl ?_
    refine impl.InsOk.c (x := x) fun w3 hb3 => ?_
    have hc3 := (hb3.block _ (by omega)).trans hc2
    have hb13 := hb2.trans (hb3.mono (by omega))
    have h3 := h1.below hb13
    have hbb := hb.trans (hb13.mono hb.size)
    refine And.intro (fun hq => ?_) (fun hq => ?_)
    · simp at hq
      exact kof (hk _ hbb) (by rw [← hf]; simp [formGo, hq])
    · simp at hq
      have ho := hq.2.2.1
      refine ldB hc3 (x := x.op) rfl ?_
      refine impl.kind.goes.c ?_
      refine And.intro (fun hg => ?_) (fun hg => ?_)
      · simp only [decide_eq_true_eq] at hg
        refine impl.target.c h3 (by omega) (x := x) (by simpa using hx) hl ho ?_
        simp (disch := omega) only [i64_of]
        refine impl.within.c ?_
        refine And.intro (fun ht => ?_) (fun ht => ?_)
        · simp only [Bool.not_eq_true', decide_eq_false_iff_not] at ht
          exact kof (hk _ hbb) (by rw [← hf]; simp only [formGo, hq]; rw [if_neg (by simp), if_pos ⟨hg, by omega⟩])
        · simp only [Bool.not_eq_false', decide_eq_true_eq] at ht
          refine ⟨⟨k + 1, by omega, by omega, ?_, hbb⟩, by omega⟩
          rw [← hf]; simp only [formGo, hq]; rw [if_neg (by simp), if_neg (by omega)]
      · simp only [decide_eq_false_iff_not] at hg
        simp (disch := omega) only [i64_of]
        refine ⟨⟨k + 1, by omega, by omega, ?_, hbb⟩, by omega⟩
        rw [← hf]; simp only [formGo, hq]; rw [if_neg (by simp), if_neg (fun hh => hg hh.1)]
  · simp only [decide_eq_false_iff_not] at hge
    have hkl' : k = l.length := by omega
    rw [hkl', List.drop_length] at hf
    simp only [formGo] at hf
    refine And.intro (fun hm => ?_) (fun hm => ?_)
    · simp only [decide_eq_true_eq] at hm
      exact kof (hk _ hb) (by rw [← hf, endP_many (by omega)])
    · simp only [decide_eq_false_iff_not] at hm
      refine And.intro (fun hz => ?_) (fun hz => ?_)
      · refine And.intro (fun _ => ?_) (fun hz' => ?_)
        · simp only [beq_iff_eq] at hz
          exact kof (hk _ hb) (by rw [← hf, endP_nil (List.eq_nil_of_length_eq_zero (by omega))])
        · rw [hz] at hz'; simp at hz'
      · simp only [beq_eq_false_iff_ne, ne_eq] at hz
        obtain ⟨x, hx⟩ := get_some (l := l) (k := l.length - 1) (by omega)
        have he := endP_last (l := l) (by omega) hx
        simp (disch := omega) only [i64_of]
        have hx' : l[((s.n : Int) - 1).toNat]? = some x := by rw [show ((s.n : Int) - 1).toNat = l.length - 1 by omega]; exact hx
        refine ixF h1 (by omega) hx' rfl (v := x.op) rfl ?_
        refine And.intro (fun h20 => ?_) (fun h20 => ?_)
        · refine ixF h1 (by omega) hx' rfl (v := x.op) rfl ?_
          refine And.intro (fun h16 => ?_) (fun h16 => ?_)
          · exact kof (hk _ hb) (by rw [← hf, he]; simp at h20 h16; simp [h20, h16])
          · exact kof (hk _ hb) (by rw [← hf, he]; simp at h20 h16; simp [h16])
        · exact kof (hk _ hb) (by rw [← hf, he]; simp at h20; simp [h20])
end
end Go.Proofs.Ytdgnojjemlfhdaa.V
