/- Contracts: rules; the laws' helpers for them. -/
import Derived.Test.YtdgnojjemlfhdaaC3
import Derived.Test.YtdgnojjemlfhdaaFL1
namespace Go.Proofs.Ytdgnojjemlfhdaa.V
open Go Go.RowKit
set_option linter.unusedVariables false
set_option linter.unusedSimpArgs false
structure Rule where
  at_ : Int
  op : Int
  num : Int
  verdict : Int
  key : Int
  deriving DecidableEq, Inhabited
def kRule : Kd Rule := ⟨List.replicate 5 (.i .i64), fun x => (x.at_, x.op, x.num, x.verdict, x.key, ())⟩
@[reducible] def Rule.t (x : Rule) : Tup (List.replicate 5 (.i .i64)) := (x.at_, x.op, x.num, x.verdict, x.key, ())
def Rule.cs (x : Rule) : Array Value := #[.int .i64 x.at_, .int .i64 x.op, .int .i64 x.num, .int .i64 x.verdict, .int .i64 x.key]
theorem nwRule {x : Rule} {t : TypeId} {w : World} {K : Addr → World → Prop}
    (hk : ∀ w', Below w.heap.size w w' → w'.heap.size = w.heap.size + 1 → w'.heap[w.heap.size]? = some (.cells x.cs t (0, 0)) → K ⟨w.heap.size, 0, none⟩ w') : Nw (Tup.cells (List.replicate 5 (.i .i64)) x.t).toArray t w K := nw hk
theorem mkRule : Mk P0 25 59 kRule 40 ⟨0, 0, 0, 0, 0⟩ := ⟨by kernel_rfl, ⟨_, _, Option.eq_some_of_isSome (by kernel_rfl), Option.eq_some_of_isSome (by kernel_rfl), by kernel_rfl, by kernel_rfl, by kernel_rfl⟩⟩
theorem noAnyRule : ∀ l ∈ kRule.ls, l ≠ Lf.any := by intro l hl; simp [kRule, List.mem_replicate] at hl; simp [hl]
theorem zRule : (zc P0 59).toList.length = 5 := by kernel_rfl
theorem nwStRule {x : Rule} {P : Program} {w : World} {K : Addr → World → Prop}
    (hk : ∀ w', Below w.heap.size w w' → w'.heap.size = w.heap.size + 1 → w'.heap[w.heap.size]? = some (.cells x.cs 59 (0, 0)) → K ⟨w.heap.size, 0, none⟩ w') :
    Nw (zc P0 59) 59 w (fun a w' => StA P a (Tup.cells (R 5 (.i .i64)) x.t) w' (K a)) :=
  nwSt (cs := Tup.cells (R 5 (.i .i64)) x.t) zRule (oneCell_cells kRule noAnyRule x) hk rfl
section
variable {w : World} {s : Sl} {l : List Rule}
theorem laws.szRuleS.c {left : Int} {K : Int → World → Prop} (h : SlR kRule w s l) (h0 : -1 ≤ left) (h1 : left ≤ 1048576) (hk : K (if left - l.length < 0 then -1 else left - l.length) w) :
    CallT (.o (.lf (.i .i64))) P0 15 [s.v, .int .i64 left] w K := by
  have hn := h.len; have hm := h.max
  refine laws.szRuleS.ok ?_
  unfold laws.szRuleS.vc
  simp (disch := omega) only [i64_of]
  rw [hn]
  refine And.intro (fun hc => ?_) (fun hc => ?_)
  · simp only [decide_eq_true_eq] at hc; rw [if_pos hc] at hk; exact hk
  · simp only [decide_eq_false_iff_not] at hc; rw [if_neg hc] at hk; exact hk
theorem laws.toRule.c {x : Rule} {K : Tup (R 5 (.i .i64)) → World → Prop} (hk : ∀ w', Below w.heap.size w w' → K x.t w') : CallT (.o (.ag (R 5 (.i .i64)))) P0 50 [.agg (Tup.cells (R 5 (.i .i64)) x.t).toArray] w K := by
  refine laws.toRule.ok (nwRule fun w1 hb1 hs1 hc1 => ?_)
  refine nw fun w2 hb2 hs2 hc2 => ?_
  refine nw fun w3 hb3 hs3 hc3 => ?_
  have hc1 := (hb3.block _ (by omega)).trans ((hb2.block _ (by omega)).trans hc1)
  have hc2 := (hb3.block _ (by omega)).trans hc2
  have hb : Below w.heap.size w w3 := (hb1.trans (hb2.mono hb1.size)).trans (hb3.mono (by omega))
  clear hb1 hb2 hb3
  obtain ⟨z, hz⟩ : ∃ z, zc P0 59 = z := ⟨_, rfl⟩
  have hz6 : z.toList.length = 5 := by rw [← hz]; exact zRule
  rw [hz] at hc2 hc3
  rcases z with ⟨z⟩
  match z, hz6 with
  | [z0, z1, z2, z3, z4], _ =>
  refine ldB hc1 (x := x.at_) rfl (stB hc3 rfl (by simp) fun w4 hg4 hs4 hc4 => ?_)
  replace hc1 := (hg4.block w.heap.size (by omega) (by simp; omega)).trans hc1
  replace hc2 := (hg4.block w1.heap.size (by omega) (by simp; omega)).trans hc2
  replace hb := hb.grown hg4 hb.size (fun b hb' => by simp at hb'; omega)
  clear hc3
  refine ldB hc1 (x := x.op) rfl (stB hc4 rfl (by simp) fun w5 hg5 hs5 hc5 => ?_)
  replace hc1 := (hg5.block w.heap.size (by omega) (by simp; omega)).trans hc1
  replace hc2 := (hg5.block w1.heap.size (by omega) (by simp; omega)).trans hc2
  replace hb := hb.grown hg5 hb.size (fun b hb' => by simp at hb'; omega)
  refine ldB hc1 (x := x.num) rfl (stB hc5 rfl (by simp) fun w6 hg6 hs6 hc6 => ?_)
  replace hc1 := (hg6.block w.heap.size (by omega) (by simp; omega)).trans hc1
  replace hc2 := (hg6.block w1.heap.size (by omega) (by simp; omega)).trans hc2
  replace hb := hb.grown hg6 hb.size (fun b hb' => by simp at hb'; omega)
  refine ldB hc1 (x := x.verdict) rfl (stB hc6 rfl (by simp) fun w7 hg7 hs7 hc7 => ?_)
  replace hc1 := (hg7.block w.heap.size (by omega) (by simp; omega)).trans hc1
  replace hc2 := (hg7.block w1.heap.size (by omega) (by simp; omega)).trans hc2
  replace hb := hb.grown hg7 hb.size (fun b hb' => by simp at hb'; omega)
  refine ldB hc1 (x := x.key) rfl (stB hc7 rfl (by simp) fun w8 hg8 hs8 hc8 => ?_)
  replace hc2 := (hg8.block w1.heap.size (by omega) (by simp; omega)).trans hc2
  replace hb := hb.grown hg8 hb.size (fun b hb' => by simp at hb'; omega)
  refine ldAB hc8 (x := x.t) rfl ?_
  obtain ⟨w', hr, hg, hsz, hh⟩ := run_storeCells_at' P0 (b := w1.heap.size) (t := 59) (Tup.cells (R 5 (.i .i64)) x.t) 0 [] [z0, z1, z2, z3, z4] w8 (oneCell_cells kRule noAnyRule x) rfl rfl hc2
  refine ⟨w', hr, ldAB hh (x := x.t) rfl (hk _ (hb.grown hg hb.size (fun b hb' => by simp at hb'; omega)))⟩
theorem laws.toRuleS.c {K : Sl → World → Prop} (h : SlR kRule w s l) (hl : l.length ≤ 1048576) (hk : ∀ r w', Below w.heap.size w w' → WrS kRule 59 w.heap.size w' r l → K r w') :
    CallT (.o (.lf .sl)) P0 17 [s.v] w K := by
  have hn := h.len
  refine laws.toRuleS.ok (mkS mkRule (by omega) (by simp only [maxLen]; omega) fun r w1 hb1 hr1 => ?_)
  rw [hn] at hr1
  refine ⟨fun i w' => ∃ (n : Nat) (zs : List Rule), i = n ∧ n ≤ l.length ∧ zs.length = l.length - n ∧ WrS kRule 59 w.heap.size w' r (l.take n ++ zs) ∧ Below w.heap.size w w', fun i _ => l.length - i.toNat,
    ⟨0, _, rfl, by omega, List.length_replicate, by simpa using hr1, hb1⟩, ?_⟩
  rintro i w2 ⟨n, zs, rfl, hnl, hzs, hr2, hb2⟩ _
  refine And.intro (fun hlt => ?_) (fun hge => ?_)
  · simp only [decide_eq_true_eq] at hlt
    obtain ⟨x, hx⟩ := get_some (l := l) (k := n) (by omega)
    have := ixA (h.below hb2) (i := n) (by omega) (x := x) (by simpa using hx) (sz := 5) rfl (K := fun (t : Tup kRule.ls) w' => CallT (.o (.ag (R 5 (.i .i64)))) P0 50 [(.agg (Tup.cells (R 5 (.i .i64)) t).toArray)] w' fun (t20 : Tup (R 5 (.i .i64))) w__4 =>
Ix r.a r.n n 5 w__4 fun a_t21 w__5 =>
StA P0 a_t21 (Tup.cells (R 5 (.i .i64)) t20) w__5 fun w__6 =>
((∃ (n' : Nat) (zs : List Rule), IntKind.wrap .i64 (n + 1) = n' ∧ n' ≤ l.length ∧ zs.length = l.length - n' ∧ WrS kRule 59 w.heap.size w__6 r (l.take n' ++ zs) ∧ Below w.heap.size w w__6) ∧ l.length - (IntKind.wrap .i64 (n + 1)).toNat < l.length - (n : Int).toNat)) ?_
    · exact this
    · refine laws.toRule.c (x := x) fun w3 hb3 => ?_
      obtain ⟨z, hz⟩ := get_some (l := l.take n ++ zs) (k := n) (by simp; omega)
      refine ixStA (P := P0) (hr2.below hb3) (i := n) (by omega) (x := z) (by simpa using hz) rfl (by decide) noAnyRule x rfl fun w4 hr4 hg4 hs4 => ?_
      simp (disch := omega) only [i64_of]
      refine ⟨⟨n + 1, zs.tail, by omega, by omega, by simp; omega, ?_, ?_⟩, by omega⟩
      · rw [Int.toNat_natCast, set_next hx hzs] at hr4; exact hr4
      · exact (hb2.trans (hb3.mono hb2.size)).grown hg4 (by have := hb2.size; have := hb3.size; omega) (bk_ge hr2)
  · simp only [decide_eq_false_iff_not] at hge
    obtain rfl : n = l.length := by omega
    have : zs = [] := List.eq_nil_of_length_eq_zero (by omega)
    subst this
    simp only [List.take_length, List.append_nil] at hr2
    exact hk _ _ hb2 hr2
set_option maxHeartbeats 1000000 in
theorem laws.eqRule.c {x y : Rule} {K : Bool → World → Prop} (hk : ∀ w', Below w.heap.size w w' → K (decide (x = y)) w') : CallT (.o (.lf .b)) P0 53 [.agg (Tup.cells (R 5 (.i .i64)) x.t).toArray, .agg (Tup.cells (R 5 (.i .i64)) y.t).toArray] w K := by
  refine laws.eqRule.ok (nwRule fun w1 hb1 hs1 hc1 => nwRule fun w2 hb2 hs2 hc2 => ?_)
  have hc1 := (hb2.block _ (by omega)).trans hc1
  have hk := hk w2 (hb1.trans (hb2.mono hb1.size))
  rcases x with ⟨x0, x1, x2, x3, x4⟩
  rcases y with ⟨y0, y1, y2, y3, y4⟩
  refine ldB hc1 (x := x0) rfl (ldB hc2 (x := y0) rfl ?_)
  refine And.intro (fun h => kof hk (by simp at h; simp [h])) (fun h0 => ?_)
  refine ldB hc1 (x := x1) rfl (ldB hc2 (x := y1) rfl ?_)
  refine And.intro (fun h => kof hk (by simp at h; simp [h])) (fun h1 => ?_)
  refine ldB hc1 (x := x2) rfl (ldB hc2 (x := y2) rfl ?_)
  refine And.intro (fun h => kof hk (by simp at h; simp [h])) (fun h2 => ?_)
  refine ldB hc1 (x := x3) rfl (ldB hc2 (x := y3) rfl ?_)
  refine And.intro (fun h => kof hk (by simp at h; simp [h])) (fun h3 => ?_)
  refine ldB hc1 (x := x4) rfl (ldB hc2 (x := y4) rfl ?_)
  refine And.intro (fun h => kof hk (by simp at h; simp [h])) (fun h4 => kof hk (by simp at h0 h1 h2 h3 h4; simp [h0, h1, h2, h3, h4]))
end
section
variable {w : World} {a b : Sl} {xs ys : List Rule}
theorem laws.eqRuleS.c {K : Bool → World → Prop} (ha : SlR kRule w a xs) (hb : SlR kRule w b ys) (hk : ∀ w', Below w.heap.size w w' → K (decide (xs = ys)) w') : CallT (.o (.lf .b)) P0 19 [a.v, b.v] w K := by
  have hna := ha.len; have hnb := hb.len; have hm := ha.max
  refine laws.eqRuleS.ok ?_
  unfold laws.eqRuleS.vc
  refine And.intro (fun h => kof (hk _ (Below.refl _ _)) ?_) (fun h => ?_)
  · rw [bne_len] at h
    simp only [decide_eq_false_iff_not]; rintro rfl; omega
  · have hle : xs.length = ys.length := by simp at h; omega
    refine ⟨fun i w' => ∃ n : Nat, i = n ∧ n ≤ xs.length ∧ (∀ j < n, xs[j]? = ys[j]?) ∧ Below w.heap.size w w', fun i _ => xs.length - i.toNat, ⟨0, rfl, by omega, by simp, Below.refl _ _⟩, ?_⟩
    rintro i w1 ⟨n, rfl, hn, hE, hb1⟩ _
    refine And.intro (fun hlt => ?_) (fun hge => ?_)
    · simp only [decide_eq_true_eq] at hlt
      obtain ⟨x, hx⟩ := get_some (l := xs) (k := n) (by omega)
      obtain ⟨y, hy⟩ := get_some (l := ys) (k := n) (by omega)
      refine qixA (ha.below hb1) (i := n) (by omega) (x := x) (by simpa using hx) rfl ?_
      refine qixA (hb.below hb1) (i := n) (by omega) (x := y) (by simpa using hy) rfl ?_
      refine qcl (decide (x = y)) (fun w2 hb2 => laws.eqRule.c fun w3 hb3 => ⟨rfl, hb2.trans (hb3.mono hb2.size)⟩) ?_
      intro w2 hb2
      have hbb := hb1.trans (hb2.mono hb1.size)
      refine And.intro (fun hne => kof (hk _ hbb) ?_) (fun he => ?_)
      · simp at hne
        simp only [decide_eq_false_iff_not]; rintro rfl; rw [hx] at hy; simp at hy; exact hne hy
      · simp at he
        simp (disch := omega) only [i64_of]
        refine ⟨⟨n + 1, by omega, by omega, fun j hj => ?_, hbb⟩, by omega⟩
        rcases Nat.lt_or_ge j n with h1 | h1
        · exact hE j h1
        · obtain rfl : j = n := by omega
          rw [hx, hy, he]
    · simp only [decide_eq_false_iff_not] at hge
      refine kof (hk _ hb1) ?_
      simp only [decide_eq_true_eq]
      exact take_ext hle fun j x hx => by rw [← hE j (by have := lt_of_get hx; omega)]; exact hx
end
end Go.Proofs.Ytdgnojjemlfhdaa.V
