/- Contracts: the laws' own helpers (sizes, copies, comparisons, marks). -/
import Derived.Test.YtdgnojjemlfhdaaFC2
import Derived.Test.YtdgnojjemlfhdaaVW
namespace Go.Proofs.Ytdgnojjemlfhdaa.V
open Go Go.RowKit
set_option linter.unusedVariables false
set_option linter.unusedSimpArgs false
theorem bk_ge {t : TypeId} {B : Nat} {α : Type} {k : Kd α} {w : World} {s : Sl} {xs : List α} (h : WrS k t B w s xs) : ∀ b, s.bk = some b → B ≤ b := fun b hb => (h.blk hb).1
theorem elI1 : Mk P0 31 3 kI 8 0 := ⟨by kernel_rfl, ⟨_, _, Option.eq_some_of_isSome (by kernel_rfl), Option.eq_some_of_isSome (by kernel_rfl), by kernel_rfl, by kernel_rfl, by kernel_rfl⟩⟩
theorem mkIns : Mk P0 33 51 kIns 48 ⟨0, 0, 0, 0, 0, 0⟩ := ⟨by kernel_rfl, ⟨_, _, Option.eq_some_of_isSome (by kernel_rfl), Option.eq_some_of_isSome (by kernel_rfl), by kernel_rfl, by kernel_rfl, by kernel_rfl⟩⟩
theorem noAny6 : ∀ l ∈ kIns.ls, l ≠ Lf.any := by intro l hl; simp [kIns, List.mem_replicate] at hl; simp [hl]
theorem kIns6 : kIns.ls.length = 6 := rfl
def marks (k : Int) (n : Nat) : List Int := (List.range n).map fun (i : Nat) => k + (i : Int)
theorem marks_get (k : Int) {n i : Nat} (h : i < n) : (marks k n)[i]? = some (k + (i : Int)) := by simp [marks, h]
theorem marks_length (k : Int) (n : Nat) : (marks k n).length = n := by simp [marks]
theorem marks_succ (k : Int) (n : Nat) : marks k (n + 1) = marks k n ++ [k + (n : Int)] := by simp [marks, List.range_succ]
section
variable {w : World} {s : Sl} {l : List Ins}
theorem laws.szInsS.c {left : Int} {K : Int → World → Prop} (h : SlR kIns w s l) (h0 : -1 ≤ left) (h1 : left ≤ 1048576) (hk : K (if left - l.length < 0 then -1 else left - l.length) w) :
    CallT (.o (.lf (.i .i64))) P0 20 [s.v, .int .i64 left] w K := by
  have hn := h.len; have hm := h.max
  refine laws.szInsS.ok ?_
  unfold laws.szInsS.vc
  simp (disch := omega) only [i64_of]
  rw [hn]
  refine And.intro (fun hc => ?_) (fun hc => ?_)
  · simp only [decide_eq_true_eq] at hc; rw [if_pos hc] at hk; exact hk
  · simp only [decide_eq_false_iff_not] at hc; rw [if_neg hc] at hk; exact hk
theorem laws.toIns.c {x : Ins} {K : Tup (R 6 (.i .i64)) → World → Prop} (hk : ∀ w', Below w.heap.size w w' → K x.t w') : CallT (.o (.ag (R 6 (.i .i64)))) P0 56 [.agg (Tup.cells (R 6 (.i .i64)) x.t).toArray] w K := by
  refine laws.toIns.ok (nwIns fun w1 hb1 hs1 hc1 => ?_)
  refine nw fun w2 hb2 hs2 hc2 => ?_
  refine nw fun w3 hb3 hs3 hc3 => ?_
  have hc1 := (hb3.block _ (by omega)).trans ((hb2.block _ (by omega)).trans hc1)
  have hc2 := (hb3.block _ (by omega)).trans hc2
  have hb : Below w.heap.size w w3 := (hb1.trans (hb2.mono hb1.size)).trans (hb3.mono (by omega))
  clear hb1 hb2 hb3
  obtain ⟨z, hz⟩ : ∃ z, zc P0 51 = z := ⟨_, rfl⟩
  have hz6 : z.toList.length = 6 := by rw [← hz]; exact zIns
  rw [hz] at hc2 hc3
  rcases z with ⟨z⟩
  match z, hz6 with
  | [z0, z1, z2, z3, z4, z5], _ =>
  refine ldB hc1 (x := x.op) rfl (stB hc3 rfl (by simp) fun w4 hg4 hs4 hc4 => ?_)
  replace hc1 := (hg4.block w.heap.size (by omega) (by simp; omega)).trans hc1
  replace hc2 := (hg4.block w1.heap.size (by omega) (by simp; omega)).trans hc2
  replace hb := hb.grown hg4 hb.size (fun b hb' => by simp at hb'; omega)
  clear hc3
  refine ldB hc1 (x := x.dst) rfl (stB hc4 rfl (by simp) fun w5 hg5 hs5 hc5 => ?_)
  replace hc1 := (hg5.block w.heap.size (by omega) (by simp; omega)).trans hc1
  replace hc2 := (hg5.block w1.heap.size (by omega) (by simp; omega)).trans hc2
  replace hb := hb.grown hg5 hb.size (fun b hb' => by simp at hb'; omega)
  refine ldB hc1 (x := x.src) rfl (stB hc5 rfl (by simp) fun w6 hg6 hs6 hc6 => ?_)
  replace hc1 := (hg6.block w.heap.size (by omega) (by simp; omega)).trans hc1
  replace hc2 := (hg6.block w1.heap.size (by omega) (by simp; omega)).trans hc2
  replace hb := hb.grown hg6 hb.size (fun b hb' => by simp at hb'; omega)
  refine ldB hc1 (x := x.off) rfl (stB hc6 rfl (by simp) fun w7 hg7 hs7 hc7 => ?_)
  replace hc1 := (hg7.block w.heap.size (by omega) (by simp; omega)).trans hc1
  replace hc2 := (hg7.block w1.heap.size (by omega) (by simp; omega)).trans hc2
  replace hb := hb.grown hg7 hb.size (fun b hb' => by simp at hb'; omega)
  refine ldB hc1 (x := x.imm) rfl (stB hc7 rfl (by simp) fun w8 hg8 hs8 hc8 => ?_)
  replace hc1 := (hg8.block w.heap.size (by omega) (by simp; omega)).trans hc1
  replace hc2 := (hg8.block w1.heap.size (by omega) (by simp; omega)).trans hc2
  replace hb := hb.grown hg8 hb.size (fun b hb' => by simp at hb'; omega)
  refine ldB hc1 (x := x.size) rfl (stB hc8 rfl (by simp) fun w9 hg9 hs9 hc9 => ?_)
  replace hc2 := (hg9.block w1.heap.size (by omega) (by simp; omega)).trans hc2
  replace hb := hb.grown hg9 hb.size (fun b hb' => by simp at hb'; omega)
  refine ldAB hc9 (x := x.t) rfl ?_
  obtain ⟨w', hr, hg, hsz, hh⟩ := run_storeCells_at' P0 (b := w1.heap.size) (t := 51) (Tup.cells (R 6 (.i .i64)) x.t) 0 [] [z0, z1, z2, z3, z4, z5] w9 (oneCell_cells kIns noAny6 x) rfl rfl hc2
  refine ⟨w', hr, ldAB hh (x := x.t) rfl (hk _ (hb.grown hg hb.size (fun b hb' => by simp at hb'; omega)))⟩
theorem laws.toInsS.c {K : Sl → World → Prop} (h : SlR kIns w s l) (hl : l.length ≤ 1048576) (hk : ∀ r w', Below w.heap.size w w' → WrS kIns 51 w.heap.size w' r l → K r w') :
    CallT (.o (.lf .sl)) P0 22 [s.v] w K := by
  have hn := h.len
  refine laws.toInsS.ok (mkS mkIns (by omega) (by simp only [maxLen]; omega) fun r w1 hb1 hr1 => ?_)
  rw [hn] at hr1
  refine ⟨fun i w' => ∃ (n : Nat) (zs : List Ins), i = n ∧ n ≤ l.length ∧ zs.length = l.length - n ∧ WrS kIns 51 w.heap.size w' r (l.take n ++ zs) ∧ Below w.heap.size w w', fun i _ => l.length - i.toNat,
    ⟨0, _, rfl, by omega, List.length_replicate, by simpa using hr1, hb1⟩, ?_⟩
  rintro i w2 ⟨n, zs, rfl, hnl, hzs, hr2, hb2⟩ _
  refine And.intro (fun hlt => ?_) (fun hge => ?_)
  · simp only [decide_eq_true_eq] at hlt
    obtain ⟨x, hx⟩ := get_some (l := l) (k := n) (by omega)
    have := ixA (h.below hb2) (i := n) (by omega) (x := x) (by simpa using hx) (sz := 6) rfl (K := fun (t : Tup kIns.ls) w' => CallT (.o (.ag (R 6 (.i .i64)))) P0 56 [(.agg (Tup.cells (R 6 (.i .i64)) t).toArray)] w' fun (t20 : Tup (R 6 (.i .i64))) w__4 =>
Ix r.a r.n n 6 w__4 fun a_t21 w__5 =>
StA P0 a_t21 (Tup.cells (R 6 (.i .i64)) t20) w__5 fun w__6 =>
((∃ (n' : Nat) (zs : List Ins), IntKind.wrap .i64 (n + 1) = n' ∧ n' ≤ l.length ∧ zs.length = l.length - n' ∧ WrS kIns 51 w.heap.size w__6 r (l.take n' ++ zs) ∧ Below w.heap.size w w__6) ∧ l.length - (IntKind.wrap .i64 (n + 1)).toNat < l.length - (n : Int).toNat)) ?_
    · exact this
    · refine laws.toIns.c (x := x) fun w3 hb3 => ?_
      obtain ⟨z, hz⟩ := get_some (l := l.take n ++ zs) (k := n) (by simp; omega)
      refine ixStA (P := P0) (hr2.below hb3) (i := n) (by omega) (x := z) (by simpa using hz) rfl (by decide) noAny6 x rfl fun w4 hr4 hg4 hs4 => ?_
      simp (disch := omega) only [i64_of]
      refine ⟨⟨n + 1, zs.tail, by omega, by omega, by simp; omega, ?_, ?_⟩, by omega⟩
      · rw [Int.toNat_natCast, set_next hx hzs] at hr4; exact hr4
      · exact (hb2.trans (hb3.mono hb2.size)).grown hg4 (by have := hb2.size; have := hb3.size; omega) (bk_ge hr2)
  · simp only [decide_eq_false_iff_not] at hge
    obtain rfl : n = l.length := by omega
    have : zs = [] := List.eq_nil_of_length_eq_zero (by omega)
    subst this
    simp only [List.take_length, List.append_nil] at hr2
    exact hk _ _ hb2 hr2
set_option maxHeartbeats 1000000 in
theorem laws.eqIns.c {x y : Ins} {K : Bool → World → Prop} (hk : ∀ w', Below w.heap.size w w' → K (decide (x = y)) w') : CallT (.o (.lf .b)) P0 60 [.agg (Tup.cells (R 6 (.i .i64)) x.t).toArray, .agg (Tup.cells (R 6 (.i .i64)) y.t).toArray] w K := by
  refine laws.eqIns.ok (nwIns fun w1 hb1 hs1 hc1 => nwIns fun w2 hb2 hs2 hc2 => ?_)
  have hc1 := (hb2.block _ (by omega)).trans hc1
  have hk := hk w2 (hb1.trans (hb2.mono hb1.size))
  rcases x with ⟨x0, x1, x2, x3, x4, x5⟩
  rcases y with ⟨y0, y1, y2, y3, y4, y5⟩
  refine ldB hc1 (x := x0) rfl (ldB hc2 (x := y0) rfl ?_)
  refine And.intro (fun h => kof hk (by simp at h; simp [h])) (fun h0 => ?_)
  refine ldB hc1 (x := x1) rfl (ldB hc2 (x := y1) rfl ?_)
  refine And.intro (fun h => kof hk (by simp at h; simp [h])) (fun h1 => ?_)
  refine ldB hc1 (x := x2) rfl (ldB hc2 (x := y2) rfl ?_)
  refine And.intro (fun h => kof hk (by simp at h; simp [h])) (fun h2 => ?_)
  refine ldB hc1 (x := x3) rfl (ldB hc2 (x := y3) rfl ?_)
  refine And.intro (fun h => kof hk (by simp at h; simp [h])) (fun h3 => ?_)
  refine ldB hc1 (x := x4) rfl (ldB hc2 (x := y4) rfl ?_)
  refine And.intro (fun h => kof hk (by simp at h; simp [h])) (fun h4 => ?_)
  refine ldB hc1 (x := x5) rfl (ldB hc2 (x := y5) rfl ?_)
  refine And.intro (fun h => kof hk (by simp at h; simp [h])) (fun h5 => kof hk (by simp at h0 h1 h2 h3 h4 h5; simp [h0, h1, h2, h3, h4, h5]))
end
theorem bne_len {a b : Nat} : (((a : Nat) : Int) != (b : Int)) = true ↔ a ≠ b := by simp; omega
theorem take_ext {α : Type} {xs ys : List α} (hl : xs.length = ys.length) (h : ∀ (i : Nat) x, xs[i]? = some x → ys[i]? = some x) : xs = ys := by
  refine List.ext_getElem? fun i => ?_
  rcases Nat.lt_or_ge i xs.length with hi | hi
  · rw [List.getElem?_eq_getElem hi, h i _ (List.getElem?_eq_getElem hi)]
  · rw [List.getElem?_eq_none hi, List.getElem?_eq_none (by omega)]
section
variable {w : World} {a b : Sl} {xs ys : List Int}
theorem laws.eqIntS.c {K : Bool → World → Prop} (ha : SlR kI w a xs) (hb : SlR kI w b ys) (hk : ∀ w', Below w.heap.size w w' → K (decide (xs = ys)) w') : CallT (.o (.lf .b)) P0 24 [a.v, b.v] w K := by
  have hna := ha.len; have hnb := hb.len; have hm := ha.max
  refine laws.eqIntS.ok ?_
  unfold laws.eqIntS.vc
  refine And.intro (fun h => kof (hk _ (Below.refl _ _)) ?_) (fun h => ?_)
  · rw [bne_len] at h
    simp only [decide_eq_false_iff_not]; rintro rfl; omega
  · have hle : xs.length = ys.length := by simp at h; omega
    refine ⟨fun i w' => ∃ n : Nat, i = n ∧ n ≤ xs.length ∧ (∀ j < n, xs[j]? = ys[j]?) ∧ Below w.heap.size w w', fun i _ => xs.length - i.toNat, ⟨0, rfl, by omega, by simp, Below.refl _ _⟩, ?_⟩
    rintro i w1 ⟨n, rfl, hn, hE, hb1⟩ _
    refine And.intro (fun hlt => ?_) (fun hge => ?_)
    · simp only [decide_eq_true_eq] at hlt
      obtain ⟨x, hx⟩ := get_some (l := xs) (k := n) (by omega)
      obtain ⟨y, hy⟩ := get_some (l := ys) (k := n) (by omega)
      refine qixL (ha.below hb1) (i := n) (by omega) (x := x) (by simpa using hx) rfl (l := .i .i64) (v := x) rfl ?_
      refine qixL (hb.below hb1) (i := n) (by omega) (x := y) (by simpa using hy) rfl (l := .i .i64) (v := y) rfl ?_
      intro w2 hb2
      have hbb := hb1.trans (hb2.mono hb1.size)
      refine And.intro (fun hne => kof (hk _ hbb) ?_) (fun he => ?_)
      · simp only [bne_iff_ne, ne_eq] at hne
        simp only [decide_eq_false_iff_not]; rintro rfl; rw [hx] at hy; simp at hy; exact hne hy
      · simp at he
        simp (disch := omega) only [i64_of]
        refine ⟨⟨n + 1, by omega, by omega, fun j hj => ?_, hbb⟩, by omega⟩
        rcases Nat.lt_or_ge j n with h1 | h1
        · exact hE j h1
        · obtain rfl : j = n := by omega
          rw [hx, hy, he]
    · simp only [decide_eq_false_iff_not] at hge
      refine kof (hk _ hb1) ?_
      simp only [decide_eq_true_eq]
      exact take_ext hle fun j x hx => by rw [← hE j (by have := lt_of_get hx; omega)]; exact hx
theorem laws.markIntS.c {t : TypeId} {B : Nat} {k : Int} {K : Int → World → Prop} (ha : WrS kI t B w a xs) (hk0 : -1048576 ≤ k ∧ k ≤ 1099511627776) (hl : xs.length ≤ 1099511627776)
    (hk : ∀ w', WrS kI t B w' a (marks k xs.length) → w.grownBy w' a.bk → K (k + xs.length) w') : CallT (.o (.lf (.i .i64))) P0 27 [a.v, .int .i64 k] w K := by
  have hna := ha.len
  refine laws.markIntS.ok ⟨fun k' i w' => ∃ (n : Nat) (zs : List Int), i = n ∧ k' = k + n ∧ n ≤ xs.length ∧ zs.length = xs.length - n ∧ WrS kI t B w' a (marks k n ++ zs) ∧ w.grownBy w' a.bk, fun _ i _ => xs.length - i.toNat,
    ⟨0, xs, rfl, by omega, by omega, by omega, by simpa [marks] using ha, grown_refl _ _⟩, ?_⟩
  rintro k' i w1 ⟨n, zs, rfl, rfl, hn, hz, ha1, hg1⟩ _
  refine And.intro (fun hlt => ?_) (fun hge => ?_)
  · simp only [decide_eq_true_eq] at hlt
    obtain ⟨z, hz1⟩ := get_some (l := marks k n ++ zs) (k := n) (by simp [marks]; omega)
    refine ixStL ha1 (i := n) (by omega) (x := z) (by simpa using hz1) rfl rfl rfl (k + n) rfl fun w2 ha2 hg2 hs2 => ?_
    simp (disch := omega) only [i64_of]
    refine ⟨⟨n + 1, zs.tail, by omega, by omega, by omega, by simp; omega, ?_, grown_trans hg1 hg2⟩, by omega⟩
    rw [Int.toNat_natCast] at ha2
    match zs, hz with
    | [], hz => simp at hz; omega
    | z' :: zs, _ =>
      rw [List.set_append_right _ _ (by simp [marks]), marks_length, Nat.sub_self, List.set_cons_zero] at ha2
      rw [marks_succ, List.append_assoc]; exact ha2
  · simp only [decide_eq_false_iff_not] at hge
    obtain rfl : n = xs.length := by omega
    have : zs = [] := List.eq_nil_of_length_eq_zero (by omega)
    subst this
    rw [List.append_nil] at ha1
    exact hk _ ha1 hg1
theorem laws.heldIntS.c {k : Int} {n : Nat} {K : Int → World → Prop} (ha : SlR kI w a (marks k n)) (hk0 : -1048576 ≤ k ∧ k ≤ 1099511627776) (hl : n ≤ 1099511627776)
    (hk : K (k + n) w) : CallT (.o (.lf (.i .i64))) P0 28 [a.v, .int .i64 k] w K := by
  have hna := ha.len
  rw [marks_length] at hna
  refine laws.heldIntS.ok ⟨fun k' i w' => ∃ (m : Nat), i = m ∧ k' = k + m ∧ m ≤ n ∧ w' = w, fun _ i _ => n - i.toNat, ⟨0, rfl, by omega, by omega, rfl⟩, ?_⟩
  rintro k' i w1 ⟨m, rfl, rfl, hm, rfl⟩ _
  refine And.intro (fun hlt => ?_) (fun hge => ?_)
  · simp only [decide_eq_true_eq] at hlt
    refine ixL ha (i := m) (by omega) (x := k + m) (by rw [Int.toNat_natCast]; exact marks_get k (by omega)) rfl (l := .i .i64) (v := k + m) rfl ?_
    refine And.intro (fun hne => ?_) (fun _ => ?_)
    · simp at hne
    · simp (disch := omega) only [i64_of]
      exact ⟨⟨m + 1, by omega, by omega, by omega, trivial⟩, by omega⟩
  · simp only [decide_eq_false_iff_not] at hge
    obtain rfl : m = n := by omega
    exact hk
end
section
variable {w : World} {a b : Sl} {xs ys : List Ins}
theorem laws.eqInsS.c {K : Bool → World → Prop} (ha : SlR kIns w a xs) (hb : SlR kIns w b ys) (hk : ∀ w', Below w.heap.size w w' → K (decide (xs = ys)) w') : CallT (.o (.lf .b)) P0 25 [a.v, b.v] w K := by
  have hna := ha.len; have hnb := hb.len; have hm := ha.max
  refine laws.eqInsS.ok ?_
  unfold laws.eqInsS.vc
  refine And.intro (fun h => kof (hk _ (Below.refl _ _)) ?_) (fun h => ?_)
  · rw [bne_len] at h
    simp only [decide_eq_false_iff_not]; rintro rfl; omega
  · have hle : xs.length = ys.length := by simp at h; omega
    refine ⟨fun i w' => ∃ n : Nat, i = n ∧ n ≤ xs.length ∧ (∀ j < n, xs[j]? = ys[j]?) ∧ Below w.heap.size w w', fun i _ => xs.length - i.toNat, ⟨0, rfl, by omega, by simp, Below.refl _ _⟩, ?_⟩
    rintro i w1 ⟨n, rfl, hn, hE, hb1⟩ _
    refine And.intro (fun hlt => ?_) (fun hge => ?_)
    · simp only [decide_eq_true_eq] at hlt
      obtain ⟨x, hx⟩ := get_some (l := xs) (k := n) (by omega)
      obtain ⟨y, hy⟩ := get_some (l := ys) (k := n) (by omega)
      refine qixA (ha.below hb1) (i := n) (by omega) (x := x) (by simpa using hx) rfl ?_
      refine qixA (hb.below hb1) (i := n) (by omega) (x := y) (by simpa using hy) rfl ?_
      refine qcl (decide (x = y)) (fun w2 hb2 => laws.eqIns.c fun w3 hb3 => ⟨rfl, hb2.trans (hb3.mono hb2.size)⟩) ?_
      intro w2 hb2
      have hbb := hb1.trans (hb2.mono hb1.size)
      refine And.intro (fun hne => kof (hk _ hbb) ?_) (fun he => ?_)
      · simp at hne
        simp only [decide_eq_false_iff_not]; rintro rfl; rw [hx] at hy; simp at hy; exact hne hy
      · simp at he
        simp (disch := omega) only [i64_of]
        refine ⟨⟨n + 1, by omega, by omega, fun j hj => ?_, hbb⟩, by omega⟩
        rcases Nat.lt_or_ge j n with h1 | h1
        · exact hE j h1
        · obtain rfl : j = n := by omega
          rw [hx, hy, he]
    · simp only [decide_eq_false_iff_not] at hge
      refine kof (hk _ hb1) ?_
      simp only [decide_eq_true_eq]
      exact take_ext hle fun j x hx => by rw [← hE j (by have := lt_of_get hx; omega)]; exact hx
theorem laws.markInsS.c {t : TypeId} {B : Nat} {k : Int} {K : Int → World → Prop} (ha : WrS kIns t B w a xs) (hk0 : 0 ≤ k ∧ k ≤ 1099511627776) (hl : xs.length ≤ 1099511627776)
    (hk : ∀ w', w.grownBy w' a.bk → K (k + 6 * xs.length) w') : CallT (.o (.lf (.i .i64))) P0 26 [a.v, .int .i64 k] w K := by
  have hna := ha.len
  refine laws.markInsS.ok ⟨fun k' i w' => ∃ (n : Nat) (zs : List Ins), i = n ∧ k' = k + 6 * n ∧ n ≤ xs.length ∧ zs.length = xs.length ∧ WrS kIns t B w' a zs ∧ w.grownBy w' a.bk, fun _ i _ => xs.length - i.toNat,
    ⟨0, xs, rfl, by omega, by omega, rfl, ha, grown_refl _ _⟩, ?_⟩
  rintro k' i w1 ⟨n, zs, rfl, rfl, hn, hz, ha1, hg1⟩ _
  refine And.intro (fun hlt => ?_) (fun hge => ?_)
  · simp only [decide_eq_true_eq] at hlt
    simp (disch := omega) only [i64_of]
    have step : ∀ (w2 : World) (zs : List Ins) (j : Nat) (v : Int) (f : Ins → Ins) (K : World → Prop), zs.length = xs.length → WrS kIns t B w2 a zs → w.grownBy w2 a.bk → j < 6 → (∀ x, kIns.cells (f x) = (kIns.cells x).set j (.int .i64 v)) →
        (∀ w' zs', zs'.length = xs.length → WrS kIns t B w' a zs' → w.grownBy w' a.bk → K w') → Ix a.a a.n n 6 w2 (fun ad w1 => St (Addr.add ad j) (.int .i64 v) w1 K) := by
      intro w2 zs j v f K hz ha2 hg2 hj hf hK
      obtain ⟨x, hx⟩ := get_some (l := zs) (k := n) (by omega)
      exact ixStF ha2 (i := n) (by omega) (x := x) (by simpa using hx) rfl hj rfl (f x) (hf x) fun w3 ha3 hg3 hs3 => hK w3 _ (by simpa using hz) ha3 (grown_trans hg2 hg3)
    refine step w1 zs 0 _ (fun x => { x with op := k + 6 * n }) _ hz ha1 hg1 (by decide) (fun _ => rfl) fun w2 zs2 hz2 ha2 hg2 => ?_
    refine step w2 zs2 1 _ (fun x => { x with dst := k + 6 * n + 1 }) _ hz2 ha2 hg2 (by decide) (fun _ => rfl) fun w3 zs3 hz3 ha3 hg3 => ?_
    refine step w3 zs3 2 _ (fun x => { x with src := k + 6 * n + 1 + 1 }) _ hz3 ha3 hg3 (by decide) (fun _ => rfl) fun w4 zs4 hz4 ha4 hg4 => ?_
    refine step w4 zs4 3 _ (fun x => { x with off := k + 6 * n + 1 + 1 + 1 }) _ hz4 ha4 hg4 (by decide) (fun _ => rfl) fun w5 zs5 hz5 ha5 hg5 => ?_
    refine step w5 zs5 4 _ (fun x => { x with imm := k + 6 * n + 1 + 1 + 1 + 1 }) _ hz5 ha5 hg5 (by decide) (fun _ => rfl) fun w6 zs6 hz6 ha6 hg6 => ?_
    refine step w6 zs6 5 _ (fun x => { x with size := k + 6 * n + 1 + 1 + 1 + 1 + 1 }) _ hz6 ha6 hg6 (by decide) (fun _ => rfl) fun w7 zs7 hz7 ha7 hg7 => ?_
    exact ⟨⟨n + 1, zs7, by omega, by omega, by omega, hz7, ha7, hg7⟩, by omega⟩
  · simp only [decide_eq_false_iff_not] at hge
    obtain rfl : n = xs.length := by omega
    exact hk _ hg1
end
end Go.Proofs.Ytdgnojjemlfhdaa.V
