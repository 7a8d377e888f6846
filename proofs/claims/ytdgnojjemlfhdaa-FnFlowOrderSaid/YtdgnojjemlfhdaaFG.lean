/- Contracts: a line as an op, and the reader of the draws. -/
import Derived.Test.YtdgnojjemlfhdaaFF
namespace Go.Proofs.Ytdgnojjemlfhdaa.V
open Go Go.RowKit
set_option linter.unusedVariables false
set_option linter.unusedSimpArgs false
theorem nwStT {t : Tup (R 6 (.i .i64))} {w : World} {K : Addr → World → Prop}
    (hk : ∀ w', Below w.heap.size w w' → w'.heap.size = w.heap.size + 1 → w'.heap[w.heap.size]? = some (.cells (insOf t).cs 51 (0, 0)) → K ⟨w.heap.size, 0, none⟩ w') :
    Nw (zc P0 51) 51 w (fun a w' => StA P0 a (Tup.cells (R 6 (.i .i64)) t) w' (K a)) := nwStIns (x := insOf t) hk
theorem spec.LineGet.c {s : ByteArray} {w : World} {K : Tup (R 6 (.i .i64)) × Bool × Unit → World → Prop} (hs : s.size < 1099511627776) (hk : ∀ (x : Ins) (b : Bool) w', Below w.heap.size w w' → K (x.t, b, ()) w') :
    CallT (.n [(.ag (R 6 (.i .i64))), (.lf .b)]) P0 112 [.string s] w K := by
  refine spec.LineGet.ok (nw fun w1 hb1 hs1 hc1 => ?_)
  refine spec.l1Cut.c (by omega) (by omega) fun r w2 xs hb2 hr hl hsz => ?_
  refine spec.l1Read.c hr hl (fun y hy => by have := hsz y hy; omega) fun x w3 hb3 => ?_
  refine nwStIns (x := x) fun w4 hb4 hs4 hc4 => ?_
  refine ldAB (x := x.t) hc4 rfl ?_
  refine spec.l1InsOk.c (x := x) fun w5 hb5 => ?_
  have g2 := hb2.size
  have g3 := hb3.size
  have g4 := hb4.size
  have g5 := hb5.size
  have b15 : Below w1.heap.size w1 w5 := ((hb2.trans (hb3.mono g2)).trans (hb4.mono (by omega))).trans (hb5.mono (by omega))
  have c5 : w5.heap[w3.heap.size]? = some (.cells x.cs 51 (0, 0)) := (hb5.block _ (by omega)).trans hc4
  have fin : ∀ {w6 : World} (y : Ins) (b : Bool), Below w1.heap.size w1 w6 → StA P0 ⟨w.heap.size, 0, none⟩ (Tup.cells (R 6 (.i .i64)) y.t) w6 fun w7 => LdA (R 6 (.i .i64)) ⟨w.heap.size, 0, none⟩ w7 fun r w8 => K (r, b, ()) w7 := by
    intro w6 y b hb6
    have z6 := (hb6.block _ (by omega)).trans hc1
    refine stA6 (y := y) z6 zIns fun w7 hg7 hs7 hh7 => ?_
    refine ldAB (x := y.t) hh7 rfl ?_
    have b16 : Below w.heap.size w w6 := hb1.trans (hb6.mono hb1.size)
    exact hk y b w7 (b16.grown hg7 b16.size (fun b hb => by simp only [Option.some.injEq] at hb; omega))
  refine And.intro (fun _ => fin ⟨0, 0, 0, 0, 0, 0⟩ false b15) (fun hp => ?_)
  simp only [Bool.not_eq_false', decide_eq_true_eq] at hp
  refine ldAB (x := x.t) c5 rfl ?_
  refine spec.l1Line.c hp fun y w6 hb6 => ?_
  have b16 := b15.trans (hb6.mono b15.size)
  refine And.intro (fun _ => fin ⟨0, 0, 0, 0, 0, 0⟩ false b16) (fun _ => ?_)
  refine ldAB (x := x.t) ((hb6.block _ (by omega)).trans c5) rfl ?_
  exact fin x true b16
theorem SlR.kept3 {α : Type} {k : Kd α} {w w' : World} {s : Sl} {xs : List α} {row : Option Nat} (h : SlR k w s xs) (hg : w.grownBy w' row) (hb : xs ≠ [] → ∀ b o, s.a = some ⟨b, o, none⟩ → row ≠ some b) : SlR k w' s xs := by
  by_cases hx : xs = []
  · exact ⟨h.1, h.2.1, h.2.2.1, .inl hx⟩
  · exact h.kept2 hg (hb hx)
/-- The reader. -/
def RdS (B br m : Nat) (w : World) : Prop := ∃ (s : Sl) (bs : List Int) (p : Nat), w.heap[br]? = some (.cells #[s.v, .int .i64 p] 98 (0, 0)) ∧ SlR kU8 w s bs ∧ (bs ≠ [] → ∀ b o, s.a = some ⟨b, o, none⟩ → b < B) ∧ B ≤ br ∧ (∀ x ∈ bs, 0 ≤ x ∧ x ≤ 255) ∧ p ≤ m
section
variable {B br m : Nat} {w : World}
theorem RdS.lt (h : RdS B br m w) : br < w.heap.size := by
  obtain ⟨s, bs, p, hc, _⟩ := h
  exact (Array.getElem?_eq_some_iff.1 hc).1
theorem RdS.more {m' : Nat} (h : RdS B br m w) (hm : m ≤ m') : RdS B br m' w := by
  obtain ⟨s, bs, p, h1, h2, h3, h4, h5, h6⟩ := h
  exact ⟨s, bs, p, h1, h2, h3, h4, h5, by omega⟩
theorem RdS.kept {w' : World} {row : Option Nat} (h : RdS B br m w) (hg : w.grownBy w' row) (hr : ∀ b, row = some b → br < b) : RdS B br m w' := by
  have hlt := h.lt
  obtain ⟨s, bs, p, h1, h2, h3, h4, h5, h6⟩ := h
  refine ⟨s, bs, p, (hg.block br hlt (fun e => by have := hr br e.symm; omega)).trans h1, h2.kept3 hg (fun hne b o ha e => by have := hr b e; have := h3 hne b o ha; omega), h3, h4, h5, h6⟩
theorem RdS.below {w' : World} (h : RdS B br m w) (hb : Below w.heap.size w w') : RdS B br m w' := h.kept (grown_of_below hb) (by simp)
theorem grown_any {w w' : World} {row : Option Nat} (h : Below w.heap.size w w') : w.grownBy w' row := ⟨h.os, h.tape, h.output, h.size, fun k hk _ => h.block k hk⟩
theorem ixor_nonneg {a b : Int} (ha : 0 ≤ a ∧ a < 9223372036854775808) (hb : 0 ≤ b ∧ b < 9223372036854775808) : 0 ≤ iXor .i64 a b := by
  unfold iXor
  have e : ∀ x : Int, 0 ≤ x ∧ x < 9223372036854775808 → (BitVec.ofInt 64 x).toNat < 2 ^ 63 := fun x hx => by rw [BitVec.toNat_ofInt]; omega
  have h1 : (BitVec.ofInt 64 a ^^^ BitVec.ofInt 64 b).toNat < 2 ^ 63 := by
    rw [BitVec.toNat_xor]; exact Nat.xor_lt_two_pow (e a ha) (e b hb)
  show 0 ≤ IntKind.wrap .i64 ((BitVec.ofInt 64 a ^^^ BitVec.ofInt 64 b).toNat : Int)
  rw [i64_of (by omega) (by omega)]
  omega
theorem tmod_in {x n : Int} (hx : 0 ≤ x) (hn : 1 ≤ n) : 0 ≤ Int.tmod x n ∧ Int.tmod x n < n := by
  rw [Int.tmod_eq_emod_of_nonneg hx]
  exact ⟨Int.emod_nonneg _ (by omega), Int.emod_lt_of_pos _ (by omega)⟩
theorem spec.l20Rd.pick.c {n : Int} {K : Int → World → Prop} (h : RdS B br m w) (hm : m ≤ 1000000000) (hn : 1 ≤ n) (hk : ∀ x w', 0 ≤ x → x < n → w.grownBy w' (some br) → RdS B br (m + 1) w' → K x w') :
    CallT (.o (.lf (.i .i64))) P0 74 [.pointer (some ⟨br, 0, none⟩), .int .i64 n] w K := by
  obtain ⟨s, bs, p, h1, h2, h3, h4, h5, h6⟩ := h
  refine spec.l20Rd.pick.ok ⟨_, rfl, ldB h1 (x := (p : Int)) rfl ⟨_, rfl, ?_⟩⟩
  rw [i64_of (n := (p : Int) + 1) (by omega) (by omega)]
  refine stB h1 rfl (by simp) fun w1 hg1 hs1 hc1 => ?_
  have hc1 : w1.heap[br]? = some (.cells #[s.v, .int .i64 ((p + 1 : Nat) : Int)] 98 (0, 0)) := hc1
  have hs1 : SlR kU8 w1 s bs := h2.kept3 hg1 (fun hne b o ha e => by have := h3 hne b o ha; simp only [Option.some.injEq] at e; omega)
  have hR : RdS B br (m + 1) w1 := ⟨s, bs, p + 1, hc1, hs1, h3, h4, h5, by omega⟩
  have hlen := hs1.len
  have hmax := hs1.max
  refine ⟨fun w' => w' = w1 ∧ 1 ≤ bs.length, And.intro (fun h0 => hk _ _ (by omega) (by omega) hg1 hR) (fun _ => ⟨_, rfl, ldB hc1 (x := s) rfl (And.intro (fun h0 => hk _ _ (by omega) (by omega) hg1 hR) (fun h0 => ⟨rfl, ?_⟩))⟩), ?_⟩
  · simp only [beq_eq_false_iff_ne, ne_eq] at h0; omega
  rintro w2 ⟨rfl, hb1⟩ _
  refine ⟨_, rfl, ldB hc1 (x := ((p + 1 : Nat) : Int)) rfl ⟨_, rfl, ldB hc1 (x := s) rfl ?_⟩⟩
  rw [i64_of (n := ((p + 1 : Nat) : Int) - 1) (by omega) (by omega)]
  have hp : ((p + 1 : Nat) : Int) - 1 = (p : Int) := by omega
  rw [hp]
  have byte : ∀ {i : Nat}, i < bs.length → ∃ y, bs[i]? = some y ∧ 0 ≤ y ∧ y ≤ 255 := fun {i} hi => by
    obtain ⟨y, hy⟩ := get_some (l := bs) (k := i) hi
    exact ⟨y, hy, h5 y (List.mem_of_getElem? hy)⟩
  refine And.intro (fun hlt => ?_) (fun hge => ?_)
  · simp only [decide_eq_true_eq] at hlt
    obtain ⟨y, hy, hy0, hy1⟩ := byte (i := p) (by omega)
    refine ⟨_, rfl, ldB hc1 (x := s) rfl ?_⟩
    refine ixL hs1 (i := p) (by omega) (x := y) (by simpa using hy) rfl (l := .i .u8) (v := y) rfl ?_
    rw [i64_of (n := y) (by omega) (by omega)]
    have := tmod_in hy0 hn
    exact ⟨by omega, hk _ _ this.1 this.2 hg1 hR⟩
  · have hnz : ((s.n : Nat) : Int) ≠ 0 := by omega
    have t1 := tmod_in (x := (p : Int)) (n := (s.n : Int)) (by omega) (by omega)
    have hq7 : IntKind.wrap .i64 (IntKind.wrap .i64 ((p : Int) * 7) + 3) = (p : Int) * 7 + 3 := by
      rw [i64_of (n := (p : Int) * 7) (by omega) (by omega), i64_of (by omega) (by omega)]
    have t2 := tmod_in (x := (p : Int) * 7 + 3) (n := (s.n : Int)) (by omega) (by omega)
    obtain ⟨y1, hy1, hy10, hy11⟩ := byte (i := (Int.tmod (p : Int) (s.n : Int)).toNat) (by omega)
    obtain ⟨y2, hy2, hy20, hy21⟩ := byte (i := (Int.tmod ((p : Int) * 7 + 3) (s.n : Int)).toNat) (by omega)
    rw [hq7]
    refine ⟨_, rfl, ?_⟩
    refine qldB hc1 (x := s) rfl ?_
    refine ⟨_, rfl, ?_⟩
    refine qldB hc1 (x := s) rfl ⟨hnz, ?_⟩
    refine qixL hs1 t1.1 hy1 rfl (l := .i .u8) (v := y1) rfl ?_
    refine ⟨_, rfl, ?_⟩
    refine qldB hc1 (x := s) rfl ?_
    refine ⟨_, rfl, ?_⟩
    refine qldB hc1 (x := s) rfl ⟨hnz, ?_⟩
    refine qixL hs1 t2.1 hy2 rfl (l := .i .u8) (v := y2) rfl ?_
    refine ⟨_, rfl, ?_⟩
    refine qldB hc1 (x := s) rfl ⟨hnz, fun w3 hb3 => ⟨by omega, by omega, ?_⟩⟩
    have hq : 0 ≤ Int.tdiv (p : Int) (s.n : Int) ∧ Int.tdiv (p : Int) (s.n : Int) ≤ p := by
      rw [Int.tdiv_eq_ediv_of_nonneg (by omega)]
      exact ⟨Int.ediv_nonneg (by omega) (by omega), Int.ediv_le_self _ (by omega)⟩
    generalize Int.tdiv (p : Int) (s.n : Int) = q at hq
    rw [i64_of (n := y1) (by omega) (by omega), i64_of (n := y2) (by omega) (by omega), i64_of (n := y1 * 131) (by omega) (by omega), i64_of (n := y2 * 1117) (by omega) (by omega), i64_of (n := y1 * 131 + y2 * 1117) (by omega) (by omega),
      i64_of (n := (p : Int) * 29) (by omega) (by omega), i64_of (n := y1 * 131 + y2 * 1117 + (p : Int) * 29) (by omega) (by omega), i64_of (n := q) (by omega) (by omega), i64_of (n := q * 53) (by omega) (by omega), i64_of (n := y1 * 131 + y2 * 1117 + (p : Int) * 29 + q * 53) (by omega) (by omega)]
    have hd : 0 ≤ Int.tdiv (y1 * 131 + y2 * 1117 + (p : Int) * 29 + q * 53) 64 ∧ Int.tdiv (y1 * 131 + y2 * 1117 + (p : Int) * 29 + q * 53) 64 ≤ y1 * 131 + y2 * 1117 + (p : Int) * 29 + q * 53 := by
      rw [Int.tdiv_eq_ediv_of_nonneg (by omega)]; omega
    generalize Int.tdiv (y1 * 131 + y2 * 1117 + (p : Int) * 29 + q * 53) 64 = d at hd
    rw [i64_of (n := d) (by omega) (by omega)]
    have hx := ixor_nonneg (a := y1 * 131 + y2 * 1117 + (p : Int) * 29 + q * 53) (b := d) (by omega) (by omega)
    have := tmod_in hx hn
    exact hk _ _ this.1 this.2 (grown_trans hg1 (grown_any hb3)) (hR.below hb3)
end
end Go.Proofs.Ytdgnojjemlfhdaa.V
