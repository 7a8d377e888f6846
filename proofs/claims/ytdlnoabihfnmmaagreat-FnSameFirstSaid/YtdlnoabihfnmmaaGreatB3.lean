/- Texts of one proof, put together in build order by pack.py (the last one states what is proved). -/
import Derived.Lib.ItoaNum
import Derived.TacticsInMore
import Derived.RangeFuncIn
import Derived.RangeFuncLeaves
import Derived.RangeFuncSeq
import Derived.RangeFuncWrites
import Derived.Test.YtdlnoabihfnmmaaGreatB2
/- Contracts: the draws of programs. -/
namespace Go.Proofs.YtdlnoabihfnmmaaGreat.V
open Go Go.RowKit
set_option linter.unusedVariables false
set_option linter.unusedSimpArgs false
section
variable {B br m : Nat} {w : World}
theorem keepB {w' : World} {b : Nat} {o : Obj} (h : w.heap[b]? = some o) (hg : w.grownBy w' (some br)) (hne : br < b) : w'.heap[b]? = some o :=
  (hg.block b (Array.getElem?_eq_some_iff.1 h).1 (by simp only [ne_eq, Option.some.injEq]; omega)).trans h
theorem spec.l20Rd.one.c {l : Sl} {xs : List Int} {K : Int → World → Prop} (h : RdS B br m w) (hm : m ≤ 1000000000) (hl : SlR kI w l xs) (h1 : 1 ≤ xs.length) (hb : ∀ b o, l.a = some ⟨b, o, none⟩ → b ≠ br)
    (hk : ∀ x w', x ∈ xs → w.grownBy w' (some br) → RdS B br (m + 1) w' → K x w') : CallT (.o (.lf (.i .i64))) P0 31 [.pointer (some ⟨br, 0, none⟩), l.v] w K := by
  have hn := hl.len
  refine spec.l20Rd.one.ok (spec.l20Rd.pick.c h hm (by omega) fun x w1 h0 hx hg hr => ?_)
  have hl1 := hl.kept2 hg (fun b o ha e => hb b o ha (by simpa using e.symm))
  obtain ⟨y, hy⟩ := get_some (l := xs) (k := x.toNat) (by omega)
  exact ixL hl1 h0 hy rfl (l := .i .i64) (v := y) rfl (hk y w1 (List.mem_of_getElem? hy) hg hr)
theorem oneLit {cs : Array Value} {xs : List Int} {n : Nat} {K : Int → World → Prop} (h : RdS B br m w) (hm : m ≤ 1000000000) (hcs : cs.toList = xs.flatMap kI.cells) (hn : n = xs.length) (h1 : 1 ≤ xs.length ∧ xs.length ≤ 100)
    (hk : ∀ x w', x ∈ xs → w.grownBy w' (some br) → RdS B br (m + 1) w' → K x w') : Nw cs 3 w fun a w1 => CallT (.o (.lf (.i .i64))) P0 31 [.pointer (some ⟨br, 0, none⟩), .slice (some a) n n] w1 K := by
  refine nw fun w1 hb hs hc => ?_
  have hl : OwnS kI 3 w.heap.size w1 ⟨some ⟨w.heap.size, 0, none⟩, n, n⟩ xs := OwnS.lit (Nat.le_refl _) hc hn hcs (by simp only [maxLen]; omega)
  have hlt := h.lt
  refine spec.l20Rd.one.c (l := ⟨some ⟨w.heap.size, 0, none⟩, n, n⟩) (h.below hb) hm hl.read h1.1 (fun b o e => ?_) fun x w2 hx hg hr => hk x w2 hx (grown_trans (grown_any hb) hg) hr
  simp only [Option.some.injEq, Addr.mk.injEq] at e
  omega
theorem spec.l20Imm.c {K : Int → World → Prop} (h : RdS B br m w) (hm : m ≤ 1000000000) (hk : ∀ x w', w.grownBy w' (some br) → RdS B br (m + 1) w' → K x w') : CallT (.o (.lf (.i .i64))) P0 51 [.pointer (some ⟨br, 0, none⟩)] w K :=
  spec.l20Imm.ok (oneLit (xs := [0, 1, 2, 3, 7, 8, 15, 31, 100, 255, 65535, 2147483647, 2147483648, 4294967295]) h hm rfl rfl (by decide) fun x w' _ hg hr => hk x w' hg hr)
/-- Good rows of lines, of new memory. -/
def GoodT (H : Nat) (w : World) (t : Sl) : Prop := (∃ xs, SlR kS w t xs ∧ 2 ≤ xs.length ∧ xs.length ≤ 13 ∧ ∀ y ∈ xs, y.size ≤ 100) ∧ ∀ b, t.bk = some b → H ≤ b
theorem GoodT.below {H : Nat} {w' : World} {t : Sl} (h : GoodT H w t) (hb : Below w.heap.size w w') : GoodT H w' t := by
  obtain ⟨⟨xs, h1, h2⟩, h3⟩ := h; exact ⟨⟨xs, h1.below hb, h2⟩, h3⟩
theorem lnStep {H : Nat} {rows : List Sl} {cs : Array Value} {xs : List ByteArray} {n : Nat} (hH : H ≤ w.heap.size) (hR : ∀ t ∈ rows, GoodT H w t) (hcs : cs.toList = xs.flatMap kS.cells) (hn : n = xs.length) (hx : 2 ≤ xs.length ∧ xs.length ≤ 13 ∧ ∀ y ∈ xs, y.size ≤ 100) {K : Addr → World → Prop}
    (hk : ∀ w' a, H ≤ w'.heap.size → Below w.heap.size w w' → (∀ t ∈ rows ++ [⟨some a, n, n⟩], GoodT H w' t) → K a w') : Nw cs 9 w K := by
  refine nw fun w1 hb hs hc => hk w1 _ (by omega) hb fun t ht => ?_
  rcases List.mem_append.1 ht with ht | ht
  · exact (hR t ht).below hb
  · simp only [List.mem_singleton] at ht
    subst ht
    exact ⟨⟨xs, (OwnS.lit (k := kS) (B := 0) (Nat.zero_le _) hc hn hcs (by simp only [maxLen]; omega)).read, hx⟩, fun b hb => by simp only [Sl.bk, Option.map_some, Option.some.injEq] at hb; omega⟩
theorem grown_new {w w1 w2 : World} {row : Option Nat} {b : Nat} (h : w.grownBy w1 row) (h2 : w1.grownBy w2 (some b)) (hb : w.heap.size ≤ b) : w.grownBy w2 row :=
  ⟨h2.os.trans h.os, h2.tape.trans h.tape, h2.output.trans h.output, Nat.le_trans h.size h2.size, fun k hk hne => (h2.block k (Nat.lt_of_lt_of_le hk h.size) (by simp only [ne_eq, Option.some.injEq]; omega)).trans (h.block k hk hne)⟩
theorem spec.l20Alu.c {K : Tup (R 6 (.i .i64)) → World → Prop} (h : RdS B br m w) (hm : m ≤ 900000000) (hk : ∀ (x : Ins) w', w.grownBy w' (some br) → RdS B br (m + 5) w' → K x.t w') : CallT (.o (.ag (R 6 (.i .i64)))) P0 52 [.pointer (some ⟨br, 0, none⟩)] w K := by
  have hlt := h.lt
  refine spec.l20Alu.ok (nw fun w1 b1 s1 c1 => ?_)
  refine spec.l20Rd.pick.c (h.below b1) (by omega) (by omega) fun t5 w2 _ _ g2 r2 => ?_
  refine oneLit (xs := [0, 6, 7, 8]) r2 (by omega) rfl rfl (by decide) fun t9 w3 _ g3 r3 => ?_
  refine spec.l20Imm.c r3 (by omega) fun t11 w4 g4 r4 => ?_
  refine nwStIns (x := ⟨IntKind.wrap .i64 (1 + t5), t9, -1, 0, t11, 0⟩) fun w5 b5 s5 c5 => ?_
  refine spec.l20Rd.pick.c (r4.below b5) (by omega) (by omega) fun t14 w6 _ _ g6 r6 => ?_
  have g14 : w1.grownBy w4 (some br) := grown_trans (grown_trans g2 g3) g4
  have g16 : w1.grownBy w6 (some br) := grown_trans (grown_trans g14 (grown_any b5)) g6
  have hs14 := g14.size
  have c6 := keepB c5 g6 (by omega)
  have z6 := keepB c1 g16 (by omega)
  have G16 : w.grownBy w6 (some br) := grown_trans (grown_any b1) g16
  have fin : ∀ {w7 : World} (y : Ins), w.grownBy w7 (some br) → RdS B br (m + 5) w7 → w7.heap[w4.heap.size]? = some (.cells y.cs 85 (0, 0)) → w7.heap[w.heap.size]? = some (.cells (zc P0 85) 85 (0, 0)) →
      LdA (R 6 (.i .i64)) ⟨w4.heap.size, 0, none⟩ w7 fun t8 w8 => StA P0 ⟨w.heap.size, 0, none⟩ (Tup.cells (R 6 (.i .i64)) t8) w8 fun w9 => LdA (R 6 (.i .i64)) ⟨w.heap.size, 0, none⟩ w9 fun r w10 => K r w9 := by
    intro w7 y g7 r7 c7 z7
    refine ldAB (x := y.t) c7 rfl ?_
    refine stA6 (y := y) z7 zIns fun w8 g8 _ c8 => ?_
    refine ldAB (x := y.t) c8 rfl ?_
    exact hk y w8 (grown_new g7 g8 (Nat.le_refl _)) (r7.kept g8 (fun b hb => by simp only [Option.some.injEq] at hb; omega))
  refine And.intro (fun _ => ?_) (fun _ => fin _ G16 (r6.more (by omega)) c6 z6)
  refine oneLit (xs := [0, 6, 7, 8]) r6 (by omega) rfl rfl (by decide) fun t18 w7 _ g7 r7 => ?_
  have c7 := keepB c6 g7 (by omega)
  have z7 := keepB z6 g7 (by omega)
  refine stB c7 rfl (by simp [Ins.cs]) fun w8 g8 s8 c8 => ?_
  refine stB c8 rfl (by simp [Ins.cs]) fun w9 g9 s9 c9 => ?_
  have G9 : w.grownBy w9 (some br) := grown_new (grown_new (grown_trans G16 g7) g8 (by omega)) g9 (by omega)
  have r9 : RdS B br (m + 5) w9 := (r7.kept g8 (fun b hb => by simp only [Option.some.injEq] at hb; omega)).kept g9 (fun b hb => by simp only [Option.some.injEq] at hb; omega)
  refine fin ⟨IntKind.wrap .i64 (1 + t5), t9, t18, 0, 0, 0⟩ G9 r9 c9 ?_
  have z8 := (g8.block _ (Array.getElem?_eq_some_iff.1 z7).1 (by simp only [ne_eq, Option.some.injEq]; omega)).trans z7
  exact (g9.block _ (Array.getElem?_eq_some_iff.1 z8).1 (by simp only [ne_eq, Option.some.injEq]; omega)).trans z8
set_option maxHeartbeats 1000000 in
theorem spec.l20Lines.c {K : Sl → World → Prop} (hk : ∀ r w' rows, Below w.heap.size w w' → SlR kSl w' r rows → rows.length = 15 → (∀ t ∈ rows, GoodT w.heap.size w' t) → (∀ b, r.bk = some b → w.heap.size ≤ b) → K r w') : CallT (.o (.lf .sl)) P0 49 [] w K := by
  refine spec.l20Lines.ok ?_
  refine lnStep (H := w.heap.size) (rows := []) (xs := [_, _]) (n := 2) (Nat.le_refl _) (by simp) rfl rfl (by decide) fun w1 a1 H1 b1 R1 => ?_
  refine lnStep (xs := [_, _, _, _, _]) (n := 5) H1 R1 rfl rfl (by decide) fun w2 a2 H2 b2 R2 => ?_
  refine lnStep (xs := [_, _, _, _, _, _, _, _, _, _, _, _, _]) (n := 13) H2 R2 rfl rfl (by decide) fun w3 a3 H3 b3 R3 => ?_
  refine lnStep (xs := [_, _, _, _, _]) (n := 5) H3 R3 rfl rfl (by decide) fun w4 a4 H4 b4 R4 => ?_
  refine lnStep (xs := [_, _, _, _, _, _, _, _, _]) (n := 9) H4 R4 rfl rfl (by decide) fun w5 a5 H5 b5 R5 => ?_
  refine lnStep (xs := [_, _, _, _]) (n := 4) H5 R5 rfl rfl (by decide) fun w6 a6 H6 b6 R6 => ?_
  refine lnStep (xs := [_, _, _, _, _]) (n := 5) H6 R6 rfl rfl (by decide) fun w7 a7 H7 b7 R7 => ?_
  refine lnStep (xs := [_, _, _, _, _, _]) (n := 6) H7 R7 rfl rfl (by decide) fun w8 a8 H8 b8 R8 => ?_
  refine lnStep (xs := [_, _, _]) (n := 3) H8 R8 rfl rfl (by decide) fun w9 a9 H9 b9 R9 => ?_
  refine lnStep (xs := [_, _, _, _, _, _]) (n := 6) H9 R9 rfl rfl (by decide) fun w10 a10 H10 b10 R10 => ?_
  refine lnStep (xs := [_, _, _, _, _, _]) (n := 6) H10 R10 rfl rfl (by decide) fun w11 a11 H11 b11 R11 => ?_
  refine lnStep (xs := [_, _, _, _, _, _, _, _, _, _]) (n := 10) H11 R11 rfl rfl (by decide) fun w12 a12 H12 b12 R12 => ?_
  refine lnStep (xs := [_, _, _, _, _, _, _]) (n := 7) H12 R12 rfl rfl (by decide) fun w13 a13 H13 b13 R13 => ?_
  refine lnStep (xs := [_, _, _, _, _, _, _, _, _, _, _]) (n := 11) H13 R13 rfl rfl (by decide) fun w14 a14 H14 b14 R14 => ?_
  refine lnStep (xs := [_, _, _, _, _, _]) (n := 6) H14 R14 rfl rfl (by decide) fun w15 a15 H15 b15 R15 => ?_
  refine nw fun w16 b16 s16 c16 => ?_
  have mono : ∀ {u v : World}, Below w.heap.size w u → Below u.heap.size u v → Below w.heap.size w v := fun h1 h2 => h1.trans (h2.mono h1.size)
  refine hk _ _ _ (mono (mono (mono (mono (mono (mono (mono (mono (mono (mono (mono (mono (mono (mono (mono b1 b2) b3) b4) b5) b6) b7) b8) b9) b10) b11) b12) b13) b14) b15) b16) (OwnS.lit (k := kSl) (B := 0) (xs := [⟨some a1, 2, 2⟩, ⟨some a2, 5, 5⟩, ⟨some a3, 13, 13⟩, ⟨some a4, 5, 5⟩, ⟨some a5, 9, 9⟩, ⟨some a6, 4, 4⟩, ⟨some a7, 5, 5⟩, ⟨some a8, 6, 6⟩, ⟨some a9, 3, 3⟩, ⟨some a10, 6, 6⟩, ⟨some a11, 6, 6⟩, ⟨some a12, 10, 10⟩, ⟨some a13, 7, 7⟩, ⟨some a14, 11, 11⟩, ⟨some a15, 6, 6⟩]) (Nat.zero_le _) c16 rfl rfl (by simp [maxLen])).read rfl (fun t ht => ?_) fun b hb => ?_
  · exact (R15 t (by simpa using ht)).below b16
  · simp only [Sl.bk, Option.map_some, Option.some.injEq] at hb; omega
theorem elIns : El P0 44 85 kIns 48 := ⟨by kernel_rfl, ⟨_, _, Option.eq_some_of_isSome (by kernel_rfl), Option.eq_some_of_isSome (by kernel_rfl), by kernel_rfl, by kernel_rfl, by kernel_rfl⟩, by decide, by intro l hl; simp [kIns] at hl; simp [hl]⟩
theorem spec.l20Read.c {l : Sl} {xs : List ByteArray} {K : Sl → World → Prop} (hl : SlR kS w l xs) (hn : xs.length ≤ 100) (hy : ∀ y ∈ xs, y.size ≤ 100) (hk : ∀ r w' ys, Below w.heap.size w w' → OwnS kIns 85 w.heap.size w' r ys → ys.length = xs.length → K r w') :
    CallT (.o (.lf .sl)) P0 50 [l.v] w K := by
  have hln := hl.len
  refine spec.l20Read.ok (nw fun w0 hb0 hs0 hc0 => ?_)
  have ho0 : OwnS kIns 85 w.heap.size w0 ⟨some ⟨w.heap.size, 0, none⟩, 0, 0⟩ [] := OwnS.lit (Nat.le_refl _) hc0 rfl rfl (by simp [maxLen])
  refine ⟨fun out i w' => ∃ (k : Nat) (ys : List Ins), i = k ∧ k ≤ xs.length ∧ OwnS kIns 85 w.heap.size w' out ys ∧ ys.length = k ∧ Below w.heap.size w w', fun _ i _ => xs.length - i.toNat, ⟨0, [], rfl, by omega, ho0, rfl, hb0⟩, ?_⟩
  rintro out i w1 ⟨k, ys, rfl, hk1, ho, hyl, hb1⟩ _
  refine And.intro (fun hlt => ?_) (fun hge => ?_)
  · simp only [decide_eq_true_eq] at hlt
    obtain ⟨x, hx⟩ := get_some (l := xs) (k := k) (by omega)
    refine ixL (hl.below hb1) (i := k) (by omega) (x := x) (by simpa using hx) rfl (l := .s) (v := x) rfl ?_
    refine spec.LineGet.c (by have := hy x (List.mem_of_getElem? hx); omega) fun y b w2 hb2 => ?_
    refine nwStIns (x := y) fun w3 hb3 hs3 hc3 => ?_
    refine ldAB (x := y.t) hc3 rfl ?_
    have hg2 := hb2.size
    have bb3 : Below w1.heap.size w1 w3 := hb2.trans (hb3.mono hg2)
    have bb : Below w.heap.size w w3 := hb1.trans (bb3.mono hb1.size)
    refine ap1 elIns (ho.below bb3) y rfl (by omega) (by omega) bb.size fun o' w' ho' hg' _ => ?_
    rw [i64_of (n := (k : Int) + 1) (by omega) (by omega)]
    exact ⟨⟨k + 1, ys ++ [y], by omega, by omega, ho', by simp; omega, bb.grown hg' bb.size (fun b hb => ((ho.below bb3).blk hb).1)⟩, by simp only; omega⟩
  · simp only [decide_eq_false_iff_not] at hge
    exact hk _ _ ys hb1 ho (by omega)
end
end Go.Proofs.YtdlnoabihfnmmaaGreat.V

/- Contracts: the draws of programs, and rows whose cells stay numbers. -/
namespace Go.Proofs.YtdlnoabihfnmmaaGreat.V
open Go Go.RowKit
set_option linter.unusedVariables false
set_option linter.unusedSimpArgs false
theorem chooseL {α : Type} {p : Nat → α → Prop} : ∀ (n : Nat), (∀ i, i < n → ∃ x, p i x) → ∃ l : List α, l.length = n ∧ ∀ i x, l[i]? = some x → p i x
  | 0, _ => ⟨[], rfl, by simp⟩
  | n + 1, h => by
    obtain ⟨l, hl, hp⟩ := chooseL n fun i hi => h i (by omega)
    obtain ⟨x, hx⟩ := h n (by omega)
    refine ⟨l ++ [x], by simp [hl], fun i y hy => ?_⟩
    rcases Nat.lt_trichotomy i n with hi | hi | hi
    · rw [List.getElem?_append_left (by omega)] at hy; exact hp i y hy
    · subst hi; rw [List.getElem?_append_right (by omega)] at hy; simp [hl] at hy; subst hy; exact hx
    · rw [List.getElem?_eq_none (by simp; omega)] at hy; simp at hy
section
variable {α : Type} {k : Kd α} {t : TypeId} {B : Nat} {w w' : World} {s : Sl} {xs : List α} {i : Int} {sz : Nat}
theorem take_flat {ys : List α} {cur : List Value} (hp : 0 < k.ls.length) (h : ∀ i x, ys[i]? = some x → ∀ j v, (k.cells x)[j]? = some v → cur[i * k.ls.length + j]? = some v) : cur.take (ys.flatMap k.cells).length = ys.flatMap k.cells := by
  refine List.ext_getElem? fun p => ?_
  rw [List.getElem?_take]
  split
  · rename_i hlt
    rw [flat_length] at hlt
    have hq : p / k.ls.length < ys.length := Nat.div_lt_of_lt_mul (by rw [Nat.mul_comm]; exact hlt)
    have hr : p % k.ls.length < k.ls.length := Nat.mod_lt _ hp
    have hy : ys[p / k.ls.length]? = some ys[p / k.ls.length] := List.getElem?_eq_getElem hq
    have hv : (k.cells ys[p / k.ls.length])[p % k.ls.length]? = some ((k.cells ys[p / k.ls.length])[p % k.ls.length]'(by rw [k.cells_length]; exact hr)) := List.getElem?_eq_getElem _
    have h1 := flat_get k ys _ _ hy _ _ hv
    have h2 := h _ _ hy _ _ hv
    have hj : p / k.ls.length * k.ls.length + p % k.ls.length = p := by rw [Nat.mul_comm]; exact Nat.div_add_mod _ _
    rw [hj] at h1 h2
    rw [h1, h2]
  · rename_i hge
    rw [List.getElem?_eq_none (by omega)]
theorem take_flat' {ys : List α} {cur : List Value} {n : Nat} (hp : 0 < k.ls.length) (hn : n = ys.length) (h : ∀ i x, ys[i]? = some x → ∀ j v, (k.cells x)[j]? = some v → cur[i * k.ls.length + j]? = some v) : cur.take (n * k.ls.length) = ys.flatMap k.cells := by
  have := take_flat hp h
  rwa [flat_length, ← hn] at this
/-- Cells that are numbers stay numbers. -/
def Ip (H : Nat) (a b : World) : Prop := ∀ g, H ≤ g → ∀ cur t, a.heap[g]? = some (.cells cur t (0, 0)) → ∃ cur', b.heap[g]? = some (.cells cur' t (0, 0)) ∧ cur'.size = cur.size ∧ ∀ (i : Nat) (n : Int), cur[i]? = some (.int .i64 n) → ∃ n', cur'[i]? = some (.int .i64 n')
theorem Ip.refl (H : Nat) (a : World) : Ip H a a := fun g _ cur t h => ⟨cur, h, rfl, fun i n hi => ⟨n, hi⟩⟩
theorem Ip.trans {H : Nat} {a b c : World} (h1 : Ip H a b) (h2 : Ip H b c) : Ip H a c := fun g hg cur t h => by
  obtain ⟨c1, hc1, hs1, hi1⟩ := h1 g hg cur t h
  obtain ⟨c2, hc2, hs2, hi2⟩ := h2 g hg c1 t hc1
  exact ⟨c2, hc2, by omega, fun i n hi => by obtain ⟨n1, h1⟩ := hi1 i n hi; exact hi2 i n1 h1⟩
theorem Ip.of_same {H : Nat} {a b : World} (h : ∀ g, H ≤ g → g < a.heap.size → b.heap[g]? = a.heap[g]?) : Ip H a b := fun g hg cur t hc =>
  ⟨cur, (h g hg (Array.getElem?_eq_some_iff.1 hc).1).trans hc, rfl, fun i n hi => ⟨n, hi⟩⟩
/-- A kind of whole numbers. -/
structure KN (k : Kd α) : Prop where
  all : ∀ l ∈ k.ls, l = .i .i64
  pos : 0 < k.ls.length
  sur : ∀ t : Tup k.ls, ∃ y, k.t y = t
theorem tup_ints : ∀ (ls : List Lf), (∀ l ∈ ls, l = .i .i64) → ∀ vs : Nat → Int, ∃ t : Tup ls, ∀ j, j < ls.length → (Tup.cells ls t)[j]? = some (.int .i64 (vs j))
  | [], _, _ => ⟨(), by simp⟩
  | l :: ls, h, vs => by
    obtain rfl := h l List.mem_cons_self
    obtain ⟨t, ht⟩ := tup_ints ls (fun l' hl' => h l' (List.mem_cons_of_mem _ hl')) (fun j => vs (j + 1))
    refine ⟨(vs 0, t), fun j hj => ?_⟩
    cases j with
    | zero => rfl
    | succ j => simpa [Tup.cells] using ht j (by simpa using hj)
theorem cells_ints : ∀ (ls : List Lf), (∀ l ∈ ls, l = .i .i64) → ∀ (t : Tup ls) (j : Nat) (v : Value), (Tup.cells ls t)[j]? = some v → ∃ n, v = .int .i64 n
  | [], _, _, j, v, h => by simp [Tup.cells] at h
  | l :: ls, h, t, j, v, hv => by
    obtain rfl := h l List.mem_cons_self
    cases j with
    | zero => simp only [Tup.cells, List.getElem?_cons_zero, Option.some.injEq] at hv; exact ⟨_, hv.symm⟩
    | succ j => exact cells_ints ls (fun l' hl' => h l' (List.mem_cons_of_mem _ hl')) t.2 j v (by simpa [Tup.cells] using hv)
/-- What was owned is owned, with other numbers. -/
theorem OwnS.ip (hk : KN k) (h : OwnS k t B w s xs) (hi : Ip B w w') : ∃ ys, ys.length = xs.length ∧ OwnS k t B w' s ys := by
  rcases h.2.2 with ⟨hv, hn⟩ | ⟨g, cap, cur, hv, hB, hg, hnc, hcm, hcs, ht⟩
  · have hx : xs = [] := List.eq_nil_of_length_eq_zero (by rw [← h.1]; exact hn)
    subst hx
    exact ⟨[], rfl, h.1, by rw [hn]; simp, .inl ⟨hv, hn⟩⟩
  · obtain ⟨cur', hg', hs', hint⟩ := hi g hB cur t hg
    have hcell : ∀ (i : Nat) (x : α), xs[i]? = some x → ∀ j, j < k.ls.length → ∃ n : Int, cur[i * k.ls.length + j]? = some (.int .i64 n) := by
      intro i x hx j hj
      have hv : (k.cells x)[j]? = some ((k.cells x)[j]'(by rw [k.cells_length]; exact hj)) := List.getElem?_eq_getElem _
      obtain ⟨n, hn⟩ := cells_ints k.ls hk.all (k.t x) j _ hv
      have h1 := flat_get k xs i x hx j _ hv
      rw [← ht, List.getElem?_take] at h1
      split at h1
      · refine ⟨n, ?_⟩
        rw [← hn]; simpa using h1
      · simp at h1
    obtain ⟨ys, hyl, hy⟩ := chooseL (p := fun i y => ∀ j v, (k.cells y)[j]? = some v → cur'[i * k.ls.length + j]? = some v) xs.length (fun i hi => by
      obtain ⟨x, hx⟩ := get_some (l := xs) (k := i) hi
      have h1 : ∀ j, ∃ n : Int, j < k.ls.length → cur'[i * k.ls.length + j]? = some (.int .i64 n) := fun j => by
        by_cases hj : j < k.ls.length
        · obtain ⟨n, hn⟩ := hcell i x hx j hj
          obtain ⟨n', hn'⟩ := hint _ n hn
          exact ⟨n', fun _ => hn'⟩
        · exact ⟨0, fun h => absurd h hj⟩
      obtain ⟨t, ht⟩ := tup_ints k.ls hk.all (fun j => (h1 j).choose)
      obtain ⟨y, rfl⟩ := hk.sur t
      refine ⟨y, fun j v hv => ?_⟩
      have hj : j < k.ls.length := by have := lt_of_get hv; rw [k.cells_length] at this; exact this
      have h2 : (k.cells y)[j]? = _ := ht j hj
      rw [h2] at hv
      simp only [Option.some.injEq] at hv
      rw [← hv]
      exact (h1 j).choose_spec hj)
    refine ⟨ys, hyl, by rw [hyl]; exact h.1, by rw [flat_length, hyl, h.1], .inr ⟨g, cap, cur', hv, hB, hg', hnc, hcm, by omega, take_flat' hk.pos (by rw [hyl]; exact h.1) fun i x hx j v hv => by simpa using hy i x hx j v hv⟩⟩
theorem heap_setRow {w : World} {g : Nat} {cur vs : Array Value} {t : TypeId} (h : w.heap[g]? = some (.cells cur t (0, 0))) : (w.setRow g vs).heap[g]? = some (.cells vs t (0, 0)) := by
  simp [World.setRow, Array.getElem?_modify, h]
theorem heap_setRow_ne {w : World} {g j : Nat} {vs : Array Value} (h : j ≠ g) : (w.setRow g vs).heap[j]? = w.heap[j]? := by
  simp [World.setRow, Array.getElem?_modify, Ne.symm h]
theorem RunT.and {r : Rs} {P : Program} {sm : Sem Value} {K : r.T → World → Prop} {I : World → Prop} (h : RunT r P sm w K) (hI : ∀ v w', sm.run P w = .ok v w' → I w') : RunT r P sm w (fun x w' => K x w' ∧ I w') := by
  obtain ⟨x, w', hr, hk⟩ := h
  exact ⟨x, w', hr, hk, hI _ _ hr⟩
/-- What an append leaves of numbers. -/
theorem ap_ip {P : Program} {tS tR : TypeId} {bytes : Nat} (hE : El P tS t k bytes) (hk : KN k) {H : Nat} (h : OwnS k t B w s xs) {x : Sl} {ys : List α} (hx : SlR k w x ys) (hb : (xs.length + ys.length) * bytes ≤ 140737488355328) (hm : xs.length + ys.length ≤ 140737488355328) :
    ∀ v w', (Builtin.append_ #[tS, tS] tR #[.slice s.a s.n s.c, .slice x.a x.n x.c]).run P w = .ok v w' → Ip H w w' := by
  intro v w' hr
  obtain ⟨i, z, hi, hz, hsz, hby, hzs⟩ := hE.info
  by_cases hne : ys = []
  · subst hne
    have hxn : x.n = 0 := by rw [hx.1]; rfl
    have hr' : (Builtin.append_ #[tS, tS] tR #[.slice s.a s.n s.c, .slice x.a x.n x.c]).run P w = .ok (.slice s.a s.n s.c) w := by
      rw [hxn]
      have hc := h.cap
      cases hxa : x.a <;> cases hsa : s.a <;> simp [Builtin.append_, run_underlying hE.elem, sizeOf, typeInfo, hi, Builtin.lenOf, Builtin.firstCells, hc.1, storeCells, loadCells, loadCellsFrom]
    rw [hr'] at hr
    simp only [Result.ok.injEq] at hr
    rw [← hr.2]; exact Ip.refl _ _
  · rcases hx.2.2.2 with h0 | ⟨b, o, ha, hat⟩
    · exact absurd h0 hne
    · have hnews : ∀ j u, (ys.flatMap k.cells)[j]? = some u → w.cell? ((⟨b, o, none⟩ : Addr).add j) = some u := by
        intro j u hu
        have hjl : j < ys.length * k.ls.length := by
          rcases Nat.lt_or_ge j (ys.length * k.ls.length) with h | h
          · exact h
          · rw [List.getElem?_eq_none (by rw [flat_length]; exact h)] at hu; simp at hu
        have hq : j / k.ls.length < ys.length := Nat.div_lt_of_lt_mul (by rw [Nat.mul_comm]; exact hjl)
        have hr : j % k.ls.length < k.ls.length := Nat.mod_lt _ hE.pos
        have hy : ys[j / k.ls.length]? = some ys[j / k.ls.length] := List.getElem?_eq_getElem hq
        have hv : (k.cells ys[j / k.ls.length])[j % k.ls.length]? = some ((k.cells ys[j / k.ls.length])[j % k.ls.length]'(by rw [k.cells_length]; exact hr)) := List.getElem?_eq_getElem _
        have h1 := flat_get k ys _ _ hy _ _ hv
        have hj : j / k.ls.length * k.ls.length + j % k.ls.length = j := by rw [Nat.mul_comm]; exact Nat.div_add_mod _ _
        rw [hj, hu] at h1
        simp only [Option.some.injEq] at h1
        have h2 := hat _ _ hy _ _ hv
        rw [← h1, Nat.add_assoc, hj] at h2
        rw [add_mk]
        exact h2
      have h1 : ∀ u ∈ ys.flatMap k.cells, u.oneCell' = true := by
        intro u hu
        obtain ⟨y, _, hy⟩ := List.mem_flatMap.1 hu
        exact oneCell_cells k hE.one y u hy
      have hint : ∀ (j : Nat) u, (ys.flatMap k.cells)[j]? = some u → ∃ n : Int, u = .int .i64 n := by
        intro j u hu
        obtain ⟨y, _, hy⟩ := List.mem_flatMap.1 (List.mem_of_getElem? hu)
        obtain ⟨q, hq⟩ := List.getElem?_of_mem hy
        exact cells_ints k.ls hk.all (k.t y) q u hq
      have hxn : 0 < x.n := by rw [hx.1]; exact List.length_pos_iff.2 hne
      have hlen : (ys.flatMap k.cells).length = x.n * i.size := by rw [flat_length, hx.1, hsz]
      rw [ha] at hr
      rcases h.2.2 with ⟨hv, hn⟩ | ⟨g, cap, cur, hv, hBg, hg, hnc, hcm, hcs, htake⟩
      · rw [hv, run_append_nil (P := P) w tS tR t i z hE.elem hi hz ⟨b, o, none⟩ x.n x.c _ hlen hnews hxn (by rw [hx.1]; omega) (by
          rw [hx.1, hby]
          have : ys.length * bytes ≤ (xs.length + ys.length) * bytes := Nat.mul_le_mul_right _ (by omega)
          omega)] at hr
        simp only [Result.ok.injEq] at hr
        rw [← hr.2]
        exact Ip.of_same fun j _ hj => (((Below.refl w.heap.size w).drew).alloc (Nat.le_refl _) _).block j hj
      · rw [hv] at hr
        by_cases hroom : s.n + x.n ≤ cap
        · have hfit : s.n * i.size + (ys.flatMap k.cells).length ≤ cur.size := by rw [hlen, hcs, ← Nat.add_mul, hsz]; exact Nat.mul_le_mul_right _ hroom
          rw [run_append_room (P := P) w tS tR t i hE.elem hi g s.n cap cur hg ⟨b, o, none⟩ x.n x.c _ hlen hnews h1 hroom hfit] at hr
          simp only [Result.ok.injEq] at hr
          rw [← hr.2]
          intro q _ cq tq hq
          by_cases hqg : q = g
          · subst hqg
            rw [hg] at hq
            simp only [Option.some.injEq, Obj.cells.injEq] at hq
            obtain ⟨rfl, rfl, _⟩ := hq
            have e0 : (cur.toList.take (s.n * i.size)).length = s.n * i.size := by rw [List.length_take, Array.length_toList]; omega
            refine ⟨_, heap_setRow hg, ?_, fun p n hp => ?_⟩
            · simp only [List.size_toArray, List.length_append, List.length_drop, e0, Array.length_toList]; omega
            rw [List.getElem?_toArray]
            rcases Nat.lt_or_ge p (s.n * i.size) with h2 | h2
            · refine ⟨n, ?_⟩
              rw [List.append_assoc, List.getElem?_append_left (by omega), List.getElem?_take, if_pos h2]
              simpa using hp
            · rw [List.append_assoc, List.getElem?_append_right (by omega), e0]
              rcases Nat.lt_or_ge (p - s.n * i.size) (ys.flatMap k.cells).length with h3 | h3
              · rw [List.getElem?_append_left h3]
                obtain ⟨n', hn'⟩ := hint _ _ (List.getElem?_eq_getElem h3)
                exact ⟨n', by rw [List.getElem?_eq_getElem h3, hn']⟩
              · refine ⟨n, ?_⟩
                rw [List.getElem?_append_right h3, List.getElem?_drop, show s.n * i.size + (ys.flatMap k.cells).length + (p - s.n * i.size - (ys.flatMap k.cells).length) = p by omega]
                simpa using hp
          · exact ⟨cq, by rw [heap_setRow_ne hqg]; exact hq, rfl, fun i n hi => ⟨n, hi⟩⟩
        · have holds : ∀ j u, (xs.flatMap k.cells)[j]? = some u → w.cell? ((⟨g, 0, none⟩ : Addr).add j) = some u := h.2.cells (g := g) (by rw [hv]; rfl)
          rw [run_append_grow (P := P) w tS tR t i z hE.elem hi hz ⟨g, 0, none⟩ s.n cap (xs.flatMap k.cells) (by rw [flat_length, h.1, hsz]) holds ⟨b, o, none⟩ x.n x.c _ hlen hnews (by omega) (by rw [h.1, hx.1]; omega) (growslice_fits (by omega) (by rw [h.1, hx.1, hby]; exact hb))] at hr
          simp only [Result.ok.injEq] at hr
          rw [← hr.2]
          exact Ip.of_same fun j _ hj => (((Below.refl w.heap.size w).drew).alloc (Nat.le_refl _) _).block j hj
/-- Write a field of an element of what is owned. -/
theorem ixOwF (h : OwnS k t B w s xs) (hi : 0 ≤ i) {x : α} (hx : xs[i.toNat]? = some x) (hsz : sz = k.ls.length) {j : Nat} (hj : j < k.ls.length) {v : Value} (hv : v.oneCell' = true) (y : α) (hy : k.cells y = (k.cells x).set j v) {K : World → Prop}
    (hK : ∀ w', OwnS k t B w' s (xs.set i.toNat y) → w.grownBy w' s.bk → w'.heap.size = w.heap.size → K w') : Ix s.a s.n i sz w (fun a w1 => St (Addr.add a j) v w1 K) := by
  have hl := lt_of_get hx
  rcases h.2.2 with ⟨_, hn⟩ | ⟨g, cap, cur, hvv, hB, hg, hnc, hcm, hcs, ht⟩
  · rw [h.1] at hn; omega
  simp only [Value.slice.injEq] at hvv
  have hc : ∀ i x, xs[i]? = some x → ∀ j v, (k.cells x)[j]? = some v → cur[0 + i * k.ls.length + j]? = some v := fun i x hi j v hm => by
    have hm := flat_get k xs i x hi j v hm
    rw [← ht, List.getElem?_take] at hm
    split at hm
    · simpa using hm
    · simp at hm
  have hcap : (i.toNat + 1) * k.ls.length ≤ cap * k.ls.length := Nat.mul_le_mul_right _ (by rw [h.1] at hnc; omega)
  rw [Nat.succ_mul] at hcap
  subst hsz
  refine ⟨_, hvv.1, hi, by rw [h.1]; omega, hv, ⟨cur[i.toNat * k.ls.length + j]'(by omega), ?_⟩, ?_, ?_⟩
  · rw [add_mk, add_mk, cell_of hg, Nat.zero_add]; exact Array.getElem?_eq_getElem _
  · simp [add_mk, World.frozen?, hg]
  · rw [add_mk, add_mk]
    have hu := upd (cur' := cur.setIfInBounds (0 + i.toNat * k.ls.length + j) v) (y := y) hc (i := i.toNat) ?_ ?_
    · refine hK _ ⟨by simpa using h.1, by rw [flat_length]; simp [h.1], .inr ⟨g, cap, _, by simp [hvv], hB, setCell_heap hg v, hnc, hcm, by simpa using hcs, take_flat' (by omega) (by simpa using h.1) fun i x hx j v hv => by have h2 := hu i x hx j v hv; rw [Nat.zero_add (i * _)] at h2; rw [Array.getElem?_toList]; exact h2⟩⟩ (by simpa [Sl.bk, hvv.1] using grown_setCell w g _ v) (by simp)
    · intro j' u hu
      rw [hy] at hu
      by_cases he : j' = j
      · subst he
        rw [List.getElem?_set_self (by rw [k.cells_length]; exact hj)] at hu
        rw [Array.getElem?_setIfInBounds_self_of_lt (by omega)]; exact hu
      · rw [List.getElem?_set_ne (by omega)] at hu
        rw [Array.getElem?_setIfInBounds_ne (by omega)]
        exact hc _ _ hx _ _ hu
    · intro p hp
      exact Array.getElem?_setIfInBounds_ne (by omega)
end
theorem knIns : KN kIns := ⟨by intro l hl; simp [kIns] at hl; exact hl, by decide, fun t => ⟨insOf t, rfl⟩⟩
end Go.Proofs.YtdlnoabihfnmmaaGreat.V

/- Contracts: the draws of programs. -/
namespace Go.Proofs.YtdlnoabihfnmmaaGreat.V
open Go Go.RowKit
set_option linter.unusedVariables false
set_option linter.unusedSimpArgs false
theorem grown_newO {w w1 w2 : World} {row row2 : Option Nat} (h : w.grownBy w1 row) (h2 : w1.grownBy w2 row2) (hb : ∀ b, row2 = some b → w.heap.size ≤ b) : w.grownBy w2 row :=
  ⟨h2.os.trans h.os, h2.tape.trans h.tape, h2.output.trans h.output, Nat.le_trans h.size h2.size, fun k hk hne => (h2.block k (Nat.lt_of_lt_of_le hk h.size) (fun e => by have := hb k e.symm; omega)).trans (h.block k hk hne)⟩
section
variable {B br m : Nat} {w : World}
theorem OwnS.keptBr {α : Type} {k : Kd α} {t : TypeId} {B' : Nat} {w1 w2 : World} {s : Sl} {xs : List α} (ho : OwnS k t B' w1 s xs) (hg : w1.grownBy w2 (some br)) (h : br < B') : OwnS k t B' w2 s xs :=
  ho.kept hg (fun b hb e => by simp only [Option.some.injEq] at hb; have := (ho.blk e).1; omega)
theorem RdS.keptO {α : Type} {k : Kd α} {t : TypeId} {B' : Nat} {w1 w2 : World} {s : Sl} {xs : List α} (h : RdS B br m w1) (ho : OwnS k t B' w1 s xs) (hg : w1.grownBy w2 (Value.slice s.a s.n s.c).ownBlock) (hb : br < B') : RdS B br m w2 :=
  h.kept hg (fun b e => by have := (ho.blk e).1; omega)
def MkI (B br m : Nat) (w : World) (t : Int) (out : Sl) (w' : World) : Prop :=
  ∃ ys, OwnS kIns 85 w.heap.size w' out ys ∧ 4 ≤ ys.length ∧ (ys.length : Int) ≤ t + 8 ∧ RdS B br (m + 1 + 8 * (ys.length - 4)) w' ∧ w.grownBy w' (some br)
set_option maxHeartbeats 1000000 in
theorem spec.l20Make.c {K : Sl → World → Prop} (h : RdS B br m w) (hm : m ≤ 800000000) (hk : ∀ r w' ys, w.grownBy w' (some br) → RdS B br (m + 200) w' → OwnS kIns 85 w.heap.size w' r ys → 1 ≤ ys.length → ys.length ≤ 40 → K r w') :
    CallT (.o (.lf .sl)) P0 48 [.pointer (some ⟨br, 0, none⟩)] w K := by
  have hlt := h.lt
  refine spec.l20Make.ok (nw fun w1 b1 s1 c1 => ?_)
  have hl : OwnS kS 9 w.heap.size w1 ⟨some ⟨w.heap.size, 0, none⟩, 4, 4⟩ [_, _, _, _] := OwnS.lit (Nat.le_refl _) c1 rfl rfl (by simp [maxLen])
  refine spec.l20Read.c (l := ⟨some ⟨w.heap.size, 0, none⟩, 4, 4⟩) hl.read (by simp) (by decide) fun r0 w2 ys0 b2 ho2 hl2 => ?_
  have g2 : w.grownBy w2 (some br) := grown_trans (grown_any b1) (grown_any b2)
  refine spec.l20Rd.pick.c ((h.below b1).below b2) (by omega) (by omega) fun t10 w3 p0 p1 g3 r3 => ?_
  have hN : IntKind.wrap .i64 (IntKind.wrap .i64 (4 + t10) + 4) = t10 + 8 := by rw [i64_of (n := 4 + t10) (by omega) (by omega), i64_of (by omega) (by omega)]; omega
  simp only [List.length_cons, List.length_nil] at hl2
  refine ⟨MkI B br m w t10, fun out _ => 40 - out.n, ⟨ys0, (ho2.low b1.size).keptBr g3 hlt, by omega, by omega, r3.more (by omega), grown_trans g2 g3⟩, ?_⟩
  rintro out w4 ⟨ys, ho, hl4, hln, hr, hg⟩ _
  have hn := ho.len
  rw [hN]
  have app : ∀ {w5 : World} {K' : Sl → World → Prop} (y : Ins) (p : Nat), w4.grownBy w5 (some br) → RdS B br p w5 →
      (∀ o' w7, OwnS kIns 85 w.heap.size w7 o' (ys ++ [y]) → RdS B br p w7 → w.grownBy w7 (some br) → K' o' w7) →
      Nw y.cs 85 w5 fun a w6 => RunT (.o (.lf .sl)) P0 (Builtin.append_ #[44, 44] 44 #[.slice out.a out.n out.c, .slice (some a) 1 1]) w6 K' := by
    intro w5 K' y p g5 r5 hk'
    have o5 := ho.keptBr g5 hlt
    have G5 := grown_trans hg g5
    refine ap1 elIns o5 y rfl (by omega) (by omega) G5.size fun o' w6 o6 g6 _ => ?_
    exact hk' o' w6 o6 (r5.keptO o5 g6 hlt) (grown_newO G5 g6 (fun b hb => (o5.blk hb).1))
  refine And.intro (fun hlt' => ?_) (fun hge => ?_)
  · simp only [decide_eq_true_eq] at hlt'
    have fin : ∀ {w5 : World} (y : Ins), w4.grownBy w5 (some br) → RdS B br (m + 1 + 8 * (ys.length - 4) + 8) w5 →
        Nw y.cs 85 w5 fun a w6 => RunT (.o (.lf .sl)) P0 (Builtin.append_ #[44, 44] 44 #[.slice out.a out.n out.c, .slice (some a) 1 1]) w6 fun o' w7 => MkI B br m w t10 o' w7 ∧ 40 - o'.n < 40 - out.n := by
      intro w5 y g5 r5
      refine app y _ g5 r5 fun o' w7 o7 r7 g7 => ?_
      have hl7 := o7.len
      simp only [List.length_append, List.length_cons, List.length_nil] at hl7
      exact ⟨⟨ys ++ [y], o7, by simp; omega, by simp; omega, r7.more (by simp; omega), g7⟩, by omega⟩
    refine spec.l20Rd.pick.c hr (by omega) (by omega) fun t23 w5 q0 q1 g5 r5 => ?_
    refine ⟨fun _ w' => w' = w5, And.intro (fun _ => rfl) (fun _ => rfl), ?_⟩
    rintro t29 w6 rfl _
    refine And.intro (fun _ => ?_) (fun _ => ?_)
    · refine spec.l20Rd.pick.c r5 (by omega) (by omega) fun t33 w7 _ _ g7 r7 => ?_
      refine oneLit (xs := [0, 6, 7, 8]) r7 (by omega) rfl rfl (by decide) fun t37 w8 _ g8 r8 => ?_
      refine spec.l20Imm.c r8 (by omega) fun t39 w9 g9 r9 => ?_
      rw [i64_of (n := t10 + 8 - ((out.n : Nat) : Int)) (by omega) (by omega)]
      refine spec.l20Rd.pick.c r9 (by omega) (by omega) fun t42 w10 _ _ g10 r10 => ?_
      have g410 : w4.grownBy w10 (some br) := grown_trans (grown_trans (grown_trans (grown_trans g5 g7) g8) g9) g10
      refine nwStIns (x := ⟨IntKind.wrap .i64 (12 + t33), t37, -1, t42, t39, 0⟩) fun w11 b11 s11 c11 => ?_
      refine spec.l20Rd.pick.c (r10.below b11) (by omega) (by omega) fun t45 w12 _ _ g12 r12 => ?_
      have c12 := keepB c11 g12 (by have := g410.size; have := hr.lt; omega)
      have g412 : w4.grownBy w12 (some br) := grown_trans (grown_trans g410 (grown_any b11)) g12
      have hs10 := g410.size
      have hbr4 := hr.lt
      refine And.intro (fun _ => ?_) (fun _ => ?_)
      · refine oneLit (xs := [0, 6, 7, 8]) r12 (by omega) rfl rfl (by decide) fun t49 w13 _ g13 r13 => ?_
        have c13 := keepB c12 g13 (by omega)
        refine stB c13 rfl (by simp [Ins.cs]) fun w14 g14 s14 c14 => ?_
        refine stB c14 rfl (by simp [Ins.cs]) fun w15 g15 s15 c15 => ?_
        have G15 : w4.grownBy w15 (some br) := grown_new (grown_new (grown_trans g412 g13) g14 (by omega)) g15 (by omega)
        have r15 := (r13.kept g14 (fun b hb => by simp only [Option.some.injEq] at hb; omega)).kept g15 (fun b hb => by simp only [Option.some.injEq] at hb; omega)
        have c15' : w15.heap[w10.heap.size]? = some (.cells (Ins.cs ⟨IntKind.wrap .i64 (12 + t33), t37, t49, t42, 0, 0⟩) 85 (0, 0)) := c15
        refine ldAB (x := Ins.t ⟨IntKind.wrap .i64 (12 + t33), t37, t49, t42, 0, 0⟩) c15' rfl ?_
        exact fin ⟨IntKind.wrap .i64 (12 + t33), t37, t49, t42, 0, 0⟩ G15 (r15.more (by omega))
      · refine ldAB (x := Ins.t ⟨IntKind.wrap .i64 (12 + t33), t37, -1, t42, t39, 0⟩) c12 rfl ?_
        exact fin ⟨IntKind.wrap .i64 (12 + t33), t37, -1, t42, t39, 0⟩ g412 (r12.more (by omega))
    · refine And.intro (fun _ => ?_) (fun _ => And.intro (fun _ => ?_) (fun _ => ?_))
      · refine oneLit (xs := [0, 6, 7, 8]) r5 (by omega) rfl rfl (by decide) fun t61 w7 _ g7 r7 => ?_
        refine oneLit (xs := [-4, -8, -2]) r7 (by omega) rfl rfl (by decide) fun t64 w8 _ g8 r8 => ?_
        refine oneLit (xs := [1, 2]) r8 (by omega) rfl rfl (by decide) fun t67 w9 _ g9 r9 => ?_
        exact fin ⟨18, 10, t61, t64, 0, t67⟩ (grown_trans (grown_trans (grown_trans g5 g7) g8) g9) (r9.more (by omega))
      · refine oneLit (xs := [0, 6, 8]) r5 (by omega) rfl rfl (by decide) fun t76 w7 _ g7 r7 => ?_
        refine oneLit (xs := [1, 10, 1]) r7 (by omega) rfl rfl (by decide) fun t79 w8 _ g8 r8 => ?_
        refine oneLit (xs := [0, 3, 8]) r8 (by omega) rfl rfl (by decide) fun t82 w9 _ g9 r9 => ?_
        refine oneLit (xs := [1, 2, 4]) r9 (by omega) rfl rfl (by decide) fun t85 w10 _ g10 r10 => ?_
        exact fin ⟨17, t76, t79, t82, 0, t85⟩ (grown_trans (grown_trans (grown_trans (grown_trans g5 g7) g8) g9) g10) (r10.more (by omega))
      · refine spec.l20Alu.c r5 (by omega) fun x w7 g7 r7 => ?_
        exact fin x (grown_trans g5 g7) (r7.more (by omega))
  · refine app ⟨20, 0, -1, 0, 0, 0⟩ _ (grown_refl _ _) hr fun o' w7 o7 r7 g7 => ?_
    exact hk o' w7 _ g7 (r7.more (by omega)) o7 (by simp) (by simp; omega)
/-- A part of a row. -/
theorem slcR {α : Type} {k : Kd α} {P : Program} {tS e : TypeId} (hu : P.underlying tS = some (.slice e)) (hs : szOf P e = some k.ls.length) {w : World} {s : Sl} {xs : List α} (h : SlR k w s xs) {lo hi mx : Option Int} {l h' m : Nat}
    (hlo : lo.getD 0 = l) (hhi : hi.getD s.n = h') (hmx : mx.getD s.c = m) (hm2 : mx.isSome = true → hi.isSome = true) (h1 : l ≤ h') (h2 : h' ≤ m) (h3 : m ≤ s.c) (h4 : h' ≤ s.n) {K : Sl → World → Prop}
    (hk : ∀ r : Sl, r.n = h' - l → r.c = m - l → SlR k w r ((xs.take h').drop l) → (∀ b, r.bk = some b → s.bk = some b) → K r w) :
    RunT (.o (.lf .sl)) P (Instr.sliceAt tS s.v (lo.map (.int .i64)) (hi.map (.int .i64)) (mx.map (.int .i64))) w K := by
  have hrun : (Instr.sliceAt tS s.v (lo.map (.int .i64)) (hi.map (.int .i64)) (mx.map (.int .i64))).run P w = .ok (.slice (if m = l then s.a else s.a.map (·.add (l * k.ls.length))) (h' - l) (m - l)) w := by
    have ho : ∀ (x : Option Int) (d a : Nat), x.getD (d : Int) = (a : Int) → (x = none ∧ a = d) ∨ x = some (a : Int) := by
      intro x d a hx
      cases x with
      | none => left; simp only [Option.getD_none] at hx; exact ⟨rfl, by omega⟩
      | some y => right; simp only [Option.getD_some] at hx; rw [hx]
    rcases ho lo 0 l hlo with ⟨rfl, rfl⟩ | rfl <;> rcases ho hi s.n h' hhi with ⟨rfl, rfl⟩ | rfl <;> rcases ho mx s.c m hmx with ⟨rfl, rfl⟩ | rfl <;>
      first
      | (have hx := hm2 rfl; simp at hx; done)
      | simp [Instr.sliceAt, Instr.slice, Sl.v, underlying, hu, Instr.sliceBounds, Instr.sliceBound, asIntOf, run_sizeOf hs, h1, h2, h3, h4]
  refine ⟨⟨if m = l then s.a else s.a.map (·.add (l * k.ls.length)), h' - l, m - l⟩, w, hrun, hk _ rfl rfl ?_ ?_⟩
  · have hn := h.1
    refine ⟨by rw [List.length_drop, List.length_take]; simp only; omega, by simp only; omega, by have := h.2.2.1; simp only; omega, ?_⟩
    rcases h.2.2.2 with h0 | ⟨b, o, ha, hat⟩
    · left; rw [h0]; simp
    · by_cases hml : m = l
      · left
        apply List.eq_nil_of_length_eq_zero
        rw [List.length_drop, List.length_take]; omega
      · refine .inr ⟨b, o + l * k.ls.length, ?_, fun i x hx => ?_⟩
        · simp only
          rw [if_neg hml, ha, Option.map_some, add_mk]
        · rw [List.getElem?_drop, List.getElem?_take] at hx
          split at hx
          · have := hat _ _ hx
            rw [Nat.add_mul, ← Nat.add_assoc] at this
            exact this
          · simp at hx
  · intro b hb
    simp only [Sl.bk] at hb ⊢
    split at hb
    · exact hb
    · cases hsa : s.a with
      | none => rw [hsa] at hb; simp at hb
      | some a =>
        rw [hsa] at hb
        simp only [Option.map_some, Option.some.injEq] at hb ⊢
        rw [← hb]
        unfold Addr.add
        split <;> rfl
theorem spec.l20Open.c {code : Sl} {bs : List Int} {K : Option Addr → World → Prop} (h : SlR kU8 w code bs) (hb : ∀ x ∈ bs, 0 ≤ x ∧ x ≤ 255) (hk : ∀ w', Below w.heap.size w w' → RdS w.heap.size w.heap.size 0 w' → K (some ⟨w.heap.size, 0, none⟩) w') :
    CallT (.o (.lf .p)) P0 11 [code.v] w K := by
  have hn := h.len
  have blk : ∀ {s : Sl} {xs : List Int}, SlR kU8 w s xs → xs ≠ [] → ∀ b o, s.a = some ⟨b, o, none⟩ → b < w.heap.size := by
    intro s xs hs hne b o ha
    rcases hs.2.2.2 with h0 | ⟨b', o', ha', hat⟩
    · exact absurd h0 hne
    · rw [ha] at ha'
      simp only [Option.some.injEq, Addr.mk.injEq] at ha'
      obtain ⟨x, hx⟩ := get_some (l := xs) (k := 0) (List.length_pos_iff.2 hne)
      have := hat 0 x hx 0 (.int .u8 x) rfl
      have := World.block_lt_of_cell? w _ this
      simp only at this; omega
  have fin : ∀ {s : Sl} {xs : List Int}, SlR kU8 w s xs → (∀ x ∈ xs, 0 ≤ x ∧ x ≤ 255) → Nw #[s.v, .int .i64 0] 51 w fun a w1 => K (some a) w1 := by
    intro s xs hs hx
    exact nw fun w1 b1 s1 c1 => hk w1 b1 ⟨s, xs, 0, c1, hs.below b1, blk hs, Nat.le_refl _, hx, by omega⟩
  refine spec.l20Open.ok (And.intro (fun hgt => ?_) (fun _ => fin h hb))
  simp only [decide_eq_true_eq] at hgt
  refine slcR (k := kU8) (e := 5) (by kernel_rfl) (by kernel_rfl) h (lo := none) (hi := some 2000) (mx := none) (l := 0) (h' := 2000) (m := code.c) rfl rfl rfl (by simp) (by omega) (by have := h.2.1; omega) (by omega) (by omega) fun r _ _ hr _ => ?_
  refine fin hr fun x hx => hb x (List.mem_of_mem_take (by simpa using hx))
end
end Go.Proofs.YtdlnoabihfnmmaaGreat.V

/- Contracts: a drawn program, and the draws of the flow's laws. -/
namespace Go.Proofs.YtdlnoabihfnmmaaGreat.V
open Go Go.RowKit
set_option linter.unusedVariables false
set_option linter.unusedSimpArgs false
/-- What may become of the world in a region that appends to rows of its own beside a draw. -/
structure SpD (H br : Nat) (R : World → Prop) (a b : World) : Prop where
  os : b.os = a.os
  tape : b.tape = a.tape
  output : b.output = a.output
  size : a.heap.size ≤ b.heap.size
  low : ∀ k, k < H → k ≠ br → b.heap[k]? = a.heap[k]?
  ip : Ip H a b
  rd : R a → R b
theorem SpD.refl (H br : Nat) (R : World → Prop) (a : World) : SpD H br R a a := ⟨rfl, rfl, rfl, Nat.le_refl _, fun _ _ _ => rfl, Ip.refl _ _, id⟩
theorem SpD.trans {H br : Nat} {R : World → Prop} {a b c : World} (h1 : SpD H br R a b) (h2 : SpD H br R b c) : SpD H br R a c :=
  ⟨h2.os.trans h1.os, h2.tape.trans h1.tape, h2.output.trans h1.output, Nat.le_trans h1.size h2.size, fun k hk hne => (h2.low k hk hne).trans (h1.low k hk hne), h1.ip.trans h2.ip, fun h => h2.rd (h1.rd h)⟩
theorem SpD.grown {H br : Nat} {R : World → Prop} {a b : World} (h : SpD H br R a b) (hH : H = a.heap.size) : a.grownBy b (some br) :=
  ⟨h.os, h.tape, h.output, h.size, fun k hk hne => h.low k (by omega) (fun e => hne (by rw [e]))⟩
section
variable {B br m : Nat} {w : World}
theorem spD_ok (w : World) : SpOk (SpD w.heap.size br (RdS B br m)) w := by
  refine ⟨fun a => SpD.refl _ _ _ a, fun a b c h1 h2 => h1.trans h2, ?_⟩
  have hb : Below w.heap.size w w.drew := (Below.refl _ _).drew
  exact ⟨rfl, rfl, rfl, Nat.le_refl _, fun k _ _ => rfl, Ip.of_same fun g _ _ => rfl, fun h => h.below hb⟩
/-- A step beside the draw. -/
theorem sk_step {H : Nat} {a b : World} {row : Option Nat} {m1 m2 : Nat} (hg : a.grownBy b row) (hH : H ≤ a.heap.size) (hr : ∀ g, row = some g → H ≤ g) (hi : Ip H a b) (hbr : br < H) : Sk (SpD H br (RdS B br m1)) (RdS B br m2) a b := by
  refine ⟨⟨hg.os, hg.tape, hg.output, hg.size, fun k hk hne => hg.block k (by omega) (fun e => by have := hr k e.symm; omega), hi, fun h => h.kept hg (fun b hb => by have := hr b hb; omega)⟩, fun h => h.kept hg (fun b hb => by have := hr b hb; omega)⟩
theorem sk_below {H : Nat} {a b : World} {m1 m2 : Nat} (hb : Below a.heap.size a b) (hH : H ≤ a.heap.size) (hbr : br < H) : Sk (SpD H br (RdS B br m1)) (RdS B br m2) a b :=
  sk_step (row := none) (grown_of_below hb) hH (by simp) (Ip.of_same fun g _ hg => hb.block g hg) hbr
end
section
variable {α : Type} {k : Kd α} {t : TypeId} {H br n : Nat} {R : World → Prop} {w : World}
/-- Some row of so many elements, owned. -/
def IO (k : Kd α) (t : TypeId) (H n : Nat) (x : Sl) (w : World) : Prop := ∃ zs, zs.length = n ∧ OwnS k t H w x zs
/-- Some row of so many elements, of old memory. -/
def RO (k : Kd α) (H br n : Nat) (x : Sl) (w : World) : Prop := ∃ zs, zs.length = n ∧ SlR k w x zs ∧ ∀ b, x.bk = some b → b < H ∧ b ≠ br
theorem kept_IO (hk : KN k) : Kept (SpD H br R) (IO k t H n) := by
  rintro x a b ⟨zs, hl, ho⟩ hab
  obtain ⟨ys, hyl, hy⟩ := ho.ip hk hab.ip
  exact ⟨ys, by omega, hy⟩
theorem kept_RO : Kept (SpD H br R) (RO k H br n) := by
  rintro x a b ⟨zs, hl, ho, hx⟩ hab
  refine ⟨zs, hl, ⟨ho.1, ho.2.1, ho.2.2.1, ?_⟩, hx⟩
  rcases ho.2.2.2 with h0 | ⟨g, o, ha, hat⟩
  · exact .inl h0
  · refine .inr ⟨g, o, ha, fun i x hi j v hj => ?_⟩
    have h1 := hat i x hi j v hj
    have h2 := hx g (by simp [Sl.bk, ha])
    unfold World.cell? at h1 ⊢
    simp only at h1 ⊢
    rw [hab.low g h2.1 h2.2]; exact h1
end
section
variable {B br m : Nat} {w : World}
def PgJ (B br m : Nat) (w : World) (out : Sl) (w' : World) : Prop := ∃ ys, w.grownBy w' (some br) ∧ RdS B br (m + 210) w' ∧ OwnS kIns 85 w.heap.size w' out ys ∧ 1 ≤ ys.length ∧ ys.length ≤ 40
set_option maxHeartbeats 2000000 in
theorem spec.l20Prog.c {K : Sl → World → Prop} (h : RdS B br m w) (hm : m ≤ 700000000) (hk : ∀ r w' ys, w.grownBy w' (some br) → RdS B br (m + 300) w' → OwnS kIns 85 w.heap.size w' r ys → 1 ≤ ys.length → ys.length ≤ 41 → K r w') :
    CallT (.o (.lf .sl)) P0 32 [.pointer (some ⟨br, 0, none⟩)] w K := by
  have hlt := h.lt
  refine spec.l20Prog.ok (spec.l20Make.c h (by omega) fun r0 w1 ys0 g1 r1 o1 n1 n1' => ?_)
  refine ⟨PgJ B br m w, ?_, ?_⟩
  · refine spec.l20Rd.pick.c r1 (by omega) (by omega) fun t9 w2 _ _ g2 r2 => ?_
    have G2 := grown_trans g1 g2
    refine And.intro (fun _ => ?_) (fun _ => ⟨ys0, G2, r2.more (by omega), o1.keptBr g2 hlt, n1, n1'⟩)
    refine spec.l20Lines.c fun r w3 rows b3 hrows hlen hgood hbk => ?_
    have hrn := hrows.len
    have hH2 := r2.lt
    refine spec.l20Rd.pick.c (r2.below b3) (by omega) (by omega) fun t16 w4 k0 k1 g4 r4 => ?_
    have hsz3 := b3.size
    have hsz2 := G2.size
    obtain ⟨row, hrow⟩ := get_some (l := rows) (k := t16.toNat) (by omega)
    obtain ⟨⟨txt, ht1, ht2, ht3, ht4⟩, hbt⟩ := hgood row (List.mem_of_getElem? hrow)
    have G4 : w.grownBy w4 (some br) := grown_trans (grown_trans G2 (grown_any b3)) g4
    refine ixL (hrows.kept2 g4 (fun b o ha e => by have := hbk b (by simp [Sl.bk, ha]); simp only [Option.some.injEq] at e; omega)) k0 hrow rfl (l := .sl) (v := row) rfl ?_
    refine spec.l20Read.c (ht1.kept2 g4 (fun b o ha e => by have := hbt b (by simp [Sl.bk, ha]); simp only [Option.some.injEq] at e; omega)) (by omega) ht4 fun o' w5 zs b5 o5 hl5 => ?_
    have hsz4 := G4.size
    exact ⟨zs, grown_trans G4 (grown_any b5), (r4.below b5).more (by omega), o5.low hsz4, by omega, by omega⟩
  · rintro out w7 ⟨ys, g7, r7, o7, ny, ny'⟩ _
    have hon := o7.len
    have hoc := o7.cap
    refine spec.l20Rd.pick.c r7 (by omega) (by omega) fun t21 w8 _ _ g8 r8 => ?_
    have G8 := grown_trans g7 g8
    have o8 := o7.keptBr g8 hlt
    refine And.intro (fun _ => ?_) (fun _ => hk _ _ ys G8 (r8.more (by omega)) o8 ny (by omega))
    refine spec.l20Rd.pick.c r8 (by omega) (by omega) fun t26 w9 k0 k1 g9 r9 => ?_
    refine spec.l20Rd.pick.c r9 (by omega) (by omega) fun t28 w10 _ _ g10 r10 => ?_
    have G10 := grown_trans (grown_trans G8 g9) g10
    have o10 := (o8.keptBr g9 hlt).keptBr g10 hlt
    obtain ⟨x, hx⟩ := get_some (l := ys) (k := t26.toNat) (by omega)
    have stf : ∀ {w11 : World} (j : Nat) (v : Int) (y : Ins), w10.grownBy w11 (some br) → RdS B br (m + 250) w11 → j < 6 → kIns.cells y = (kIns.cells x).set j (.int .i64 v) → Ix out.a out.n t26 6 w11 fun a w12 => St (Addr.add a j) (.int .i64 v) w12 fun w13 => K out w13 := by
      intro w11 j v y g11 r11 hj hy
      have o11 := o10.keptBr g11 hlt
      refine ixOwF o11 k0 hx rfl hj rfl y hy fun w12 o12 g12 _ => ?_
      rw [← ob_bk] at g12
      exact hk out w12 _ (grown_newO (grown_trans G10 g11) g12 (fun b hb => (o11.blk hb).1)) ((r11.keptO o11 g12 hlt).more (by omega)) o12 (by simpa using ny) (by simp; omega)
    refine And.intro (fun _ => ?_) (fun _ => And.intro (fun _ => ?_) (fun _ => And.intro (fun _ => ?_) (fun _ => And.intro (fun _ => ?_) (fun _ => And.intro (fun _ => ?_) (fun _ => ?_)))))
    · exact spec.l20Imm.c r10 (by omega) fun v w11 g11 r11 => stf 4 v { x with imm := v } g11 (r11.more (by omega)) (by omega) rfl
    · exact oneLit (xs := [-1, 0, 1, 2, -2, 12, 200]) r10 (by omega) rfl rfl (by decide) fun v w11 _ g11 r11 => stf 3 v { x with off := v } g11 (r11.more (by omega)) (by omega) rfl
    · exact spec.l20Rd.pick.c r10 (by omega) (by omega) fun v w11 _ _ g11 r11 => stf 1 v { x with dst := v } g11 (r11.more (by omega)) (by omega) rfl
    · exact spec.l20Rd.pick.c r10 (by omega) (by omega) fun v w11 _ _ g11 r11 => stf 0 v { x with op := v } g11 (r11.more (by omega)) (by omega) rfl
    · exact spec.l20Rd.pick.c r10 (by omega) (by omega) fun v w11 _ _ g11 r11 => stf 2 (IntKind.wrap .i64 (v - 1)) { x with src := IntKind.wrap .i64 (v - 1) } g11 (r11.more (by omega)) (by omega) rfl
    · have hbr : br < w10.heap.size := r10.lt
      have hoR := o10.read
      have hobk : ∀ b, out.bk = some b → b < w10.heap.size ∧ b ≠ br := fun b hb => by have := o10.blk ((ob_bk _).trans hb); exact ⟨this.2, by omega⟩
      have hkn : t26.toNat ≤ ys.length := by omega
      refine ⟨SpD w10.heap.size br (RdS B br (m + 260)), spD_ok w10, RdS B br (m + 255), (r10.below (Below.refl _ _).drew).more (by omega),
        IO kIns 85 w10.heap.size 0, kept_IO knIns, RO kIns w10.heap.size br t26.toNat, kept_RO, IO kIns 85 w10.heap.size t26.toNat, kept_IO knIns, fun _ _ => True, keptT, IO kIns 85 w10.heap.size 1, kept_IO knIns,
        IO kIns 85 w10.heap.size (t26.toNat + 1), kept_IO knIns, RO kIns w10.heap.size br (ys.length - t26.toNat), kept_RO, IO kIns 85 w10.heap.size (ys.length + 1), kept_IO knIns, ?_⟩
      have app : ∀ {w11 : World} {s x : Sl} {n1 n2 : Nat}, SpD w10.heap.size br (RdS B br (m + 260)) w10 w11 → IO kIns 85 w10.heap.size n1 s w11 → (∃ zs, zs.length = n2 ∧ SlR kIns w11 x zs) → n1 + n2 ≤ 100 →
          RunT (.o (.lf .sl)) P0 (Builtin.append_ #[44, 44] 44 #[.slice s.a s.n s.c, .slice x.a x.n x.c]) w11 fun t w12 => GK (.o (.lf .sl)) (Sk (SpD w10.heap.size br (RdS B br (m + 260))) (RdS B br (m + 255))) w11 (IO kIns 85 w10.heap.size (n1 + n2)) t.v w12 := by
        rintro w11 s x n1 n2 hsp ⟨zs, hz, ho⟩ ⟨us, hu, hx⟩ hle
        have h1 := apS (tR := 44) elIns ho hx (by omega) (by omega) hsp.size (K := fun s' w' => OwnS kIns 85 w10.heap.size w' s' (zs ++ us) ∧ w11.grownBy w' (Value.slice s.a s.n s.c).ownBlock) (fun s' w' h1 h2 _ _ => ⟨h1, h2⟩)
        obtain ⟨t, w12, hr, ⟨h2, h3⟩, h4⟩ := h1.and (I := Ip w10.heap.size w11) (ap_ip elIns knIns ho hx (by omega) (by omega))
        exact ⟨t, w12, hr, t, rfl, sk_step h3 hsp.size (fun g hg => (ho.blk hg).1) h4 hbr, _, by simp [hz, hu], h2⟩
      have hRO : ∀ {w11 : World} {r : Sl} {n : Nat}, (∃ zs, zs.length = n ∧ SlR kIns w11 r zs) → (∀ b, r.bk = some b → out.bk = some b) → RO kIns w10.heap.size br n r w11 := by
        rintro w11 r n ⟨zs, hz, hr⟩ hb
        exact ⟨zs, hz, hr, fun b h => hobk b (hb b h)⟩
      have outR : ∀ {w11 : World}, SpD w10.heap.size br (RdS B br (m + 260)) w10 w11 → ∃ zs, zs.length = ys.length ∧ SlR kIns w11 out zs := fun hsp => by
        obtain ⟨zs, hz, hr, _⟩ := kept_RO (k := kIns) (H := w10.heap.size) (br := br) (n := ys.length) (R := RdS B br (m + 260)) out w10 _ ⟨ys, rfl, hoR, hobk⟩ hsp
        exact ⟨zs, hz, hr⟩
      have hsz10 := G10.size
      refine ⟨fun w11 hsp => ?_, fun t29 => ⟨fun w11 hsp => ?_, fun t32 => ⟨fun w11 hsp f29 f32 => ?_, fun t33 => ⟨fun w11 hsp hN => ?_, fun t35 => ⟨fun w11 hsp f35 => ?_, fun t36 => ⟨fun w11 hsp f33 f36 => ?_, fun t37 => ⟨fun w11 hsp => ?_, fun t40 => ⟨fun w11 hsp f37 f40 => ?_, fun t41 w11 hsp _ _ _ _ _ _ _ f41 => ?_⟩⟩⟩⟩⟩⟩⟩⟩
      · exact nw fun w12 b12 s12 c12 => ⟨⟨some ⟨w11.heap.size, 0, none⟩, 0, 0⟩, rfl, sk_below b12 hsp.size hbr, [], rfl, OwnS.lit hsp.size c12 rfl rfl (by simp)⟩
      · obtain ⟨zs, hz, hr⟩ := outR hsp
        refine slcR (k := kIns) (e := 85) (by kernel_rfl) (by kernel_rfl) hr (lo := none) (hi := some t26) (mx := none) (l := 0) (h' := t26.toNat) (m := out.c) rfl (by simp; omega) rfl (by simp) (by omega) (by omega) (by omega) (by omega) fun r _ _ hr2 hb2 => ?_
        exact ⟨r, rfl, sk_below (Below.refl _ _) hsp.size hbr, hRO ⟨_, by simp; omega, hr2⟩ hb2⟩
      · obtain ⟨zs, hz, hr, _⟩ := f32
        have := app (x := t32) (n2 := t26.toNat) hsp f29 ⟨zs, hz, hr⟩ (by omega)
        rw [Nat.zero_add] at this
        exact this
      · refine spec.l20Alu.c hN (by omega) fun x w12 g12 r12 => ?_
        have hbb : Ip w10.heap.size w11 w12 := Ip.of_same fun g hg hg2 => g12.block g hg2 (fun e => by simp only [Option.some.injEq] at e; omega)
        exact ⟨x.t, rfl, ⟨g12.os, g12.tape, g12.output, g12.size, fun k hk hne => g12.block k (by have := hsp.size; omega) (fun e => hne (by simpa using e)), hbb, fun _ => r12.more (by omega)⟩, trivial⟩
      · exact nw fun w12 b12 s12 c12 => ⟨⟨some ⟨w11.heap.size, 0, none⟩, 1, 1⟩, rfl, sk_below b12 hsp.size hbr, [insOf t35], rfl, OwnS.lit hsp.size c12 rfl rfl (by simp [maxLen])⟩
      · obtain ⟨zs, hz, ho⟩ := f36
        exact app (x := t36) (n2 := 1) hsp f33 ⟨zs, hz, ho.read⟩ (by omega)
      · obtain ⟨zs, hz, hr⟩ := outR hsp
        refine slcR (k := kIns) (e := 85) (by kernel_rfl) (by kernel_rfl) hr (lo := some t26) (hi := none) (mx := none) (l := t26.toNat) (h' := out.n) (m := out.c) (by simp; omega) rfl rfl (by simp) (by omega) (by omega) (by omega) (by omega) fun r _ _ hr2 hb2 => ?_
        exact ⟨r, rfl, sk_below (Below.refl _ _) hsp.size hbr, hRO ⟨_, by simp; omega, hr2⟩ hb2⟩
      · obtain ⟨zs, hz, hr, _⟩ := f40
        have := app (x := t40) (n2 := ys.length - t26.toNat) hsp f37 ⟨zs, hz, hr⟩ (by omega)
        rw [show t26.toNat + 1 + (ys.length - t26.toNat) = ys.length + 1 by omega] at this
        exact this
      · obtain ⟨zs, hz, ho⟩ := f41
        exact hk t41 w11 zs (grown_trans G10 (hsp.grown rfl)) ((hsp.rd (r10.more (by omega))).more (by omega)) (ho.low hsz10) (by omega) (by omega)
end
end Go.Proofs.YtdlnoabihfnmmaaGreat.V

/- Numbers bit by bit: what the program's operations are on numbers that are no less than 0; ranges that are ends and what these tell. -/
namespace Go.Proofs.YtdlnoabihfnmmaaGreat.V
open Go Go.RowKit
set_option linter.unusedVariables false
set_option linter.unusedSimpArgs false
theorem ofInt_nat {a : Nat} (ha : a < 2 ^ 63) : (BitVec.ofInt 64 (a : Int)).toNat = a := by
  rw [BitVec.toNat_ofInt]; omega
theorem i64_nat {a : Nat} (ha : a < 2 ^ 63) : IntKind.wrap .i64 (a : Int) = a := i64_of (by omega) (by omega)
theorem iAnd_nat {a b : Nat} (ha : a < 2 ^ 63) (hb : b < 2 ^ 63) : iAnd .i64 a b = ((a &&& b : Nat) : Int) := by
  have h : (BitVec.ofInt 64 (a : Int) &&& BitVec.ofInt 64 (b : Int)).toNat = a &&& b := by rw [BitVec.toNat_and, ofInt_nat ha, ofInt_nat hb]
  show IntKind.wrap .i64 (((BitVec.ofInt 64 (a : Int) &&& BitVec.ofInt 64 (b : Int)).toNat : Nat) : Int) = _
  rw [h]
  exact i64_nat (Nat.lt_of_le_of_lt Nat.and_le_left ha)
theorem iOr_nat {a b : Nat} (ha : a < 2 ^ 63) (hb : b < 2 ^ 63) : iOr .i64 a b = ((a ||| b : Nat) : Int) := by
  have h : (BitVec.ofInt 64 (a : Int) ||| BitVec.ofInt 64 (b : Int)).toNat = a ||| b := by rw [BitVec.toNat_or, ofInt_nat ha, ofInt_nat hb]
  show IntKind.wrap .i64 (((BitVec.ofInt 64 (a : Int) ||| BitVec.ofInt 64 (b : Int)).toNat : Nat) : Int) = _
  rw [h]
  exact i64_nat (Nat.or_lt_two_pow ha hb)
theorem iXor_nat {a b : Nat} (ha : a < 2 ^ 63) (hb : b < 2 ^ 63) : iXor .i64 a b = ((a ^^^ b : Nat) : Int) := by
  have h : (BitVec.ofInt 64 (a : Int) ^^^ BitVec.ofInt 64 (b : Int)).toNat = a ^^^ b := by rw [BitVec.toNat_xor, ofInt_nat ha, ofInt_nat hb]
  show IntKind.wrap .i64 (((BitVec.ofInt 64 (a : Int) ^^^ BitVec.ofInt 64 (b : Int)).toNat : Nat) : Int) = _
  rw [h]
  exact i64_nat (Nat.xor_lt_two_pow ha hb)
/-- A number without the lowest bits. -/
def cutN (k x : Nat) : Nat := x / 2 ^ k * 2 ^ k
theorem cutN_bit (k x i : Nat) : (cutN k x).testBit i = (decide (k ≤ i) && x.testBit i) := by
  unfold cutN
  rw [Nat.testBit_mul_two_pow]
  by_cases h : k ≤ i
  · simp only [h, decide_true, Bool.true_and]
    rw [Nat.testBit_div_two_pow]
    congr 1; omega
  · simp [h]
theorem cutN_le (k x : Nat) : cutN k x ≤ x := Nat.div_mul_le_self _ _
theorem cutN_lt (k x : Nat) : x < cutN k x + 2 ^ k := by
  unfold cutN
  have := Nat.mod_lt x (Nat.two_pow_pos k)
  have := Nat.div_add_mod x (2 ^ k)
  rw [Nat.mul_comm] at this
  omega
theorem mask_bit (k i : Nat) : (2 ^ k - 1).testBit i = decide (i < k) := Nat.testBit_two_pow_sub_one k i
theorem iAndNot_mask {a k : Nat} (ha : a < 2 ^ 63) (hk : k ≤ 62) : iAndNot .i64 a ((2 ^ k - 1 : Nat) : Int) = ((cutN k a : Nat) : Int) := by
  have hm : 2 ^ k - 1 < 2 ^ 63 := by have := Nat.pow_le_pow_right (n := 2) (by omega) hk; have : (2 : Nat) ^ 62 < 2 ^ 63 := (by decide); omega
  have h : (BitVec.ofInt 64 (a : Int) &&& ~~~(BitVec.ofInt 64 ((2 ^ k - 1 : Nat) : Int))).toNat = cutN k a := by
    apply Nat.eq_of_testBit_eq
    intro i
    rw [cutN_bit]
    have e1 : BitVec.ofInt 64 (a : Int) = BitVec.ofNat 64 a := by apply BitVec.eq_of_toNat_eq; rw [ofInt_nat ha, BitVec.toNat_ofNat]; omega
    have e2 : BitVec.ofInt 64 ((2 ^ k - 1 : Nat) : Int) = BitVec.ofNat 64 (2 ^ k - 1) := by apply BitVec.eq_of_toNat_eq; rw [ofInt_nat hm, BitVec.toNat_ofNat]; omega
    rw [e1, e2, BitVec.toNat_and, Nat.testBit_and, ← BitVec.getLsbD, ← BitVec.getLsbD, BitVec.getLsbD_not, BitVec.getLsbD_ofNat, BitVec.getLsbD_ofNat, mask_bit]
    by_cases hi : i < 64
    · by_cases h2 : i < k
      · simp [hi, h2]; intro h; omega
      · simp [hi, h2, Nat.le_of_not_lt h2]
    · have : a.testBit i = false := Nat.testBit_lt_two_pow (Nat.lt_of_lt_of_le ha (Nat.pow_le_pow_right (by omega) (by omega)))
      simp [hi, this]
  show IntKind.wrap .i64 (((BitVec.ofInt 64 (a : Int) &&& ~~~(BitVec.ofInt 64 ((2 ^ k - 1 : Nat) : Int))).toNat : Nat) : Int) = _
  rw [h]
  exact i64_nat (Nat.lt_of_le_of_lt (cutN_le k a) ha)
/-- How many bits a number has. -/
theorem bl_spec (x : Nat) (hx : x < 2 ^ 64) (k : Nat) : Lib.bitLen x ≤ k ↔ x < 2 ^ k := by
  by_cases h0 : x = 0
  · subst h0
    have : Lib.bitLen 0 = 0 := by decide
    rw [this]
    exact ⟨fun _ => Nat.two_pow_pos k, fun _ => Nat.zero_le _⟩
  · obtain ⟨h1, h2, h3⟩ := Lib.bitLenAux_bounds 64 x hx h0
    change 1 ≤ Lib.bitLen x at h1
    change 2 ^ (Lib.bitLen x - 1) ≤ x at h2
    change x < 2 ^ Lib.bitLen x at h3
    constructor
    · intro h; exact Nat.lt_of_lt_of_le h3 (Nat.pow_le_pow_right (by omega) h)
    · intro h
      have : 2 ^ (Lib.bitLen x - 1) < 2 ^ k := Nat.lt_of_le_of_lt h2 h
      have := (Nat.pow_lt_pow_iff_right (a := 2) (by omega)).1 this
      omega
/-- How many bits two numbers do not share. -/
def kk (lo hi : Nat) : Nat := Lib.bitLen (lo ^^^ hi)
theorem kk_div {lo hi k : Nat} (h1 : lo < 2 ^ 64) (h2 : hi < 2 ^ 64) : kk lo hi ≤ k ↔ lo / 2 ^ k = hi / 2 ^ k := by
  unfold kk
  rw [bl_spec _ (Nat.xor_lt_two_pow h1 h2)]
  have e : (lo ^^^ hi) / 2 ^ k = lo / 2 ^ k ^^^ hi / 2 ^ k := by
    rw [← Nat.shiftRight_eq_div_pow, ← Nat.shiftRight_eq_div_pow, ← Nat.shiftRight_eq_div_pow, Nat.shiftRight_xor_distrib]
  constructor
  · intro h
    have h3 : (lo ^^^ hi) / 2 ^ k = 0 := Nat.div_eq_of_lt h
    rw [e] at h3
    apply Nat.eq_of_testBit_eq
    intro i
    have h4 := congrArg (·.testBit i) h3
    simp only [Nat.testBit_xor, Nat.zero_testBit] at h4
    cases ha : (lo / 2 ^ k).testBit i <;> cases hb : (hi / 2 ^ k).testBit i <;> simp_all
  · intro h
    rw [h, Nat.xor_self] at e
    exact (Nat.div_eq_zero_iff_lt (Nat.two_pow_pos k)).1 e
theorem kk_self (n : Nat) : kk n n = 0 := by unfold kk; rw [Nat.xor_self]; decide
theorem kk_le {lo hi : Nat} (h1 : lo < 2 ^ 32) (h2 : hi < 2 ^ 32) : kk lo hi ≤ 32 := by
  rw [kk_div (by omega) (by omega), Nat.div_eq_of_lt h1, Nat.div_eq_of_lt h2]
/-- A range: its ends, the bits that are known, those that are not. -/
abbrev T4 := Tup (R 4 (.i .i64))
/-- A range of which the k lowest bits are not known, the others are as a number's. -/
def rgk (k x : Nat) (lo hi : Int) : T4 := (lo, hi, ((cutN k x : Nat) : Int), ((2 ^ k - 1 : Nat) : Int), ())
/-- The range from one number to another. -/
def ivl (lo hi : Nat) : T4 := rgk (kk lo hi) lo lo hi
theorem cut_eq {k lo hi : Nat} (h : lo / 2 ^ k = hi / 2 ^ k) : cutN k lo = cutN k hi := by unfold cutN; rw [h]
/-- A part of a range shares what is known. -/
theorem part_div {k lo hi a b : Nat} (h : lo / 2 ^ k = hi / 2 ^ k) (h1 : lo ≤ a) (h2 : a ≤ b) (h3 : b ≤ hi) : a / 2 ^ k = lo / 2 ^ k ∧ b / 2 ^ k = lo / 2 ^ k := by
  have e1 := Nat.div_le_div_right (c := 2 ^ k) h1
  have e2 := Nat.div_le_div_right (c := 2 ^ k) h2
  have e3 := Nat.div_le_div_right (c := 2 ^ k) h3
  omega
theorem kk_part {k a b : Nat} (h : a / 2 ^ k = b / 2 ^ k) (ha : a < 2 ^ 64) (hb : b < 2 ^ 64) : kk a b ≤ k := (kk_div ha hb).2 h
theorem kk_same {a b : Nat} (ha : a < 2 ^ 64) (hb : b < 2 ^ 64) : a / 2 ^ kk a b = b / 2 ^ kk a b := (kk_div ha hb).1 (Nat.le_refl _)
theorem mask_and {k j : Nat} (h : j ≤ k) : (2 ^ k - 1) &&& (2 ^ j - 1) = 2 ^ j - 1 := by
  apply Nat.eq_of_testBit_eq
  intro i
  rw [Nat.testBit_and, mask_bit, mask_bit]
  by_cases h1 : i < j
  · simp [h1, Nat.lt_of_lt_of_le h1 h]
  · simp [h1]
theorem cut_or {k j a b : Nat} (hj : j ≤ k) (h : a / 2 ^ k = b / 2 ^ k) : cutN k a ||| cutN j b = cutN j b := by
  apply Nat.eq_of_testBit_eq
  intro i
  rw [Nat.testBit_or, cut_eq h, cutN_bit, cutN_bit]
  by_cases h1 : k ≤ i
  · simp [h1, Nat.le_trans hj h1]
  · simp [h1]
theorem cut_cut (j a : Nat) : cutN j (cutN j a) = cutN j a := by
  unfold cutN; rw [Nat.mul_div_cancel _ (Nat.two_pow_pos j)]
theorem cut_mask (j a : Nat) : cutN j a ||| (2 ^ j - 1) = cutN j a + (2 ^ j - 1) := by
  unfold cutN
  rw [Nat.mul_comm, Nat.two_pow_add_eq_or_of_lt (by have := Nat.two_pow_pos j; omega)]
theorem cut_and_mask (j a : Nat) : cutN j a &&& (2 ^ j - 1) = 0 := by
  apply Nat.eq_of_testBit_eq
  intro i
  rw [Nat.testBit_and, cutN_bit, mask_bit, Nat.zero_testBit]
  by_cases h : j ≤ i
  · simp [h]
  · simp [h]
/-! ### what is left of a range -/
/-- Whether something holds of two numbers. -/
def holdsX (op a b : Int) : Bool := if op = 12 then a == b else if op = 13 then a != b else if op = 14 then decide (a < b) else decide (a > b)
/-- The numbers of a range of which something holds, or does not: from one to another, if there are such. -/
def brN (op : Int) (lo hi n : Nat) (is_ : Bool) : Option (Nat × Nat) :=
  if op = 14 then (if is_ then (if lo < n then some (lo, min hi (n - 1)) else none) else (if n ≤ hi then some (max lo n, hi) else none))
  else if op = 15 then (if is_ then (if n < hi then some (max lo (n + 1), hi) else none) else (if lo ≤ n then some (lo, min hi n) else none))
  else if is_ = decide (op = 12) then (if lo ≤ n ∧ n ≤ hi then some (n, n) else none)
  else if lo = n ∧ hi = n then none else some (if lo = n then n + 1 else lo, if hi = n then n - 1 else hi)
theorem brN_in {op : Int} {lo hi n a b : Nat} {is_ : Bool} (h : lo ≤ hi) (hb : brN op lo hi n is_ = some (a, b)) : lo ≤ a ∧ a ≤ b ∧ b ≤ hi := by
  unfold brN at hb
  split at hb
  · split at hb <;> split at hb <;> simp at hb <;> omega
  · split at hb
    · split at hb <;> split at hb <;> simp at hb <;> omega
    · split at hb
      · split at hb <;> simp at hb; omega
      · split at hb
        · simp at hb
        · simp only [Option.some.injEq, Prod.mk.injEq] at hb
          obtain ⟨rfl, rfl⟩ := hb
          split <;> split <;> omega
/-- A number of a range of which it holds, or does not, is left. -/
theorem brN_has {op : Int} {lo hi n : Nat} {is_ : Bool} (ho : 12 ≤ op ∧ op ≤ 15) {x : Nat} (hx : lo ≤ x ∧ x ≤ hi) (hh : holdsX op x n = is_) : ∃ a b, brN op lo hi n is_ = some (a, b) ∧ a ≤ x ∧ x ≤ b := by
  unfold brN
  unfold holdsX at hh
  have ho' : op = 12 ∨ op = 13 ∨ op = 14 ∨ op = 15 := by omega
  rcases ho' with rfl | rfl | rfl | rfl
  · simp only [if_true] at hh
    rw [if_neg (by decide), if_neg (by decide)]
    cases is_ with
    | true =>
      simp only [beq_iff_eq] at hh
      rw [if_pos (by simp), if_pos (by omega)]
      exact ⟨_, _, rfl, by omega, by omega⟩
    | false =>
      simp only [beq_eq_false_iff_ne, ne_eq] at hh
      rw [if_neg (by simp), if_neg (by omega)]
      refine ⟨_, _, rfl, ?_, ?_⟩ <;> split <;> omega
  · rw [if_neg (by decide), if_pos rfl] at hh
    rw [if_neg (by decide), if_neg (by decide)]
    cases is_ with
    | true =>
      simp only [bne_iff_ne, ne_eq] at hh
      rw [if_neg (by simp), if_neg (by omega)]
      refine ⟨_, _, rfl, ?_, ?_⟩ <;> split <;> omega
    | false =>
      simp only [bne_eq_false_iff_eq] at hh
      rw [if_pos (by simp), if_pos (by omega)]
      exact ⟨_, _, rfl, by omega, by omega⟩
  · rw [if_neg (by decide), if_neg (by decide), if_pos rfl] at hh
    rw [if_pos rfl]
    cases is_ with
    | true =>
      simp only [decide_eq_true_eq] at hh
      rw [if_pos rfl, if_pos (by omega)]
      exact ⟨_, _, rfl, by omega, by omega⟩
    | false =>
      simp only [decide_eq_false_iff_not] at hh
      rw [if_neg (by simp), if_pos (by omega)]
      exact ⟨_, _, rfl, by omega, by omega⟩
  · rw [if_neg (by decide), if_neg (by decide), if_neg (by decide)] at hh
    rw [if_neg (by decide), if_pos rfl]
    cases is_ with
    | true =>
      simp only [decide_eq_true_eq] at hh
      rw [if_pos rfl, if_pos (by omega)]
      exact ⟨_, _, rfl, by omega, by omega⟩
    | false =>
      simp only [decide_eq_false_iff_not] at hh
      rw [if_neg (by simp), if_pos (by omega)]
      exact ⟨_, _, rfl, by omega, by omega⟩
end Go.Proofs.YtdlnoabihfnmmaaGreat.V

/- The verification-condition generator within fences: rounds of a range over a function, calls of yield. -/
namespace Go.Proofs.YtdlnoabihfnmmaaGreat.V
open Go Go.RowKit

/-- The wide fence, within a round or not. -/
def Rd (r : Option Nat) : Fence := { Fence.wide with round := r }
section
variable {P : Program} {r : Option Nat} {n : Nat}
theorem callsIn_rd {f : FuncId} {args : Array Value} {w : World} {R : Ending → World → Prop} (h : Calls P f args w R) : CallsIn (Rd r) n P f args w R :=
  ⟨trivial, fun cs _ => let ⟨e, w', fr, hr, s, x⟩ := h cs; ⟨e, w', fr, hr, comesIn_wide.2 s, x⟩⟩
theorem calls_of_rd {f : FuncId} {args : Array Value} {w : World} {R : Ending → World → Prop} (h : CallsIn (Rd r) n P f args w R) : Calls P f args w R :=
  fun cs => let ⟨e, w', fr, hr, s, x⟩ := h.2 cs (fun _ h => by simp [Rd, Fence.wide] at h); ⟨e, w', fr, hr, comesIn_wide.1 s, x⟩
theorem rowsIn_rd {row : String} {args : Array Value} {w : World} {R : Value → World → Prop} (h : Rows P row args w R) : RowsIn (Rd r) n P row args w R :=
  fun c cs _ => let ⟨v, w', hr, s⟩ := h c cs; ⟨v, w', hr, stepsIn_wide.2 s⟩
theorem roundIn_rd {m m' : Nat} {l : Nat} {f : FuncId} {tmps : Array Value} {assign body : Code} {w : World} {R : Ending → World → Prop} (h : RoundIn Fence.wide m P l f tmps assign body w R) : RoundIn (Rd r) m' P l f tmps assign body w R :=
  ⟨trivial, fun c cs _ => h.2 c cs (fun _ h => by simp [Fence.wide] at h)⟩
theorem op_in {o : Oper} {a : Act} {w : World} {next : Act → World → Prop} {Q : Exit → Act → World → Prop} (hd : ∀ c, o.op ≠ .defer c) (h : o.wp P a w next Q) : o.wpIn (Rd r) n P a w next Q := by
  refine ⟨fun _ _ => trivial, ?_⟩
  rw [Oper.semAt_eq _ _ _ hd]
  unfold Oper.wp at h
  generalize (execOp a.eval o).run P w = res at *
  cases res with
  | ok x w' =>
    cases x <;> simp only [Oper.upon] at h
    case value v => exact h
    case skip => exact h
    case defer d => exact h
    case enter f args => exact ⟨fun hh => by simp [Rd, Fence.wide] at hh, callsIn_rd h⟩
    case row row args => exact ⟨fun hh => by simp [Rd, Fence.wide] at hh, rowsIn_rd h⟩
  | halt x w' => cases x <;> simp only [Oper.upon] at h; exact h
end
/-- A call of yield. -/
def YldT (P : Program) (l : Nat) (args : List Value) (w : World) (K : Bool → World → Prop) : Prop :=
  YieldAt Fence.wide 0 P l args.toArray w (fun e w' => ∃ b, e = .returned (.bool b) ∧ K b w')
def evOpI (P : Program) (pl : OpP) (o : Oper) (env : Env) (w : World) (K : EV → World → Prop) (Q : List PanicEntry → World → Prop) : Prop :=
  match pl with
  | .y => match o.op with
    | .call { callee := .value x, args, .. } => match rho env x with
      | .func (.yield l) ⟨[]⟩ _ => YldT P l (args.toList.map (rho env)) w fun b w => K (.v (.bool b)) w
      | _ => False
    | _ => False
  | p => evOp P p o env w K Q
section
variable {P : Program} {r : Option Nat} {n : Nat} {ds : List Deferred} {o : Oper} {env : Env} {w : World} {K : EV → World → Prop} {Q : List PanicEntry → World → Prop}
variable {next : Act → World → Prop} {Q' : Exit → Act → World → Prop}
theorem evOpI_sound {pl : OpP} (hd : ∀ c, o.op ≠ .defer c) (h : evOpI P pl o env w K Q) (hK : ∀ v w', K v w' → next (act ds (put env o.dst v)) w')
    (hQ : ∀ ch w', Q ch w' → Q' (.panic ch) (act ds env) w') : o.wpIn (Rd r) n P (act ds env) w next Q' := by
  cases pl with
  | y =>
    refine ⟨fun _ _ => trivial, ?_⟩
    rw [Oper.semAt_eq _ _ _ hd, act_eval]
    obtain ⟨dst, op, type, pos, after, guard⟩ := o
    cases op <;> simp only [evOpI] at h <;> try exact h.elim
    rename_i c
    obtain ⟨callee, as1, ats⟩ := c
    cases callee <;> simp only at h <;> try exact h.elim
    rename_i x
    split at h
    · rename_i l c0 hx
      obtain ⟨fn, tmps, assign, body, hy, hR⟩ := h
      have e1 : (as1.toList.map (rho env)).toArray = as1.map (rho env) := by simp [← Array.toList_map]
      rw [e1] at hy
      have hrun : (execOp (rho env) { dst, op := .call { callee := .value x, args := as1, argTypes := ats }, type, pos, after, guard }).run P w = .ok (.round l fn tmps assign body) w := by
        simp [execOp, resolve, Deferred.ofValue, hx, invoke, hy]
      rw [hrun]
      refine ⟨fun hh => by simp [Rd, Fence.wide] at hh, roundIn_rd (hR.mono ?_)⟩
      rintro e w' ⟨b, rfl, hk⟩
      have := act_put ds env dst (.v (.bool b))
      simp only [EV.val] at this
      simp only [this]
      exact hK _ _ hk
    · exact h.elim
  | _ => exact op_in hd (evOp_sound h hK hQ)
end
def evLI (P : Program) (ops : Array Oper) (K : Exit → Env → World → Prop) : List OpP → List Oper → Env → World → Prop
  | _, [], env, w => K .normal env w
  | [], _ :: _, _, _ => False
  | p :: ps, o :: os, env, w =>
    match o.guard with
    | none => evOpI P p o env w (fun v w' => evLI P ops K ps os (put env o.dst v) w') (fun ch w' => K (.panic ch) env w')
    | some (j, want) =>
      match (ops.toList[j]?).bind (·.dst) with
      | none => False
      | some d => match env.getD d u0 with
        | .b t => match t == want with
          | true => evOpI P p o env w (fun v w' => evLI P ops K ps os (put env o.dst v) w') (fun ch w' => K (.panic ch) env w')
          | false => evLI P ops K ps os (put env o.dst u0) w
        | .v (.bool t) =>
          (t = want → evOpI P p o (env.set d (.b want)) w (fun v w' => evLI P ops K ps os (put (env.set d (.b want)) o.dst v) w') (fun ch w' => K (.panic ch) (env.set d (.b want)) w')) ∧
          (t = (!want) → evLI P ops K ps os (put (env.set d (.b (!want))) o.dst u0) w)
        | .v _ => evLI P ops K ps os (put env o.dst u0) w
def noDef : List Oper → Bool
  | [] => true
  | o :: os => (match o.op with | .defer _ => false | _ => true) && noDef os
theorem noDef_spec : ∀ {os : List Oper}, noDef os = true → ∀ o ∈ os, ∀ c, o.op ≠ .defer c
  | [], _, o, ho, _ => by simp at ho
  | o' :: os, h, o, ho, c => by
    simp only [noDef, Bool.and_eq_true] at h
    rcases List.mem_cons.1 ho with rfl | ho
    · intro e; rw [e] at h; simp at h
    · exact noDef_spec h.2 o ho c
def evI (P : Program) : Pl → Code → (Exit → Env → World → Prop) → Env → World → Prop
  | .z, c, K, env, w => match c with
    | .skip => K .normal env w
    | .label _ => K .normal env w
    | .exit id => K (.exit id) env w
    | .ret => K .ret env w
    | _ => False
  | .r ps, c, K, env, w => match c with
    | .region _ ops draw => match draw with
      | false => match noDef ops.toList with
        | true => evLI P ops K ps ops.toList env w
        | false => False
      | true => False
    | _ => False
  | .s pa pb, c, K, env, w => match c with
    | .seq a b => evI P pa a (fun e env' w' => match e with
      | .normal => evI P pb b K env' w'
      | .exit id => K (.exit id) env' w'
      | .goto l => K (.goto l) env' w'
      | .ret => K .ret env' w'
      | .panic ch => K (.panic ch) env' w'
      | .outgrown => K .outgrown env' w') env w
    | _ => False
  | .c pa pb, c, K, env, w => match c with
    | .cond x a b => match evO env x with
      | .b t => match t with
        | true => evI P pa a K env w
        | false => evI P pb b K env w
      | .v (.bool t) => (t = true → evI P pa a K env w) ∧ (t = false → evI P pb b K env w)
      | .v _ => False
    | _ => False
  | .b p, c, K, env, w => match c with
    | .block id a => evI P p a (fun e env' w' => match e with
      | .exit id' => (match id' == id with
        | true => K .normal env' w'
        | false => K (.exit id') env' w')
      | .normal => K .normal env' w'
      | .goto l => K (.goto l) env' w'
      | .ret => K .ret env' w'
      | .panic ch => K (.panic ch) env' w'
      | .outgrown => K .outgrown env' w') env w
    | _ => False
  | .l ss p, c, K, env, w => match c with
    | .loop a => match slotsIn (writes a) ss with
      | true => ∃ (I : Fn (World → Prop) ss) (μ : Fn (World → Nat) ss),
        (match unS ss env with
          | some xs => ap ss I xs w
          | none => False) ∧
        All ss fun xs => ∀ w', ap ss I xs w' → ∀ g : Nat → Value, evI P p a (fun e env' w'' => match e with
          | .normal => (match unS ss env' with
            | some ys => ap ss I ys w'' ∧ ap ss μ ys w'' < ap ss μ xs w'
            | none => False)
          | .exit id => K (.exit id) env' w''
          | .goto l => K (.goto l) env' w''
          | .ret => K .ret env' w''
          | .panic ch => K (.panic ch) env' w''
          | .outgrown => K .outgrown env' w'') (reb (writes a) (slotVal ss xs) g 0 env) w'
      | false => False
    | _ => False
  | _, _, _, _, _ => False
theorem wpIn_loop_typed {F0 : Fence} {n0 : Nat} {P : Program} {Q : Exit → Act → World → Prop} {c : Code} {σ : Type} (F : σ → Act) (I : σ → World → Prop) (μ : σ → World → Nat)
    (round : ∀ s w, I s w → c.wpIn F0 n0 P (Exit.then (fun a' w' => ∃ s', a' = F s' ∧ I s' w' ∧ μ s' w' < μ s w) Q) (F s) w) (s : σ) (w : World) (h : I s w) : (Code.loop c).wpIn F0 n0 P Q (F s) w := by
  intro b k cs hro hb hr
  have key : ∀ n s w, μ s w = n → I s w → ∃ e a' w', Q e a' w' ∧ ArrivesIn (Machine.fenced P F0) P (lone (b.atR (F s) (.code c :: .inLoop c :: k)) cs w) b k cs e a' w' := by
    intro n
    induction n using Nat.strongRecOn with
    | _ n ih =>
      intro s w hn hI
      obtain ⟨e, a₁, w₁, hq, harr⟩ := round s w hI b (.inLoop c :: k) cs hro hb hr
      cases e with
      | normal =>
        obtain ⟨s', rfl, hI₁, hlt⟩ := hq
        obtain ⟨e₂, a₂, w₂, hq₂, harr₂⟩ := ih (μ s' w₁) (hn ▸ hlt) s' w₁ rfl hI₁
        exact ⟨e₂, a₂, w₂, hq₂, .of_steps (StepsIn.trans harr (.one (fenced_calm hb hr rfl) stepR_inLoop)) harr₂⟩
      | exit id => exact ⟨_, a₁, w₁, hq, .pass (x := .inLoop c) rfl (fun _ _ => .inl (by simp)) harr⟩
      | goto l => exact ⟨_, a₁, w₁, hq, .pass (x := .inLoop c) rfl (fun _ _ => .inl (by simp)) harr⟩
      | ret => exact ⟨_, a₁, w₁, hq, .pass (x := .inLoop c) rfl (fun _ _ => .inl (by simp)) harr⟩
      | panic ch => exact ⟨_, a₁, w₁, hq, .pass (x := .inLoop c) rfl (fun _ _ => .inl (by simp)) harr⟩
      | outgrown => exact ⟨_, a₁, w₁, hq, .pass (x := .inLoop c) rfl (fun _ _ => .inl (by simp)) harr⟩
  obtain ⟨e, a', w', hq, harr⟩ := key _ s w rfl h
  exact ⟨e, a', w', hq, .of_steps (.one (fenced_calm hb hr rfl) stepR_loop) harr⟩

section
variable {P : Program} {ds : List Deferred} {r : Option Nat} {n : Nat}
theorem evLI_sound {ops : Array Oper} {S : List Nat} {env0 : Env} {K : Exit → Env → World → Prop} {Q : Exit → Act → World → Prop} (hK : ∀ e env' w', K e env' w' → Ag S env0 env' → Q e (act ds env') w') :
    ∀ (ps : List OpP) (os : List Oper) (env : Env) (w : World), (∀ o ∈ os, ∀ c, o.op ≠ .defer c) → (∀ o ∈ os, ∀ d, o.dst = some d → d ∈ S) → Ag S env0 env → evLI P ops K ps os env w → wpListIn (Rd r) n P ops Q os (act ds env) w
  | _, [], env, w, _, _, ha, h => by cases ‹List OpP› <;> exact hK _ _ _ h ha
  | [], _ :: _, _, _, _, _, _, h => h.elim
  | p :: ps, o :: os, env, w, hd, hS, ha, h => by
    have ih := evLI_sound (ops := ops) hK ps os
    have hdos : ∀ o' ∈ os, ∀ c, o'.op ≠ .defer c := fun o' ho' => hd o' (List.mem_cons_of_mem _ ho')
    have hos : ∀ o' ∈ os, ∀ d, o'.dst = some d → d ∈ S := fun o' ho' => hS o' (List.mem_cons_of_mem _ ho')
    have hod : ∀ k, o.dst = some k → k ∈ S := hS o List.mem_cons_self
    have exec : ∀ env1, act ds env1 = act ds env → Ag S env0 env1 → evOpI P p o env1 w (fun v w' => evLI P ops K ps os (put env1 o.dst v) w') (fun ch w' => K (.panic ch) env1 w') →
        o.wpIn (Rd r) n P (act ds env) w (wpListIn (Rd r) n P ops Q os) Q := by
      intro env1 he ha1 h1
      rw [← he]
      exact evOpI_sound (r := r) (n := n) (hd _ List.mem_cons_self) h1 (fun v w' hh => ih _ _ hdos hos (ha1.trans (Ag.put env1 o.dst v hod)) hh) (fun ch w' hh => hK _ _ _ hh ha1)
    have skip : ∀ env1, act ds env1 = act ds env → Ag S env0 env1 → evLI P ops K ps os (put env1 o.dst u0) w → wpListIn (Rd r) n P ops Q os ((act ds env).put o.dst undef) w := by
      intro env1 he ha1 h1
      rw [← he]
      have := act_put ds env1 o.dst u0
      simp only [EV.val, u0] at this
      rw [this]
      exact ih _ _ hdos hos (ha1.trans (Ag.put env1 o.dst _ hod)) h1
    simp only [evLI] at h
    unfold wpListIn
    split at h
    · rename_i hg
      rw [if_pos (by simp [Region.wanted, hg])]
      exact (exec env rfl ha h)
    · rename_i j want hg
      split at h
      · exact h.elim
      · rename_i d hd
        have hwant := wanted_some (ds := ds) (env := env) hg hd
        split at h
        · rename_i t ht
          simp only [ht, EV.val] at hwant
          split at h
          · rename_i htw
            rw [htw] at hwant
            rw [if_pos hwant]
            exact (exec env rfl ha h)
          · rename_i htw
            rw [htw] at hwant
            rw [if_neg (by simp [hwant])]
            exact ⟨fun _ _ => trivial, skip env rfl ha h⟩
        · rename_i t ht
          simp only [ht, EV.val] at hwant
          by_cases htw : t = want
          · subst htw
            have hv : (env.getD d u0).val = (EV.b t).val := by rw [ht]; rfl
            rw [if_pos (by simp [hwant])]
            exact (exec _ (act_set hv) (ha.trans (Ag.set hv)) (h.1 rfl))
          · have htn : t = !want := by cases t <;> cases want <;> simp_all
            have hv : (env.getD d u0).val = (EV.b (!want)).val := by rw [ht, htn]; rfl
            rw [if_neg (by rw [hwant]; simp [htw])]
            exact ⟨fun _ _ => trivial, skip _ (act_set hv) (ha.trans (Ag.set hv)) (h.2 htn)⟩
        · rename_i x hx ht
          have hw0 : Region.wanted o (yielded ops (act ds env).tmps) = false := by
            rw [hwant, ht]
            simp only [EV.val]
          rw [if_neg (by simp [hw0])]
          exact ⟨fun _ _ => trivial, skip env rfl ha h⟩
theorem evI_sound : ∀ (p : Pl) (c : Code) (K : Exit → Env → World → Prop) (Q : Exit → Act → World → Prop) (env : Env) (w : World),
    (∀ e env' w', K e env' w' → Ag (writes c) env env' → Q e (act ds env') w') → evI P p c K env w → c.wpIn (Rd r) n P Q (act ds env) w
  | .z, c, K, Q, env, w, hK, h => by
    cases c with
    | skip => exact wpIn_skip (hK _ _ _ h (Ag.refl _ _))
    | label l => exact wpIn_label (hK _ _ _ h (Ag.refl _ _))
    | exit id => exact wpIn_exit (hK _ _ _ h (Ag.refl _ _))
    | ret => exact wpIn_ret (hK _ _ _ h (Ag.refl _ _))
    | _ => exact h.elim
  | .r ps, c, K, Q, env, w, hK, h => by
    cases c with
    | region id ops draw =>
      have hS : ∀ o ∈ ops.toList, ∀ d, o.dst = some d → d ∈ writes (.region id ops draw) := fun o ho d hd => List.mem_filterMap.2 ⟨o, ho, hd⟩
      cases draw with
      | false =>
        simp only [evI] at h
        split at h
        · rename_i hnd
          exact wpIn_region_list (evLI_sound (S := writes (.region id ops false)) (env0 := env) hK ps ops.toList env w (noDef_spec hnd) hS (Ag.refl _ _) h)
        · exact h.elim
      | true => exact h.elim
    | _ => exact h.elim
  | .s pa pb, c, K, Q, env, w, hK, h => by
    cases c with
    | seq a b =>
      refine wpIn_seq (evI_sound pa a _ _ env w ?_ h)
      intro e env' w' hk hag
      have hag' : Ag (writes (.seq a b)) env env' := hag.mono fun i hi => List.mem_append_left _ hi
      cases e with
      | normal =>
        exact evI_sound pb b K Q env' w' (fun e env2 w2 h2 hag2 => hK _ _ _ h2 (hag'.trans (hag2.mono fun i hi => List.mem_append_right _ hi))) hk
      | exit id => exact hK _ _ _ hk hag'
      | goto l => exact hK _ _ _ hk hag'
      | ret => exact hK _ _ _ hk hag'
      | panic ch => exact hK _ _ _ hk hag'
      | outgrown => exact hK _ _ _ hk hag'
    | _ => exact h.elim
  | .c pa pb, c, K, Q, env, w, hK, h => by
    cases c with
    | cond x a b =>
      have hl : ∀ e env' w', K e env' w' → Ag (writes a) env env' → Q e (act ds env') w' := fun e env' w' hk hag => hK _ _ _ hk (hag.mono fun i hi => List.mem_append_left _ hi)
      have hr : ∀ e env' w', K e env' w' → Ag (writes b) env env' → Q e (act ds env') w' := fun e env' w' hk hag => hK _ _ _ hk (hag.mono fun i hi => List.mem_append_right _ hi)
      simp only [evI] at h
      split at h
      · rename_i t hx
        have hc : (act ds env).eval x = .bool t := by rw [act_eval, rho, hx]; rfl
        split at h
        · exact wpIn_cond hc (evI_sound pa a K Q env w hl h)
        · exact wpIn_cond hc (evI_sound pb b K Q env w hr h)
      · rename_i t hx
        have hc : (act ds env).eval x = .bool t := by rw [act_eval, rho, hx]; rfl
        exact wpIn_cond_split hc (fun ht => evI_sound pa a K Q env w hl (h.1 ht)) (fun ht => evI_sound pb b K Q env w hr (h.2 ht))
      · exact h.elim
    | _ => exact h.elim
  | .b p, c, K, Q, env, w, hK, h => by
    cases c with
    | block id a =>
      refine wpIn_block (evI_sound p a _ _ env w ?_ h)
      intro e env' w' hk hag
      cases e with
      | exit id' =>
        simp only at hk
        simp only [Exit.inBlock]
        split at hk
        · rename_i hh; rw [if_pos (by simpa using hh)]; exact hK _ _ _ hk hag
        · rename_i hh; rw [if_neg (by simpa using hh)]; exact hK _ _ _ hk hag
      | normal => exact hK _ _ _ hk hag
      | goto l => exact hK _ _ _ hk hag
      | ret => exact hK _ _ _ hk hag
      | panic ch => exact hK _ _ _ hk hag
      | outgrown => exact hK _ _ _ hk hag
    | _ => exact h.elim
  | .l ss p, c, K, Q, env, w, hK, h => by
    cases c with
    | loop a =>
      simp only [evI] at h
      split at h
      · rename_i hin
        obtain ⟨I, μ, h0, h1⟩ := h
        split at h0
        · rename_i xs0 hu0
          have e0 : act ds env = act ds (reb (writes a) (slotVal ss xs0) (fun i => (env.getD i u0).val) 0 env) := (reb_act (Ag.refl _ _) hu0).symm
          rw [e0]
          refine wpIn_loop_typed (σ := TS ss × (Nat → Value)) (fun s => act ds (reb (writes a) (slotVal ss s.1) s.2 0 env)) (fun s w => ap ss I s.1 w) (fun s w => ap ss μ s.1 w) ?_ (xs0, fun i => (env.getD i u0).val) w h0
          rintro ⟨xs, g⟩ w' hI
          have hag0 : Ag (writes a) env (reb (writes a) (slotVal ss xs) g 0 env) := reb_ag (slotsIn_spec hin xs)
          refine evI_sound p a _ _ _ w' ?_ (h1.out xs w' hI g)
          intro e env' w2 hk hag
          have hag' : Ag (writes a) env env' := hag0.trans hag
          cases e with
          | normal =>
            simp only at hk
            split at hk
            · rename_i ys hu
              exact ⟨(ys, fun i => (env'.getD i u0).val), (reb_act hag' hu).symm, hk.1, hk.2⟩
            · exact hk.elim
          | exit id => exact hK _ _ _ hk hag'
          | goto l => exact hK _ _ _ hk hag'
          | ret => exact hK _ _ _ hk hag'
          | panic ch => exact hK _ _ _ hk hag'
          | outgrown => exact hK _ _ _ hk hag'
        · exact h0.elim
      · exact h.elim
    | _ => exact h.elim
  | .g _ _, _, _, _, _, _, _, h => h.elim
  | .x _ _, _, _, _, _, _, _, h => h.elim
  | .j _ _ _, _, _, _, _, _, _, h => h.elim
end
def VCI (P : Program) (fn : Func) (pl : Pl) (r : Rs) (args : List Value) (w : World) (K : r.T → World → Prop) (Kp : List PanicEntry → World → Prop) : Prop :=
  evI P pl (code fn) (top P fn.results.toList r K Kp) (args.map EV.v ++ List.replicate (fn.ntmps - args.length) u0) w
/-- A call of a function that calls yield. -/
theorem callI_of {P : Program} {f : FuncId} {fn : Func} (hf : P.funcs[f]? = some fn) (hb : fn.body.isSome = true) {pl : Pl} {r : Rs} (hr : r.fine = true) {args : List Value} {w : World} {K : r.T → World → Prop}
    (h : VCI P fn pl r args w K noP) : CallT r P f args w K := by
  obtain ⟨c, hc⟩ := Option.isSome_iff_exists.1 hb
  have hcode : code fn = c := by simp [code, hc]
  unfold VCI at h
  rw [hcode] at h
  refine calls_of_rd (r := none) (n := 0) (callsIn_of_wp hf hc trivial ?_)
  have he : act [] (args.map EV.v ++ List.replicate (fn.ntmps - args.length) u0) = { tmps := args.toArray ++ Array.replicate (fn.ntmps - args.toArray.size) undef, defers := [] } := by
    simp only [act, Act.mk.injEq, and_true]
    rw [← Array.toList_inj]
    have e2 : (EV.val ∘ EV.v) = id := rfl
    simp [u0, EV.val, e2]
  rw [← he]
  refine evI_sound pl c _ _ _ w ?_ h
  intro e env' w' hk _
  cases e with
  | normal =>
    obtain ⟨x, hx, hr⟩ := results_run (ds := []) hr hk
    exact ⟨rfl, _, hr, ⟨x, rfl, hx⟩⟩
  | ret =>
    obtain ⟨x, hx, hr⟩ := results_run (ds := []) hr hk
    exact ⟨rfl, _, hr, ⟨x, rfl, hx⟩⟩
  | panic ch => exact hk.elim
  | exit id => exact hk.elim
  | goto l => exact hk.elim
  | outgrown => exact hk.elim
/-- Whatever lies from H on lies as it lay. -/
def KeepsHi (H : Nat) (A B : World) : Prop := A.heap.size ≤ B.heap.size ∧ ∀ k, H ≤ k → k < A.heap.size → B.heap[k]? = A.heap[k]?
theorem KeepsHi.refl (H : Nat) (A : World) : KeepsHi H A A := ⟨Nat.le_refl _, fun _ _ _ => rfl⟩
theorem KeepsHi.trans {H : Nat} {A B C : World} (h : KeepsHi H A B) (k : KeepsHi H B C) : KeepsHi H A C := ⟨Nat.le_trans h.1 k.1, fun i hi hl => (k.2 i hi (Nat.lt_of_lt_of_le hl h.1)).trans (h.2 i hi hl)⟩
def bPost {α : Type} (H : Nat) (I Ix : List α → World → Prop) (xs : List α) (W : World) : Exit → Act → World → Prop
  | .normal, _, W' => Below W.heap.size W W' ∧ I xs W'
  | .ret, _, W' => KeepsHi H W W' ∧ Ix xs W'
  | _, _, _ => False
theorem below_putObj {H : Nat} {W : World} {l : Nat} {o : Obj} (hl : H ≤ l) : Below H W (W.putObj l o) :=
  ⟨rfl, rfl, rfl, by simp, fun k hk => World.putObj_heap_other (by omega)⟩
/-- A range over a function whose iterator may write what it has laid itself. -/
theorem rf_law {α : Type} {P : Program} {n : Nat} {g : Operand} {ps : Array Tmp} {assign body : Code} {Q : Exit → Act → World → Prop} {a : Act} {w : World} {gf : Nat} {lb : Array Value}
    (hg : a.eval g = .func (.func gf) #[] lb) (eg : ∀ args w, (callFunc gf args).run P w = .ok (.enter gf args) w) {encs : α → Array Value} (hps : ∀ x, (encs x).size = ps.size) (ok : α → Prop)
    (I Ix : List α → World → Prop) (hI : ∀ s A B, I s A → Below w.heap.size A B → I s B) (hIx : ∀ s A B, Ix s A → Below w.heap.size A B → Ix s B) (h0 : I [] w) (xs : List α) (a₁ : α → Act)
    (hseq : ∀ (l : Nat) (W : World) (J Jx : List α → World → Prop), Below w.heap.size w W → W.heap.size = w.heap.size + 2 → (∀ s A B, J s A → Below W.heap.size A B → J s B) → (∀ s A B, Jx s A → Below W.heap.size A B → Jx s B) →
      (∀ pre x W1, ok x → J pre W1 → W.heap.size ≤ W1.heap.size → YieldAt Fence.wide 0 P l (encs x) W1 fun e W' => (e = .returned (.bool true) ∧ J (pre ++ [x]) W' ∧ Below W1.heap.size W1 W') ∨ (e = .returned (.bool false) ∧ Jx (pre ++ [x]) W')) → J [] W →
      Calls P gf (#[.func (.yield l) #[] #[]] ++ lb) W fun e W' => (∃ v, e = .returned v) ∧ (J xs W' ∨ ∃ pre, pre <+: xs ∧ Jx pre W'))
    (hassign : ∀ (l : Nat) (x : α) (W : World) (K : Act → World → Prop), K (a₁ x) W → assign.wpIn (Rd (some l)) 0 P (Exit.then K (fun _ _ _ => False)) { tmps := (ps.zip (encs x)).foldl (fun t (p, v) => t.setIfInBounds p v) a.tmps, defers := [] } W)
    (hbody : ∀ (l : Nat) (pre : List α) (x : α) (W : World), ok x → I pre W → w.heap.size + 2 ≤ W.heap.size → body.wpIn (Rd (some l)) 0 P (bPost w.heap.size I Ix (pre ++ [x]) W) (a₁ x) W)
    (hdone : ∀ W, I xs W → W.heap[w.heap.size]? = some (.deferred (some [])) → Q .normal { a with defers := { target := .collected w.heap.size, args := #[] } :: a.defers } W)
    (hstop : ∀ pre W, pre <+: xs → Ix pre W → W.heap[w.heap.size]? = some (.deferred (some [])) → Q .ret { a with defers := { target := .collected w.heap.size, args := #[] } :: a.defers } W) :
    (Code.rangeFunc g ps assign body).wpIn Fence.wide n P Q a w := by
  refine wpIn_rangeFunc ?_
  intro fn hfn
  obtain ⟨rec, hrec⟩ : ∃ rec : LoopState → Option Code → Loop, rec = fun st pe => { state := st, pending := pe, fn, tmps := a.tmps, params := ps, assign, body, defers := w.heap.size } := ⟨_, rfl⟩
  obtain ⟨W1, hW1⟩ : ∃ W1, (w.alloc (.deferred (some []))).alloc (.loop (rec .ready none)) = W1 := ⟨_, rfl⟩
  have hL1 : W1.heap[w.heap.size + 1]? = some (.loop (rec .ready none)) := by
    rw [← hW1]; have := World.alloc_heap_new (w.alloc (.deferred (some []))) (.loop (rec .ready none)); rwa [World.size_alloc] at this
  have hK1 : W1.heap[w.heap.size]? = some (.deferred (some [])) := by
    rw [← hW1]; exact (Below.heap_alloc _ _ _ (by simp)).trans (World.alloc_heap_new w _)
  have hb1 : Below w.heap.size w W1 := by
    rw [← hW1]; exact ((Below.refl _ w).alloc (Nat.le_refl _) _).alloc (by simp) _
  have hs1 : W1.heap.size = w.heap.size + 2 := by rw [← hW1]; simp
  have hI1 : I [] W1 := hI _ _ _ h0 hb1
  refine ⟨w.heap.size + 1, [{ target := .collected w.heap.size, args := #[] }], W1, { target := .fn (.func gf) lb, args := #[.func (.yield (w.heap.size + 1)) #[] #[]] }, W1, gf,
    #[.func (.yield (w.heap.size + 1)) #[] #[]] ++ lb, W1, ?_, ?_, fun _ _ => trivial, ?_, fun hh => by simp [Fence.wide] at hh, ?_⟩
  · rw [← hW1, hrec]; exact run_enterLoop_outer _ _ _ _ _
  · simp only [resolve, hg]
    simp [go_sem]
  · simp [invoke, go_sem, eg]
  · have kb : ∀ {k : Nat} {o : Obj} {A B : World}, k < W1.heap.size → A.heap[k]? = some o → Below W1.heap.size A B → B.heap[k]? = some o := fun hk h hab => (hab.block _ hk).trans h
    refine (callsIn_rd (r := none) (hseq (w.heap.size + 1) W1
      (fun pre W => I pre W ∧ W.heap[w.heap.size + 1]? = some (.loop (rec .ready none)) ∧ W.heap[w.heap.size]? = some (.deferred (some [])))
      (fun pre W => Ix pre W ∧ W.heap[w.heap.size + 1]? = some (.loop (rec .done (some .ret))) ∧ W.heap[w.heap.size]? = some (.deferred (some [])))
      hb1 hs1 (fun s A B h hab => ⟨hI _ _ _ h.1 (hab.mono (by omega)), kb (by omega) h.2.1 hab, kb (by omega) h.2.2 hab⟩) (fun s A B h hab => ⟨hIx _ _ _ h.1 (hab.mono (by omega)), kb (by omega) h.2.1 hab, kb (by omega) h.2.2 hab⟩) ?_ ⟨hI1, hL1, hK1⟩) : CallsIn Fence.wide (n - 1) P gf _ W1 _).mono ?_
    · -- one round
      rintro pre x W hok ⟨hi, hl, hk⟩ hW
      have hlt : w.heap.size + 1 < W.heap.size := (Array.getElem?_eq_some_iff.1 hl).1
      have hy := run_yield (P := P) (args := encs x) hl (by rw [hrec]; exact hps x)
      rw [hrec] at hy
      refine ⟨fn, _, assign, body, hy, roundIn_of_wpIn hfn (hassign _ x W _ ?_)⟩
      clear hy
      refine ⟨_, run_beginRound hl (by rw [hrec]), ?_⟩
      have hl2 : (W.putObj (w.heap.size + 1) (.loop { rec .ready none with state := .busy })).heap[w.heap.size + 1]? = some (.loop { rec .ready none with state := .busy }) := World.putObj_heap_same hlt
      have hk2 : (W.putObj (w.heap.size + 1) (.loop { rec .ready none with state := .busy })).heap[w.heap.size]? = some (.deferred (some [])) := (World.putObj_heap_other (by omega)).trans hk
      refine wpIn_mono (hbody _ pre x _ hok (hI _ _ _ hi (below_putObj (by omega))) (by simp; omega)) ?_
      have fin : ∀ (jump : Option Code) (W3 : World), KeepsHi w.heap.size (W.putObj (w.heap.size + 1) (.loop { rec .ready none with state := .busy })) W3 →
          (Instr.endRound (w.heap.size + 1) jump).run P W3 = .ok (.bool jump.isNone) (W3.putObj (w.heap.size + 1) (.loop (rec (if jump.isNone then .ready else .done) jump))) ∧
          (W3.putObj (w.heap.size + 1) (.loop (rec (if jump.isNone then .ready else .done) jump))).heap[w.heap.size + 1]? = some (.loop (rec (if jump.isNone then .ready else .done) jump)) ∧
          (W3.putObj (w.heap.size + 1) (.loop (rec (if jump.isNone then .ready else .done) jump))).heap[w.heap.size]? = some (.deferred (some [])) := fun jump W3 hk3 => by
        have hsz : (W.putObj (w.heap.size + 1) (.loop { rec .ready none with state := .busy })).heap.size = W.heap.size := by simp
        have hl3 := (hk3.2 _ (by omega) (by omega)).trans hl2
        have hd3 := (hk3.2 _ (Nat.le_refl _) (by omega)).trans hk2
        have hlt3 := (Array.getElem?_eq_some_iff.1 hl3).1
        have := run_endRound (P := P) jump hl3
        rw [hrec] at this ⊢
        exact ⟨this, World.putObj_heap_same hlt3, (World.putObj_heap_other (by omega)).trans hd3⟩
      rintro e a3 W3 hp
      cases e with
      | normal =>
        obtain ⟨hb3, hi3⟩ := hp
        have hsz : (W.putObj (w.heap.size + 1) (.loop { rec .ready none with state := .busy })).heap.size = W.heap.size := by simp
        obtain ⟨hr, hl4, hk4⟩ := fin none W3 ⟨hb3.size, fun k _ hk => hb3.block k (by simpa using hk)⟩
        refine ⟨_, _, hr, .inl ⟨rfl, ⟨hI _ _ _ hi3 (below_putObj (by omega)), hl4, hk4⟩, hb3.os, hb3.tape, hb3.output, by have := hb3.size; simp only [World.putObj_size] at this ⊢; exact this, fun k hk => ?_⟩⟩
        by_cases e : k = w.heap.size + 1
        · rw [e]; exact hl4.trans hl.symm
        · rw [World.putObj_heap_other e, hb3.block k (by simpa using hk), World.putObj_heap_other e]
      | ret =>
        obtain ⟨hk3, hi3⟩ := hp
        obtain ⟨hr, hl4, hk4⟩ := fin (some .ret) W3 hk3
        exact ⟨_, _, hr, .inr ⟨rfl, hIx _ _ _ hi3 (below_putObj (by omega)), hl4, hk4⟩⟩
      | exit id => exact hp.elim
      | goto t => exact hp.elim
      | panic ch => exact hp.elim
      | outgrown => exact hp.elim
    · -- behind the iterator
      rintro e W2 ⟨⟨v, rfl⟩, (⟨hi, hl, hk⟩ | ⟨pre, hSp, hi, hl, hk⟩)⟩
      · exact ⟨none, _, by have := run_endLoop (P := P) hl (by rw [hrec]; simp); rw [hrec] at this; exact this, hdone _ (hI _ _ _ hi (below_putObj (by omega))) ((World.putObj_heap_other (by omega)).trans hk)⟩
      · exact ⟨some .ret, _, by have := run_endLoop (P := P) hl (by rw [hrec]; simp); rw [hrec] at this; exact this, wpIn_ret (hstop pre _ hSp (hIx _ _ _ hi (below_putObj (by omega))) ((World.putObj_heap_other (by omega)).trans hk))⟩
theorem enters_ok {P : Program} {f : FuncId} (hc : callable P f = true) (args : Array Value) (w : World) : (callFunc f args).run P w = .ok (.enter f args) w := by
  unfold callable at hc
  split at hc
  · rename_i fn hfn
    simp only [Bool.and_eq_true, Bool.not_eq_true', beq_eq_false_iff_ne] at hc
    have hb : fn.body ≠ none := by intro hh; simp [hh] at hc
    simp [callFunc, hfn, hc.2, hb]
  · simp at hc
/-- A call of a function that holds a range over a function. -/
theorem callM_of {P : Program} {f : FuncId} {fn : Func} {c : Code} (hf : P.funcs[f]? = some fn) (hb : fn.body = some c) {r : Rs} {args : List Value} {w : World} {K : r.T → World → Prop}
    (h : c.wpIn (Rd none) 0 P (bodyPostM (Rd none) 0 P fn (fun e w' => ∃ x, e = .returned (r.emb x) ∧ K x w')) (act [] (args.map EV.v ++ List.replicate (fn.ntmps - args.length) u0)) w) : CallT r P f args w K := by
  refine calls_of_rd (r := none) (n := 0) (callsIn_of_wp_marks hf hb trivial ?_)
  have he : act [] (args.map EV.v ++ List.replicate (fn.ntmps - args.length) u0) = { tmps := args.toArray ++ Array.replicate (fn.ntmps - args.toArray.size) undef, defers := [] } := by
    simp only [act, Act.mk.injEq, and_true]
    rw [← Array.toList_inj]
    have e2 : (EV.val ∘ EV.v) = id := rfl
    simp [u0, EV.val, e2]
  rw [← he]
  exact h
/-- What goes on alone. -/
def nK (Kn : Env → World → Prop) : Exit → Env → World → Prop
  | .normal, env, w => Kn env w
  | _, _, _ => False
theorem step_seq {P : Program} {rr : Option Nat} {a b : Code} {pl : Pl} {env : Env} {ds : List Deferred} {w : World} {Q : Exit → Act → World → Prop} (h : evI P pl a (nK fun env' w' => b.wpIn (Rd rr) 0 P Q (act ds env') w') env w) :
    (Code.seq a b).wpIn (Rd rr) 0 P Q (act ds env) w :=
  wpIn_seq (evI_sound pl a _ _ env w (fun e env' w' h _ => by cases e with | normal => exact h | _ => exact h.elim) h)
theorem step_one {P : Program} {rr : Option Nat} {a : Code} {pl : Pl} {env : Env} {ds : List Deferred} {w : World} {K : Act → World → Prop} {Q : Exit → Act → World → Prop} (h : evI P pl a (nK fun env' w' => K (act ds env') w') env w) :
    a.wpIn (Rd rr) 0 P (Exit.then K Q) (act ds env) w :=
  evI_sound pl a _ _ env w (fun e env' w' h _ => by cases e with | normal => exact h | _ => exact h.elim) h
/-- The body of a round: it goes on, or it returns. -/
def bK (K : Bool → World → Prop) : Exit → Env → World → Prop
  | .normal, _, w => K true w
  | .ret, _, w => K false w
  | _, _, _ => False
theorem step_body {α : Type} {P : Program} {rr : Option Nat} {c : Code} {pl : Pl} {env : Env} {ds : List Deferred} {w : World} {H : Nat} {I Ix : List α → World → Prop} {xs : List α}
    (h : evI P pl c (bK fun t w' => match t with | true => Below w.heap.size w w' ∧ I xs w' | false => KeepsHi H w w' ∧ Ix xs w') env w) : c.wpIn (Rd rr) 0 P (bPost H I Ix xs w) (act ds env) w :=
  evI_sound pl c _ _ env w (fun e env' w' h _ => by cases e with | normal => exact h | ret => exact h | _ => exact h.elim) h
def cL : Code → Code | .seq a _ => a | c => c
def cR : Code → Code | .seq _ b => b | c => c
def cB : Code → Code | .block _ b => b | c => c
def cAs : Code → Code | .rangeFunc _ _ a _ => a | c => c
def cBd : Code → Code | .rangeFunc _ _ _ b => b | c => c
end Go.Proofs.YtdlnoabihfnmmaaGreat.V

/- Verification conditions, printed by this session's own program (wip/vc.py) and checked by the kernel. -/
namespace Go.Proofs.YtdlnoabihfnmmaaGreat.V
open Go Go.RowKit
set_option linter.unusedVariables false
/- spec.l20Number -/
def spec.l20Number.pl : Pl := (.s (.r (D 1)) (.s (.s (.r [.d, (.c (.o (.lf (.i .i64))))]) (.b (.s (.r (D 2)) (.c (.s (.r [.d, (.c (.o (.lf (.i .i64)))), .d]) .z) (.s (.r (D 2)) (.c (.s (.r [.d, (.c (.o (.lf (.i .i64)))), .d]) .z) .z)))))) (.s (.r [.d, (.c (.o (.lf (.i .i64)))), .d, .d, (.c (.o (.lf (.i .i64)))), .d, .d]) .z)))
def spec.l20Number.vc (r : Option Addr) (w : World) (K : Int → World → Prop) : Prop :=
CallT (.o (.lf (.i .i64))) P0 13 [(.pointer r), (.int .i64 3)] w fun (t4 : Int) w_ =>
(((t4 : Int) == 0) = true → CallT (.o (.lf (.i .i64))) P0 51 [(.pointer r)] w_ fun (t8 : Int) w__1 =>
K t8 w__1) ∧
(((t4 : Int) == 0) = false → (((t4 : Int) == 1) = true → CallT (.o (.lf (.i .i64))) P0 13 [(.pointer r), (.int .i64 256)] w_ fun (t12 : Int) w__2 =>
K t12 w__2) ∧
(((t4 : Int) == 1) = false → CallT (.o (.lf (.i .i64))) P0 13 [(.pointer r), (.int .i64 256)] w_ fun (t14 : Int) w__3 =>
Nw #[(.int .i64 0), (.int .i64 4), (.int .i64 8), (.int .i64 16), (.int .i64 24)] 3 w__3 fun a_t16 w__4 =>
CallT (.o (.lf (.i .i64))) P0 31 [(.pointer r), (.slice (some a_t16) 5 5)] w__4 fun (t17 : Int) w__5 =>
(0 : Int) ≤ t17 ∧ K (IntKind.wrap .i64 (t14 * 2 ^ (min (Int.toNat t17) (IntKind.bits .i64)))) w__5))
theorem spec.l20Number.ok {r : Option Addr} {w : World} {K : Int → World → Prop} (h : spec.l20Number.vc r w K) : CallT (.o (.lf (.i .i64))) P0 34 [(.pointer r)] w K :=
  call_of Tryz.func34 rfl rfl (pl := spec.l20Number.pl) (show VC P0 Tryz.f34 spec.l20Number.pl (.o (.lf (.i .i64))) [(.pointer r)] w K noP from Eq.mp (by kernel_rfl) h)
/- spec.l20Rules -/
def spec.l20Rules.pl : Pl := (.s (.r (D 1)) (.s (.r (D 2)) (.s (.s (.r [.d, .d, (.c (.o (.lf (.i .i64)))), .d]) (.b (.l [(3, .sl), (4, (.i .i64))] (.s (.s (.r (D 2)) (.c .z .z)) (.s (.b (.s (.r [.d, .d, (.c (.o (.lf (.i .i64)))), .d, (.c (.o (.lf (.i .i64)))), .d, .d, .d, (.c (.o (.lf (.i .i64)))), .d, (.c (.o (.lf (.i .i64)))), .d, .d, .d]) (.s (.s (.r [.d, (.l (.lf (.i .i64))), .d]) (.c (.r [.d, .d, (.c (.o (.lf (.i .i64)))), .d, .d]) .z)) (.r [.d, (.l (.ag (R 5 (.i .i64)))), .d, (.t (.o (.lf .sl))), .d])))) (.r (D 3))))))) (.s (.j [(45, .b)] (.r [.d, .d, .d, (.sp .d), .d, (.c (.o (.lf (.i .i64)))), .d, .d]) (.c (.s (.r [.d, .d, .d, (.c (.o (.lf (.i .i64)))), .d]) (.s (.r [.d, (.c (.o (.lf (.i .i64))))]) (.b (.s (.r (D 2)) (.c (.r [.d, .d, .d, .d, (.c (.o (.lf (.i .i64)))), .d, .d, .d]) (.s (.r (D 2)) (.c (.r [.d, .d, .d, .d, (.c (.o (.lf (.i .i64)))), .d, .d, .d]) (.s (.r (D 2)) (.c (.r [.d, .d, .d, .d, (.c (.o (.lf (.i .i64)))), .d, .d, .d]) (.r (D 5))))))))))) .z)) (.s (.r (D 2)) .z)))))
def spec.l20Rules.vc (r : Option Addr) (w : World) (K : Sl → World → Prop) : Prop :=
Nw #[] 40 w fun a_t7 w_ =>
Nw #[(.int .i64 0), (.int .i64 1), (.int .i64 2), (.int .i64 3), (.int .i64 4), (.int .i64 6)] 3 w_ fun a_t9 w__1 =>
CallT (.o (.lf (.i .i64))) P0 31 [(.pointer r), (.slice (some a_t9) 6 6)] w__1 fun (t10 : Int) w__2 =>
∃ (I : Sl → Int → World → Prop) (M : Sl → Int → World → Nat),
I ⟨(some a_t7), 0, 0⟩ t10 w__2 ∧
(∀ (out : Sl) (n : Int) w__3, I out n w__3 → ∀ _ : Nat → Value,
((decide ((n : Int) > 0)) = true → Nw #[(.int .i64 0), (.int .i64 0), (.int .i64 1), (.int .i64 2), (.int .i64 11)] 3 w__3 fun a_t16 w__4 =>
CallT (.o (.lf (.i .i64))) P0 31 [(.pointer r), (.slice (some a_t16) 5 5)] w__4 fun (t17 : Int) w__5 =>
CallT (.o (.lf (.i .i64))) P0 13 [(.pointer r), (.int .i64 4)] w__5 fun (t19 : Int) w__6 =>
Nw #[(.int .i64 0), (.int .i64 1), (.int .i64 2), (.int .i64 3), (.int .i64 7), (.int .i64 9), (.int .i64 10), (.int .i64 200), (.int .i64 254), (.int .i64 255)] 3 w__6 fun a_t22 w__7 =>
CallT (.o (.lf (.i .i64))) P0 31 [(.pointer r), (.slice (some a_t22) 10 10)] w__7 fun (t23 : Int) w__8 =>
CallT (.o (.lf (.i .i64))) P0 13 [(.pointer r), (.int .i64 3)] w__8 fun (t25 : Int) w__9 =>
Nw (zc P0 40) 40 w__9 fun a_x w__10 =>
StA P0 a_x [(.int .i64 t17), (.int .i64 (IntKind.wrap .i64 (12 + t19))), (.int .i64 t23), (.int .i64 t25), (.int .i64 0)] w__10 fun w__11 =>
Ld (.i .i64) (Addr.add a_x 3) w__11 fun (t28 : Int) w__12 =>
(((t28 : Int) == 2) = true → Nw #[(.int .i64 0), (.int .i64 1), (.int .i64 2), (.int .i64 3), (.int .i64 7), (.int .i64 9), (.int .i64 4294967295)] 3 w__12 fun a_t31 w__13 =>
CallT (.o (.lf (.i .i64))) P0 31 [(.pointer r), (.slice (some a_t31) 7 7)] w__13 fun (t32 : Int) w__14 =>
St (Addr.add a_x 4) (.int .i64 t32) w__14 fun w__15 =>
LdA (R 5 (.i .i64)) a_x w__15 fun (t35 : Tup (R 5 (.i .i64))) w__16 =>
Nw #[(.int .i64 t35.1), (.int .i64 t35.2.1), (.int .i64 t35.2.2.1), (.int .i64 t35.2.2.2.1), (.int .i64 t35.2.2.2.2.1)] 40 w__16 fun a_t36 w__17 =>
RunT (.o (.lf .sl)) P0 (Builtin.append_ #[23, 23] 23 #[out.v, (.slice (some a_t36) 1 1)]) w__17 fun (t37 : Sl) w__18 =>
(I t37 (IntKind.wrap .i64 (n - 1)) w__18 ∧ M t37 (IntKind.wrap .i64 (n - 1)) w__18 < M out n w__3)) ∧
(((t28 : Int) == 2) = false → LdA (R 5 (.i .i64)) a_x w__12 fun (t35_1 : Tup (R 5 (.i .i64))) w__19 =>
Nw #[(.int .i64 t35_1.1), (.int .i64 t35_1.2.1), (.int .i64 t35_1.2.2.1), (.int .i64 t35_1.2.2.2.1), (.int .i64 t35_1.2.2.2.2.1)] 40 w__19 fun a_t36_1 w__20 =>
RunT (.o (.lf .sl)) P0 (Builtin.append_ #[23, 23] 23 #[out.v, (.slice (some a_t36_1) 1 1)]) w__20 fun (t37_1 : Sl) w__21 =>
(I t37_1 (IntKind.wrap .i64 (n - 1)) w__21 ∧ M t37_1 (IntKind.wrap .i64 (n - 1)) w__21 < M out n w__3))) ∧
((decide ((n : Int) > 0)) = false → ∃ J : Bool → World → Prop,
(((decide ((((out.n : Nat) : Int) : Int) > 0)) = true → CallT (.o (.lf (.i .i64))) P0 13 [(.pointer r), (.int .i64 12)] w__3 fun (t43 : Int) w__22 =>
J ((t43 : Int) == 0) w__22) ∧
((decide ((((out.n : Nat) : Int) : Int) > 0)) = false → J false w__3)) ∧
(∀ (t45 : Bool) w__23, J t45 w__23 → ∀ _ : Nat → Value,
(t45 = true → CallT (.o (.lf (.i .i64))) P0 13 [(.pointer r), (.int .i64 ((out.n : Nat) : Int))] w__23 fun (t49 : Int) w__24 =>
CallT (.o (.lf (.i .i64))) P0 13 [(.pointer r), (.int .i64 4)] w__24 fun (t51 : Int) w__25 =>
(((t51 : Int) == 0) = true → Nw #[(.int .i64 (-1)), (.int .i64 12)] 3 w__25 fun a_t61 w__26 =>
CallT (.o (.lf (.i .i64))) P0 31 [(.pointer r), (.slice (some a_t61) 2 2)] w__26 fun (t62 : Int) w__27 =>
Ix out.a out.n t49 5 w__27 fun a_t63 w__28 =>
St (Addr.add a_t63 0) (.int .i64 t62) w__28 fun w__29 =>
K out w__29) ∧
(((t51 : Int) == 0) = false → (((t51 : Int) == 1) = true → Nw #[(.int .i64 (-1)), (.int .i64 256)] 3 w__25 fun a_t70 w__30 =>
CallT (.o (.lf (.i .i64))) P0 31 [(.pointer r), (.slice (some a_t70) 2 2)] w__30 fun (t71 : Int) w__31 =>
Ix out.a out.n t49 5 w__31 fun a_t72 w__32 =>
St (Addr.add a_t72 2) (.int .i64 t71) w__32 fun w__33 =>
K out w__33) ∧
(((t51 : Int) == 1) = false → (((t51 : Int) == 2) = true → Nw #[(.int .i64 11), (.int .i64 16)] 3 w__25 fun a_t79 w__34 =>
CallT (.o (.lf (.i .i64))) P0 31 [(.pointer r), (.slice (some a_t79) 2 2)] w__34 fun (t80 : Int) w__35 =>
Ix out.a out.n t49 5 w__35 fun a_t81 w__36 =>
St (Addr.add a_t81 1) (.int .i64 t80) w__36 fun w__37 =>
K out w__37) ∧
(((t51 : Int) == 2) = false → Ix out.a out.n t49 5 w__25 fun a_t54 w__38 =>
St (Addr.add a_t54 4) (.int .i64 5) w__38 fun w__39 =>
K out w__39)))) ∧
(t45 = false → K out w__23))))
theorem spec.l20Rules.ok {r : Option Addr} {w : World} {K : Sl → World → Prop} (h : spec.l20Rules.vc r w K) : CallT (.o (.lf .sl)) P0 20 [(.pointer r)] w K :=
  call_of Tryz.func20 rfl rfl (pl := spec.l20Rules.pl) (show VC P0 Tryz.f20 spec.l20Rules.pl (.o (.lf .sl)) [(.pointer r)] w K noP from Eq.mp (by kernel_rfl) h)
/- spec.l20Few -/
def spec.l20Few.pl : Pl := (.s (.r (D 1)) (.s (.r [.d, (.c (.o (.lf .sl))), .d]) (.s (.s (.r (D 3)) (.c (.s (.r [.d, (.t (.o (.lf .sl))), .d]) .z) .z)) (.s (.r (D 2)) .z))))
def spec.l20Few.vc (r : Option Addr) (w : World) (K : Sl → World → Prop) : Prop :=
CallT (.o (.lf .sl)) P0 20 [(.pointer r)] w fun (t5 : Sl) w_ =>
((decide ((((t5.n : Nat) : Int) : Int) > 3)) = true → RunT (.o (.lf .sl)) P0 (Instr.sliceAt 23 t5.v none (some (.int .i64 3)) none) w_ fun (t10 : Sl) w__1 =>
K t10 w__1) ∧
((decide ((((t5.n : Nat) : Int) : Int) > 3)) = false → K t5 w_)
theorem spec.l20Few.ok {r : Option Addr} {w : World} {K : Sl → World → Prop} (h : spec.l20Few.vc r w K) : CallT (.o (.lf .sl)) P0 12 [(.pointer r)] w K :=
  call_of Tryz.func12 rfl rfl (pl := spec.l20Few.pl) (show VC P0 Tryz.f12 spec.l20Few.pl (.o (.lf .sl)) [(.pointer r)] w K noP from Eq.mp (by kernel_rfl) h)
/- spec.DrawSameFind -/
def spec.DrawSameFind.pl : Pl := (.s (.r (D 2)) (.s (.r [.d, (.c (.o (.lf .p))), .d]) (.s (.r [.d, (.c (.o (.lf .sl))), .d]) (.s (.s (.r [.d, (.c (.o (.lf (.i .i64))))]) (.b (.s (.r (D 2)) (.c (.s (.r [.d, .d, (.c (.o (.lf .sl))), .d, .d]) .z) (.s (.r (D 2)) (.c (.s (.r [.d, .d, .d, (.t (.o (.lf .sl))), .d, (.c (.o (.lf .sl))), (.t (.o (.lf .sl))), .d, .d]) .z) (.s (.r (D 2)) (.c (.s (.r (D 3)) (.c (.s (.g [(.q, []), ((.g (.o (.lf .sl)) .d), []), (.q, []), ((.g (.o (.lf .sl)) (.t (.o (.lf .sl)))), []), ((.g (.o (.lf .sl)) (.t (.o (.lf .sl)))), [1, 3]), (.q, []), ((.g (.o (.lf .ad)) .d), []), ((.g (.o (.ag (R 5 (.i .i64)))) (.l (.ag (R 5 (.i .i64))))), [6]), ((.g (.o (.lf .sl)) .d), [7]), ((.g (.o (.lf .sl)) (.t (.o (.lf .sl)))), [4, 8]), (.q, []), (.q, [9])] []) .z) .z)) .z)))))))) (.s (.r [.d, .d, (.c (.o (.lf .sl))), .d, .d]) .z)))))
def spec.DrawSameFind.vc (code : Sl) (w : World) (K : (Sl) × (Sl) × Unit → World → Prop) : Prop :=
CallT (.o (.lf .p)) P0 11 [code.v] w fun (t7 : Option Addr) w_ =>
CallT (.o (.lf .sl)) P0 12 [(.pointer t7)] w_ fun (t9 : Sl) w__1 =>
CallT (.o (.lf (.i .i64))) P0 13 [(.pointer t7), (.int .i64 4)] w__1 fun (t11 : Int) w__2 =>
(((t11 : Int) == 0) = true → CallT (.o (.lf .sl)) P0 14 [t9.v] w__2 fun (t16 : Sl) w__3 =>
K (t9, (t16, ())) w__3) ∧
(((t11 : Int) == 0) = false → (((t11 : Int) == 1) = true → Nw #[] 40 w__2 fun a_t20 w__4 =>
RunT (.o (.lf .sl)) P0 (Builtin.append_ #[23, 23] 23 #[(.slice (some a_t20) 0 0), t9.v]) w__4 fun (t22 : Sl) w__5 =>
CallT (.o (.lf .sl)) P0 12 [(.pointer t7)] w__5 fun (t24 : Sl) w__6 =>
RunT (.o (.lf .sl)) P0 (Builtin.append_ #[23, 23] 23 #[t22.v, t24.v]) w__6 fun (t25 : Sl) w__7 =>
K (t9, (t25, ())) w__7) ∧
(((t11 : Int) == 1) = false → (((t11 : Int) == 2) = true → ((decide ((((t9.n : Nat) : Int) : Int) > 1)) = true → ∃ Sp : World → World → Prop, SpOk Sp w__2 ∧
∃ G_t32 : Sl → World → Prop, Kept Sp G_t32 ∧
∃ G_t34 : Sl → World → Prop, Kept Sp G_t34 ∧
∃ G_t35 : Sl → World → Prop, Kept Sp G_t35 ∧
∃ G_t37 : Addr → World → Prop, Kept Sp G_t37 ∧
∃ G_t38 : Tup (R 5 (.i .i64)) → World → Prop, Kept Sp G_t38 ∧
∃ G_t39 : Sl → World → Prop, Kept Sp G_t39 ∧
∃ G_t40 : Sl → World → Prop, Kept Sp G_t40 ∧
(∀ w__8, Sp w__2 w__8 → Nw #[] 40 w__8 fun a_t32 w__9 =>
GK (.o (.lf .sl)) Sp w__8 G_t32 (.slice (some a_t32) 0 0) w__9) ∧
∀ (t32 : Sl), (∀ w__10, Sp w__2 w__10 → RunT (.o (.lf .sl)) P0 (Instr.sliceAt 23 t9.v (some (.int .i64 1)) none none) w__10 fun (t34 : Sl) w__11 =>
GK (.o (.lf .sl)) Sp w__10 G_t34 t34.v w__11) ∧
∀ (t34_1 : Sl), (∀ w__12, Sp w__2 w__12 → G_t32 t32 w__12 → G_t34 t34_1 w__12 → RunT (.o (.lf .sl)) P0 (Builtin.append_ #[23, 23] 23 #[t32.v, t34_1.v]) w__12 fun (t35 : Sl) w__13 =>
GK (.o (.lf .sl)) Sp w__12 G_t35 t35.v w__13) ∧
∀ (t35_1 : Sl), (∀ w__14, Sp w__2 w__14 → Ix t9.a t9.n 0 5 w__14 fun a_t37 w__15 =>
GK (.o (.lf .ad)) Sp w__14 G_t37 (.pointer (some a_t37)) w__15) ∧
∀ (t37 : Addr), (∀ w__16, Sp w__2 w__16 → G_t37 t37 w__16 → LdA (R 5 (.i .i64)) t37 w__16 fun (t38 : Tup (R 5 (.i .i64))) w__17 =>
GK (.o (.ag (R 5 (.i .i64)))) Sp w__16 G_t38 (.agg (Tup.cells (R 5 (.i .i64)) t38).toArray) w__17) ∧
∀ (t38_1 : Tup (R 5 (.i .i64))), (∀ w__18, Sp w__2 w__18 → G_t38 t38_1 w__18 → Nw #[(.int .i64 t38_1.1), (.int .i64 t38_1.2.1), (.int .i64 t38_1.2.2.1), (.int .i64 t38_1.2.2.2.1), (.int .i64 t38_1.2.2.2.2.1)] 40 w__18 fun a_t39 w__19 =>
GK (.o (.lf .sl)) Sp w__18 G_t39 (.slice (some a_t39) 1 1) w__19) ∧
∀ (t39 : Sl), (∀ w__20, Sp w__2 w__20 → G_t35 t35_1 w__20 → G_t39 t39 w__20 → RunT (.o (.lf .sl)) P0 (Builtin.append_ #[23, 23] 23 #[t35_1.v, t39.v]) w__20 fun (t40 : Sl) w__21 =>
GK (.o (.lf .sl)) Sp w__20 G_t40 t40.v w__21) ∧
∀ (t40_1 : Sl), ∀ w__22, Sp w__2 w__22 → G_t32 t32 w__22 → G_t34 t34_1 w__22 → G_t35 t35_1 w__22 → G_t37 t37 w__22 → G_t38 t38_1 w__22 → G_t39 t39 w__22 → G_t40 t40_1 w__22 → 
K (t9, (t40_1, ())) w__22) ∧
((decide ((((t9.n : Nat) : Int) : Int) > 1)) = false → CallT (.o (.lf .sl)) P0 12 [(.pointer t7)] w__2 fun (t43 : Sl) w__23 =>
K (t9, (t43, ())) w__23)) ∧
(((t11 : Int) == 2) = false → CallT (.o (.lf .sl)) P0 12 [(.pointer t7)] w__2 fun (t43_1 : Sl) w__24 =>
K (t9, (t43_1, ())) w__24)))
theorem spec.DrawSameFind.ok {code : Sl} {w : World} {K : (Sl) × (Sl) × Unit → World → Prop} (h : spec.DrawSameFind.vc code w K) : CallT (.n [(.lf .sl), (.lf .sl)]) P0 5 [code.v] w K :=
  call_of Tryz.func5 rfl rfl (pl := spec.DrawSameFind.pl) (show VC P0 Tryz.f5 spec.DrawSameFind.pl (.n [(.lf .sl), (.lf .sl)]) [code.v] w K noP from Eq.mp (by kernel_rfl) h)
/- spec.l2Mask -/
def spec.l2Mask.pl : Pl := (.s (.r (D 1)) (.s (.r (D 1)) (.s (.b (.l [(3, (.i .i64))] (.s (.s (.r (D 3)) (.c .z .z)) (.b (.r (D 4)))))) (.s (.r (D 2)) .z))))
def spec.l2Mask.vc (n : Int) (w : World) (K : Int → World → Prop) : Prop :=
∃ (I : Int → World → Prop) (M : Int → World → Nat),
I 0 w ∧
(∀ (m : Int) w_, I m w_ → ∀ _ : Nat → Value,
((decide ((m : Int) < n)) = true → (I (IntKind.wrap .i64 ((IntKind.wrap .i64 (m * 2)) + 1)) w_ ∧ M (IntKind.wrap .i64 ((IntKind.wrap .i64 (m * 2)) + 1)) w_ < M m w_)) ∧
((decide ((m : Int) < n)) = false → K m w_))
theorem spec.l2Mask.ok {n : Int} {w : World} {K : Int → World → Prop} (h : spec.l2Mask.vc n w K) : CallT (.o (.lf (.i .i64))) P0 72 [(.int .i64 n)] w K :=
  call_of Tryz.func72 rfl rfl (pl := spec.l2Mask.pl) (show VC P0 Tryz.f72 spec.l2Mask.pl (.o (.lf (.i .i64))) [(.int .i64 n)] w K noP from Eq.mp (by kernel_rfl) h)
/- spec.l2Bits -/
def spec.l2Bits.pl : Pl := (.s (.r (D 2)) (.s (.r [.d, .d, .d, (.c (.o (.lf (.i .i64)))), .d]) (.s (.r [.d, (.c (.o (.lf (.i .i64)))), .d, .d, .d, .d, .d, .d]) .z)))
def spec.l2Bits.vc (low : Int) (high : Int) (w : World) (K : (Int) × (Int) × Unit → World → Prop) : Prop :=
CallT (.o (.lf (.i .i64))) P0 72 [(.int .i64 (iXor .i64 low high))] w fun (t10 : Int) w_ =>
CallT (.o (.lf (.i .i64))) P0 41 [] w_ fun (t12 : Int) w__1 =>
K ((iAnd .i64 low (iXor .i64 t12 t10)), (t10, ())) w__1
theorem spec.l2Bits.ok {low : Int} {high : Int} {w : World} {K : (Int) × (Int) × Unit → World → Prop} (h : spec.l2Bits.vc low high w K) : CallT (.n [(.lf (.i .i64)), (.lf (.i .i64))]) P0 61 [(.int .i64 low), (.int .i64 high)] w K :=
  call_of Tryz.func61 rfl rfl (pl := spec.l2Bits.pl) (show VC P0 Tryz.f61 spec.l2Bits.pl (.n [(.lf (.i .i64)), (.lf (.i .i64))]) [(.int .i64 low), (.int .i64 high)] w K noP from Eq.mp (by kernel_rfl) h)
/- spec.l2Tidy -/
def spec.l2Tidy.pl : Pl := (.s (.r (D 2)) (.s (.r [.d, (.l (.lf (.i .i64))), .d, (.l (.lf (.i .i64))), (.c (.n [(.lf (.i .i64)), (.lf (.i .i64))])), .d, .d, .d, .d, .d]) (.s (.r [.d, (.l (.lf (.i .i64))), .d, .d, .d, .d]) (.s (.g [(.q, []), ((.g (.o (.lf (.i .i64))) (.l (.lf (.i .i64)))), []), (.q, []), (.q, [1]), ((.g (.o (.lf (.i .i64))) (.c (.o (.lf (.i .i64))))), []), (.q, []), ((.g (.o (.lf (.i .i64))) (.l (.lf (.i .i64)))), []), (.q, [4, 6]), (.q, [1, 4, 6]), (.q, [])] [.d]) (.j [] (.s (.r [.d, (.l (.lf (.i .i64))), .d, (.l (.lf (.i .i64))), .d]) (.c (.r [.d, (.l (.lf (.i .i64))), .d, .d]) .z)) (.s (.s (.r [.d, (.l (.lf (.i .i64))), .d, (.l (.lf (.i .i64))), .d, .d, (.l (.lf (.i .i64))), .d]) (.c (.r [.d, (.l (.lf (.i .i64))), .d, (.l (.lf (.i .i64))), .d, .d, .d]) .z)) (.s (.r [(.l (.ag (R 4 (.i .i64)))), .d]) .z)))))))
def spec.l2Tidy.vc (r : Tup (R 4 (.i .i64))) (w : World) (K : Tup (R 4 (.i .i64)) → World → Prop) : Prop :=
Nw (Tup.cells (R 4 (.i .i64)) r).toArray 54 w fun a_r w_ =>
Nw (zc P0 54) 54 w_ fun a_t2 w__1 =>
Ld (.i .i64) (Addr.add a_r 0) w__1 fun (t7 : Int) w__2 =>
Ld (.i .i64) (Addr.add a_r 1) w__2 fun (t9 : Int) w__3 =>
CallT (.n [(.lf (.i .i64)), (.lf (.i .i64))]) P0 61 [(.int .i64 t7), (.int .i64 t9)] w__3 fun (t10 : (Int) × (Int) × Unit) w__4 =>
Ld (.i .i64) (Addr.add a_r 3) w__4 fun (t14 : Int) w__5 =>
St (Addr.add a_r 3) (.int .i64 (iAnd .i64 t14 t10.2.1)) w__5 fun w__6 =>
∃ Sp : World → World → Prop, SpOk Sp w__6 ∧
∃ G_t19 : Int → World → Prop, Kept Sp G_t19 ∧
∃ G_t22 : Int → World → Prop, Kept Sp G_t22 ∧
∃ G_t24 : Int → World → Prop, Kept Sp G_t24 ∧
(∀ w__7, Sp w__6 w__7 → Ld (.i .i64) (Addr.add a_r 2) w__7 fun (t19 : Int) w__8 =>
GK (.o (.lf (.i .i64))) Sp w__7 G_t19 (.int .i64 t19) w__8) ∧
∀ (t19_1 : Int), (∀ w__9, Sp w__6 w__9 → CallT (.o (.lf (.i .i64))) P0 41 [] w__9 fun (t22 : Int) w__10 =>
GK (.o (.lf (.i .i64))) Sp w__9 G_t22 (.int .i64 t22) w__10) ∧
∀ (t22_1 : Int), (∀ w__11, Sp w__6 w__11 → Ld (.i .i64) (Addr.add a_r 3) w__11 fun (t24 : Int) w__12 =>
GK (.o (.lf (.i .i64))) Sp w__11 G_t24 (.int .i64 t24) w__12) ∧
∀ (t24_1 : Int), ∀ w__13, Sp w__6 w__13 → G_t19 t19_1 w__13 → G_t22 t22_1 w__13 → G_t24 t24_1 w__13 → 
St (Addr.add a_r 2) (.int .i64 (iAnd .i64 (iOr .i64 t19_1 t10.1) (iXor .i64 t22_1 t24_1))) w__13 fun w__14 =>
∃ J : World → Prop,
(Ld (.i .i64) (Addr.add a_r 2) w__14 fun (t29 : Int) w__15 =>
Ld (.i .i64) (Addr.add a_r 0) w__15 fun (t31 : Int) w__16 =>
((decide ((t29 : Int) > t31)) = true → Ld (.i .i64) (Addr.add a_r 2) w__16 fun (t34 : Int) w__17 =>
St (Addr.add a_r 0) (.int .i64 t34) w__17 fun w__18 =>
J w__18) ∧
((decide ((t29 : Int) > t31)) = false → J w__16)) ∧
(∀  w__19, J w__19 → ∀ _ : Nat → Value,
Ld (.i .i64) (Addr.add a_r 2) w__19 fun (t37 : Int) w__20 =>
Ld (.i .i64) (Addr.add a_r 3) w__20 fun (t39 : Int) w__21 =>
Ld (.i .i64) (Addr.add a_r 1) w__21 fun (t42 : Int) w__22 =>
((decide (((iOr .i64 t37 t39) : Int) < t42)) = true → Ld (.i .i64) (Addr.add a_r 2) w__22 fun (t45 : Int) w__23 =>
Ld (.i .i64) (Addr.add a_r 3) w__23 fun (t47 : Int) w__24 =>
St (Addr.add a_r 1) (.int .i64 (iOr .i64 t45 t47)) w__24 fun w__25 =>
LdA (R 4 (.i .i64)) a_r w__25 fun (t50 : Tup (R 4 (.i .i64))) w__26 =>
StA P0 a_t2 (Tup.cells (R 4 (.i .i64)) t50) w__26 fun w__27 =>
LdA (R 4 (.i .i64)) a_t2 w__27 fun r_1 w__28 =>
K r_1 w__27) ∧
((decide (((iOr .i64 t37 t39) : Int) < t42)) = false → LdA (R 4 (.i .i64)) a_r w__22 fun (t50_1 : Tup (R 4 (.i .i64))) w__29 =>
StA P0 a_t2 (Tup.cells (R 4 (.i .i64)) t50_1) w__29 fun w__30 =>
LdA (R 4 (.i .i64)) a_t2 w__30 fun r_2 w__31 =>
K r_2 w__30))
theorem spec.l2Tidy.ok {r : Tup (R 4 (.i .i64))} {w : World} {K : Tup (R 4 (.i .i64)) → World → Prop} (h : spec.l2Tidy.vc r w K) : CallT (.o (.ag (R 4 (.i .i64)))) P0 40 [(.agg (Tup.cells (R 4 (.i .i64)) r).toArray)] w K :=
  call_of Tryz.func40 rfl rfl (pl := spec.l2Tidy.pl) (show VC P0 Tryz.f40 spec.l2Tidy.pl (.o (.ag (R 4 (.i .i64)))) [(.agg (Tup.cells (R 4 (.i .i64)) r).toArray)] w K noP from Eq.mp (by kernel_rfl) h)
/- spec.l2One -/
def spec.l2One.pl : Pl := (.s (.r (D 1)) (.s (.r (D 5)) .z))
def spec.l2One.vc (n : Int) (w : World) (K : Tup (R 4 (.i .i64)) → World → Prop) : Prop :=
Nw (zc P0 54) 54 w fun a_t2 w_ =>
StA P0 a_t2 [(.int .i64 n), (.int .i64 n), (.int .i64 n), (.int .i64 0)] w_ fun w__1 =>
LdA (R 4 (.i .i64)) a_t2 w__1 fun r w__2 =>
K r w__1
theorem spec.l2One.ok {n : Int} {w : World} {K : Tup (R 4 (.i .i64)) → World → Prop} (h : spec.l2One.vc n w K) : CallT (.o (.ag (R 4 (.i .i64)))) P0 43 [(.int .i64 n)] w K :=
  call_of Tryz.func43 rfl rfl (pl := spec.l2One.pl) (show VC P0 Tryz.f43 spec.l2One.pl (.o (.ag (R 4 (.i .i64)))) [(.int .i64 n)] w K noP from Eq.mp (by kernel_rfl) h)
/- spec.l2Over -/
def spec.l2Over.pl : Pl := (.s (.r (D 1)) (.s (.s (.r (D 2)) (.c (.s (.r [(.c (.o (.lf (.i .i64)))), .d]) .z) .z)) (.s (.g [((.g (.o (.lf (.i .i64))) (.c (.o (.lf (.i .i64))))), []), (.q, []), (.q, []), ((.g (.o (.lf (.i .i64))) .d), []), (.q, [3]), ((.g (.o (.lf (.i .i64))) (.c (.o (.lf (.i .i64))))), [3]), (.q, [0, 5]), (.q, [0, 5])] []) .z)))
def spec.l2Over.vc (bit : Int) (w : World) (K : Int → World → Prop) : Prop :=
(((bit : Int) == 0) = true → CallT (.o (.lf (.i .i64))) P0 41 [] w fun (t5 : Int) w_ =>
K t5 w_) ∧
(((bit : Int) == 0) = false → ∃ Sp : World → World → Prop, SpOk Sp w ∧
∃ G_t6 : Int → World → Prop, Kept Sp G_t6 ∧
∃ G_t9 : Int → World → Prop, Kept Sp G_t9 ∧
∃ G_t11 : Int → World → Prop, Kept Sp G_t11 ∧
(∀ w__1, Sp w w__1 → CallT (.o (.lf (.i .i64))) P0 41 [] w__1 fun (t6 : Int) w__2 =>
GK (.o (.lf (.i .i64))) Sp w__1 G_t6 (.int .i64 t6) w__2) ∧
∀ (t6_1 : Int), (∀ w__3, Sp w w__3 → (0 : Int) ≤ (IntKind.wrap .i64 (bit - 1)) ∧ GK (.o (.lf (.i .i64))) Sp w__3 G_t9 (.int .i64 (IntKind.wrap .i64 (1 * 2 ^ (min (Int.toNat (IntKind.wrap .i64 (bit - 1))) (IntKind.bits .i64))))) w__3) ∧
∀ (t9 : Int), (∀ w__4, Sp w w__4 → G_t9 t9 w__4 → CallT (.o (.lf (.i .i64))) P0 72 [(.int .i64 (IntKind.wrap .i64 (t9 - 1)))] w__4 fun (t11 : Int) w__5 =>
GK (.o (.lf (.i .i64))) Sp w__4 G_t11 (.int .i64 t11) w__5) ∧
∀ (t11_1 : Int), ∀ w__6, Sp w w__6 → G_t6 t6_1 w__6 → G_t9 t9 w__6 → G_t11 t11_1 w__6 → 
K (iXor .i64 t6_1 t11_1) w__6)
theorem spec.l2Over.ok {bit : Int} {w : World} {K : Int → World → Prop} (h : spec.l2Over.vc bit w K) : CallT (.o (.lf (.i .i64))) P0 114 [(.int .i64 bit)] w K :=
  call_of Tryz.func114 rfl rfl (pl := spec.l2Over.pl) (show VC P0 Tryz.f114 spec.l2Over.pl (.o (.lf (.i .i64))) [(.int .i64 bit)] w K noP from Eq.mp (by kernel_rfl) h)
/- spec.l2Next -/
def spec.l2Next.pl : Pl := (.s (.r (D 2)) (.s (.r (D 1)) (.s (.s (.r (D 1)) (.b (.l [(5, (.i .i64)), (6, (.i .i64))] (.s (.s (.r (D 2)) (.c .z .z)) (.j [(5, (.i .i64))] (.b (.s (.g [((.g (.o (.lf (.i .i64))) (.c (.o (.lf (.i .i64))))), []), (.q, []), ((.g (.o (.lf (.i .i64))) .d), []), (.q, [2]), ((.g (.o (.lf (.i .i64))) (.c (.o (.lf (.i .i64))))), [2]), (.q, [0, 4]), (.q, [0, 4])] []) (.s (.r (D 4)) (.j [(8, (.i .i64))] (.s (.r (D 2)) (.c (.s (.s (.r (D 6)) (.c .z .z)) (.r (D 6))) .z)) (.s (.s (.r [.d, (.c (.o (.lf (.i .i64)))), .d, (.l (.lf (.i .i64))), .d, .d, .d, (.c (.o (.lf (.i .i64)))), .d, .d, (.l (.lf (.i .i64))), .d, (.c (.o (.lf (.i .i64)))), .d, .d]) (.c .z .z)) (.s (.r [.d, .d, (.c (.o (.lf (.i .i64)))), .d, .d, (.l (.lf (.i .i64))), (.c (.o (.lf (.i .i64)))), .d, (.c (.o (.lf (.i .i64)))), .d, .d, .d, .d]) (.s (.r [.d, .d, (.sp .d), .d, .d, .d, .d]) (.c (.r (D 2)) .z)))))))) (.r (D 3))))))) (.s (.r (D 2)) .z))))
def spec.l2Next.vc (r : Tup (R 4 (.i .i64))) (n : Int) (w : World) (K : Int → World → Prop) : Prop :=
Nw (Tup.cells (R 4 (.i .i64)) r).toArray 54 w fun a_r w_ =>
∃ (I : Int → Int → World → Prop) (M : Int → Int → World → Nat),
I (-1) 0 w_ ∧
(∀ (best : Int) (bit : Int) w__1, I best bit w__1 → ∀ _ : Nat → Value,
((decide ((bit : Int) ≤ 32)) = true → ∃ J : Int → World → Prop,
(∃ Sp : World → World → Prop, SpOk Sp w__1 ∧
∃ G_t14 : Int → World → Prop, Kept Sp G_t14 ∧
∃ G_t16 : Int → World → Prop, Kept Sp G_t16 ∧
∃ G_t18 : Int → World → Prop, Kept Sp G_t18 ∧
(∀ w__2, Sp w__1 w__2 → CallT (.o (.lf (.i .i64))) P0 41 [] w__2 fun (t14 : Int) w__3 =>
GK (.o (.lf (.i .i64))) Sp w__2 G_t14 (.int .i64 t14) w__3) ∧
∀ (t14_1 : Int), (∀ w__4, Sp w__1 w__4 → (0 : Int) ≤ bit ∧ GK (.o (.lf (.i .i64))) Sp w__4 G_t16 (.int .i64 (IntKind.wrap .i64 (1 * 2 ^ (min (Int.toNat bit) (IntKind.bits .i64))))) w__4) ∧
∀ (t16 : Int), (∀ w__5, Sp w__1 w__5 → G_t16 t16 w__5 → CallT (.o (.lf (.i .i64))) P0 72 [(.int .i64 (IntKind.wrap .i64 (t16 - 1)))] w__5 fun (t18 : Int) w__6 =>
GK (.o (.lf (.i .i64))) Sp w__5 G_t18 (.int .i64 t18) w__6) ∧
∀ (t18_1 : Int), ∀ w__7, Sp w__1 w__7 → G_t14 t14_1 w__7 → G_t16 t16 w__7 → G_t18 t18_1 w__7 → 
∃ J_1 : Int → World → Prop,
(((decide ((bit : Int) > 0)) = true → (0 : Int) ≤ (IntKind.wrap .i64 (bit - 1)) ∧ ((((iAnd .i64 (Int.fdiv n (2 ^ (min (Int.toNat (IntKind.wrap .i64 (bit - 1))) (IntKind.bits .i64)))) 1) : Int) == 1) = true → J best w__7) ∧
((((iAnd .i64 (Int.fdiv n (2 ^ (min (Int.toNat (IntKind.wrap .i64 (bit - 1))) (IntKind.bits .i64)))) 1) : Int) == 1) = false → (0 : Int) ≤ (IntKind.wrap .i64 (bit - 1)) ∧ J_1 (iOr .i64 (iAnd .i64 n (iXor .i64 t14_1 t18_1)) (IntKind.wrap .i64 (1 * 2 ^ (min (Int.toNat (IntKind.wrap .i64 (bit - 1))) (IntKind.bits .i64))))) w__7)) ∧
((decide ((bit : Int) > 0)) = false → J_1 (iAnd .i64 n (iXor .i64 t14_1 t18_1)) w__7)) ∧
(∀ (x : Int) w__8, J_1 x w__8 → ∀ _ : Nat → Value,
QCl (.o (.lf (.i .i64))) P0 41 [] (fun w' => Below (World.heap w__8).size w__8 w') fun (t37 : Int) =>
QLd (.i .i64) (Addr.add a_r 3) (fun w' => Below (World.heap w__8).size w__8 w') fun (t39 : Int) =>
QCl (.o (.lf (.i .i64))) P0 114 [(.int .i64 bit)] (fun w' => Below (World.heap w__8).size w__8 w') fun (t43 : Int) =>
QLd (.i .i64) (Addr.add a_r 2) (fun w' => Below (World.heap w__8).size w__8 w') fun (t46 : Int) =>
QCl (.o (.lf (.i .i64))) P0 114 [(.int .i64 bit)] (fun w' => Below (World.heap w__8).size w__8 w') fun (t48 : Int) =>
∀ w__9, Below (World.heap w__8).size w__8 w__9 →
((((iAnd .i64 (iAnd .i64 x (iXor .i64 t37 t39)) t43) : Int) != (iAnd .i64 t46 t48)) = true → J best w__9) ∧
((((iAnd .i64 (iAnd .i64 x (iXor .i64 t37 t39)) t43) : Int) != (iAnd .i64 t46 t48)) = false → QCl (.o (.lf (.i .i64))) P0 114 [(.int .i64 bit)] (fun w' => Below (World.heap w__9).size w__9 w') fun (t53 : Int) =>
QLd (.i .i64) (Addr.add a_r 2) (fun w' => Below (World.heap w__9).size w__9 w') fun (t56 : Int) =>
QCl (.o (.lf (.i .i64))) P0 41 [] (fun w' => Below (World.heap w__9).size w__9 w') fun (t57 : Int) =>
QCl (.o (.lf (.i .i64))) P0 114 [(.int .i64 bit)] (fun w' => Below (World.heap w__9).size w__9 w') fun (t59 : Int) =>
∀ w__10, Below (World.heap w__9).size w__9 w__10 →
((decide ((best : Int) < 0)) = true → J (iOr .i64 (iAnd .i64 x t53) (iAnd .i64 t56 (iXor .i64 t57 t59))) w__10) ∧
((decide ((best : Int) < 0)) = false → ((decide (((iOr .i64 (iAnd .i64 x t53) (iAnd .i64 t56 (iXor .i64 t57 t59))) : Int) < best)) = true → J (iOr .i64 (iAnd .i64 x t53) (iAnd .i64 t56 (iXor .i64 t57 t59))) w__10) ∧
((decide (((iOr .i64 (iAnd .i64 x t53) (iAnd .i64 t56 (iXor .i64 t57 t59))) : Int) < best)) = false → J best w__10))))) ∧
(∀ (best_1 : Int) w__11, J best_1 w__11 → ∀ _ : Nat → Value,
(I best_1 (IntKind.wrap .i64 (bit + 1)) w__11 ∧ M best_1 (IntKind.wrap .i64 (bit + 1)) w__11 < M best bit w__1))) ∧
((decide ((bit : Int) ≤ 32)) = false → K best w__1))
theorem spec.l2Next.ok {r : Tup (R 4 (.i .i64))} {n : Int} {w : World} {K : Int → World → Prop} (h : spec.l2Next.vc r n w K) : CallT (.o (.lf (.i .i64))) P0 94 [(.agg (Tup.cells (R 4 (.i .i64)) r).toArray), (.int .i64 n)] w K :=
  call_of Tryz.func94 rfl rfl (pl := spec.l2Next.pl) (show VC P0 Tryz.f94 spec.l2Next.pl (.o (.lf (.i .i64))) [(.agg (Tup.cells (R 4 (.i .i64)) r).toArray), (.int .i64 n)] w K noP from Eq.mp (by kernel_rfl) h)
/- spec.l2Some -/
def spec.l2Some.pl : Pl := (.s (.r (D 2)) (.s (.r [(.l (.ag (R 4 (.i .i64)))), .d, (.l (.lf (.i .i64))), (.c (.o (.lf (.i .i64)))), .d]) (.s (.r [.d, .d, (.sp .d), .d, .d, (.l (.lf (.i .i64))), .d, .d, .d]) .z)))
def spec.l2Some.vc (r : Tup (R 4 (.i .i64))) (w : World) (K : Bool → World → Prop) : Prop :=
Nw (Tup.cells (R 4 (.i .i64)) r).toArray 54 w fun a_r w_ =>
LdA (R 4 (.i .i64)) a_r w_ fun (t4 : Tup (R 4 (.i .i64))) w__1 =>
Ld (.i .i64) (Addr.add a_r 0) w__1 fun (t6 : Int) w__2 =>
CallT (.o (.lf (.i .i64))) P0 94 [(.agg (Tup.cells (R 4 (.i .i64)) t4).toArray), (.int .i64 t6)] w__2 fun (t7 : Int) w__3 =>
((decide ((t7 : Int) ≥ 0)) = true → Ld (.i .i64) (Addr.add a_r 1) w__3 fun (t13 : Int) w__4 =>
K (decide ((t7 : Int) ≤ t13)) w__4) ∧
((decide ((t7 : Int) ≥ 0)) = false → K false w__3)
theorem spec.l2Some.ok {r : Tup (R 4 (.i .i64))} {w : World} {K : Bool → World → Prop} (h : spec.l2Some.vc r w K) : CallT (.o (.lf .b)) P0 73 [(.agg (Tup.cells (R 4 (.i .i64)) r).toArray)] w K :=
  call_of Tryz.func73 rfl rfl (pl := spec.l2Some.pl) (show VC P0 Tryz.f73 spec.l2Some.pl (.o (.lf .b)) [(.agg (Tup.cells (R 4 (.i .i64)) r).toArray)] w K noP from Eq.mp (by kernel_rfl) h)
/- spec.l2Ends -/
def spec.l2Ends.pl : Pl := (.s (.r (D 1)) (.s (.r [.d, .d, (.c (.o (.lf (.i .i64)))), .d, (.c (.o (.ag (R 4 (.i .i64))))), .d]) .z))
def spec.l2Ends.vc (low : Int) (high : Int) (w : World) (K : Tup (R 4 (.i .i64)) → World → Prop) : Prop :=
Nw (zc P0 54) 54 w fun a_t4 w_ =>
CallT (.o (.lf (.i .i64))) P0 41 [] w_ fun (t7 : Int) w__1 =>
CallT (.o (.ag (R 4 (.i .i64)))) P0 40 [(.agg #[(.int .i64 low), (.int .i64 high), (.int .i64 0), (.int .i64 t7)])] w__1 fun (t9 : Tup (R 4 (.i .i64))) w__2 =>
StA P0 a_t4 (Tup.cells (R 4 (.i .i64)) t9) w__2 fun w__3 =>
LdA (R 4 (.i .i64)) a_t4 w__3 fun r w__4 =>
K r w__3
theorem spec.l2Ends.ok {low : Int} {high : Int} {w : World} {K : Tup (R 4 (.i .i64)) → World → Prop} (h : spec.l2Ends.vc low high w K) : CallT (.o (.ag (R 4 (.i .i64)))) P0 25 [(.int .i64 low), (.int .i64 high)] w K :=
  call_of Tryz.func25 rfl rfl (pl := spec.l2Ends.pl) (show VC P0 Tryz.f25 spec.l2Ends.pl (.o (.ag (R 4 (.i .i64)))) [(.int .i64 low), (.int .i64 high)] w K noP from Eq.mp (by kernel_rfl) h)
/- spec.l2Meet -/
def spec.l2Meet.pl : Pl := (.s (.r (D 4)) (.s (.r [(.c (.o (.lf (.i .i64)))), .d, (.l (.lf (.i .i64))), .d, .d]) (.s (.s (.r [.d, (.c (.o (.lf (.i .i64)))), .d, (.l (.lf (.i .i64))), .d, .d, .d, (.l (.lf (.i .i64))), .d, (.l (.lf (.i .i64))), .d, .d, .d]) (.c (.s (.r (D 3)) .z) .z)) (.s (.r [.d, (.l (.lf (.i .i64))), .d, (.l (.lf (.i .i64))), .d, (.l (.lf (.i .i64))), .d, (.l (.lf (.i .i64))), .d, .d, (.l (.lf (.i .i64))), .d, (.l (.lf (.i .i64))), .d, .d, .d, .d]) (.j [] (.s (.r [.d, (.l (.lf (.i .i64))), .d, (.l (.lf (.i .i64))), .d]) (.c (.r [.d, (.l (.lf (.i .i64))), .d, .d]) .z)) (.j [] (.s (.r [.d, (.l (.lf (.i .i64))), .d, (.l (.lf (.i .i64))), .d]) (.c (.r [.d, (.l (.lf (.i .i64))), .d, .d]) .z)) (.s (.s (.r [.d, (.l (.lf (.i .i64))), .d, (.l (.lf (.i .i64))), .d, (.sp .d), (.l (.ag (R 4 (.i .i64)))), (.c (.o (.lf .b))), .d, .d]) (.c (.s (.r (D 3)) .z) .z)) (.s (.r [(.l (.ag (R 4 (.i .i64)))), (.c (.o (.ag (R 4 (.i .i64))))), .d, .d]) .z))))))))
def spec.l2Meet.vc (a : Tup (R 4 (.i .i64))) (b : Tup (R 4 (.i .i64))) (w : World) (K : (Tup (R 4 (.i .i64))) × (Bool) × Unit → World → Prop) : Prop :=
Nw (Tup.cells (R 4 (.i .i64)) a).toArray 54 w fun a_a w_ =>
Nw (Tup.cells (R 4 (.i .i64)) b).toArray 54 w_ fun a_b w__1 =>
Nw (zc P0 54) 54 w__1 fun a_t4 w__2 =>
QCl (.o (.lf (.i .i64))) P0 41 [] (fun w' => Below (World.heap w__2).size w__2 w') fun (t8 : Int) =>
QLd (.i .i64) (Addr.add a_a 3) (fun w' => Below (World.heap w__2).size w__2 w') fun (t10 : Int) =>
∀ w__3, Below (World.heap w__2).size w__2 w__3 →
QCl (.o (.lf (.i .i64))) P0 41 [] (fun w' => Below (World.heap w__3).size w__3 w') fun (t13 : Int) =>
QLd (.i .i64) (Addr.add a_b 3) (fun w' => Below (World.heap w__3).size w__3 w') fun (t15 : Int) =>
QLd (.i .i64) (Addr.add a_a 2) (fun w' => Below (World.heap w__3).size w__3 w') fun (t19 : Int) =>
QLd (.i .i64) (Addr.add a_b 2) (fun w' => Below (World.heap w__3).size w__3 w') fun (t21 : Int) =>
∀ w__4, Below (World.heap w__3).size w__3 w__4 →
((((iAnd .i64 (iAnd .i64 (iXor .i64 t8 t10) (iXor .i64 t13 t15)) (iXor .i64 t19 t21)) : Int) != 0) = true → StA P0 a_t4 [(.int .i64 1), (.int .i64 0), (.int .i64 0), (.int .i64 0)] w__4 fun w__5 =>
LdA (R 4 (.i .i64)) a_t4 w__5 fun r w__6 =>
K (r, (false, ())) w__5) ∧
((((iAnd .i64 (iAnd .i64 (iXor .i64 t8 t10) (iXor .i64 t13 t15)) (iXor .i64 t19 t21)) : Int) != 0) = false → Ld (.i .i64) (Addr.add a_a 0) w__4 fun (t27 : Int) w__7 =>
Ld (.i .i64) (Addr.add a_a 1) w__7 fun (t29 : Int) w__8 =>
Ld (.i .i64) (Addr.add a_a 2) w__8 fun (t31 : Int) w__9 =>
Ld (.i .i64) (Addr.add a_b 2) w__9 fun (t33 : Int) w__10 =>
Ld (.i .i64) (Addr.add a_a 3) w__10 fun (t36 : Int) w__11 =>
Ld (.i .i64) (Addr.add a_b 3) w__11 fun (t38 : Int) w__12 =>
Nw (zc P0 54) 54 w__12 fun a_out w__13 =>
StA P0 a_out [(.int .i64 t27), (.int .i64 t29), (.int .i64 (iOr .i64 t31 t33)), (.int .i64 (iAnd .i64 t36 t38))] w__13 fun w__14 =>
∃ J : World → Prop,
(Ld (.i .i64) (Addr.add a_b 0) w__14 fun (t42 : Int) w__15 =>
Ld (.i .i64) (Addr.add a_out 0) w__15 fun (t44 : Int) w__16 =>
((decide ((t42 : Int) > t44)) = true → Ld (.i .i64) (Addr.add a_b 0) w__16 fun (t47 : Int) w__17 =>
St (Addr.add a_out 0) (.int .i64 t47) w__17 fun w__18 =>
J w__18) ∧
((decide ((t42 : Int) > t44)) = false → J w__16)) ∧
(∀  w__19, J w__19 → ∀ _ : Nat → Value,
∃ J_1 : World → Prop,
(Ld (.i .i64) (Addr.add a_b 1) w__19 fun (t50 : Int) w__20 =>
Ld (.i .i64) (Addr.add a_out 1) w__20 fun (t52 : Int) w__21 =>
((decide ((t50 : Int) < t52)) = true → Ld (.i .i64) (Addr.add a_b 1) w__21 fun (t55 : Int) w__22 =>
St (Addr.add a_out 1) (.int .i64 t55) w__22 fun w__23 =>
J_1 w__23) ∧
((decide ((t50 : Int) < t52)) = false → J_1 w__21)) ∧
(∀  w__24, J_1 w__24 → ∀ _ : Nat → Value,
Ld (.i .i64) (Addr.add a_out 0) w__24 fun (t58 : Int) w__25 =>
Ld (.i .i64) (Addr.add a_out 1) w__25 fun (t60 : Int) w__26 =>
((decide ((t58 : Int) > t60)) = true → StA P0 a_t4 [(.int .i64 1), (.int .i64 0), (.int .i64 0), (.int .i64 0)] w__26 fun w__27 =>
LdA (R 4 (.i .i64)) a_t4 w__27 fun r_1 w__28 =>
K (r_1, (false, ())) w__27) ∧
((decide ((t58 : Int) > t60)) = false → LdA (R 4 (.i .i64)) a_out w__26 fun (t63 : Tup (R 4 (.i .i64))) w__29 =>
CallT (.o (.lf .b)) P0 73 [(.agg (Tup.cells (R 4 (.i .i64)) t63).toArray)] w__29 fun (t64 : Bool) w__30 =>
((!t64) = true → StA P0 a_t4 [(.int .i64 1), (.int .i64 0), (.int .i64 0), (.int .i64 0)] w__30 fun w__31 =>
LdA (R 4 (.i .i64)) a_t4 w__31 fun r_2 w__32 =>
K (r_2, (false, ())) w__31) ∧
((!t64) = false → LdA (R 4 (.i .i64)) a_out w__30 fun (t68 : Tup (R 4 (.i .i64))) w__33 =>
CallT (.o (.ag (R 4 (.i .i64)))) P0 40 [(.agg (Tup.cells (R 4 (.i .i64)) t68).toArray)] w__33 fun (t69 : Tup (R 4 (.i .i64))) w__34 =>
StA P0 a_t4 (Tup.cells (R 4 (.i .i64)) t69) w__34 fun w__35 =>
LdA (R 4 (.i .i64)) a_t4 w__35 fun r_3 w__36 =>
K (r_3, (true, ())) w__35)))))
theorem spec.l2Meet.ok {a : Tup (R 4 (.i .i64))} {b : Tup (R 4 (.i .i64))} {w : World} {K : (Tup (R 4 (.i .i64))) × (Bool) × Unit → World → Prop} (h : spec.l2Meet.vc a b w K) : CallT (.n [(.ag (R 4 (.i .i64))), (.lf .b)]) P0 62 [(.agg (Tup.cells (R 4 (.i .i64)) a).toArray), (.agg (Tup.cells (R 4 (.i .i64)) b).toArray)] w K :=
  call_of Tryz.func62 rfl rfl (pl := spec.l2Meet.pl) (show VC P0 Tryz.f62 spec.l2Meet.pl (.n [(.ag (R 4 (.i .i64))), (.lf .b)]) [(.agg (Tup.cells (R 4 (.i .i64)) a).toArray), (.agg (Tup.cells (R 4 (.i .i64)) b).toArray)] w K noP from Eq.mp (by kernel_rfl) h)
/- spec.l2But -/
def spec.l2But.pl : Pl := (.s (.r (D 3)) (.j [] (.s (.r [.d, (.l (.lf (.i .i64))), .d, .d]) (.c (.r (D 4)) .z)) (.j [] (.s (.r [.d, (.l (.lf (.i .i64))), .d, .d]) (.c (.r (D 4)) .z)) (.s (.s (.r [.d, (.l (.lf (.i .i64))), .d, (.l (.lf (.i .i64))), .d, (.sp .d), (.l (.ag (R 4 (.i .i64)))), (.c (.o (.lf .b))), .d, .d]) (.c (.s (.r (D 3)) .z) .z)) (.s (.r [(.l (.ag (R 4 (.i .i64)))), (.c (.o (.ag (R 4 (.i .i64))))), .d, .d]) .z)))))
def spec.l2But.vc (a : Tup (R 4 (.i .i64))) (n : Int) (w : World) (K : (Tup (R 4 (.i .i64))) × (Bool) × Unit → World → Prop) : Prop :=
Nw (Tup.cells (R 4 (.i .i64)) a).toArray 54 w fun a_a w_ =>
Nw (zc P0 54) 54 w_ fun a_t4 w__1 =>
∃ J : World → Prop,
(Ld (.i .i64) (Addr.add a_a 0) w__1 fun (t7 : Int) w__2 =>
(((t7 : Int) == n) = true → St (Addr.add a_a 0) (.int .i64 (IntKind.wrap .i64 (n + 1))) w__2 fun w__3 =>
J w__3) ∧
(((t7 : Int) == n) = false → J w__2)) ∧
(∀  w__4, J w__4 → ∀ _ : Nat → Value,
∃ J_1 : World → Prop,
(Ld (.i .i64) (Addr.add a_a 1) w__4 fun (t14 : Int) w__5 =>
(((t14 : Int) == n) = true → St (Addr.add a_a 1) (.int .i64 (IntKind.wrap .i64 (n - 1))) w__5 fun w__6 =>
J_1 w__6) ∧
(((t14 : Int) == n) = false → J_1 w__5)) ∧
(∀  w__7, J_1 w__7 → ∀ _ : Nat → Value,
Ld (.i .i64) (Addr.add a_a 0) w__7 fun (t21 : Int) w__8 =>
Ld (.i .i64) (Addr.add a_a 1) w__8 fun (t23 : Int) w__9 =>
((decide ((t21 : Int) > t23)) = true → StA P0 a_t4 [(.int .i64 1), (.int .i64 0), (.int .i64 0), (.int .i64 0)] w__9 fun w__10 =>
LdA (R 4 (.i .i64)) a_t4 w__10 fun r w__11 =>
K (r, (false, ())) w__10) ∧
((decide ((t21 : Int) > t23)) = false → LdA (R 4 (.i .i64)) a_a w__9 fun (t26 : Tup (R 4 (.i .i64))) w__12 =>
CallT (.o (.lf .b)) P0 73 [(.agg (Tup.cells (R 4 (.i .i64)) t26).toArray)] w__12 fun (t27 : Bool) w__13 =>
((!t27) = true → StA P0 a_t4 [(.int .i64 1), (.int .i64 0), (.int .i64 0), (.int .i64 0)] w__13 fun w__14 =>
LdA (R 4 (.i .i64)) a_t4 w__14 fun r_1 w__15 =>
K (r_1, (false, ())) w__14) ∧
((!t27) = false → LdA (R 4 (.i .i64)) a_a w__13 fun (t31 : Tup (R 4 (.i .i64))) w__16 =>
CallT (.o (.ag (R 4 (.i .i64)))) P0 40 [(.agg (Tup.cells (R 4 (.i .i64)) t31).toArray)] w__16 fun (t32 : Tup (R 4 (.i .i64))) w__17 =>
StA P0 a_t4 (Tup.cells (R 4 (.i .i64)) t32) w__17 fun w__18 =>
LdA (R 4 (.i .i64)) a_t4 w__18 fun r_2 w__19 =>
K (r_2, (true, ())) w__18))))
theorem spec.l2But.ok {a : Tup (R 4 (.i .i64))} {n : Int} {w : World} {K : (Tup (R 4 (.i .i64))) × (Bool) × Unit → World → Prop} (h : spec.l2But.vc a n w K) : CallT (.n [(.ag (R 4 (.i .i64))), (.lf .b)]) P0 74 [(.agg (Tup.cells (R 4 (.i .i64)) a).toArray), (.int .i64 n)] w K :=
  call_of Tryz.func74 rfl rfl (pl := spec.l2But.pl) (show VC P0 Tryz.f74 spec.l2But.pl (.n [(.ag (R 4 (.i .i64))), (.lf .b)]) [(.agg (Tup.cells (R 4 (.i .i64)) a).toArray), (.int .i64 n)] w K noP from Eq.mp (by kernel_rfl) h)
/- spec.l2Apart -/
def spec.l2Apart.pl : Pl := (.s (.r (D 4)) (.s (.s (.r [.d, (.l (.lf (.i .i64))), .d, (.l (.lf (.i .i64))), .d]) (.c (.s (.r [(.l (.ag (R 4 (.i .i64)))), .d, (.l (.lf (.i .i64))), (.c (.n [(.ag (R 4 (.i .i64))), (.lf .b)])), .d, .d, .d, .d]) .z) .z)) (.s (.r [(.l (.ag (R 4 (.i .i64)))), .d, .d]) .z)))
def spec.l2Apart.vc (a : Tup (R 4 (.i .i64))) (b : Tup (R 4 (.i .i64))) (w : World) (K : (Tup (R 4 (.i .i64))) × (Bool) × Unit → World → Prop) : Prop :=
Nw (Tup.cells (R 4 (.i .i64)) a).toArray 54 w fun a_a w_ =>
Nw (Tup.cells (R 4 (.i .i64)) b).toArray 54 w_ fun a_b w__1 =>
Nw (zc P0 54) 54 w__1 fun a_t4 w__2 =>
Ld (.i .i64) (Addr.add a_b 0) w__2 fun (t7 : Int) w__3 =>
Ld (.i .i64) (Addr.add a_b 1) w__3 fun (t9 : Int) w__4 =>
(((t7 : Int) == t9) = true → LdA (R 4 (.i .i64)) a_a w__4 fun (t11 : Tup (R 4 (.i .i64))) w__5 =>
Ld (.i .i64) (Addr.add a_b 0) w__5 fun (t13 : Int) w__6 =>
CallT (.n [(.ag (R 4 (.i .i64))), (.lf .b)]) P0 74 [(.agg (Tup.cells (R 4 (.i .i64)) t11).toArray), (.int .i64 t13)] w__6 fun (t14 : (Tup (R 4 (.i .i64))) × (Bool) × Unit) w__7 =>
StA P0 a_t4 (Tup.cells (R 4 (.i .i64)) t14.1) w__7 fun w__8 =>
LdA (R 4 (.i .i64)) a_t4 w__8 fun r w__9 =>
K (r, (t14.2.1, ())) w__8) ∧
(((t7 : Int) == t9) = false → LdA (R 4 (.i .i64)) a_a w__4 fun (t17 : Tup (R 4 (.i .i64))) w__10 =>
StA P0 a_t4 (Tup.cells (R 4 (.i .i64)) t17) w__10 fun w__11 =>
LdA (R 4 (.i .i64)) a_t4 w__11 fun r_1 w__12 =>
K (r_1, (true, ())) w__11)
theorem spec.l2Apart.ok {a : Tup (R 4 (.i .i64))} {b : Tup (R 4 (.i .i64))} {w : World} {K : (Tup (R 4 (.i .i64))) × (Bool) × Unit → World → Prop} (h : spec.l2Apart.vc a b w K) : CallT (.n [(.ag (R 4 (.i .i64))), (.lf .b)]) P0 63 [(.agg (Tup.cells (R 4 (.i .i64)) a).toArray), (.agg (Tup.cells (R 4 (.i .i64)) b).toArray)] w K :=
  call_of Tryz.func63 rfl rfl (pl := spec.l2Apart.pl) (show VC P0 Tryz.f63 spec.l2Apart.pl (.n [(.ag (R 4 (.i .i64))), (.lf .b)]) [(.agg (Tup.cells (R 4 (.i .i64)) a).toArray), (.agg (Tup.cells (R 4 (.i .i64)) b).toArray)] w K noP from Eq.mp (by kernel_rfl) h)
/- spec.l2Below -/
def spec.l2Below.pl : Pl := (.s (.r (D 5)) (.j [] (.s (.r [.d, (.l (.lf (.i .i64))), .d, (.l (.lf (.i .i64))), .d, .d, .d]) (.c (.r [.d, (.l (.lf (.i .i64))), .d, .d, .d, .d]) .z)) (.j [] (.s (.r [.d, (.l (.lf (.i .i64))), .d, (.l (.lf (.i .i64))), .d, .d, .d]) (.c (.r [.d, (.l (.lf (.i .i64))), .d, .d, .d, .d]) .z)) (.s (.j [(54, .b)] (.r [.d, (.l (.lf (.i .i64))), .d, (.l (.lf (.i .i64))), .d, (.sp .d), .d, (.l (.lf (.i .i64))), .d, (.l (.lf (.i .i64))), .d, .d, (.sp .d), (.l (.ag (R 4 (.i .i64)))), (.c (.o (.lf .b))), .d, .d, (.sp .d), (.l (.ag (R 4 (.i .i64)))), (.c (.o (.lf .b))), .d, .d]) (.c (.s (.r (D 5)) .z) .z)) (.s (.g [((.g (.o (.ag (R 4 (.i .i64)))) (.l (.ag (R 4 (.i .i64))))), []), ((.g (.o (.ag (R 4 (.i .i64)))) (.c (.o (.ag (R 4 (.i .i64)))))), [0]), ((.g (.o (.ag (R 4 (.i .i64)))) (.l (.ag (R 4 (.i .i64))))), []), ((.g (.o (.ag (R 4 (.i .i64)))) (.c (.o (.ag (R 4 (.i .i64)))))), [2]), ((.g .z .d), [1])] [.d, .d]) .z)))))
def spec.l2Below.vc (a : Tup (R 4 (.i .i64))) (b : Tup (R 4 (.i .i64))) (by_ : Int) (w : World) (K : (Tup (R 4 (.i .i64))) × (Tup (R 4 (.i .i64))) × (Bool) × Unit → World → Prop) : Prop :=
Nw (Tup.cells (R 4 (.i .i64)) a).toArray 54 w fun a_a w_ =>
Nw (Tup.cells (R 4 (.i .i64)) b).toArray 54 w_ fun a_b w__1 =>
Nw (zc P0 54) 54 w__1 fun a_t6 w__2 =>
Nw (zc P0 54) 54 w__2 fun a_t7 w__3 =>
∃ J : World → Prop,
(Ld (.i .i64) (Addr.add a_a 1) w__3 fun (t10 : Int) w__4 =>
Ld (.i .i64) (Addr.add a_b 1) w__4 fun (t12 : Int) w__5 =>
((decide ((t10 : Int) > (IntKind.wrap .i64 (t12 - by_)))) = true → Ld (.i .i64) (Addr.add a_b 1) w__5 fun (t17 : Int) w__6 =>
St (Addr.add a_a 1) (.int .i64 (IntKind.wrap .i64 (t17 - by_))) w__6 fun w__7 =>
J w__7) ∧
((decide ((t10 : Int) > (IntKind.wrap .i64 (t12 - by_)))) = false → J w__5)) ∧
(∀  w__8, J w__8 → ∀ _ : Nat → Value,
∃ J_1 : World → Prop,
(Ld (.i .i64) (Addr.add a_b 0) w__8 fun (t22 : Int) w__9 =>
Ld (.i .i64) (Addr.add a_a 0) w__9 fun (t24 : Int) w__10 =>
((decide ((t22 : Int) < (IntKind.wrap .i64 (t24 + by_)))) = true → Ld (.i .i64) (Addr.add a_a 0) w__10 fun (t29 : Int) w__11 =>
St (Addr.add a_b 0) (.int .i64 (IntKind.wrap .i64 (t29 + by_))) w__11 fun w__12 =>
J_1 w__12) ∧
((decide ((t22 : Int) < (IntKind.wrap .i64 (t24 + by_)))) = false → J_1 w__10)) ∧
(∀  w__13, J_1 w__13 → ∀ _ : Nat → Value,
∃ J_2 : Bool → World → Prop,
(Ld (.i .i64) (Addr.add a_a 0) w__13 fun (t34 : Int) w__14 =>
Ld (.i .i64) (Addr.add a_a 1) w__14 fun (t36 : Int) w__15 =>
((decide ((t34 : Int) > t36)) = true → J_2 true w__15) ∧
((decide ((t34 : Int) > t36)) = false → Ld (.i .i64) (Addr.add a_b 0) w__15 fun (t40 : Int) w__16 =>
Ld (.i .i64) (Addr.add a_b 1) w__16 fun (t42 : Int) w__17 =>
((decide ((t40 : Int) > t42)) = true → J_2 true w__17) ∧
((decide ((t40 : Int) > t42)) = false → LdA (R 4 (.i .i64)) a_a w__17 fun (t46 : Tup (R 4 (.i .i64))) w__18 =>
CallT (.o (.lf .b)) P0 73 [(.agg (Tup.cells (R 4 (.i .i64)) t46).toArray)] w__18 fun (t47 : Bool) w__19 =>
((!t47) = true → J_2 true w__19) ∧
((!t47) = false → LdA (R 4 (.i .i64)) a_b w__19 fun (t51 : Tup (R 4 (.i .i64))) w__20 =>
CallT (.o (.lf .b)) P0 73 [(.agg (Tup.cells (R 4 (.i .i64)) t51).toArray)] w__20 fun (t52 : Bool) w__21 =>
J_2 (!t52) w__21)))) ∧
(∀ (t54 : Bool) w__22, J_2 t54 w__22 → ∀ _ : Nat → Value,
(t54 = true → StA P0 a_t6 [(.int .i64 1), (.int .i64 0), (.int .i64 0), (.int .i64 0)] w__22 fun w__23 =>
StA P0 a_t7 [(.int .i64 1), (.int .i64 0), (.int .i64 0), (.int .i64 0)] w__23 fun w__24 =>
LdA (R 4 (.i .i64)) a_t6 w__24 fun r w__25 =>
LdA (R 4 (.i .i64)) a_t7 w__24 fun r_1 w__26 =>
K (r, (r_1, (false, ()))) w__24) ∧
(t54 = false → ∃ Sp : World → World → Prop, SpOk Sp w__22 ∧
∃ G_t57 : Tup (R 4 (.i .i64)) → World → Prop, Kept Sp G_t57 ∧
∃ G_t58 : Tup (R 4 (.i .i64)) → World → Prop, Kept Sp G_t58 ∧
∃ G_t59 : Tup (R 4 (.i .i64)) → World → Prop, Kept Sp G_t59 ∧
∃ G_t60 : Tup (R 4 (.i .i64)) → World → Prop, Kept Sp G_t60 ∧
∃ G_st : Unit → World → Prop, Kept Sp G_st ∧
(∀ w__27, Sp w__22 w__27 → LdA (R 4 (.i .i64)) a_a w__27 fun (t57 : Tup (R 4 (.i .i64))) w__28 =>
GK (.o (.ag (R 4 (.i .i64)))) Sp w__27 G_t57 (.agg (Tup.cells (R 4 (.i .i64)) t57).toArray) w__28) ∧
∀ (t57_1 : Tup (R 4 (.i .i64))), (∀ w__29, Sp w__22 w__29 → G_t57 t57_1 w__29 → CallT (.o (.ag (R 4 (.i .i64)))) P0 40 [(.agg (Tup.cells (R 4 (.i .i64)) t57_1).toArray)] w__29 fun (t58 : Tup (R 4 (.i .i64))) w__30 =>
GK (.o (.ag (R 4 (.i .i64)))) Sp w__29 G_t58 (.agg (Tup.cells (R 4 (.i .i64)) t58).toArray) w__30) ∧
∀ (t58_1 : Tup (R 4 (.i .i64))), (∀ w__31, Sp w__22 w__31 → LdA (R 4 (.i .i64)) a_b w__31 fun (t59 : Tup (R 4 (.i .i64))) w__32 =>
GK (.o (.ag (R 4 (.i .i64)))) Sp w__31 G_t59 (.agg (Tup.cells (R 4 (.i .i64)) t59).toArray) w__32) ∧
∀ (t59_1 : Tup (R 4 (.i .i64))), (∀ w__33, Sp w__22 w__33 → G_t59 t59_1 w__33 → CallT (.o (.ag (R 4 (.i .i64)))) P0 40 [(.agg (Tup.cells (R 4 (.i .i64)) t59_1).toArray)] w__33 fun (t60 : Tup (R 4 (.i .i64))) w__34 =>
GK (.o (.ag (R 4 (.i .i64)))) Sp w__33 G_t60 (.agg (Tup.cells (R 4 (.i .i64)) t60).toArray) w__34) ∧
∀ (t60_1 : Tup (R 4 (.i .i64))), (∀ w__35, Sp w__22 w__35 → G_t58 t58_1 w__35 → StA P0 a_t6 (Tup.cells (R 4 (.i .i64)) t58_1) w__35 fun w__36 =>
GK .z Sp w__35 G_st (.tuple #[]) w__36) ∧
∀ (st : Unit), ∀ w__37, Sp w__22 w__37 → G_t57 t57_1 w__37 → G_t58 t58_1 w__37 → G_t59 t59_1 w__37 → G_t60 t60_1 w__37 → G_st st w__37 → 
StA P0 a_t7 (Tup.cells (R 4 (.i .i64)) t60_1) w__37 fun w__38 =>
LdA (R 4 (.i .i64)) a_t6 w__38 fun r_2 w__39 =>
LdA (R 4 (.i .i64)) a_t7 w__38 fun r_3 w__40 =>
K (r_2, (r_3, (true, ()))) w__38))))
theorem spec.l2Below.ok {a : Tup (R 4 (.i .i64))} {b : Tup (R 4 (.i .i64))} {by_ : Int} {w : World} {K : (Tup (R 4 (.i .i64))) × (Tup (R 4 (.i .i64))) × (Bool) × Unit → World → Prop} (h : spec.l2Below.vc a b by_ w K) : CallT (.n [(.ag (R 4 (.i .i64))), (.ag (R 4 (.i .i64))), (.lf .b)]) P0 64 [(.agg (Tup.cells (R 4 (.i .i64)) a).toArray), (.agg (Tup.cells (R 4 (.i .i64)) b).toArray), (.int .i64 by_)] w K :=
  call_of Tryz.func64 rfl rfl (pl := spec.l2Below.pl) (show VC P0 Tryz.f64 spec.l2Below.pl (.n [(.ag (R 4 (.i .i64))), (.ag (R 4 (.i .i64))), (.lf .b)]) [(.agg (Tup.cells (R 4 (.i .i64)) a).toArray), (.agg (Tup.cells (R 4 (.i .i64)) b).toArray), (.int .i64 by_)] w K noP from Eq.mp (by kernel_rfl) h)
/- spec.l2Branch -/
def spec.l2Branch.pl : Pl := (.s (.r (D 5)) (.s (.b (.j [(23, .b)] (.r [.d, .d, .d, .d, (.sp .d), .d, .d, .d, .d]) (.c (.s (.r [(.l (.ag (R 4 (.i .i64)))), (.l (.ag (R 4 (.i .i64)))), (.c (.n [(.ag (R 4 (.i .i64))), (.lf .b)])), .d, .d, .d, .d, .d, .d]) (.s (.g [((.g (.o (.ag (R 4 (.i .i64)))) (.l (.ag (R 4 (.i .i64))))), []), ((.g (.o (.ag (R 4 (.i .i64)))) (.l (.ag (R 4 (.i .i64))))), []), (.q, []), ((.g .z .d), [0]), ((.g .z .d), [1])] [.d]) .z)) (.s (.r (D 3)) (.c (.s (.r [(.l (.ag (R 4 (.i .i64)))), (.l (.ag (R 4 (.i .i64)))), (.c (.n [(.ag (R 4 (.i .i64))), (.lf .b)])), .d, .d, .d, .d, .d, .d]) (.s (.r [(.l (.ag (R 4 (.i .i64)))), (.l (.ag (R 4 (.i .i64)))), (.c (.n [(.ag (R 4 (.i .i64))), (.lf .b)])), .d, .d, .d, .d, .d, .d]) (.s (.s (.r [.d, .d, (.sp .d), .d, .d, .d]) (.c (.s (.r (D 5)) .z) .z)) (.s (.g [((.g (.o (.ag (R 4 (.i .i64)))) (.l (.ag (R 4 (.i .i64))))), []), ((.g (.o (.ag (R 4 (.i .i64)))) (.l (.ag (R 4 (.i .i64))))), []), ((.g .z .d), [0])] [.d, .d]) .z)))) (.j [(66, .b)] (.r [.d, .d, (.sp .d), .d, .d, .d]) (.c (.s (.r [(.l (.ag (R 4 (.i .i64)))), (.l (.ag (R 4 (.i .i64)))), (.c (.n [(.ag (R 4 (.i .i64))), (.ag (R 4 (.i .i64))), (.lf .b)])), .d, .d, .d, .d, .d, .d]) .z) (.j [(78, .b)] (.r [.d, .d, (.sp .d), .d, .d, .d, .d]) (.c (.s (.r [(.l (.ag (R 4 (.i .i64)))), (.l (.ag (R 4 (.i .i64)))), (.c (.n [(.ag (R 4 (.i .i64))), (.ag (R 4 (.i .i64))), (.lf .b)])), .d, .d, .d, .d, .d, .d]) .z) (.s (.r (D 3)) (.c (.s (.r [(.l (.ag (R 4 (.i .i64)))), (.l (.ag (R 4 (.i .i64)))), (.c (.n [(.ag (R 4 (.i .i64))), (.ag (R 4 (.i .i64))), (.lf .b)])), .d, .d, .d, .d, .d, .d, .d, .d, .d]) (.s (.g [((.g (.o (.ag (R 4 (.i .i64)))) (.l (.ag (R 4 (.i .i64))))), []), ((.g (.o (.ag (R 4 (.i .i64)))) (.l (.ag (R 4 (.i .i64))))), []), (.q, []), ((.g .z .d), [0]), ((.g .z .d), [1])] [.d]) .z)) .z))))))))))) (.s (.r [(.l (.ag (R 4 (.i .i64)))), (.l (.ag (R 4 (.i .i64)))), (.c (.n [(.ag (R 4 (.i .i64))), (.ag (R 4 (.i .i64))), (.lf .b)])), .d, .d, .d, .d, .d, .d, .d, .d, .d]) (.s (.g [((.g (.o (.ag (R 4 (.i .i64)))) (.l (.ag (R 4 (.i .i64))))), []), ((.g (.o (.ag (R 4 (.i .i64)))) (.l (.ag (R 4 (.i .i64))))), []), (.q, []), ((.g .z .d), [0]), ((.g .z .d), [1])] [.d]) .z))))
def spec.l2Branch.vc (op : Int) (a : Tup (R 4 (.i .i64))) (b : Tup (R 4 (.i .i64))) (holds : Bool) (w : World) (K : (Tup (R 4 (.i .i64))) × (Tup (R 4 (.i .i64))) × (Bool) × Unit → World → Prop) : Prop :=
Nw (Tup.cells (R 4 (.i .i64)) a).toArray 54 w fun a_a w_ =>
Nw (Tup.cells (R 4 (.i .i64)) b).toArray 54 w_ fun a_b w__1 =>
Nw (zc P0 54) 54 w__1 fun a_t8 w__2 =>
Nw (zc P0 54) 54 w__2 fun a_t9 w__3 =>
∃ J : Bool → World → Prop,
(((((op : Int) == 12) == holds) = true → J (decide ((op : Int) ≤ 13)) w__3) ∧
((((op : Int) == 12) == holds) = false → J false w__3)) ∧
(∀ (t23 : Bool) w__4, J t23 w__4 → ∀ _ : Nat → Value,
(t23 = true → LdA (R 4 (.i .i64)) a_a w__4 fun (t33 : Tup (R 4 (.i .i64))) w__5 =>
LdA (R 4 (.i .i64)) a_b w__5 fun (t34 : Tup (R 4 (.i .i64))) w__6 =>
CallT (.n [(.ag (R 4 (.i .i64))), (.lf .b)]) P0 62 [(.agg (Tup.cells (R 4 (.i .i64)) t33).toArray), (.agg (Tup.cells (R 4 (.i .i64)) t34).toArray)] w__6 fun (t35 : (Tup (R 4 (.i .i64))) × (Bool) × Unit) w__7 =>
Nw (zc P0 54) 54 w__7 fun a_x w__8 =>
StA P0 a_x (Tup.cells (R 4 (.i .i64)) t35.1) w__8 fun w__9 =>
∃ Sp : World → World → Prop, SpOk Sp w__9 ∧
∃ G_t38 : Tup (R 4 (.i .i64)) → World → Prop, Kept Sp G_t38 ∧
∃ G_t39 : Tup (R 4 (.i .i64)) → World → Prop, Kept Sp G_t39 ∧
∃ G_st : Unit → World → Prop, Kept Sp G_st ∧
∃ G_st_1 : Unit → World → Prop, Kept Sp G_st_1 ∧
(∀ w__10, Sp w__9 w__10 → LdA (R 4 (.i .i64)) a_x w__10 fun (t38 : Tup (R 4 (.i .i64))) w__11 =>
GK (.o (.ag (R 4 (.i .i64)))) Sp w__10 G_t38 (.agg (Tup.cells (R 4 (.i .i64)) t38).toArray) w__11) ∧
∀ (t38_1 : Tup (R 4 (.i .i64))), (∀ w__12, Sp w__9 w__12 → LdA (R 4 (.i .i64)) a_x w__12 fun (t39 : Tup (R 4 (.i .i64))) w__13 =>
GK (.o (.ag (R 4 (.i .i64)))) Sp w__12 G_t39 (.agg (Tup.cells (R 4 (.i .i64)) t39).toArray) w__13) ∧
∀ (t39_1 : Tup (R 4 (.i .i64))), (∀ w__14, Sp w__9 w__14 → G_t38 t38_1 w__14 → StA P0 a_t8 (Tup.cells (R 4 (.i .i64)) t38_1) w__14 fun w__15 =>
GK .z Sp w__14 G_st (.tuple #[]) w__15) ∧
∀ (st : Unit), (∀ w__16, Sp w__9 w__16 → G_t39 t39_1 w__16 → StA P0 a_t9 (Tup.cells (R 4 (.i .i64)) t39_1) w__16 fun w__17 =>
GK .z Sp w__16 G_st_1 (.tuple #[]) w__17) ∧
∀ (st_1 : Unit), ∀ w__18, Sp w__9 w__18 → G_t38 t38_1 w__18 → G_t39 t39_1 w__18 → G_st st w__18 → G_st_1 st_1 w__18 → 
LdA (R 4 (.i .i64)) a_t8 w__18 fun r w__19 =>
LdA (R 4 (.i .i64)) a_t9 w__18 fun r_1 w__20 =>
K (r, (r_1, (t35.2.1, ()))) w__18) ∧
(t23 = false → ((decide ((op : Int) ≤ 13)) = true → LdA (R 4 (.i .i64)) a_a w__4 fun (t45 : Tup (R 4 (.i .i64))) w__21 =>
LdA (R 4 (.i .i64)) a_b w__21 fun (t46 : Tup (R 4 (.i .i64))) w__22 =>
CallT (.n [(.ag (R 4 (.i .i64))), (.lf .b)]) P0 63 [(.agg (Tup.cells (R 4 (.i .i64)) t45).toArray), (.agg (Tup.cells (R 4 (.i .i64)) t46).toArray)] w__22 fun (t47 : (Tup (R 4 (.i .i64))) × (Bool) × Unit) w__23 =>
Nw (zc P0 54) 54 w__23 fun a_x_1 w__24 =>
StA P0 a_x_1 (Tup.cells (R 4 (.i .i64)) t47.1) w__24 fun w__25 =>
LdA (R 4 (.i .i64)) a_b w__25 fun (t51 : Tup (R 4 (.i .i64))) w__26 =>
LdA (R 4 (.i .i64)) a_a w__26 fun (t52 : Tup (R 4 (.i .i64))) w__27 =>
CallT (.n [(.ag (R 4 (.i .i64))), (.lf .b)]) P0 63 [(.agg (Tup.cells (R 4 (.i .i64)) t51).toArray), (.agg (Tup.cells (R 4 (.i .i64)) t52).toArray)] w__27 fun (t53 : (Tup (R 4 (.i .i64))) × (Bool) × Unit) w__28 =>
Nw (zc P0 54) 54 w__28 fun a_y w__29 =>
StA P0 a_y (Tup.cells (R 4 (.i .i64)) t53.1) w__29 fun w__30 =>
((!t47.2.1) = true → StA P0 a_t8 [(.int .i64 1), (.int .i64 0), (.int .i64 0), (.int .i64 0)] w__30 fun w__31 =>
StA P0 a_t9 [(.int .i64 1), (.int .i64 0), (.int .i64 0), (.int .i64 0)] w__31 fun w__32 =>
LdA (R 4 (.i .i64)) a_t8 w__32 fun r_2 w__33 =>
LdA (R 4 (.i .i64)) a_t9 w__32 fun r_3 w__34 =>
K (r_2, (r_3, (false, ()))) w__32) ∧
((!t47.2.1) = false → ((!t53.2.1) = true → StA P0 a_t8 [(.int .i64 1), (.int .i64 0), (.int .i64 0), (.int .i64 0)] w__30 fun w__35 =>
StA P0 a_t9 [(.int .i64 1), (.int .i64 0), (.int .i64 0), (.int .i64 0)] w__35 fun w__36 =>
LdA (R 4 (.i .i64)) a_t8 w__36 fun r_4 w__37 =>
LdA (R 4 (.i .i64)) a_t9 w__36 fun r_5 w__38 =>
K (r_4, (r_5, (false, ()))) w__36) ∧
((!t53.2.1) = false → ∃ Sp_1 : World → World → Prop, SpOk Sp_1 w__30 ∧
∃ G_t64 : Tup (R 4 (.i .i64)) → World → Prop, Kept Sp_1 G_t64 ∧
∃ G_t65 : Tup (R 4 (.i .i64)) → World → Prop, Kept Sp_1 G_t65 ∧
∃ G_st_1 : Unit → World → Prop, Kept Sp_1 G_st_1 ∧
(∀ w__39, Sp_1 w__30 w__39 → LdA (R 4 (.i .i64)) a_x_1 w__39 fun (t64 : Tup (R 4 (.i .i64))) w__40 =>
GK (.o (.ag (R 4 (.i .i64)))) Sp_1 w__39 G_t64 (.agg (Tup.cells (R 4 (.i .i64)) t64).toArray) w__40) ∧
∀ (t64_1 : Tup (R 4 (.i .i64))), (∀ w__41, Sp_1 w__30 w__41 → LdA (R 4 (.i .i64)) a_y w__41 fun (t65 : Tup (R 4 (.i .i64))) w__42 =>
GK (.o (.ag (R 4 (.i .i64)))) Sp_1 w__41 G_t65 (.agg (Tup.cells (R 4 (.i .i64)) t65).toArray) w__42) ∧
∀ (t65_1 : Tup (R 4 (.i .i64))), (∀ w__43, Sp_1 w__30 w__43 → G_t64 t64_1 w__43 → StA P0 a_t8 (Tup.cells (R 4 (.i .i64)) t64_1) w__43 fun w__44 =>
GK .z Sp_1 w__43 G_st_1 (.tuple #[]) w__44) ∧
∀ (st_2 : Unit), ∀ w__45, Sp_1 w__30 w__45 → G_t64 t64_1 w__45 → G_t65 t65_1 w__45 → G_st_1 st_2 w__45 → 
StA P0 a_t9 (Tup.cells (R 4 (.i .i64)) t65_1) w__45 fun w__46 =>
LdA (R 4 (.i .i64)) a_t8 w__46 fun r_6 w__47 =>
LdA (R 4 (.i .i64)) a_t9 w__46 fun r_7 w__48 =>
K (r_6, (r_7, (true, ()))) w__46))) ∧
((decide ((op : Int) ≤ 13)) = false → ∃ J_1 : Bool → World → Prop,
((((op : Int) == 14) = true → J_1 holds w__4) ∧
(((op : Int) == 14) = false → J_1 false w__4)) ∧
(∀ (t66 : Bool) w__49, J_1 t66 w__49 → ∀ _ : Nat → Value,
(t66 = true → LdA (R 4 (.i .i64)) a_a w__49 fun (t72 : Tup (R 4 (.i .i64))) w__50 =>
LdA (R 4 (.i .i64)) a_b w__50 fun (t73 : Tup (R 4 (.i .i64))) w__51 =>
CallT (.n [(.ag (R 4 (.i .i64))), (.ag (R 4 (.i .i64))), (.lf .b)]) P0 64 [(.agg (Tup.cells (R 4 (.i .i64)) t72).toArray), (.agg (Tup.cells (R 4 (.i .i64)) t73).toArray), (.int .i64 1)] w__51 fun (t74 : (Tup (R 4 (.i .i64))) × (Tup (R 4 (.i .i64))) × (Bool) × Unit) w__52 =>
StA P0 a_t8 (Tup.cells (R 4 (.i .i64)) t74.1) w__52 fun w__53 =>
StA P0 a_t9 (Tup.cells (R 4 (.i .i64)) t74.2.1) w__53 fun w__54 =>
LdA (R 4 (.i .i64)) a_t8 w__54 fun r_8 w__55 =>
LdA (R 4 (.i .i64)) a_t9 w__54 fun r_9 w__56 =>
K (r_8, (r_9, (t74.2.2.1, ()))) w__54) ∧
(t66 = false → ∃ J_2 : Bool → World → Prop,
((((op : Int) == 15) = true → J_2 (!holds) w__49) ∧
(((op : Int) == 15) = false → J_2 false w__49)) ∧
(∀ (t78 : Bool) w__57, J_2 t78 w__57 → ∀ _ : Nat → Value,
(t78 = true → LdA (R 4 (.i .i64)) a_a w__57 fun (t85 : Tup (R 4 (.i .i64))) w__58 =>
LdA (R 4 (.i .i64)) a_b w__58 fun (t86 : Tup (R 4 (.i .i64))) w__59 =>
CallT (.n [(.ag (R 4 (.i .i64))), (.ag (R 4 (.i .i64))), (.lf .b)]) P0 64 [(.agg (Tup.cells (R 4 (.i .i64)) t85).toArray), (.agg (Tup.cells (R 4 (.i .i64)) t86).toArray), (.int .i64 0)] w__59 fun (t87 : (Tup (R 4 (.i .i64))) × (Tup (R 4 (.i .i64))) × (Bool) × Unit) w__60 =>
StA P0 a_t8 (Tup.cells (R 4 (.i .i64)) t87.1) w__60 fun w__61 =>
StA P0 a_t9 (Tup.cells (R 4 (.i .i64)) t87.2.1) w__61 fun w__62 =>
LdA (R 4 (.i .i64)) a_t8 w__62 fun r_10 w__63 =>
LdA (R 4 (.i .i64)) a_t9 w__62 fun r_11 w__64 =>
K (r_10, (r_11, (t87.2.2.1, ()))) w__62) ∧
(t78 = false → (((op : Int) == 14) = true → LdA (R 4 (.i .i64)) a_b w__57 fun (t95 : Tup (R 4 (.i .i64))) w__65 =>
LdA (R 4 (.i .i64)) a_a w__65 fun (t96 : Tup (R 4 (.i .i64))) w__66 =>
CallT (.n [(.ag (R 4 (.i .i64))), (.ag (R 4 (.i .i64))), (.lf .b)]) P0 64 [(.agg (Tup.cells (R 4 (.i .i64)) t95).toArray), (.agg (Tup.cells (R 4 (.i .i64)) t96).toArray), (.int .i64 0)] w__66 fun (t97 : (Tup (R 4 (.i .i64))) × (Tup (R 4 (.i .i64))) × (Bool) × Unit) w__67 =>
Nw (zc P0 54) 54 w__67 fun a_y_1 w__68 =>
Nw (zc P0 54) 54 w__68 fun a_x_2 w__69 =>
StA P0 a_y_1 (Tup.cells (R 4 (.i .i64)) t97.1) w__69 fun w__70 =>
StA P0 a_x_2 (Tup.cells (R 4 (.i .i64)) t97.2.1) w__70 fun w__71 =>
∃ Sp_2 : World → World → Prop, SpOk Sp_2 w__71 ∧
∃ G_t101 : Tup (R 4 (.i .i64)) → World → Prop, Kept Sp_2 G_t101 ∧
∃ G_t102 : Tup (R 4 (.i .i64)) → World → Prop, Kept Sp_2 G_t102 ∧
∃ G_st_1 : Unit → World → Prop, Kept Sp_2 G_st_1 ∧
∃ G_st_2 : Unit → World → Prop, Kept Sp_2 G_st_2 ∧
(∀ w__72, Sp_2 w__71 w__72 → LdA (R 4 (.i .i64)) a_x_2 w__72 fun (t101 : Tup (R 4 (.i .i64))) w__73 =>
GK (.o (.ag (R 4 (.i .i64)))) Sp_2 w__72 G_t101 (.agg (Tup.cells (R 4 (.i .i64)) t101).toArray) w__73) ∧
∀ (t101_1 : Tup (R 4 (.i .i64))), (∀ w__74, Sp_2 w__71 w__74 → LdA (R 4 (.i .i64)) a_y_1 w__74 fun (t102 : Tup (R 4 (.i .i64))) w__75 =>
GK (.o (.ag (R 4 (.i .i64)))) Sp_2 w__74 G_t102 (.agg (Tup.cells (R 4 (.i .i64)) t102).toArray) w__75) ∧
∀ (t102_1 : Tup (R 4 (.i .i64))), (∀ w__76, Sp_2 w__71 w__76 → G_t101 t101_1 w__76 → StA P0 a_t8 (Tup.cells (R 4 (.i .i64)) t101_1) w__76 fun w__77 =>
GK .z Sp_2 w__76 G_st_1 (.tuple #[]) w__77) ∧
∀ (st_3 : Unit), (∀ w__78, Sp_2 w__71 w__78 → G_t102 t102_1 w__78 → StA P0 a_t9 (Tup.cells (R 4 (.i .i64)) t102_1) w__78 fun w__79 =>
GK .z Sp_2 w__78 G_st_2 (.tuple #[]) w__79) ∧
∀ (st_4 : Unit), ∀ w__80, Sp_2 w__71 w__80 → G_t101 t101_1 w__80 → G_t102 t102_1 w__80 → G_st_1 st_3 w__80 → G_st_2 st_4 w__80 → 
LdA (R 4 (.i .i64)) a_t8 w__80 fun r_12 w__81 =>
LdA (R 4 (.i .i64)) a_t9 w__80 fun r_13 w__82 =>
K (r_12, (r_13, (t97.2.2.1, ()))) w__80) ∧
(((op : Int) == 14) = false → LdA (R 4 (.i .i64)) a_b w__57 fun (t105 : Tup (R 4 (.i .i64))) w__83 =>
LdA (R 4 (.i .i64)) a_a w__83 fun (t106 : Tup (R 4 (.i .i64))) w__84 =>
CallT (.n [(.ag (R 4 (.i .i64))), (.ag (R 4 (.i .i64))), (.lf .b)]) P0 64 [(.agg (Tup.cells (R 4 (.i .i64)) t105).toArray), (.agg (Tup.cells (R 4 (.i .i64)) t106).toArray), (.int .i64 1)] w__84 fun (t107 : (Tup (R 4 (.i .i64))) × (Tup (R 4 (.i .i64))) × (Bool) × Unit) w__85 =>
Nw (zc P0 54) 54 w__85 fun a_y_2 w__86 =>
Nw (zc P0 54) 54 w__86 fun a_x_3 w__87 =>
StA P0 a_y_2 (Tup.cells (R 4 (.i .i64)) t107.1) w__87 fun w__88 =>
StA P0 a_x_3 (Tup.cells (R 4 (.i .i64)) t107.2.1) w__88 fun w__89 =>
∃ Sp_3 : World → World → Prop, SpOk Sp_3 w__89 ∧
∃ G_t111 : Tup (R 4 (.i .i64)) → World → Prop, Kept Sp_3 G_t111 ∧
∃ G_t112 : Tup (R 4 (.i .i64)) → World → Prop, Kept Sp_3 G_t112 ∧
∃ G_st_1 : Unit → World → Prop, Kept Sp_3 G_st_1 ∧
∃ G_st_2 : Unit → World → Prop, Kept Sp_3 G_st_2 ∧
(∀ w__90, Sp_3 w__89 w__90 → LdA (R 4 (.i .i64)) a_x_3 w__90 fun (t111 : Tup (R 4 (.i .i64))) w__91 =>
GK (.o (.ag (R 4 (.i .i64)))) Sp_3 w__90 G_t111 (.agg (Tup.cells (R 4 (.i .i64)) t111).toArray) w__91) ∧
∀ (t111_1 : Tup (R 4 (.i .i64))), (∀ w__92, Sp_3 w__89 w__92 → LdA (R 4 (.i .i64)) a_y_2 w__92 fun (t112 : Tup (R 4 (.i .i64))) w__93 =>
GK (.o (.ag (R 4 (.i .i64)))) Sp_3 w__92 G_t112 (.agg (Tup.cells (R 4 (.i .i64)) t112).toArray) w__93) ∧
∀ (t112_1 : Tup (R 4 (.i .i64))), (∀ w__94, Sp_3 w__89 w__94 → G_t111 t111_1 w__94 → StA P0 a_t8 (Tup.cells (R 4 (.i .i64)) t111_1) w__94 fun w__95 =>
GK .z Sp_3 w__94 G_st_1 (.tuple #[]) w__95) ∧
∀ (st_5 : Unit), (∀ w__96, Sp_3 w__89 w__96 → G_t112 t112_1 w__96 → StA P0 a_t9 (Tup.cells (R 4 (.i .i64)) t112_1) w__96 fun w__97 =>
GK .z Sp_3 w__96 G_st_2 (.tuple #[]) w__97) ∧
∀ (st_6 : Unit), ∀ w__98, Sp_3 w__89 w__98 → G_t111 t111_1 w__98 → G_t112 t112_1 w__98 → G_st_1 st_5 w__98 → G_st_2 st_6 w__98 → 
LdA (R 4 (.i .i64)) a_t8 w__98 fun r_14 w__99 =>
LdA (R 4 (.i .i64)) a_t9 w__98 fun r_15 w__100 =>
K (r_14, (r_15, (t107.2.2.1, ()))) w__98))))))))
theorem spec.l2Branch.ok {op : Int} {a : Tup (R 4 (.i .i64))} {b : Tup (R 4 (.i .i64))} {holds : Bool} {w : World} {K : (Tup (R 4 (.i .i64))) × (Tup (R 4 (.i .i64))) × (Bool) × Unit → World → Prop} (h : spec.l2Branch.vc op a b holds w K) : CallT (.n [(.ag (R 4 (.i .i64))), (.ag (R 4 (.i .i64))), (.lf .b)]) P0 42 [(.int .i64 op), (.agg (Tup.cells (R 4 (.i .i64)) a).toArray), (.agg (Tup.cells (R 4 (.i .i64)) b).toArray), (.bool holds)] w K :=
  call_of Tryz.func42 rfl rfl (pl := spec.l2Branch.pl) (show VC P0 Tryz.f42 spec.l2Branch.pl (.n [(.ag (R 4 (.i .i64))), (.ag (R 4 (.i .i64))), (.lf .b)]) [(.int .i64 op), (.agg (Tup.cells (R 4 (.i .i64)) a).toArray), (.agg (Tup.cells (R 4 (.i .i64)) b).toArray), (.bool holds)] w K noP from Eq.mp (by kernel_rfl) h)
/- spec.l9Range -/
def spec.l9Range.pl : Pl := (.s (.r (D 4)) (.s (.x [(.q, []), ((.g (.o (.lf (.i .i64))) (.l (.lf (.i .i64)))), []), ((.g (.o (.ag (R 4 (.i .i64)))) (.l (.ag (R 4 (.i .i64))))), []), (.q, []), ((.g (.o (.lf (.i .i64))) (.l (.lf (.i .i64)))), []), ((.g (.o (.ag (R 4 (.i .i64)))) (.c (.o (.ag (R 4 (.i .i64)))))), [4]), (.q, []), ((.g (.n [(.ag (R 4 (.i .i64))), (.ag (R 4 (.i .i64))), (.lf .b)]) (.c (.n [(.ag (R 4 (.i .i64))), (.ag (R 4 (.i .i64))), (.lf .b)]))), [1, 2, 5]), (.q, [7]), (.q, [7]), (.q, [7]), (.q, [7]), ((.a 54), []), ((.a 54), []), ((.s 12 54 (.o (.ag (R 4 (.i .i64)))) .d), [7]), ((.s 13 54 (.o (.ag (R 4 (.i .i64)))) .d), [7])] [.d]) (.s (.r [(.l (.ag (R 4 (.i .i64)))), .d, .d, .d]) .z)))
def spec.l9Range.vc (r : Tup (R 5 (.i .i64))) (was : Tup (R 4 (.i .i64))) (holds : Bool) (w : World) (K : (Tup (R 4 (.i .i64))) × (Bool) × Unit → World → Prop) : Prop :=
Nw (Tup.cells (R 5 (.i .i64)) r).toArray 40 w fun a_r w_ =>
Nw (Tup.cells (R 4 (.i .i64)) was).toArray 54 w_ fun a_was w__1 =>
Nw (zc P0 54) 54 w__1 fun a_t6 w__2 =>
∃ Sp : World → World → Prop, SpOk Sp w__2 ∧
∃ G_t13 : Int → World → Prop, Kept Sp G_t13 ∧
∃ G_t14 : Tup (R 4 (.i .i64)) → World → Prop, Kept Sp G_t14 ∧
∃ G_t16 : Int → World → Prop, Kept Sp G_t16 ∧
∃ G_t17 : Tup (R 4 (.i .i64)) → World → Prop, Kept Sp G_t17 ∧
∃ G_t19 : (Tup (R 4 (.i .i64))) × (Tup (R 4 (.i .i64))) × (Bool) × Unit → World → Prop, Kept Sp G_t19 ∧
∃ G_st : Tup (R 4 (.i .i64)) → World → Prop, Kept Sp G_st ∧
∃ G_st_1 : Tup (R 4 (.i .i64)) → World → Prop, Kept Sp G_st_1 ∧
(∀ w__3, Sp w__2 w__3 → Ld (.i .i64) (Addr.add a_r 1) w__3 fun (t13 : Int) w__4 =>
GK (.o (.lf (.i .i64))) (Sb (World.heap w__2).size Sp) w__3 G_t13 (.int .i64 t13) w__4) ∧
∀ (t13_1 : Int), (∀ w__5, Sp w__2 w__5 → LdA (R 4 (.i .i64)) a_was w__5 fun (t14 : Tup (R 4 (.i .i64))) w__6 =>
GK (.o (.ag (R 4 (.i .i64)))) (Sb (World.heap w__2).size Sp) w__5 G_t14 (.agg (Tup.cells (R 4 (.i .i64)) t14).toArray) w__6) ∧
∀ (t14_1 : Tup (R 4 (.i .i64))), (∀ w__7, Sp w__2 w__7 → Ld (.i .i64) (Addr.add a_r 2) w__7 fun (t16 : Int) w__8 =>
GK (.o (.lf (.i .i64))) (Sb (World.heap w__2).size Sp) w__7 G_t16 (.int .i64 t16) w__8) ∧
∀ (t16_1 : Int), (∀ w__9, Sp w__2 w__9 → G_t16 t16_1 w__9 → CallT (.o (.ag (R 4 (.i .i64)))) P0 43 [(.int .i64 t16_1)] w__9 fun (t17 : Tup (R 4 (.i .i64))) w__10 =>
GK (.o (.ag (R 4 (.i .i64)))) (Sb (World.heap w__2).size Sp) w__9 G_t17 (.agg (Tup.cells (R 4 (.i .i64)) t17).toArray) w__10) ∧
∀ (t17_1 : Tup (R 4 (.i .i64))), (∀ w__11, Sp w__2 w__11 → G_t13 t13_1 w__11 → G_t14 t14_1 w__11 → G_t17 t17_1 w__11 → CallT (.n [(.ag (R 4 (.i .i64))), (.ag (R 4 (.i .i64))), (.lf .b)]) P0 42 [(.int .i64 t13_1), (.agg (Tup.cells (R 4 (.i .i64)) t14_1).toArray), (.agg (Tup.cells (R 4 (.i .i64)) t17_1).toArray), (.bool holds)] w__11 fun (t19 : (Tup (R 4 (.i .i64))) × (Tup (R 4 (.i .i64))) × (Bool) × Unit) w__12 =>
GK (.n [(.ag (R 4 (.i .i64))), (.ag (R 4 (.i .i64))), (.lf .b)]) (Sb (World.heap w__2).size Sp) w__11 G_t19 (.tuple #[(.agg (Tup.cells (R 4 (.i .i64)) t19.1).toArray), (.agg (Tup.cells (R 4 (.i .i64)) t19.2.1).toArray), (.bool t19.2.2.1)]) w__12) ∧
∀ (t19_1 : (Tup (R 4 (.i .i64))) × (Tup (R 4 (.i .i64))) × (Bool) × Unit), (∀ w__13, Sp w__2 w__13 → Nw (zc P0 54) 54 w__13 fun a_out w__14 =>
AXp (World.heap w__2).size 54 (zc P0 54) Sp w__13 (.pointer (some a_out)) w__14) ∧
∀ (out : Nat), (∀ w__15, Sp w__2 w__15 → Nw (zc P0 54) 54 w__15 fun a_t9 w__16 =>
AXp (World.heap w__2).size 54 (zc P0 54) Sp w__15 (.pointer (some a_t9)) w__16) ∧
∀ (t9 : Nat), (∀ w__17, Sp w__2 w__17 → G_t19 t19_1 w__17 → (World.heap w__2).size ≤ out → (World.heap w__17)[out]? = some (.cells (zc P0 54) 54 (0, 0)) → StA P0 (⟨out, 0, none⟩ : Addr) (Tup.cells (R 4 (.i .i64)) t19_1.1) w__17 fun w__18 =>
GS (.o (.ag (R 4 (.i .i64)))) Sp w__17 G_st out 54 w__18) ∧
∀ (st : Tup (R 4 (.i .i64))), (∀ w__19, Sp w__2 w__19 → G_t19 t19_1 w__19 → (World.heap w__2).size ≤ t9 → (World.heap w__19)[t9]? = some (.cells (zc P0 54) 54 (0, 0)) → StA P0 (⟨t9, 0, none⟩ : Addr) (Tup.cells (R 4 (.i .i64)) t19_1.2.1) w__19 fun w__20 =>
GS (.o (.ag (R 4 (.i .i64)))) Sp w__19 G_st_1 t9 54 w__20) ∧
∀ (st_1 : Tup (R 4 (.i .i64))), ∀ w__21, Sp w__2 w__21 → G_t13 t13_1 w__21 → G_t14 t14_1 w__21 → G_t16 t16_1 w__21 → G_t17 t17_1 w__21 → G_t19 t19_1 w__21 → G_st st w__21 → G_st_1 st_1 w__21 → BxD (World.heap w__2).size w__21 [(out, ((.agg (Tup.cells (R 4 (.i .i64)) st).toArray) : Value).cells, 54), (t9, ((.agg (Tup.cells (R 4 (.i .i64)) st_1).toArray) : Value).cells, 54)] → 
LdA (R 4 (.i .i64)) (⟨out, 0, none⟩ : Addr) w__21 fun (t23 : Tup (R 4 (.i .i64))) w__22 =>
StA P0 a_t6 (Tup.cells (R 4 (.i .i64)) t23) w__22 fun w__23 =>
LdA (R 4 (.i .i64)) a_t6 w__23 fun r_1 w__24 =>
K (r_1, (t19_1.2.2.1, ())) w__23
theorem spec.l9Range.ok {r : Tup (R 5 (.i .i64))} {was : Tup (R 4 (.i .i64))} {holds : Bool} {w : World} {K : (Tup (R 4 (.i .i64))) × (Bool) × Unit → World → Prop} (h : spec.l9Range.vc r was holds w K) : CallT (.n [(.ag (R 4 (.i .i64))), (.lf .b)]) P0 26 [(.agg (Tup.cells (R 5 (.i .i64)) r).toArray), (.agg (Tup.cells (R 4 (.i .i64)) was).toArray), (.bool holds)] w K :=
  call_of Tryz.func26 rfl rfl (pl := spec.l9Range.pl) (show VC P0 Tryz.f26 spec.l9Range.pl (.n [(.ag (R 4 (.i .i64))), (.lf .b)]) [(.agg (Tup.cells (R 5 (.i .i64)) r).toArray), (.agg (Tup.cells (R 4 (.i .i64)) was).toArray), (.bool holds)] w K noP from Eq.mp (by kernel_rfl) h)
/- spec.RulesTidy -/
def spec.RulesTidy.pl : Pl := (.s (.r (D 1)) (.s (.r (D 2)) (.s (.s (.r [.d, (.c (.o (.lf .b))), .d]) (.c (.s (.r (D 2)) .z) .z)) (.s (.r (D 2)) (.s (.s (.r (D 1)) (.b (.l [(4, .sl), (5, (.i .i64))] (.s (.s (.r (D 2)) (.c .z .z)) (.s (.b (.r [.d, (.c (.o (.ag (R 4 (.i .i64))))), .d, (.t (.o (.lf .sl))), .d])) (.r (D 3))))))) (.s (.s (.r (D 1)) (.b (.l [(3, .sl), (6, (.i .i64))] (.s (.s (.r (D 4)) (.c .z .z)) (.s (.b (.s (.r [.d, .d, .d, .d, (.l (.lf (.i .i64))), .d]) (.s (.x [(.q, []), (.q, []), ((.g (.o (.lf .ad)) .d), []), ((.g (.o (.ag (R 5 (.i .i64)))) (.l (.ag (R 5 (.i .i64))))), [2]), (.q, []), (.q, []), ((.g (.o (.lf .ad)) .d), []), ((.g (.o (.ag (R 4 (.i .i64)))) (.l (.ag (R 4 (.i .i64))))), [6]), ((.g (.n [(.ag (R 4 (.i .i64))), (.lf .b)]) (.c (.n [(.ag (R 4 (.i .i64))), (.lf .b)]))), [3, 7]), (.q, [8]), (.q, [8]), (.q, [8]), ((.a 54), []), ((.s 12 54 (.o (.ag (R 4 (.i .i64)))) .d), [8])] [.d]) (.s (.x [(.q, []), (.q, []), ((.g (.o (.lf .ad)) .d), []), ((.g (.o (.ag (R 5 (.i .i64)))) (.l (.ag (R 5 (.i .i64))))), [2]), (.q, []), (.q, []), ((.g (.o (.lf .ad)) .d), []), ((.g (.o (.ag (R 4 (.i .i64)))) (.l (.ag (R 4 (.i .i64))))), [6]), ((.g (.n [(.ag (R 4 (.i .i64))), (.lf .b)]) (.c (.n [(.ag (R 4 (.i .i64))), (.lf .b)]))), [3, 7]), (.q, [8]), (.q, [8]), (.q, [8]), ((.a 54), []), ((.s 12 54 (.o (.ag (R 4 (.i .i64)))) .d), [8])] [.d]) (.s (.s (.r (D 2)) (.c .z .z)) (.s (.r [.d, .d, .d, .d, (.l (.ag (R 5 (.i .i64)))), .d, (.t (.o (.lf .sl))), .d]) (.s (.s (.r (D 2)) (.c (.s (.r (D 2)) .z) .z)) (.r [.d, .d, (.l (.ag (R 4 (.i .i64)))), .d, .d])))))))) (.r (D 3))))))) (.s (.r (D 2)) .z)))))))
def spec.RulesTidy.vc (list : Sl) (w : World) (K : Sl → World → Prop) : Prop :=
Nw #[] 40 w fun a_t12 w_ =>
CallT (.o (.lf .b)) P0 17 [list.v] w_ fun (t14 : Bool) w__1 =>
((!t14) = true → K ⟨(some a_t12), 0, 0⟩ w__1) ∧
((!t14) = false → Nw #[] 54 w__1 fun a_t17 w__2 =>
∃ (I : Sl → Int → World → Prop) (M : Sl → Int → World → Nat),
I ⟨(some a_t17), 0, 0⟩ 0 w__2 ∧
(∀ (bytes_ : Sl) (i : Int) w__3, I bytes_ i w__3 → ∀ _ : Nat → Value,
((decide ((i : Int) < 12)) = true → CallT (.o (.ag (R 4 (.i .i64)))) P0 25 [(.int .i64 0), (.int .i64 255)] w__3 fun (t23 : Tup (R 4 (.i .i64))) w__4 =>
Nw #[(.int .i64 t23.1), (.int .i64 t23.2.1), (.int .i64 t23.2.2.1), (.int .i64 t23.2.2.2.1)] 54 w__4 fun a_t24 w__5 =>
RunT (.o (.lf .sl)) P0 (Builtin.append_ #[52, 52] 52 #[bytes_.v, (.slice (some a_t24) 1 1)]) w__5 fun (t25 : Sl) w__6 =>
(I t25 (IntKind.wrap .i64 (i + 1)) w__6 ∧ M t25 (IntKind.wrap .i64 (i + 1)) w__6 < M bytes_ i w__3)) ∧
((decide ((i : Int) < 12)) = false → ∃ (I_1 : Sl → Int → World → Prop) (M_1 : Sl → Int → World → Nat),
I_1 ⟨(some a_t12), 0, 0⟩ 0 w__3 ∧
(∀ (out : Sl) (i_1 : Int) w__7, I_1 out i_1 w__7 → ∀ _ : Nat → Value,
((decide ((i_1 : Int) < ((list.n : Nat) : Int))) = true → Ix list.a list.n i_1 5 w__7 fun a_t34 w__8 =>
Ld (.i .i64) (Addr.add a_t34 0) w__8 fun (t36 : Int) w__9 =>
∃ Sp : World → World → Prop, SpOk Sp w__9 ∧
∃ G_t40 : Addr → World → Prop, Kept Sp G_t40 ∧
∃ G_t41 : Tup (R 5 (.i .i64)) → World → Prop, Kept Sp G_t41 ∧
∃ G_t44 : Addr → World → Prop, Kept Sp G_t44 ∧
∃ G_t45 : Tup (R 4 (.i .i64)) → World → Prop, Kept Sp G_t45 ∧
∃ G_t46 : (Tup (R 4 (.i .i64))) × (Bool) × Unit → World → Prop, Kept Sp G_t46 ∧
∃ G_st : Tup (R 4 (.i .i64)) → World → Prop, Kept Sp G_st ∧
(∀ w__10, Sp w__9 w__10 → Ix list.a list.n i_1 5 w__10 fun a_t40 w__11 =>
GK (.o (.lf .ad)) (Sb (World.heap w__9).size Sp) w__10 G_t40 (.pointer (some a_t40)) w__11) ∧
∀ (t40 : Addr), (∀ w__12, Sp w__9 w__12 → G_t40 t40 w__12 → LdA (R 5 (.i .i64)) t40 w__12 fun (t41 : Tup (R 5 (.i .i64))) w__13 =>
GK (.o (.ag (R 5 (.i .i64)))) (Sb (World.heap w__9).size Sp) w__12 G_t41 (.agg (Tup.cells (R 5 (.i .i64)) t41).toArray) w__13) ∧
∀ (t41_1 : Tup (R 5 (.i .i64))), (∀ w__14, Sp w__9 w__14 → Ix bytes_.a bytes_.n t36 4 w__14 fun a_t44 w__15 =>
GK (.o (.lf .ad)) (Sb (World.heap w__9).size Sp) w__14 G_t44 (.pointer (some a_t44)) w__15) ∧
∀ (t44 : Addr), (∀ w__16, Sp w__9 w__16 → G_t44 t44 w__16 → LdA (R 4 (.i .i64)) t44 w__16 fun (t45 : Tup (R 4 (.i .i64))) w__17 =>
GK (.o (.ag (R 4 (.i .i64)))) (Sb (World.heap w__9).size Sp) w__16 G_t45 (.agg (Tup.cells (R 4 (.i .i64)) t45).toArray) w__17) ∧
∀ (t45_1 : Tup (R 4 (.i .i64))), (∀ w__18, Sp w__9 w__18 → G_t41 t41_1 w__18 → G_t45 t45_1 w__18 → CallT (.n [(.ag (R 4 (.i .i64))), (.lf .b)]) P0 26 [(.agg (Tup.cells (R 5 (.i .i64)) t41_1).toArray), (.agg (Tup.cells (R 4 (.i .i64)) t45_1).toArray), (.bool true)] w__18 fun (t46 : (Tup (R 4 (.i .i64))) × (Bool) × Unit) w__19 =>
GK (.n [(.ag (R 4 (.i .i64))), (.lf .b)]) (Sb (World.heap w__9).size Sp) w__18 G_t46 (.tuple #[(.agg (Tup.cells (R 4 (.i .i64)) t46.1).toArray), (.bool t46.2.1)]) w__19) ∧
∀ (t46_1 : (Tup (R 4 (.i .i64))) × (Bool) × Unit), (∀ w__20, Sp w__9 w__20 → Nw (zc P0 54) 54 w__20 fun a_t8 w__21 =>
AXp (World.heap w__9).size 54 (zc P0 54) Sp w__20 (.pointer (some a_t8)) w__21) ∧
∀ (t8 : Nat), (∀ w__22, Sp w__9 w__22 → G_t46 t46_1 w__22 → (World.heap w__9).size ≤ t8 → (World.heap w__22)[t8]? = some (.cells (zc P0 54) 54 (0, 0)) → StA P0 (⟨t8, 0, none⟩ : Addr) (Tup.cells (R 4 (.i .i64)) t46_1.1) w__22 fun w__23 =>
GS (.o (.ag (R 4 (.i .i64)))) Sp w__22 G_st t8 54 w__23) ∧
∀ (st : Tup (R 4 (.i .i64))), ∀ w__24, Sp w__9 w__24 → G_t40 t40 w__24 → G_t41 t41_1 w__24 → G_t44 t44 w__24 → G_t45 t45_1 w__24 → G_t46 t46_1 w__24 → G_st st w__24 → BxD (World.heap w__9).size w__24 [(t8, ((.agg (Tup.cells (R 4 (.i .i64)) st).toArray) : Value).cells, 54)] → 
∃ Sp_1 : World → World → Prop, SpOk Sp_1 w__24 ∧
∃ G_t52 : Addr → World → Prop, Kept Sp_1 G_t52 ∧
∃ G_t53 : Tup (R 5 (.i .i64)) → World → Prop, Kept Sp_1 G_t53 ∧
∃ G_t56 : Addr → World → Prop, Kept Sp_1 G_t56 ∧
∃ G_t57 : Tup (R 4 (.i .i64)) → World → Prop, Kept Sp_1 G_t57 ∧
∃ G_t58 : (Tup (R 4 (.i .i64))) × (Bool) × Unit → World → Prop, Kept Sp_1 G_t58 ∧
∃ G_st_1 : Tup (R 4 (.i .i64)) → World → Prop, Kept Sp_1 G_st_1 ∧
(∀ w__25, Sp_1 w__24 w__25 → Ix list.a list.n i_1 5 w__25 fun a_t52 w__26 =>
GK (.o (.lf .ad)) (Sb (World.heap w__24).size Sp_1) w__25 G_t52 (.pointer (some a_t52)) w__26) ∧
∀ (t52 : Addr), (∀ w__27, Sp_1 w__24 w__27 → G_t52 t52 w__27 → LdA (R 5 (.i .i64)) t52 w__27 fun (t53 : Tup (R 5 (.i .i64))) w__28 =>
GK (.o (.ag (R 5 (.i .i64)))) (Sb (World.heap w__24).size Sp_1) w__27 G_t53 (.agg (Tup.cells (R 5 (.i .i64)) t53).toArray) w__28) ∧
∀ (t53_1 : Tup (R 5 (.i .i64))), (∀ w__29, Sp_1 w__24 w__29 → Ix bytes_.a bytes_.n t36 4 w__29 fun a_t56 w__30 =>
GK (.o (.lf .ad)) (Sb (World.heap w__24).size Sp_1) w__29 G_t56 (.pointer (some a_t56)) w__30) ∧
∀ (t56 : Addr), (∀ w__31, Sp_1 w__24 w__31 → G_t56 t56 w__31 → LdA (R 4 (.i .i64)) t56 w__31 fun (t57 : Tup (R 4 (.i .i64))) w__32 =>
GK (.o (.ag (R 4 (.i .i64)))) (Sb (World.heap w__24).size Sp_1) w__31 G_t57 (.agg (Tup.cells (R 4 (.i .i64)) t57).toArray) w__32) ∧
∀ (t57_1 : Tup (R 4 (.i .i64))), (∀ w__33, Sp_1 w__24 w__33 → G_t53 t53_1 w__33 → G_t57 t57_1 w__33 → CallT (.n [(.ag (R 4 (.i .i64))), (.lf .b)]) P0 26 [(.agg (Tup.cells (R 5 (.i .i64)) t53_1).toArray), (.agg (Tup.cells (R 4 (.i .i64)) t57_1).toArray), (.bool false)] w__33 fun (t58 : (Tup (R 4 (.i .i64))) × (Bool) × Unit) w__34 =>
GK (.n [(.ag (R 4 (.i .i64))), (.lf .b)]) (Sb (World.heap w__24).size Sp_1) w__33 G_t58 (.tuple #[(.agg (Tup.cells (R 4 (.i .i64)) t58.1).toArray), (.bool t58.2.1)]) w__34) ∧
∀ (t58_1 : (Tup (R 4 (.i .i64))) × (Bool) × Unit), (∀ w__35, Sp_1 w__24 w__35 → Nw (zc P0 54) 54 w__35 fun a_rest w__36 =>
AXp (World.heap w__24).size 54 (zc P0 54) Sp_1 w__35 (.pointer (some a_rest)) w__36) ∧
∀ (rest : Nat), (∀ w__37, Sp_1 w__24 w__37 → G_t58 t58_1 w__37 → (World.heap w__24).size ≤ rest → (World.heap w__37)[rest]? = some (.cells (zc P0 54) 54 (0, 0)) → StA P0 (⟨rest, 0, none⟩ : Addr) (Tup.cells (R 4 (.i .i64)) t58_1.1) w__37 fun w__38 =>
GS (.o (.ag (R 4 (.i .i64)))) Sp_1 w__37 G_st_1 rest 54 w__38) ∧
∀ (st_1 : Tup (R 4 (.i .i64))), ∀ w__39, Sp_1 w__24 w__39 → G_t52 t52 w__39 → G_t53 t53_1 w__39 → G_t56 t56 w__39 → G_t57 t57_1 w__39 → G_t58 t58_1 w__39 → G_st_1 st_1 w__39 → BxD (World.heap w__24).size w__39 [(rest, ((.agg (Tup.cells (R 4 (.i .i64)) st_1).toArray) : Value).cells, 54)] → 
((!t46_1.2.1) = true → (I_1 out (IntKind.wrap .i64 (i_1 + 1)) w__39 ∧ M_1 out (IntKind.wrap .i64 (i_1 + 1)) w__39 < M_1 out i_1 w__7)) ∧
((!t46_1.2.1) = false → Ix list.a list.n i_1 5 w__39 fun a_t66 w__40 =>
LdA (R 5 (.i .i64)) a_t66 w__40 fun (t67 : Tup (R 5 (.i .i64))) w__41 =>
Nw #[(.int .i64 t67.1), (.int .i64 t67.2.1), (.int .i64 t67.2.2.1), (.int .i64 t67.2.2.2.1), (.int .i64 t67.2.2.2.2.1)] 40 w__41 fun a_t68 w__42 =>
RunT (.o (.lf .sl)) P0 (Builtin.append_ #[23, 23] 23 #[out.v, (.slice (some a_t68) 1 1)]) w__42 fun (t69 : Sl) w__43 =>
((!t58_1.2.1) = true → K t69 w__43) ∧
((!t58_1.2.1) = false → LdA (R 4 (.i .i64)) (⟨rest, 0, none⟩ : Addr) w__43 fun (t75 : Tup (R 4 (.i .i64))) w__44 =>
Ix bytes_.a bytes_.n t36 4 w__44 fun a_t76 w__45 =>
StA P0 a_t76 (Tup.cells (R 4 (.i .i64)) t75) w__45 fun w__46 =>
(I_1 t69 (IntKind.wrap .i64 (i_1 + 1)) w__46 ∧ M_1 t69 (IntKind.wrap .i64 (i_1 + 1)) w__46 < M_1 out i_1 w__7)))) ∧
((decide ((i_1 : Int) < ((list.n : Nat) : Int))) = false → K out w__7)))))
theorem spec.RulesTidy.ok {list : Sl} {w : World} {K : Sl → World → Prop} (h : spec.RulesTidy.vc list w K) : CallT (.o (.lf .sl)) P0 14 [list.v] w K :=
  call_of Tryz.func14 rfl rfl (pl := spec.RulesTidy.pl) (show VC P0 Tryz.f14 spec.RulesTidy.pl (.o (.lf .sl)) [list.v] w K noP from Eq.mp (by kernel_rfl) h)
/- impl.RulesOf -/
def impl.RulesOf.pl : Pl := (.s (.r (D 2)) (.s (.s (.r [.d, (.c (.o (.lf .b))), .d, (.sp .d), .d, .d, .d, .d]) (.c (.s (.r (D 2)) .z) .z)) (.s (.r [.d, .d, (.c (.n [(.lf (.i .i64)), (.lf (.i .i64))])), .d, .d, .d, .d]) .z)))
def impl.RulesOf.vc (list : Sl) (came : ByteArray) (w : World) (K : (Int) × (Int) × Unit → World → Prop) : Prop :=
CallT (.o (.lf .b)) P0 22 [list.v] w fun (t7 : Bool) w_ =>
((!t7) = true → K ((-1), (0, ())) w_) ∧
((!t7) = false → ((((((ByteArray.size came) : Nat) : Int) : Int) != 12) = true → K ((-1), (0, ())) w_) ∧
((((((ByteArray.size came) : Nat) : Int) : Int) != 12) = false → CallT (.n [(.lf (.i .i64)), (.lf (.i .i64))]) P0 23 [list.v, (.string came)] w_ fun (t16 : (Int) × (Int) × Unit) w__1 =>
K (t16.1, (t16.2.1, ())) w__1))
theorem impl.RulesOf.ok {list : Sl} {came : ByteArray} {w : World} {K : (Int) × (Int) × Unit → World → Prop} (h : impl.RulesOf.vc list came w K) : CallT (.n [(.lf (.i .i64)), (.lf (.i .i64))]) P0 9 [list.v, (.string came)] w K :=
  call_of Tryz.func9 rfl rfl (pl := impl.RulesOf.pl) (show VC P0 Tryz.f9 impl.RulesOf.pl (.n [(.lf (.i .i64)), (.lf (.i .i64))]) [list.v, (.string came)] w K noP from Eq.mp (by kernel_rfl) h)
/- laws.FnSameFirst -/
def laws.FnSameFirst.pl : Pl := (.s (.r (D 1)) (.j [] (.s (.r [.d, .d, .d, (.sp .d), .d, .d, .d, .d]) (.c (.s (.r (D 1)) .z) .z)) (.s (.r [.d, (.c (.n [(.lf .sl), (.lf .sl)])), .d, .d, .d, .d, .d]) (.s (.r [.d, .d, (.c (.n [(.lf .s), (.lf .b)])), .d, .d, .d, .d, .d]) (.s (.r [.d, .d, (.c (.n [(.lf .s), (.lf .b)])), .d, .d, .d, .d, .d]) (.s (.j [(53, .b)] (.r [.d, .d, .d, (.sp .d), .d, .d, .d, .d, (.sp .d), .d, .d, .d]) (.c (.s (.r [.d, .d, .d, (.sp .d), .d, .d, .d, .d, .d]) .z) .z)) (.s (.r [.d, (.c (.n [(.lf .sl), (.lf .s)])), .d, .d, .d, .d, .d]) (.s (.r [.d, .d, (.c (.n [(.lf (.i .i64)), (.lf (.i .i64))])), .d, .d, .d, .d, .d]) (.s (.r [.d, .d, (.c (.n [(.lf (.i .i64)), (.lf (.i .i64))])), .d, .d, .d, .d, .d]) (.s (.r [.d, .d, .d, (.sp .d), .d, .d, .d, .d, (.sp .d), .d, .d, (.t (.o (.lf .b))), .d, .d]) .z))))))))))
def laws.FnSameFirst.vc (code : Sl) (more : Sl) (w : World) (K : Bool → World → Prop) : Prop :=
∃ J : World → Prop,
(((decide ((((code.n : Nat) : Int) : Int) > 1048576)) = true → K true w) ∧
((decide ((((code.n : Nat) : Int) : Int) > 1048576)) = false → ((decide ((((more.n : Nat) : Int) : Int) > 1048576)) = true → K true w) ∧
((decide ((((more.n : Nat) : Int) : Int) > 1048576)) = false → J w))) ∧
(∀  w_, J w_ → ∀ _ : Nat → Value,
CallT (.n [(.lf .sl), (.lf .sl)]) P0 5 [code.v] w_ fun (t27 : (Sl) × (Sl) × Unit) w__1 =>
CallT (.n [(.lf .s), (.lf .b)]) P0 6 [t27.1.v, t27.2.1.v] w__1 fun (t33 : (ByteArray) × (Bool) × Unit) w__2 =>
CallT (.n [(.lf .s), (.lf .b)]) P0 7 [t27.1.v, t27.2.1.v] w__2 fun (t39 : (ByteArray) × (Bool) × Unit) w__3 =>
∃ J_1 : Bool → World → Prop,
(((!(ByteArray.toList t33.1 == ByteArray.toList t39.1)) = true → J_1 true w__3) ∧
((!(ByteArray.toList t33.1 == ByteArray.toList t39.1)) = false → ((!(t33.2.1 == t39.2.1)) = true → J_1 true w__3) ∧
((!(t33.2.1 == t39.2.1)) = false → J_1 (!t33.2.1) w__3))) ∧
(∀ (t53 : Bool) w__4, J_1 t53 w__4 → ∀ _ : Nat → Value,
(t53 = true → ((ByteArray.toList t33.1 == ByteArray.toList t39.1) = true → K (t33.2.1 == t39.2.1) w__4) ∧
((ByteArray.toList t33.1 == ByteArray.toList t39.1) = false → K false w__4)) ∧
(t53 = false → CallT (.n [(.lf .sl), (.lf .s)]) P0 8 [more.v] w__4 fun (t64 : (Sl) × (ByteArray) × Unit) w__5 =>
CallT (.n [(.lf (.i .i64)), (.lf (.i .i64))]) P0 9 [t27.1.v, (.string t64.2.1)] w__5 fun (t70 : (Int) × (Int) × Unit) w__6 =>
CallT (.n [(.lf (.i .i64)), (.lf (.i .i64))]) P0 9 [t27.2.1.v, (.string t64.2.1)] w__6 fun (t76 : (Int) × (Int) × Unit) w__7 =>
(((t70.1 : Int) == t76.1) = true → (((t70.2.1 : Int) == t76.2.1) = true → K true w__7) ∧
(((t70.2.1 : Int) == t76.2.1) = false → RunT (.o (.lf .b)) P0 (do eqGuard .leq 9 (.tmp 88) (.tmp 89) (.string t33.1) (.string t64.2.1); binOp .leq 9 (.string t33.1) (.string t64.2.1)) w__7 fun (t90 : Bool) w__8 =>
K t90 w__8)) ∧
(((t70.1 : Int) == t76.1) = false → RunT (.o (.lf .b)) P0 (do eqGuard .leq 9 (.tmp 88) (.tmp 89) (.string t33.1) (.string t64.2.1); binOp .leq 9 (.string t33.1) (.string t64.2.1)) w__7 fun (t90_1 : Bool) w__9 =>
K t90_1 w__9))))
theorem laws.FnSameFirst.ok {code : Sl} {more : Sl} {w : World} {K : Bool → World → Prop} (h : laws.FnSameFirst.vc code more w K) : CallT (.o (.lf .b)) P0 3 [code.v, more.v] w K :=
  call_of Tryz.func3 rfl rfl (pl := laws.FnSameFirst.pl) (show VC P0 Tryz.f3 laws.FnSameFirst.pl (.o (.lf .b)) [code.v, more.v] w K noP from Eq.mp (by kernel_rfl) h)
/- laws.FnSameFind -/
def laws.FnSameFind.pl : Pl := (.s (.r (D 1)) (.j [] (.s (.r [.d, .d, .d, (.sp .d), .d, .d, .d, .d]) (.c (.s (.r (D 1)) .z) .z)) (.s (.r [.d, (.c (.n [(.lf .sl), (.lf .sl)])), .d, .d, .d, .d, .d]) (.s (.r [.d, .d, (.c (.n [(.lf .s), (.lf .b)])), .d, .d, .d, .d, .d]) (.s (.r [.d, .d, (.c (.n [(.lf .s), (.lf .b)])), .d, .d, .d, .d, .d]) (.j [] (.s (.r [.d, .d, .d, (.sp .d), .d, .d, .d, .d]) (.c (.s (.r (D 1)) .z) .z)) (.s (.r [.d, .d, (.c (.o (.lf (.i .i64)))), .d]) (.j [] (.s (.r [.d, .d, (.sp .d), .d, .d, .d]) (.c (.s (.r (D 3)) .z) .z)) (.s (.r [.d, (.c (.n [(.lf .sl), (.lf .s)])), .d, .d, .d, .d, .d]) (.j [(13, .s)] (.s (.r (D 1)) (.c (.r (D 2)) .z)) (.s (.r [.d, .d, (.c (.n [(.lf (.i .i64)), (.lf (.i .i64))])), .d, .d, .d, .d, .d]) (.s (.r [.d, .d, (.c (.n [(.lf (.i .i64)), (.lf (.i .i64))])), .d, .d, .d, .d, .d]) (.s (.r [.d, .d, .d, .d, (.sp .d), .d, .d, .d, .d, .d, (.sp .d), .d, .d, (.sp .d), .d, .d, .d, .d, (.sp .d), .d, .d, .d, .d, .d, .d]) .z)))))))))))))
def laws.FnSameFind.vc (code : Sl) (more : Sl) (w : World) (K : Bool → World → Prop) : Prop :=
∃ J : World → Prop,
(((decide ((((code.n : Nat) : Int) : Int) > 1048576)) = true → K true w) ∧
((decide ((((code.n : Nat) : Int) : Int) > 1048576)) = false → ((decide ((((more.n : Nat) : Int) : Int) > 1048576)) = true → K true w) ∧
((decide ((((more.n : Nat) : Int) : Int) > 1048576)) = false → J w))) ∧
(∀  w_, J w_ → ∀ _ : Nat → Value,
CallT (.n [(.lf .sl), (.lf .sl)]) P0 5 [code.v] w_ fun (t28 : (Sl) × (Sl) × Unit) w__1 =>
CallT (.n [(.lf .s), (.lf .b)]) P0 6 [t28.1.v, t28.2.1.v] w__1 fun (t34 : (ByteArray) × (Bool) × Unit) w__2 =>
CallT (.n [(.lf .s), (.lf .b)]) P0 7 [t28.1.v, t28.2.1.v] w__2 fun (t40 : (ByteArray) × (Bool) × Unit) w__3 =>
∃ J_1 : World → Prop,
(((!(ByteArray.toList t34.1 == ByteArray.toList t40.1)) = true → K false w__3) ∧
((!(ByteArray.toList t34.1 == ByteArray.toList t40.1)) = false → ((!(t34.2.1 == t40.2.1)) = true → K false w__3) ∧
((!(t34.2.1 == t40.2.1)) = false → J_1 w__3))) ∧
(∀  w__4, J_1 w__4 → ∀ _ : Nat → Value,
CallT (.o (.lf (.i .i64))) P0 10 [t28.1.v, t28.2.1.v] w__4 fun (t53 : Int) w__5 =>
∃ J_2 : World → Prop,
(((decide ((t53 : Int) < 0)) = true → K (!t34.2.1) w__5) ∧
((decide ((t53 : Int) < 0)) = false → ((decide ((t53 : Int) > 400)) = true → K (!t34.2.1) w__5) ∧
((decide ((t53 : Int) > 400)) = false → J_2 w__5))) ∧
(∀  w__6, J_2 w__6 → ∀ _ : Nat → Value,
CallT (.n [(.lf .sl), (.lf .s)]) P0 8 [more.v] w__6 fun (t64 : (Sl) × (ByteArray) × Unit) w__7 =>
∃ J_3 : ByteArray → World → Prop,
((t34.2.1 = true → J_3 t34.1 w__7) ∧
(t34.2.1 = false → J_3 t64.2.1 w__7)) ∧
(∀ (came : ByteArray) w__8, J_3 came w__8 → ∀ _ : Nat → Value,
CallT (.n [(.lf (.i .i64)), (.lf (.i .i64))]) P0 9 [t28.1.v, (.string came)] w__8 fun (t72 : (Int) × (Int) × Unit) w__9 =>
CallT (.n [(.lf (.i .i64)), (.lf (.i .i64))]) P0 9 [t28.2.1.v, (.string came)] w__9 fun (t78 : (Int) × (Int) × Unit) w__10 =>
(((t72.1 : Int) != t78.1) = true → ((t34.2.1 == true) = true → K true w__10) ∧
((t34.2.1 == true) = false → ((!t34.2.1) = true → (((t72.1 : Int) == t78.1) = true → K ((t72.2.1 : Int) == t78.2.1) w__10) ∧
(((t72.1 : Int) == t78.1) = false → K false w__10)) ∧
((!t34.2.1) = false → K false w__10))) ∧
(((t72.1 : Int) != t78.1) = false → ((t34.2.1 == ((t72.2.1 : Int) != t78.2.1)) = true → K true w__10) ∧
((t34.2.1 == ((t72.2.1 : Int) != t78.2.1)) = false → ((!t34.2.1) = true → (((t72.1 : Int) == t78.1) = true → K ((t72.2.1 : Int) == t78.2.1) w__10) ∧
(((t72.1 : Int) == t78.1) = false → K false w__10)) ∧
((!t34.2.1) = false → K false w__10)))))))
theorem laws.FnSameFind.ok {code : Sl} {more : Sl} {w : World} {K : Bool → World → Prop} (h : laws.FnSameFind.vc code more w K) : CallT (.o (.lf .b)) P0 4 [code.v, more.v] w K :=
  call_of Tryz.func4 rfl rfl (pl := laws.FnSameFind.pl) (show VC P0 Tryz.f4 laws.FnSameFind.pl (.o (.lf .b)) [code.v, more.v] w K noP from Eq.mp (by kernel_rfl) h)
end Go.Proofs.YtdlnoabihfnmmaaGreat.V

/- Words for variables that hold ranges: what a function's boxes hold, as one list. -/
namespace Go.Proofs.YtdlnoabihfnmmaaGreat.V
open Go Go.RowKit
set_option linter.unusedVariables false
set_option linter.unusedSimpArgs false
/-- The boxes of a function: its own, and what they hold. -/
structure M (w0 w : World) (l : List (Nat × T4)) : Prop where
  low : Below w0.heap.size w0 w
  box : ∀ b x, (b, x) ∈ l → w0.heap.size ≤ b ∧ b < w.heap.size ∧ w.heap[b]? = some (.cells (Tup.cells (R 4 (.i .i64)) x).toArray 54 (0, 0))
  one : (l.map (·.1)).Nodup
/-- One box holds something else. -/
inductive Up : List (Nat × T4) → Nat → T4 → T4 → List (Nat × T4) → Prop
  | head (l : List (Nat × T4)) (b : Nat) (x y : T4) : Up ((b, x) :: l) b x y ((b, y) :: l)
  | tail (p : Nat × T4) (l l' : List (Nat × T4)) (b : Nat) (x y : T4) : Up l b x y l' → Up (p :: l) b x y (p :: l')
theorem Up.keys {l l' : List (Nat × T4)} {b : Nat} {x y : T4} (h : Up l b x y l') : l'.map (·.1) = l.map (·.1) := by
  induction h with
  | head => rfl
  | tail p l l' b x y _ ih => simp [ih]
theorem Up.mem {l l' : List (Nat × T4)} {b : Nat} {x y : T4} (h : Up l b x y l') : (b, x) ∈ l := by
  induction h with
  | head => exact List.mem_cons_self
  | tail p l l' b x y _ ih => exact List.mem_cons_of_mem _ ih
theorem Up.out {l l' : List (Nat × T4)} {b : Nat} {x y : T4} (h : Up l b x y l') (hn : (l.map (·.1)).Nodup) {c : Nat} {z : T4} (hc : (c, z) ∈ l') : (c = b ∧ z = y) ∨ (c ≠ b ∧ (c, z) ∈ l) := by
  induction h with
  | head l b x y =>
    rcases List.mem_cons.1 hc with e | e
    · simp only [Prod.mk.injEq] at e; exact .inl e
    · refine .inr ⟨fun e2 => ?_, List.mem_cons_of_mem _ e⟩
      subst e2
      simp only [List.map_cons, List.nodup_cons] at hn
      exact hn.1 (List.mem_map.2 ⟨_, e, rfl⟩)
  | tail p l l' b x y hu ih =>
    simp only [List.map_cons, List.nodup_cons] at hn
    rcases List.mem_cons.1 hc with e | e
    · subst e
      refine .inr ⟨fun e2 => ?_, List.mem_cons_self⟩
      subst e2
      exact hn.1 (List.mem_map.2 ⟨_, hu.mem, rfl⟩)
    · rcases ih hn.2 e with h | h
      · exact .inl h
      · exact .inr ⟨h.1, List.mem_cons_of_mem _ h.2⟩
section
variable {w0 w w' : World} {l l' : List (Nat × T4)} {b : Nat} {x y : T4}
theorem M.start (w : World) : M w w [] := ⟨Below.refl _ _, fun _ _ h => by simp at h, by simp⟩
theorem M.below (h : M w0 w l) (hb : Below w.heap.size w w') : M w0 w' l :=
  ⟨h.low.trans (hb.mono h.low.size), fun b x hx => by obtain ⟨h1, h2, h3⟩ := h.box b x hx; exact ⟨h1, by have := hb.size; omega, (hb.block b h2).trans h3⟩, h.one⟩
theorem nwM {cs : Array Value} (hm : M w0 w l) (hcs : cs = (Tup.cells (R 4 (.i .i64)) x).toArray) {K : Addr → World → Prop} (hk : ∀ w' b, M w0 w' ((b, x) :: l) → K ⟨b, 0, none⟩ w') : Nw cs 54 w K := by
  refine nw fun w' hb hs hc => hk w' _ ?_
  have hm' := hm.below hb
  refine ⟨hm'.low, fun c z hz => ?_, ?_⟩
  · rcases List.mem_cons.1 hz with e | e
    · simp only [Prod.mk.injEq] at e
      obtain ⟨rfl, rfl⟩ := e
      exact ⟨hm.low.size, by omega, by rw [hc, hcs]⟩
    · exact hm'.box c z e
  · simp only [List.map_cons, List.nodup_cons]
    refine ⟨fun h => ?_, hm.one⟩
    obtain ⟨p, hp, hpe⟩ := List.mem_map.1 h
    have := (hm.box p.1 p.2 hp).2.1
    omega
theorem nwM' (hm : M w0 w l) {K : Addr → World → Prop} (hk : ∀ w' b, M w0 w' ((b, x) :: l) → K ⟨b, 0, none⟩ w') : Nw (Tup.cells (R 4 (.i .i64)) x).toArray 54 w K := nwM hm rfl hk
theorem zcRange : zc P0 54 = (Tup.cells (R 4 (.i .i64)) ((0, 0, 0, 0, ()) : T4)).toArray := by kernel_rfl
theorem nwZ (hm : M w0 w l) {K : Addr → World → Prop} (hk : ∀ w' b, M w0 w' ((b, ((0, 0, 0, 0, ()) : T4)) :: l) → K ⟨b, 0, none⟩ w') : Nw (zc P0 54) 54 w K := nwM hm zcRange hk
theorem ldM {j : Nat} {v : Int} {K : Int → World → Prop} (hm : M w0 w l) (hb : (b, x) ∈ l) (hv : (Tup.cells (R 4 (.i .i64)) x).toArray[j]? = some (.int .i64 v)) (hk : K v w) : Ld (.i .i64) (Addr.add ⟨b, 0, none⟩ j) w K :=
  ldB (hm.box b x hb).2.2 hv hk
theorem ldAM {K : T4 → World → Prop} (hm : M w0 w l) (hb : (b, x) ∈ l) (hk : K x w) : LdA (R 4 (.i .i64)) ⟨b, 0, none⟩ w K :=
  ldAB (hm.box b x hb).2.2 (by simp) hk
theorem qldM {j : Nat} {v : Int} {K : Int → Prop} (hm : M w0 w l) (hb : (b, x) ∈ l) (hv : (Tup.cells (R 4 (.i .i64)) x).toArray[j]? = some (.int .i64 v)) (hk : K v) : QLd (.i .i64) (Addr.add ⟨b, 0, none⟩ j) (fun w' => Below w.heap.size w w') K :=
  qldB (hm.box b x hb).2.2 hv hk
theorem M.write (hm : M w0 w l) (hu : Up l b x y l') (hg : w.grownBy w' (some b)) (hs : w'.heap.size = w.heap.size) (hc : w'.heap[b]? = some (.cells (Tup.cells (R 4 (.i .i64)) y).toArray 54 (0, 0))) : M w0 w' l' := by
  have hb := hm.box b x hu.mem
  refine ⟨hm.low.grown hg hm.low.size (fun k hk => by simp only [Option.some.injEq] at hk; omega), fun c z hz => ?_, by rw [hu.keys]; exact hm.one⟩
  rcases hu.out hm.one hz with ⟨rfl, rfl⟩ | ⟨hne, hin⟩
  · exact ⟨hb.1, by omega, hc⟩
  · obtain ⟨h1, h2, h3⟩ := hm.box c z hin
    exact ⟨h1, by omega, (hg.block c h2 (by simpa using hne)).trans h3⟩
theorem stM {j : Nat} {v : Int} {K : World → Prop} (hm : M w0 w l) (hu : Up l b x y l') (hj : j < 4) (hy : (Tup.cells (R 4 (.i .i64)) x).toArray.setIfInBounds j (.int .i64 v) = (Tup.cells (R 4 (.i .i64)) y).toArray) (hk : ∀ w', M w0 w' l' → K w') : St (Addr.add ⟨b, 0, none⟩ j) (.int .i64 v) w K := by
  refine stB (hm.box b x hu.mem).2.2 rfl (by rw [List.size_toArray, V.cells_length]; exact hj) fun w' hg hs hc => hk w' (hm.write hu hg hs ?_)
  rw [hc, hy]
theorem stM0 {v : Int} {K : World → Prop} (hm : M w0 w l) (hu : Up l b x (v, x.2) l') (hk : ∀ w', M w0 w' l' → K w') : St (Addr.add ⟨b, 0, none⟩ 0) (.int .i64 v) w K := stM hm hu (by omega) rfl hk
theorem stM1 {v : Int} {K : World → Prop} (hm : M w0 w l) (hu : Up l b x (x.1, v, x.2.2) l') (hk : ∀ w', M w0 w' l' → K w') : St (Addr.add ⟨b, 0, none⟩ 1) (.int .i64 v) w K := stM hm hu (by omega) rfl hk
theorem stM2 {v : Int} {K : World → Prop} (hm : M w0 w l) (hu : Up l b x (x.1, x.2.1, v, x.2.2.2) l') (hk : ∀ w', M w0 w' l' → K w') : St (Addr.add ⟨b, 0, none⟩ 2) (.int .i64 v) w K := stM hm hu (by omega) rfl hk
theorem stM3 {v : Int} {K : World → Prop} (hm : M w0 w l) (hu : Up l b x (x.1, x.2.1, x.2.2.1, v, ()) l') (hk : ∀ w', M w0 w' l' → K w') : St (Addr.add ⟨b, 0, none⟩ 3) (.int .i64 v) w K := stM hm hu (by omega) rfl hk
theorem oneCell4 (y : T4) : ∀ v ∈ Tup.cells (R 4 (.i .i64)) y, v.oneCell' = true := by
  obtain ⟨y0, y1, y2, y3, _⟩ := y
  intro v hv
  simp [R, Tup.cells] at hv
  rcases hv with rfl | rfl | rfl | rfl <;> rfl
theorem stAM {vs : List Value} {K : World → Prop} (hm : M w0 w l) (hvs : vs = Tup.cells (R 4 (.i .i64)) y) (hu : Up l b x y l') (hk : ∀ w', M w0 w' l' → K w') : StA P0 ⟨b, 0, none⟩ vs w K := by
  subst hvs
  obtain ⟨w', hr, hg, hsz, hh⟩ := run_storeCells_at' P0 (b := b) (t := 54) (Tup.cells (R 4 (.i .i64)) y) 0 [] (Tup.cells (R 4 (.i .i64)) x) w (oneCell4 y) rfl (by simp [V.cells_length]) (by simpa using (hm.box b x hu.mem).2.2)
  exact ⟨w', hr, hk w' (hm.write hu hg hsz (by simpa using hh))⟩
theorem stAM' {K : World → Prop} (hm : M w0 w l) (hu : Up l b x y l') (hk : ∀ w', M w0 w' l' → K w') : StA P0 ⟨b, 0, none⟩ (Tup.cells (R 4 (.i .i64)) y) w K := stAM hm rfl hu hk
theorem stAL {K : World → Prop} {p q s t : Int} (hm : M w0 w l) (hu : Up l b x (p, q, s, t, ()) l') (hk : ∀ w', M w0 w' l' → K w') : StA P0 ⟨b, 0, none⟩ [.int .i64 p, .int .i64 q, .int .i64 s, .int .i64 t] w K := stAM hm rfl hu hk
theorem belOk (w : World) : SpOk (Below w.heap.size) w := ⟨fun a => Below.refl _ _, fun a b c h1 h2 => h1.trans h2, (Below.refl _ _).drew⟩
end
/-- One box is taken out. -/
inductive Del : List (Nat × T4) → Nat → T4 → List (Nat × T4) → Prop
  | head (l : List (Nat × T4)) (b : Nat) (x : T4) : Del ((b, x) :: l) b x l
  | tail (p : Nat × T4) (l r : List (Nat × T4)) (b : Nat) (x : T4) : Del l b x r → Del (p :: l) b x (p :: r)
theorem Del.mem {l r : List (Nat × T4)} {b : Nat} {x : T4} (h : Del l b x r) : (b, x) ∈ l := by
  induction h with
  | head => exact List.mem_cons_self
  | tail p l r b x _ ih => exact List.mem_cons_of_mem _ ih
theorem Del.sub {l r : List (Nat × T4)} {b : Nat} {x : T4} (h : Del l b x r) : r.Sublist l := by
  induction h with
  | head => exact List.sublist_cons_self _ _
  | tail p l r b x _ ih => exact ih.cons_cons p
theorem Del.ne {l r : List (Nat × T4)} {b : Nat} {x : T4} (h : Del l b x r) (hn : (l.map (·.1)).Nodup) : b ∉ r.map (·.1) := by
  induction h with
  | head l b x => simp only [List.map_cons, List.nodup_cons] at hn; exact hn.1
  | tail p l r b x hd ih =>
    simp only [List.map_cons, List.nodup_cons] at hn
    simp only [List.map_cons, List.mem_cons, not_or]
    refine ⟨fun e => ?_, ih hn.2⟩
    subst e
    exact hn.1 (List.mem_map.2 ⟨_, hd.mem, rfl⟩)
def bx (y : T4) : Obj := .cells (Tup.cells (R 4 (.i .i64)) y).toArray 54 (0, 0)
/-- What may become of the world while a box gets its value. -/
structure SpS (n b : Nat) (y : T4) (a c : World) : Prop where
  os : c.os = a.os
  tape : c.tape = a.tape
  output : c.output = a.output
  size : a.heap.size ≤ c.heap.size
  low : ∀ k, k < n → k ≠ b → c.heap[k]? = a.heap[k]?
  box : c.heap[b]? = a.heap[b]? ∨ c.heap[b]? = some (bx y)
theorem SpS.refl (n b : Nat) (y : T4) (a : World) : SpS n b y a a := ⟨rfl, rfl, rfl, Nat.le_refl _, fun _ _ _ => rfl, .inl rfl⟩
theorem SpS.trans {n b : Nat} {y : T4} {a c d : World} (h1 : SpS n b y a c) (h2 : SpS n b y c d) : SpS n b y a d :=
  ⟨h2.os.trans h1.os, h2.tape.trans h1.tape, h2.output.trans h1.output, Nat.le_trans h1.size h2.size, fun k hk hne => (h2.low k hk hne).trans (h1.low k hk hne), by
    rcases h2.box with h | h
    · rcases h1.box with h' | h'
      · exact .inl (h.trans h')
      · exact .inr (h.trans h')
    · exact .inr h⟩
theorem SpS.of_below {n b : Nat} {y : T4} {a c : World} (h : Below n a c) (hb : b < n) : SpS n b y a c := ⟨h.os, h.tape, h.output, h.size, fun k hk _ => h.block k hk, .inl (h.block b hb)⟩
theorem spsOk (b : Nat) (y : T4) (w : World) : SpOk (SpS w.heap.size b y) w :=
  ⟨fun a => SpS.refl _ _ _ a, fun a b c h1 h2 => h1.trans h2, by
    have hb : Below w.heap.size w w.drew := (Below.refl _ _).drew
    exact ⟨hb.os, hb.tape, hb.output, hb.size, fun k hk _ => hb.block k hk, .inl rfl⟩⟩
theorem keptBx {n b : Nat} {y : T4} : Kept (SpS n b y) (fun (_ : Unit) w => w.heap[b]? = some (bx y)) := by
  intro _ a c h hac
  rcases hac.box with e | e
  · exact e.trans h
  · exact e
section
variable {w0 w w1 : World} {l r : List (Nat × T4)} {b : Nat} {x y : T4}
theorem M.sps (hm : M w0 w l) (hd : Del l b x r) (hs : SpS w.heap.size b y w w1) : M w0 w1 r := by
  have hb := hm.box b x hd.mem
  refine ⟨⟨hs.os.trans hm.low.os, hs.tape.trans hm.low.tape, hs.output.trans hm.low.output, Nat.le_trans hm.low.size hs.size, fun k hk => (hs.low k (by have := hm.low.size; omega) (by omega)).trans (hm.low.block k hk)⟩, fun c z hz => ?_, hm.one.sublist (hd.sub.map _)⟩
  obtain ⟨h1, h2, h3⟩ := hm.box c z (hd.sub.subset hz)
  have hne : c ≠ b := fun e => hd.ne hm.one (e ▸ List.mem_map.2 ⟨_, hz, rfl⟩)
  exact ⟨h1, by have := hs.size; omega, (hs.low c h2 hne).trans h3⟩
theorem M.spsB (hm : M w0 w l) (hd : Del l b x r) (hs : SpS w.heap.size b y w w1) (hy : w1.heap[b]? = some (bx y)) : M w0 w1 ((b, y) :: r) := by
  have h := hm.sps hd hs
  have hb := hm.box b x hd.mem
  refine ⟨h.low, fun c z hz => ?_, ?_⟩
  · rcases List.mem_cons.1 hz with e | e
    · simp only [Prod.mk.injEq] at e
      obtain ⟨rfl, rfl⟩ := e
      exact ⟨hb.1, by have := hs.size; omega, hy⟩
    · exact h.box c z e
  · simp only [List.map_cons, List.nodup_cons]
    exact ⟨hd.ne hm.one, h.one⟩
theorem sps_of_grown {c : World} (hg : w1.grownBy c (some b)) (hn : w.heap.size ≤ w1.heap.size) (hc : c.heap[b]? = some (bx y)) : SpS w.heap.size b y w1 c :=
  ⟨hg.os, hg.tape, hg.output, hg.size, fun k hk hne => hg.block k (by omega) (by simpa using hne), .inr hc⟩
/-- A box gets its value while other things are done. -/
theorem stSps (hm : M w0 w l) (hd : Del l b x r) (hs : SpS w.heap.size b y w w1) {vs : List Value} (hvs : vs = Tup.cells (R 4 (.i .i64)) y) :
    StA P0 ⟨b, 0, none⟩ vs w1 fun w2 => GK .z (SpS w.heap.size b y) w1 (fun _ w => w.heap[b]? = some (bx y)) (.tuple #[]) w2 := by
  subst hvs
  have hb := hm.box b x hd.mem
  obtain ⟨z, hz⟩ : ∃ z : T4, w1.heap[b]? = some (bx z) := by
    rcases hs.box with e | e
    · exact ⟨x, e.trans hb.2.2⟩
    · exact ⟨y, e⟩
  obtain ⟨w', hr, hg, hsz, hh⟩ := run_storeCells_at' P0 (b := b) (t := 54) (Tup.cells (R 4 (.i .i64)) y) 0 [] (Tup.cells (R 4 (.i .i64)) z) w1 (oneCell4 y) rfl (by simp [V.cells_length]) (by simpa [bx] using hz)
  have hh' : w'.heap[b]? = some (bx y) := by simpa [bx] using hh
  exact ⟨w', hr, (), rfl, sps_of_grown hg hs.size hh', hh'⟩
theorem stSps0 {v : Int} (hm : M w0 w l) (hd : Del l b x r) (hs : SpS w.heap.size b (v, x.2) w w1) :
    St (Addr.add ⟨b, 0, none⟩ 0) (.int .i64 v) w1 fun w2 => GK .z (SpS w.heap.size b (v, x.2)) w1 (fun _ w => w.heap[b]? = some (bx (v, x.2))) (.tuple #[]) w2 := by
  have hb := hm.box b x hd.mem
  have key : ∀ z : T4, z.2 = x.2 → w1.heap[b]? = some (bx z) → St (Addr.add ⟨b, 0, none⟩ 0) (.int .i64 v) w1 fun w2 => GK .z (SpS w.heap.size b (v, x.2)) w1 (fun _ w => w.heap[b]? = some (bx (v, x.2))) (.tuple #[]) w2 := by
    intro z hz1 hz
    refine stB hz rfl (by rw [List.size_toArray, V.cells_length]; decide) fun w' hg hsz hc => ?_
    have hh' : w'.heap[b]? = some (bx (v, x.2)) := by rw [hc, ← hz1]; rfl
    exact ⟨(), rfl, sps_of_grown hg hs.size hh', hh'⟩
  rcases hs.box with e | e
  · exact key x rfl (e.trans hb.2.2)
  · exact key (v, x.2) rfl e
end
/-- A fact: the result is this. -/
def eqG {α : Type} (v : α) : α → World → Prop := fun x _ => x = v
theorem exE {α : Type} {v : α} {Sp : World → World → Prop} {p : (α → World → Prop) → Prop} (h : p (eqG v)) : ∃ G, Kept Sp G ∧ p G := ⟨eqG v, fun _ _ _ h _ => h, h⟩
theorem gkE {r : Rs} {Sp : World → World → Prop} {w1 w' : World} {x : r.T} {v : Value} (hv : v = r.emb x) (h : Sp w1 w') : GK r Sp w1 (eqG x) v w' := ⟨x, hv, h, rfl⟩
section
variable {w : World}
theorem spec.l2One.c {n : Int} {K : T4 → World → Prop} (hk : ∀ w', Below w.heap.size w w' → K (n, n, n, 0, ()) w') : CallT (.o (.ag (R 4 (.i .i64)))) P0 43 [.int .i64 n] w K := by
  refine spec.l2One.ok ?_
  unfold spec.l2One.vc
  have hm := M.start w
  repeat' (first | (with_reducible refine ldM (by assumption) (by with_unfolding_all (repeat (first | exact List.mem_cons_self | refine List.mem_cons_of_mem _ ?_))) (by with_unfolding_all rfl) ?_) | (with_reducible refine ldAM (by assumption) (by with_unfolding_all (repeat (first | exact List.mem_cons_self | refine List.mem_cons_of_mem _ ?_))) ?_) | (with_reducible refine nwZ (by assumption) fun _ _ _ => ?_) | (with_reducible refine nwM' (by assumption) fun _ _ _ => ?_) | (with_reducible refine stM0 (by assumption) (by with_unfolding_all (repeat (first | exact Up.head _ _ _ _ | apply Up.tail))) fun _ _ => ?_) | (with_reducible refine stM1 (by assumption) (by with_unfolding_all (repeat (first | exact Up.head _ _ _ _ | apply Up.tail))) fun _ _ => ?_) | (with_reducible refine stM2 (by assumption) (by with_unfolding_all (repeat (first | exact Up.head _ _ _ _ | apply Up.tail))) fun _ _ => ?_) | (with_reducible refine stM3 (by assumption) (by with_unfolding_all (repeat (first | exact Up.head _ _ _ _ | apply Up.tail))) fun _ _ => ?_) | (with_reducible refine stAM' (by assumption) (by with_unfolding_all (repeat (first | exact Up.head _ _ _ _ | apply Up.tail))) fun _ _ => ?_) | (with_reducible refine stAL (by assumption) (by with_unfolding_all (repeat (first | exact Up.head _ _ _ _ | apply Up.tail))) fun _ _ => ?_) | (with_reducible refine And.intro (fun _ => ?_) (fun _ => ?_)) | (refine stAM' (by assumption) (by with_unfolding_all (repeat (first | exact Up.head _ _ _ _ | apply Up.tail))) fun _ _ => ?_))
  exact hk _ (by assumption : M w _ _).low
end
end Go.Proofs.YtdlnoabihfnmmaaGreat.V

/- Contracts: what tidies a range. -/
namespace Go.Proofs.YtdlnoabihfnmmaaGreat.V
open Go Go.RowKit
set_option linter.unusedVariables false
set_option linter.unusedSimpArgs false
theorem bitsLen.c {w : World} {x : Nat} {v : Int} {K : Int → World → Prop} (hx : x < 2 ^ 63) (hv : v = (x : Int)) (hk : K (Lib.bitLen x) w) : CallT (.o (.lf (.i .i64))) P0 71 [.int .u64 v] w K := by
  subst hv
  refine Calls.mono (Tryz.bits_Len x w (by omega) (by omega)) fun e w' h => ?_
  obtain ⟨rfl, rfl⟩ := h
  exact ⟨(Lib.bitLen x : Int), rfl, by simpa using hk⟩
section
variable {w0 w w1 : World} {l r : List (Nat × T4)} {b : Nat} {x : T4} {v : Int}
theorem M.sps0 (hm : M w0 w l) (hd : Del l b x r) (hs : SpS w.heap.size b (v, x.2) w w1) : ∃ z : T4, z.2 = x.2 ∧ w1.heap[b]? = some (bx z) := by
  have hb := hm.box b x hd.mem
  rcases hs.box with e | e
  · exact ⟨x, rfl, e.trans hb.2.2⟩
  · exact ⟨(v, x.2), rfl, e⟩
theorem ldSps2 {K : Int → World → Prop} (hm : M w0 w l) (hd : Del l b x r) (hs : SpS w.heap.size b (v, x.2) w w1) (hk : K x.2.2.1 w1) : Ld (.i .i64) (Addr.add ⟨b, 0, none⟩ 2) w1 K := by
  obtain ⟨z, hz, hb⟩ := hm.sps0 hd hs
  exact ldB hb (x := x.2.2.1) (by rw [← hz]; rfl) hk
theorem ldSps3 {K : Int → World → Prop} (hm : M w0 w l) (hd : Del l b x r) (hs : SpS w.heap.size b (v, x.2) w w1) (hk : K x.2.2.2.1 w1) : Ld (.i .i64) (Addr.add ⟨b, 0, none⟩ 3) w1 K := by
  obtain ⟨z, hz, hb⟩ := hm.sps0 hd hs
  exact ldB hb (x := x.2.2.2.1) (by rw [← hz]; rfl) hk
end
theorem keptEq {α : Type} {v : α} {Sp : World → World → Prop} : Kept Sp (eqG v) := fun _ _ _ h _ => h
/-- What a range is, tidied, if its ends share so many bits. -/
def tdO (o : Int) (low : Int) : Int := iAnd .i64 o low
def tdB (r : T4) (low : Int) : Int := iAndNot .i64 (iOr .i64 r.2.2.1 (iAndNot .i64 r.1 low)) (tdO r.2.2.2.1 low)
def tdF (r : T4) (low : Int) : T4 := (if tdB r low > r.1 then tdB r low else r.1, if iOr .i64 (tdB r low) (tdO r.2.2.2.1 low) < r.2.1 then iOr .i64 (tdB r low) (tdO r.2.2.2.1 low) else r.2.1, tdB r low, tdO r.2.2.2.1 low, ())
section
variable {w : World}
end
/-! ### the law -/
theorem tdF_rgk {k x lo hi : Nat} (hk : k ≤ 32) (hle : lo ≤ hi) (hhi : hi < 2 ^ 32) (h1 : lo / 2 ^ k = x / 2 ^ k) (h2 : hi / 2 ^ k = x / 2 ^ k) : tdF (rgk k x lo hi) ((2 ^ kk lo hi - 1 : Nat) : Int) = ivl lo hi := by
  have hj : kk lo hi ≤ k := kk_part (h1.trans h2.symm) (by omega) (by omega)
  have hs := kk_same (a := lo) (b := hi) (by omega) (by omega)
  unfold ivl
  generalize kk lo hi = j at *
  have hlt : ∀ q : Nat, q ≤ 32 → 2 ^ q - 1 < 2 ^ 63 := fun q hq => by
    have := Nat.pow_le_pow_right (n := 2) (by omega) hq
    omega
  have eO : tdO ((2 ^ k - 1 : Nat) : Int) ((2 ^ j - 1 : Nat) : Int) = ((2 ^ j - 1 : Nat) : Int) := by
    unfold tdO
    rw [iAnd_nat (hlt k hk) (hlt j (by omega)), mask_and hj]
  have c1 := cutN_le k x
  have c2 := cutN_le j lo
  have ce := cut_eq h1
  have c3 := cutN_le k lo
  have eB : tdB (rgk k x lo hi) ((2 ^ j - 1 : Nat) : Int) = ((cutN j lo : Nat) : Int) := by
    show iAndNot .i64 (iOr .i64 ((cutN k x : Nat) : Int) (iAndNot .i64 (lo : Int) ((2 ^ j - 1 : Nat) : Int))) (tdO ((2 ^ k - 1 : Nat) : Int) ((2 ^ j - 1 : Nat) : Int)) = _
    rw [eO, iAndNot_mask (by omega) (by omega), iOr_nat (by omega) (by omega), cut_or hj h1.symm, iAndNot_mask (by omega) (by omega), cut_cut]
  have eM : iOr .i64 ((cutN j lo : Nat) : Int) ((2 ^ j - 1 : Nat) : Int) = ((cutN j lo + (2 ^ j - 1) : Nat) : Int) := by
    rw [iOr_nat (by omega) (hlt j (by omega)), cut_mask]
  have c4 := cutN_lt j hi
  have c5 := cut_eq hs
  unfold tdF
  rw [eB]
  show ((if ((cutN j lo : Nat) : Int) > (lo : Int) then ((cutN j lo : Nat) : Int) else (lo : Int)), (if iOr .i64 ((cutN j lo : Nat) : Int) (tdO ((2 ^ k - 1 : Nat) : Int) ((2 ^ j - 1 : Nat) : Int)) < (hi : Int) then iOr .i64 ((cutN j lo : Nat) : Int) (tdO ((2 ^ k - 1 : Nat) : Int) ((2 ^ j - 1 : Nat) : Int)) else (hi : Int)), ((cutN j lo : Nat) : Int), tdO ((2 ^ k - 1 : Nat) : Int) ((2 ^ j - 1 : Nat) : Int), ()) = ((lo : Int), (hi : Int), ((cutN j lo : Nat) : Int), ((2 ^ j - 1 : Nat) : Int), ())
  rw [eO, eM, if_neg (by omega), if_neg (by omega)]
section
variable {w : World}
end
end Go.Proofs.YtdlnoabihfnmmaaGreat.V

/- Verification conditions, printed by this session's own program (wip/vc.py) and checked by the kernel. -/
namespace Go.Proofs.YtdlnoabihfnmmaaGreat.V
open Go Go.RowKit
set_option linter.unusedVariables false
/- (impl.Rule).valid -/
def impl.Rule.valid.pl : Pl := (.s (.r (D 2)) (.s (.r [.d, (.l (.lf (.i .i64))), (.c (.o (.lf .b))), (.sp .d), .d, (.l (.lf (.i .i64))), (.c (.o (.lf .b))), .d, (.sp .d), .d, (.l (.lf (.i .i64))), (.c (.o (.lf .b))), .d, (.sp .d), .d, (.l (.lf (.i .i64))), (.c (.o (.lf .b))), .d, (.sp .d), .d, (.l (.lf (.i .i64))), (.c (.o (.lf .b))), .d, (.sp .d), .d, (.l (.lf (.i .i64))), .d, (.sp .d), .d, (.l (.lf (.i .i64))), .d, .d, .d, .d]) .z))
def impl.Rule.valid.vc (r : Tup (R 5 (.i .i64))) (w : World) (K : Bool → World → Prop) : Prop :=
Nw (Tup.cells (R 5 (.i .i64)) r).toArray 40 w fun a_r w_ =>
Ld (.i .i64) (Addr.add a_r 0) w_ fun (t4 : Int) w__1 =>
CallT (.o (.lf .b)) P0 55 [(.int .i64 t4), (.int .i64 0), (.int .i64 11)] w__1 fun (t5 : Bool) w__2 =>
(t5 = true → Ld (.i .i64) (Addr.add a_r 1) w__2 fun (t8 : Int) w__3 =>
CallT (.o (.lf .b)) P0 56 [(.int .i64 t8)] w__3 fun (t9 : Bool) w__4 =>
(t9 = true → Ld (.i .i64) (Addr.add a_r 2) w__4 fun (t13 : Int) w__5 =>
CallT (.o (.lf .b)) P0 55 [(.int .i64 t13), (.int .i64 0), (.int .i64 255)] w__5 fun (t14 : Bool) w__6 =>
(t14 = true → Ld (.i .i64) (Addr.add a_r 3) w__6 fun (t18 : Int) w__7 =>
CallT (.o (.lf .b)) P0 55 [(.int .i64 t18), (.int .i64 0), (.int .i64 2)] w__7 fun (t19 : Bool) w__8 =>
(t19 = true → Ld (.i .i64) (Addr.add a_r 4) w__8 fun (t23 : Int) w__9 =>
CallT (.o (.lf .b)) P0 57 [(.int .i64 t23)] w__9 fun (t24 : Bool) w__10 =>
(t24 = true → Ld (.i .i64) (Addr.add a_r 4) w__10 fun (t28 : Int) w__11 =>
(((t28 : Int) == 0) = true → K true w__11) ∧
(((t28 : Int) == 0) = false → Ld (.i .i64) (Addr.add a_r 3) w__11 fun (t32 : Int) w__12 =>
K ((t32 : Int) == 2) w__12)) ∧
(t24 = false → K false w__10)) ∧
(t19 = false → K false w__8)) ∧
(t14 = false → K false w__6)) ∧
(t9 = false → K false w__4)) ∧
(t5 = false → K false w__2)
theorem impl.Rule.valid.ok {r : Tup (R 5 (.i .i64))} {w : World} {K : Bool → World → Prop} (h : impl.Rule.valid.vc r w K) : CallT (.o (.lf .b)) P0 37 [(.agg (Tup.cells (R 5 (.i .i64)) r).toArray)] w K :=
  call_of Tryz.func37 rfl rfl (pl := impl.Rule.valid.pl) (show VC P0 Tryz.f37 impl.Rule.valid.pl (.o (.lf .b)) [(.agg (Tup.cells (R 5 (.i .i64)) r).toArray)] w K noP from Eq.mp (by kernel_rfl) h)
/- impl.RulesOk$1 -/
def impl.RulesOk_1.pl : Pl := (.s (.r (D 2)) (.s (.r [(.l (.ag (R 5 (.i .i64)))), (.c (.o (.lf .b))), .d, .d]) .z))
def impl.RulesOk_1.vc (r : Tup (R 5 (.i .i64))) (w : World) (K : Bool → World → Prop) : Prop :=
Nw (Tup.cells (R 5 (.i .i64)) r).toArray 40 w fun a_r w_ =>
LdA (R 5 (.i .i64)) a_r w_ fun (t3 : Tup (R 5 (.i .i64))) w__1 =>
CallT (.o (.lf .b)) P0 37 [(.agg (Tup.cells (R 5 (.i .i64)) t3).toArray)] w__1 fun (t4 : Bool) w__2 =>
K (!t4) w__2
theorem impl.RulesOk_1.ok {r : Tup (R 5 (.i .i64))} {w : World} {K : Bool → World → Prop} (h : impl.RulesOk_1.vc r w K) : CallT (.o (.lf .b)) P0 36 [(.agg (Tup.cells (R 5 (.i .i64)) r).toArray)] w K :=
  call_of Tryz.func36 rfl rfl (pl := impl.RulesOk_1.pl) (show VC P0 Tryz.f36 impl.RulesOk_1.pl (.o (.lf .b)) [(.agg (Tup.cells (R 5 (.i .i64)) r).toArray)] w K noP from Eq.mp (by kernel_rfl) h)
/- slices.IndexFunc[[]impl.Rule,impl.Rule] -/
def slices.IndexFunc_Rule_ok.pl : Pl := (.s (.r (D 1)) (.s (.s (.r (D 3)) (.b (.l [(8, (.i .i64))] (.s (.r (D 1)) (.s (.c .z .z) (.s (.b (.s (.r (D 2)) (.s (.r [.d, .d, .d, .d, (.l (.ag (R 5 (.i .i64)))), (.c (.o (.lf .b)))]) (.c (.s (.r (D 2)) .z) .z)))) (.r (D 2)))))))) (.s (.r (D 1)) .z)))
def slices.IndexFunc_Rule_ok.vc (s : Sl) (w : World) (K : Int → World → Prop) : Prop :=
∃ (I : Int → World → Prop) (M : Int → World → Nat),
I 0 w ∧
(∀ (t8 : Int) w_, I t8 w_ → ∀ _ : Nat → Value,
((decide ((t8 : Int) < ((s.n : Nat) : Int))) = true → Ix s.a s.n t8 5 w_ fun a_t14 w__1 =>
LdA (R 5 (.i .i64)) a_t14 w__1 fun (t15 : Tup (R 5 (.i .i64))) w__2 =>
CallT (.o (.lf .b)) P0 36 [(.agg (Tup.cells (R 5 (.i .i64)) t15).toArray)] w__2 fun (t16 : Bool) w__3 =>
(t16 = true → K t8 w__3) ∧
(t16 = false → (I (IntKind.wrap .i64 (t8 + 1)) w__3 ∧ M (IntKind.wrap .i64 (t8 + 1)) w__3 < M t8 w_))) ∧
((decide ((t8 : Int) < ((s.n : Nat) : Int))) = false → K (-1) w_))
theorem slices.IndexFunc_Rule_ok.ok {s : Sl} {w : World} {K : Int → World → Prop} (h : slices.IndexFunc_Rule_ok.vc s w K) : CallT (.o (.lf (.i .i64))) P0 54 [s.v, (.func (.func 36) #[] #[])] w K :=
  call_of Tryz.func54 rfl rfl (pl := slices.IndexFunc_Rule_ok.pl) (show VC P0 Tryz.f54 slices.IndexFunc_Rule_ok.pl (.o (.lf (.i .i64))) [s.v, (.func (.func 36) #[] #[])] w K noP from Eq.mp (by kernel_rfl) h)
/- slices.ContainsFunc[[]impl.Rule,impl.Rule] -/
def slices.ContainsFunc_Rule_ok.pl : Pl := (.s (.r (D 1)) (.s (.r [.d, .d, (.c (.o (.lf (.i .i64)))), .d, .d]) .z))
def slices.ContainsFunc_Rule_ok.vc (s : Sl) (w : World) (K : Bool → World → Prop) : Prop :=
CallT (.o (.lf (.i .i64))) P0 54 [s.v, (.func (.func 36) #[] #[])] w fun (t7 : Int) w_ =>
K (decide ((t7 : Int) ≥ 0)) w_
theorem slices.ContainsFunc_Rule_ok.ok {s : Sl} {w : World} {K : Bool → World → Prop} (h : slices.ContainsFunc_Rule_ok.vc s w K) : CallT (.o (.lf .b)) P0 35 [s.v, (.func (.func 36) #[] #[])] w K :=
  call_of Tryz.func35 rfl rfl (pl := slices.ContainsFunc_Rule_ok.pl) (show VC P0 Tryz.f35 slices.ContainsFunc_Rule_ok.pl (.o (.lf .b)) [s.v, (.func (.func 36) #[] #[])] w K noP from Eq.mp (by kernel_rfl) h)
/- impl.RulesOk -/
def impl.RulesOk.pl : Pl := (.s (.r (D 1)) (.s (.r [.d, .d, .d, (.sp .d), .d, (.c (.o (.lf .b))), .d, .d, .d]) .z))
def impl.RulesOk.vc (list : Sl) (w : World) (K : Bool → World → Prop) : Prop :=
((decide ((((list.n : Nat) : Int) : Int) ≤ 6)) = true → CallT (.o (.lf .b)) P0 35 [list.v, (.func (.func 36) #[] #[])] w fun (t8 : Bool) w_ =>
K (!t8) w_) ∧
((decide ((((list.n : Nat) : Int) : Int) ≤ 6)) = false → K false w)
theorem impl.RulesOk.ok {list : Sl} {w : World} {K : Bool → World → Prop} (h : impl.RulesOk.vc list w K) : CallT (.o (.lf .b)) P0 22 [list.v] w K :=
  call_of Tryz.func22 rfl rfl (pl := impl.RulesOk.pl) (show VC P0 Tryz.f22 impl.RulesOk.pl (.o (.lf .b)) [list.v] w K noP from Eq.mp (by kernel_rfl) h)
/- slices.Grow[[]impl.Rule,impl.Rule] -/
def slices.Grow_Rule.pl : Pl := (.s (.r (D 1)) (.j [] (.s (.r (D 2)) (.c (.r (D 2)) .z)) (.s (.s (.r (D 8)) (.s (.r (D 2)) (.c (.r [.d, .d, .d, (.t (.o (.lf .sl))), .d, (.t (.o (.lf .sl))), .d, .d, (.t (.o (.lf .sl))), .d]) .z))) (.s (.r (D 2)) .z))))
def slices.Grow_Rule.vc (s : Sl) (n : Int) (w : World) (K : Sl → World → Prop) : Prop :=
∃ J : World → Prop,
(((decide ((n : Int) < 0)) = true → False) ∧
((decide ((n : Int) < 0)) = false → J w)) ∧
(∀  w_, J w_ → ∀ _ : Nat → Value,
((decide (((IntKind.wrap .i64 (n - (IntKind.wrap .i64 (((s.c : Nat) : Int) - ((s.n : Nat) : Int))))) : Int) > 0)) = true → RunT (.o (.lf .sl)) P0 (Instr.sliceAt 23 s.v none (some (.int .i64 ((s.c : Nat) : Int))) none) w_ fun (t20 : Sl) w__1 =>
RunT (.o (.lf .sl)) P0 (Builtin.append_ #[23, 3] 23 #[t20.v, (.int .i64 (IntKind.wrap .i64 (n - (IntKind.wrap .i64 (((s.c : Nat) : Int) - ((s.n : Nat) : Int))))))]) w__1 fun (t22 : Sl) w__2 =>
RunT (.o (.lf .sl)) P0 (Instr.sliceAt 23 t22.v none (some (.int .i64 ((s.n : Nat) : Int))) none) w__2 fun (t25 : Sl) w__3 =>
K t25 w__3) ∧
((decide (((IntKind.wrap .i64 (n - (IntKind.wrap .i64 (((s.c : Nat) : Int) - ((s.n : Nat) : Int))))) : Int) > 0)) = false → K s w_))
theorem slices.Grow_Rule.ok {s : Sl} {n : Int} {w : World} {K : Sl → World → Prop} (h : slices.Grow_Rule.vc s n w K) : CallT (.o (.lf .sl)) P0 69 [s.v, (.int .i64 n)] w K :=
  call_of Tryz.func69 rfl rfl (pl := slices.Grow_Rule.pl) (show VC P0 Tryz.f69 slices.Grow_Rule.pl (.o (.lf .sl)) [s.v, (.int .i64 n)] w K noP from Eq.mp (by kernel_rfl) h)
/- slices.Concat[[]impl.Rule,impl.Rule] -/
def slices.Concat_Rule.pl : Pl := (.s (.r (D 1)) (.s (.r (D 1)) (.s (.s (.r (D 3)) (.b (.l [(3, (.i .i64)), (11, (.i .i64))] (.s (.r (D 1)) (.s (.c .z .z) (.s (.b (.s (.r [.d, (.l (.lf .sl)), .d]) (.s (.r (D 5)) (.s (.r (D 2)) (.c (.r (D 2)) .z))))) (.r (D 2)))))))) (.s (.r [.d, (.c (.o (.lf .sl))), .d]) (.s (.s (.r (D 3)) (.b (.l [(6, .sl), (27, (.i .i64))] (.s (.r (D 1)) (.s (.c .z .z) (.s (.b (.s (.r [.d, (.l (.lf .sl)), .d]) (.r [.d, .d, (.t (.o (.lf .sl))), .d]))) (.r (D 2)))))))) (.s (.r (D 2)) .z))))))
def slices.Concat_Rule.vc (slices_ : Sl) (w : World) (K : Sl → World → Prop) : Prop :=
∃ (I : Int → Int → World → Prop) (M : Int → Int → World → Nat),
I 0 0 w ∧
(∀ (size : Int) (t11 : Int) w_, I size t11 w_ → ∀ _ : Nat → Value,
((decide ((t11 : Int) < ((slices_.n : Nat) : Int))) = true → Ix slices_.a slices_.n t11 1 w_ fun a_t13 w__1 =>
Ld .sl a_t13 w__1 fun (t14 : Sl) w__2 =>
((decide (((IntKind.wrap .i64 (size + ((t14.n : Nat) : Int))) : Int) < 0)) = true → False) ∧
((decide (((IntKind.wrap .i64 (size + ((t14.n : Nat) : Int))) : Int) < 0)) = false → (I (IntKind.wrap .i64 (size + ((t14.n : Nat) : Int))) (IntKind.wrap .i64 (t11 + 1)) w__2 ∧ M (IntKind.wrap .i64 (size + ((t14.n : Nat) : Int))) (IntKind.wrap .i64 (t11 + 1)) w__2 < M size t11 w_))) ∧
((decide ((t11 : Int) < ((slices_.n : Nat) : Int))) = false → CallT (.o (.lf .sl)) P0 69 [(.slice none 0 0), (.int .i64 size)] w_ fun (t24 : Sl) w__3 =>
∃ (I_1 : Sl → Int → World → Prop) (M_1 : Sl → Int → World → Nat),
I_1 t24 0 w__3 ∧
(∀ (newslice : Sl) (t27 : Int) w__4, I_1 newslice t27 w__4 → ∀ _ : Nat → Value,
((decide ((t27 : Int) < ((slices_.n : Nat) : Int))) = true → Ix slices_.a slices_.n t27 1 w__4 fun a_t29 w__5 =>
Ld .sl a_t29 w__5 fun (t30 : Sl) w__6 =>
RunT (.o (.lf .sl)) P0 (Builtin.append_ #[23, 23] 23 #[newslice.v, t30.v]) w__6 fun (t33 : Sl) w__7 =>
(I_1 t33 (IntKind.wrap .i64 (t27 + 1)) w__7 ∧ M_1 t33 (IntKind.wrap .i64 (t27 + 1)) w__7 < M_1 newslice t27 w__4)) ∧
((decide ((t27 : Int) < ((slices_.n : Nat) : Int))) = false → K newslice w__4))))
theorem slices.Concat_Rule.ok {slices_ : Sl} {w : World} {K : Sl → World → Prop} (h : slices.Concat_Rule.vc slices_ w K) : CallT (.o (.lf .sl)) P0 58 [slices_.v] w K :=
  call_of Tryz.func58 rfl rfl (pl := slices.Concat_Rule.pl) (show VC P0 Tryz.f58 slices.Concat_Rule.pl (.o (.lf .sl)) [slices_.v] w K noP from Eq.mp (by kernel_rfl) h)
/- impl.cuts -/
def impl.cuts.pl : Pl := (.s (.r (D 1)) (.s (.r (D 2)) (.s (.s (.r [.d, .d, .d, (.c (.o (.lf .sl))), .d, .d]) (.b (.l [(7, .sl), (16, (.i .i64))] (.s (.r (D 1)) (.s (.c .z .z) (.s (.b (.s (.r [.d, (.l (.ag (R 5 (.i .i64)))), .d, .d]) (.s (.s (.r [.d, (.l (.lf (.i .i64))), .d, .d]) (.c .z .z)) (.s (.r [.d, .d, (.l (.lf (.i .i64))), .d, (.t (.o (.lf .sl))), .d]) (.s (.r [.d, (.l (.lf (.i .i64))), .d]) (.c (.r [.d, .d, (.l (.lf (.i .i64))), .d, .d, (.t (.o (.lf .sl))), .d]) .z)))))) (.r (D 2)))))))) (.s (.r [.d, (.c .z)]) (.s (.r [.d, (.c (.o (.lf .sl))), .d]) .z)))))
def impl.cuts.vc (a : Sl) (b : Sl) (at_ : Int) (w : World) (K : Sl → World → Prop) : Prop :=
Nw #[(.int .i64 0)] 3 w fun a_t10 w_ =>
Nw #[a.v, b.v] 23 w_ fun a_t13 w__1 =>
CallT (.o (.lf .sl)) P0 58 [(.slice (some a_t13) 2 2)] w__1 fun (t14 : Sl) w__2 =>
∃ (I : Sl → Int → World → Prop) (M : Sl → Int → World → Nat),
I ⟨(some a_t10), 1, 1⟩ 0 w__2 ∧
(∀ (out : Sl) (t16 : Int) w__3, I out t16 w__3 → ∀ _ : Nat → Value,
((decide ((t16 : Int) < ((t14.n : Nat) : Int))) = true → Ix t14.a t14.n t16 5 w__3 fun a_t18 w__4 =>
LdA (R 5 (.i .i64)) a_t18 w__4 fun (t19 : Tup (R 5 (.i .i64))) w__5 =>
Nw (zc P0 40) 40 w__5 fun a_r w__6 =>
StA P0 a_r (Tup.cells (R 5 (.i .i64)) t19) w__6 fun w__7 =>
Ld (.i .i64) (Addr.add a_r 0) w__7 fun (t21 : Int) w__8 =>
(((t21 : Int) != at_) = true → (I out (IntKind.wrap .i64 (t16 + 1)) w__8 ∧ M out (IntKind.wrap .i64 (t16 + 1)) w__8 < M out t16 w__3)) ∧
(((t21 : Int) != at_) = false → Ld (.i .i64) (Addr.add a_r 2) w__8 fun (t26 : Int) w__9 =>
Nw #[(.int .i64 t26)] 3 w__9 fun a_t27 w__10 =>
RunT (.o (.lf .sl)) P0 (Builtin.append_ #[46, 46] 46 #[out.v, (.slice (some a_t27) 1 1)]) w__10 fun (t28 : Sl) w__11 =>
Ld (.i .i64) (Addr.add a_r 2) w__11 fun (t30 : Int) w__12 =>
((decide ((t30 : Int) < 255)) = true → Ld (.i .i64) (Addr.add a_r 2) w__12 fun (t34 : Int) w__13 =>
Nw #[(.int .i64 (IntKind.wrap .i64 (t34 + 1)))] 3 w__13 fun a_t36 w__14 =>
RunT (.o (.lf .sl)) P0 (Builtin.append_ #[46, 46] 46 #[t28.v, (.slice (some a_t36) 1 1)]) w__14 fun (t37 : Sl) w__15 =>
(I t37 (IntKind.wrap .i64 (t16 + 1)) w__15 ∧ M t37 (IntKind.wrap .i64 (t16 + 1)) w__15 < M out t16 w__3)) ∧
((decide ((t30 : Int) < 255)) = false → (I t28 (IntKind.wrap .i64 (t16 + 1)) w__12 ∧ M t28 (IntKind.wrap .i64 (t16 + 1)) w__12 < M out t16 w__3)))) ∧
((decide ((t16 : Int) < ((t14.n : Nat) : Int))) = false → CallT .z P0 59 [out.v] w__3 fun (u : Unit) w__16 =>
CallT (.o (.lf .sl)) P0 60 [out.v] w__16 fun (t42 : Sl) w__17 =>
K t42 w__17))
theorem impl.cuts.ok {a : Sl} {b : Sl} {at_ : Int} {w : World} {K : Sl → World → Prop} (h : impl.cuts.vc a b at_ w K) : CallT (.o (.lf .sl)) P0 39 [a.v, b.v, (.int .i64 at_)] w K :=
  call_of Tryz.func39 rfl rfl (pl := impl.cuts.pl) (show VC P0 Tryz.f39 impl.cuts.pl (.o (.lf .sl)) [a.v, b.v, (.int .i64 at_)] w K noP from Eq.mp (by kernel_rfl) h)
/- impl.pieces -/
def impl.pieces.pl : Pl := (.s (.r (D 1)) (.s (.r (D 1)) (.s (.s (.r (D 1)) (.b (.l [(5, (.i .i64)), (7, (.i .i64))] (.s (.r (D 1)) (.s (.c .z .z) (.s (.b (.s (.r (D 2)) (.r [.d, .d, .d, .d, (.c (.o (.lf .sl))), .d, .d, .d]))) (.r (D 2)))))))) (.s (.r (D 2)) .z))))
def impl.pieces.vc (a : Sl) (b : Sl) (w : World) (K : Int → World → Prop) : Prop :=
∃ (I : Int → Int → World → Prop) (M : Int → Int → World → Nat),
I 1 0 w ∧
(∀ (many : Int) (t7 : Int) w_, I many t7 w_ → ∀ _ : Nat → Value,
((decide ((t7 : Int) < 12)) = true → CallT (.o (.lf .sl)) P0 39 [a.v, b.v, (.int .i64 t7)] w_ fun (t14 : Sl) w__1 =>
(I (IntKind.wrap .i64 (many * ((t14.n : Nat) : Int))) (IntKind.wrap .i64 (t7 + 1)) w__1 ∧ M (IntKind.wrap .i64 (many * ((t14.n : Nat) : Int))) (IntKind.wrap .i64 (t7 + 1)) w__1 < M many t7 w_)) ∧
((decide ((t7 : Int) < 12)) = false → K many w_))
theorem impl.pieces.ok {a : Sl} {b : Sl} {w : World} {K : Int → World → Prop} (h : impl.pieces.vc a b w K) : CallT (.o (.lf (.i .i64))) P0 24 [a.v, b.v] w K :=
  call_of Tryz.func24 rfl rfl (pl := impl.pieces.pl) (show VC P0 Tryz.f24 impl.pieces.pl (.o (.lf (.i .i64))) [a.v, b.v] w K noP from Eq.mp (by kernel_rfl) h)
/- impl.SamePieces -/
def impl.SamePieces.pl : Pl := (.s (.r (D 1)) (.s (.s (.r [.d, (.c (.o (.lf .b))), .d, (.sp .d), .d, (.c (.o (.lf .b))), .d, .d]) (.c (.s (.r (D 1)) .z) .z)) (.s (.r [.d, .d, (.c (.o (.lf (.i .i64)))), .d]) .z)))
def impl.SamePieces.vc (a : Sl) (b : Sl) (w : World) (K : Int → World → Prop) : Prop :=
CallT (.o (.lf .b)) P0 22 [a.v] w fun (t6 : Bool) w_ =>
((!t6) = true → K (-1) w_) ∧
((!t6) = false → CallT (.o (.lf .b)) P0 22 [b.v] w_ fun (t10 : Bool) w__1 =>
((!t10) = true → K (-1) w__1) ∧
((!t10) = false → CallT (.o (.lf (.i .i64))) P0 24 [a.v, b.v] w__1 fun (t15 : Int) w__2 =>
K t15 w__2))
theorem impl.SamePieces.ok {a : Sl} {b : Sl} {w : World} {K : Int → World → Prop} (h : impl.SamePieces.vc a b w K) : CallT (.o (.lf (.i .i64))) P0 10 [a.v, b.v] w K :=
  call_of Tryz.func10 rfl rfl (pl := impl.SamePieces.pl) (show VC P0 Tryz.f10 impl.SamePieces.pl (.o (.lf (.i .i64))) [a.v, b.v] w K noP from Eq.mp (by kernel_rfl) h)
/- impl.holds -/
def impl.holds.pl : Pl := (.s (.r (D 1)) (.s (.s (.r (D 1)) (.b (.s (.r (D 2)) (.c (.s (.r (D 4)) .z) (.s (.r (D 2)) (.c (.s (.r (D 4)) .z) (.s (.r (D 2)) (.c (.s (.r (D 4)) .z) .z)))))))) (.s (.r (D 4)) .z)))
def impl.holds.vc (op : Int) (a : Int) (b : Int) (w : World) (K : Bool → World → Prop) : Prop :=
(((op : Int) == 12) = true → K ((a : Int) == b) w) ∧
(((op : Int) == 12) = false → (((op : Int) == 13) = true → K ((a : Int) != b) w) ∧
(((op : Int) == 13) = false → (((op : Int) == 14) = true → K (decide ((a : Int) < b)) w) ∧
(((op : Int) == 14) = false → K (decide ((a : Int) > b)) w)))
theorem impl.holds.ok {op : Int} {a : Int} {b : Int} {w : World} {K : Bool → World → Prop} (h : impl.holds.vc op a b w K) : CallT (.o (.lf .b)) P0 38 [(.int .i64 op), (.int .i64 a), (.int .i64 b)] w K :=
  call_of Tryz.func38 rfl rfl (pl := impl.holds.pl) (show VC P0 Tryz.f38 impl.holds.pl (.o (.lf .b)) [(.int .i64 op), (.int .i64 a), (.int .i64 b)] w K noP from Eq.mp (by kernel_rfl) h)
/- impl.ruled -/
def impl.ruled.pl : Pl := (.s (.r (D 2)) (.s (.s (.r (D 3)) (.b (.l [(10, (.i .i64))] (.s (.r (D 1)) (.s (.c .z .z) (.s (.b (.s (.r [.d, (.l (.ag (R 5 (.i .i64)))), .d, .d]) (.s (.r [.d, (.l (.lf (.i .i64))), .d, .d, (.l (.lf (.i .i64))), .d, .d, .d, (.l (.lf (.i .i64))), (.c (.o (.lf .b)))]) (.c (.s (.r [.d, (.l (.lf (.i .i64))), .d, (.l (.lf (.i .i64))), .d, .d]) .z) .z)))) (.r (D 2)))))))) (.s (.r (D 2)) .z)))
def impl.ruled.vc (list : Sl) (came : ByteArray) (w : World) (K : (Int) × (Int) × Unit → World → Prop) : Prop :=
∃ (I : Int → World → Prop) (M : Int → World → Nat),
I 0 w ∧
(∀ (t10 : Int) w_, I t10 w_ → ∀ _ : Nat → Value,
((decide ((t10 : Int) < ((list.n : Nat) : Int))) = true → Ix list.a list.n t10 5 w_ fun a_t12 w__1 =>
LdA (R 5 (.i .i64)) a_t12 w__1 fun (t13 : Tup (R 5 (.i .i64))) w__2 =>
Nw (zc P0 40) 40 w__2 fun a_r w__3 =>
StA P0 a_r (Tup.cells (R 5 (.i .i64)) t13) w__3 fun w__4 =>
QLd (.i .i64) (Addr.add a_r 1) (fun w' => Below (World.heap w__4).size w__4 w') fun (t15 : Int) =>
QLd (.i .i64) (Addr.add a_r 0) (fun w' => Below (World.heap w__4).size w__4 w') fun (t18 : Int) =>
QSx came t18 fun t19 =>
QLd (.i .i64) (Addr.add a_r 2) (fun w' => Below (World.heap w__4).size w__4 w') fun (t22 : Int) =>
QCl (.o (.lf .b)) P0 38 [(.int .i64 t15), (.int .i64 (IntKind.wrap .i64 t19)), (.int .i64 t22)] (fun w' => Below (World.heap w__4).size w__4 w') fun (t23 : Bool) =>
∀ w__5, Below (World.heap w__4).size w__4 w__5 →
(t23 = true → QLd (.i .i64) (Addr.add a_r 3) (fun w' => Below (World.heap w__5).size w__5 w') fun (t25 : Int) =>
QLd (.i .i64) (Addr.add a_r 4) (fun w' => Below (World.heap w__5).size w__5 w') fun (t27 : Int) =>
∀ w__6, Below (World.heap w__5).size w__5 w__6 →
K (t25, (t27, ())) w__6) ∧
(t23 = false → (I (IntKind.wrap .i64 (t10 + 1)) w__5 ∧ M (IntKind.wrap .i64 (t10 + 1)) w__5 < M t10 w_))) ∧
((decide ((t10 : Int) < ((list.n : Nat) : Int))) = false → K (1, (0, ())) w_))
theorem impl.ruled.ok {list : Sl} {came : ByteArray} {w : World} {K : (Int) × (Int) × Unit → World → Prop} (h : impl.ruled.vc list came w K) : CallT (.n [(.lf (.i .i64)), (.lf (.i .i64))]) P0 23 [list.v, (.string came)] w K :=
  call_of Tryz.func23 rfl rfl (pl := impl.ruled.pl) (show VC P0 Tryz.f23 impl.ruled.pl (.n [(.lf (.i .i64)), (.lf (.i .i64))]) [list.v, (.string came)] w K noP from Eq.mp (by kernel_rfl) h)
/- spec.l2Top -/
def spec.l2Top.pl : Pl := (.s (.r (D 1)) (.s (.r (D 1)) .z))
def spec.l2Top.vc  (w : World) (K : Int → World → Prop) : Prop :=
K 4294967295 w
theorem spec.l2Top.ok  {w : World} {K : Int → World → Prop} (h : spec.l2Top.vc  w K) : CallT (.o (.lf (.i .i64))) P0 41 [] w K :=
  call_of Tryz.func41 rfl rfl (pl := spec.l2Top.pl) (show VC P0 Tryz.f41 spec.l2Top.pl (.o (.lf (.i .i64))) [] w K noP from Eq.mp (by kernel_rfl) h)
/- spec.l9RuleOk -/
def spec.l9RuleOk.pl : Pl := (.s (.r (D 2)) (.s (.r [.d, (.l (.lf (.i .i64))), (.c (.o (.lf .b))), (.sp .d), .d, (.l (.lf (.i .i64))), (.c (.o (.lf .b))), .d, (.sp .d), .d, (.l (.lf (.i .i64))), (.c (.o (.lf .b))), .d, (.sp .d), .d, (.l (.lf (.i .i64))), (.c (.o (.lf .b))), .d, (.sp .d), .d, (.l (.lf (.i .i64))), (.c (.o (.lf (.i .i64)))), (.c (.o (.lf .b))), .d, (.sp .d), .d, (.l (.lf (.i .i64))), .d, (.sp .d), .d, (.l (.lf (.i .i64))), .d, .d, .d, .d]) .z))
def spec.l9RuleOk.vc (r : Tup (R 5 (.i .i64))) (w : World) (K : Bool → World → Prop) : Prop :=
Nw (Tup.cells (R 5 (.i .i64)) r).toArray 40 w fun a_r w_ =>
QLd (.i .i64) (Addr.add a_r 0) (fun w' => Below (World.heap w_).size w_ w') fun (t4 : Int) =>
QCl (.o (.lf .b)) P0 46 [(.int .i64 t4), (.int .i64 0), (.int .i64 11)] (fun w' => Below (World.heap w_).size w_ w') fun (t5 : Bool) =>
(t5 = true → QLd (.i .i64) (Addr.add a_r 1) (fun w' => Below (World.heap w_).size w_ w') fun (t8 : Int) =>
QCl (.o (.lf .b)) P0 46 [(.int .i64 t8), (.int .i64 12), (.int .i64 15)] (fun w' => Below (World.heap w_).size w_ w') fun (t9 : Bool) =>
(t9 = true → QLd (.i .i64) (Addr.add a_r 2) (fun w' => Below (World.heap w_).size w_ w') fun (t13 : Int) =>
QCl (.o (.lf .b)) P0 46 [(.int .i64 t13), (.int .i64 0), (.int .i64 255)] (fun w' => Below (World.heap w_).size w_ w') fun (t14 : Bool) =>
(t14 = true → QLd (.i .i64) (Addr.add a_r 3) (fun w' => Below (World.heap w_).size w_ w') fun (t18 : Int) =>
QCl (.o (.lf .b)) P0 46 [(.int .i64 t18), (.int .i64 0), (.int .i64 2)] (fun w' => Below (World.heap w_).size w_ w') fun (t19 : Bool) =>
(t19 = true → QLd (.i .i64) (Addr.add a_r 4) (fun w' => Below (World.heap w_).size w_ w') fun (t23 : Int) =>
QCl (.o (.lf (.i .i64))) P0 41 [] (fun w' => Below (World.heap w_).size w_ w') fun (t24 : Int) =>
QCl (.o (.lf .b)) P0 46 [(.int .i64 t23), (.int .i64 0), (.int .i64 t24)] (fun w' => Below (World.heap w_).size w_ w') fun (t25 : Bool) =>
(t25 = true → QLd (.i .i64) (Addr.add a_r 3) (fun w' => Below (World.heap w_).size w_ w') fun (t29 : Int) =>
(((t29 : Int) == 2) = true → ∀ w__1, Below (World.heap w_).size w_ w__1 →
K true w__1) ∧
(((t29 : Int) == 2) = false → QLd (.i .i64) (Addr.add a_r 4) (fun w' => Below (World.heap w_).size w_ w') fun (t33 : Int) =>
∀ w__1, Below (World.heap w_).size w_ w__1 →
K ((t33 : Int) == 0) w__1)) ∧
(t25 = false → ∀ w__1, Below (World.heap w_).size w_ w__1 →
K false w__1)) ∧
(t19 = false → ∀ w__1, Below (World.heap w_).size w_ w__1 →
K false w__1)) ∧
(t14 = false → ∀ w__1, Below (World.heap w_).size w_ w__1 →
K false w__1)) ∧
(t9 = false → ∀ w__1, Below (World.heap w_).size w_ w__1 →
K false w__1)) ∧
(t5 = false → ∀ w__1, Below (World.heap w_).size w_ w__1 →
K false w__1)
theorem spec.l9RuleOk.ok {r : Tup (R 5 (.i .i64))} {w : World} {K : Bool → World → Prop} (h : spec.l9RuleOk.vc r w K) : CallT (.o (.lf .b)) P0 28 [(.agg (Tup.cells (R 5 (.i .i64)) r).toArray)] w K :=
  call_of Tryz.func28 rfl rfl (pl := spec.l9RuleOk.pl) (show VC P0 Tryz.f28 spec.l9RuleOk.pl (.o (.lf .b)) [(.agg (Tup.cells (R 5 (.i .i64)) r).toArray)] w K noP from Eq.mp (by kernel_rfl) h)
/- spec.l9Ok -/
def spec.l9Ok.pl : Pl := (.s (.r (D 1)) (.s (.s (.r (D 1)) (.b (.l [(3, (.i .i64))] (.s (.s (.r (D 4)) (.c .z .z)) (.s (.b (.s (.r [.d, .d, .d, (.l (.ag (R 5 (.i .i64)))), (.c (.o (.lf .b))), .d]) (.c (.s (.r (D 1)) .z) .z))) (.r (D 3))))))) (.s (.r (D 4)) .z)))
def spec.l9Ok.vc (list : Sl) (w : World) (K : Bool → World → Prop) : Prop :=
∃ (I : Int → World → Prop) (M : Int → World → Nat),
I 0 w ∧
(∀ (i : Int) w_, I i w_ → ∀ _ : Nat → Value,
((decide ((i : Int) < ((list.n : Nat) : Int))) = true → Ix list.a list.n i 5 w_ fun a_t12 w__1 =>
LdA (R 5 (.i .i64)) a_t12 w__1 fun (t13 : Tup (R 5 (.i .i64))) w__2 =>
CallT (.o (.lf .b)) P0 28 [(.agg (Tup.cells (R 5 (.i .i64)) t13).toArray)] w__2 fun (t14 : Bool) w__3 =>
((!t14) = true → K false w__3) ∧
((!t14) = false → (I (IntKind.wrap .i64 (i + 1)) w__3 ∧ M (IntKind.wrap .i64 (i + 1)) w__3 < M i w_))) ∧
((decide ((i : Int) < ((list.n : Nat) : Int))) = false → K (decide ((((list.n : Nat) : Int) : Int) ≤ 6)) w_))
theorem spec.l9Ok.ok {list : Sl} {w : World} {K : Bool → World → Prop} (h : spec.l9Ok.vc list w K) : CallT (.o (.lf .b)) P0 17 [list.v] w K :=
  call_of Tryz.func17 rfl rfl (pl := spec.l9Ok.pl) (show VC P0 Tryz.f17 spec.l9Ok.pl (.o (.lf .b)) [list.v] w K noP from Eq.mp (by kernel_rfl) h)
/- spec.l14Cuts -/
def spec.l14Cuts.pl : Pl := (.s (.r (D 1)) (.s (.r [(.t (.o (.lf .sl))), .d]) (.s (.r (D 3)) (.s (.s (.r (D 1)) (.b (.l [(6, (.i .i64))] (.s (.s (.r (D 4)) (.c .z .z)) (.s (.b (.s (.r (D 1)) (.b (.l [(7, (.i .i64))] (.s (.s (.r [.d, .d, .d, .d, (.l (.lf .sl)), .d, .d]) (.c .z .z)) (.s (.b (.s (.r [.d, .d, .d, (.l (.lf .sl)), .d, .d, .d, (.l (.lf (.i .i64))), .d, .d]) (.c (.s (.r [.d, .d, .d, .d, (.l (.lf .sl)), .d, .d, .d, (.l (.lf (.i .i64))), .d, .d]) (.r [.d, .d, .d, .d, (.l (.lf .sl)), .d, .d, .d, (.l (.lf (.i .i64))), .d, .d, .d])) .z))) (.r (D 3)))))))) (.r (D 3))))))) (.s (.r (D 2)) (.s (.s (.r (D 1)) (.b (.l [(8, .sl), (9, (.i .i64))] (.s (.s (.r (D 2)) (.c .z .z)) (.s (.b (.s (.r [.d, .d, .d, (.l (.lf .b))]) (.c (.r [.d, .d, .d, (.t (.o (.lf .sl))), .d]) .z))) (.r (D 3))))))) (.s (.r (D 2)) .z)))))))
def spec.l14Cuts.vc (lists : Sl) (at_ : Int) (w : World) (K : Sl → World → Prop) : Prop :=
RunT (.o (.lf .sl)) P0 (Instr.makeSlice 79 (.int .i64 257) (.int .i64 257)) w fun (t10 : Sl) w_ =>
Ix t10.a t10.n 0 1 w_ fun a_t12 w__1 =>
St a_t12 (.bool true) w__1 fun w__2 =>
∃ (I : Int → World → Prop) (M : Int → World → Nat),
I 0 w__2 ∧
(∀ (i : Int) w__3, I i w__3 → ∀ _ : Nat → Value,
((decide ((i : Int) < ((lists.n : Nat) : Int))) = true → ∃ (I_1 : Int → World → Prop) (M_1 : Int → World → Nat),
I_1 0 w__3 ∧
(∀ (k : Int) w__4, I_1 k w__4 → ∀ _ : Nat → Value,
Ix lists.a lists.n i 1 w__4 fun a_t22 w__5 =>
Ld .sl a_t22 w__5 fun (t23 : Sl) w__6 =>
((decide ((k : Int) < ((t23.n : Nat) : Int))) = true → Ix lists.a lists.n i 1 w__6 fun a_t30 w__7 =>
Ld .sl a_t30 w__7 fun (t31 : Sl) w__8 =>
Ix t31.a t31.n k 5 w__8 fun a_t33 w__9 =>
Ld (.i .i64) (Addr.add a_t33 0) w__9 fun (t35 : Int) w__10 =>
(((t35 : Int) == at_) = true → Ix lists.a lists.n i 1 w__10 fun a_t41 w__11 =>
Ld .sl a_t41 w__11 fun (t42 : Sl) w__12 =>
Ix t42.a t42.n k 5 w__12 fun a_t44 w__13 =>
Ld (.i .i64) (Addr.add a_t44 2) w__13 fun (t46 : Int) w__14 =>
Ix t10.a t10.n t46 1 w__14 fun a_t47 w__15 =>
St a_t47 (.bool true) w__15 fun w__16 =>
Ix lists.a lists.n i 1 w__16 fun a_t51 w__17 =>
Ld .sl a_t51 w__17 fun (t52 : Sl) w__18 =>
Ix t52.a t52.n k 5 w__18 fun a_t54 w__19 =>
Ld (.i .i64) (Addr.add a_t54 2) w__19 fun (t56 : Int) w__20 =>
Ix t10.a t10.n (IntKind.wrap .i64 (t56 + 1)) 1 w__20 fun a_t58 w__21 =>
St a_t58 (.bool true) w__21 fun w__22 =>
(I_1 (IntKind.wrap .i64 (k + 1)) w__22 ∧ M_1 (IntKind.wrap .i64 (k + 1)) w__22 < M_1 k w__4)) ∧
(((t35 : Int) == at_) = false → (I_1 (IntKind.wrap .i64 (k + 1)) w__10 ∧ M_1 (IntKind.wrap .i64 (k + 1)) w__10 < M_1 k w__4))) ∧
((decide ((k : Int) < ((t23.n : Nat) : Int))) = false → (I (IntKind.wrap .i64 (i + 1)) w__6 ∧ M (IntKind.wrap .i64 (i + 1)) w__6 < M i w__3)))) ∧
((decide ((i : Int) < ((lists.n : Nat) : Int))) = false → Nw #[] 3 w__3 fun a_t59 w__23 =>
∃ (I_2 : Sl → Int → World → Prop) (M_2 : Sl → Int → World → Nat),
I_2 ⟨(some a_t59), 0, 0⟩ 0 w__23 ∧
(∀ (out : Sl) (n : Int) w__24, I_2 out n w__24 → ∀ _ : Nat → Value,
((decide ((n : Int) < 256)) = true → Ix t10.a t10.n n 1 w__24 fun a_t66 w__25 =>
Ld .b a_t66 w__25 fun (t67 : Bool) w__26 =>
(t67 = true → Nw #[(.int .i64 n)] 3 w__26 fun a_t70 w__27 =>
RunT (.o (.lf .sl)) P0 (Builtin.append_ #[46, 46] 46 #[out.v, (.slice (some a_t70) 1 1)]) w__27 fun (t71 : Sl) w__28 =>
(I_2 t71 (IntKind.wrap .i64 (n + 1)) w__28 ∧ M_2 t71 (IntKind.wrap .i64 (n + 1)) w__28 < M_2 out n w__24)) ∧
(t67 = false → (I_2 out (IntKind.wrap .i64 (n + 1)) w__26 ∧ M_2 out (IntKind.wrap .i64 (n + 1)) w__26 < M_2 out n w__24))) ∧
((decide ((n : Int) < 256)) = false → K out w__24))))
theorem spec.l14Cuts.ok {lists : Sl} {at_ : Int} {w : World} {K : Sl → World → Prop} (h : spec.l14Cuts.vc lists at_ w K) : CallT (.o (.lf .sl)) P0 29 [lists.v, (.int .i64 at_)] w K :=
  call_of Tryz.func29 rfl rfl (pl := spec.l14Cuts.pl) (show VC P0 Tryz.f29 spec.l14Cuts.pl (.o (.lf .sl)) [lists.v, (.int .i64 at_)] w K noP from Eq.mp (by kernel_rfl) h)
/- spec.l14Ways -/
def spec.l14Ways.pl : Pl := (.s (.r (D 1)) (.s (.r (D 1)) (.s (.s (.r (D 1)) (.b (.l [(5, (.i .i64)), (6, (.i .i64))] (.s (.s (.r (D 2)) (.c .z .z)) (.s (.b (.r [.d, .d, .d, .d, .d, (.c (.o (.lf .sl))), .d, .d, .d])) (.r (D 3))))))) (.s (.r (D 2)) .z))))
def spec.l14Ways.vc (a : Sl) (b : Sl) (w : World) (K : Int → World → Prop) : Prop :=
∃ (I : Int → Int → World → Prop) (M : Int → Int → World → Nat),
I 1 0 w ∧
(∀ (n : Int) (at_ : Int) w_, I n at_ w_ → ∀ _ : Nat → Value,
((decide ((at_ : Int) < 12)) = true → Nw #[a.v, b.v] 23 w_ fun a_t14 w__1 =>
CallT (.o (.lf .sl)) P0 29 [(.slice (some a_t14) 2 2), (.int .i64 at_)] w__1 fun (t16 : Sl) w__2 =>
(I (IntKind.wrap .i64 (n * ((t16.n : Nat) : Int))) (IntKind.wrap .i64 (at_ + 1)) w__2 ∧ M (IntKind.wrap .i64 (n * ((t16.n : Nat) : Int))) (IntKind.wrap .i64 (at_ + 1)) w__2 < M n at_ w_)) ∧
((decide ((at_ : Int) < 12)) = false → K n w_))
theorem spec.l14Ways.ok {a : Sl} {b : Sl} {w : World} {K : Int → World → Prop} (h : spec.l14Ways.vc a b w K) : CallT (.o (.lf (.i .i64))) P0 18 [a.v, b.v] w K :=
  call_of Tryz.func18 rfl rfl (pl := spec.l14Ways.pl) (show VC P0 Tryz.f18 spec.l14Ways.pl (.o (.lf (.i .i64))) [a.v, b.v] w K noP from Eq.mp (by kernel_rfl) h)
/- spec.l2Holds -/
def spec.l2Holds.pl : Pl := (.s (.r (D 1)) (.s (.s (.r (D 1)) (.b (.s (.r (D 2)) (.c (.s (.r (D 4)) .z) (.s (.r (D 2)) (.c (.s (.r (D 4)) .z) (.s (.r (D 2)) (.c (.s (.r (D 4)) .z) .z)))))))) (.s (.r (D 4)) .z)))
def spec.l2Holds.vc (op : Int) (a : Int) (b : Int) (w : World) (K : Bool → World → Prop) : Prop :=
(((op : Int) == 12) = true → K ((a : Int) == b) w) ∧
(((op : Int) == 12) = false → (((op : Int) == 13) = true → K ((a : Int) != b) w) ∧
(((op : Int) == 13) = false → (((op : Int) == 14) = true → K (decide ((a : Int) < b)) w) ∧
(((op : Int) == 14) = false → K (decide ((a : Int) > b)) w)))
theorem spec.l2Holds.ok {op : Int} {a : Int} {b : Int} {w : World} {K : Bool → World → Prop} (h : spec.l2Holds.vc op a b w K) : CallT (.o (.lf .b)) P0 47 [(.int .i64 op), (.int .i64 a), (.int .i64 b)] w K :=
  call_of Tryz.func47 rfl rfl (pl := spec.l2Holds.pl) (show VC P0 Tryz.f47 spec.l2Holds.pl (.o (.lf .b)) [(.int .i64 op), (.int .i64 a), (.int .i64 b)] w K noP from Eq.mp (by kernel_rfl) h)
/- spec.l9Of -/
def spec.l9Of.pl : Pl := (.s (.r (D 2)) (.s (.s (.r (D 1)) (.b (.l [(6, (.i .i64))] (.s (.s (.r (D 4)) (.c .z .z)) (.s (.b (.s (.r [.d, .d, .d, .d, (.l (.lf (.i .i64))), .d, .d, .d, .d, .d, (.l (.lf (.i .i64))), .d, .d, .d, .d, .d, .d, (.l (.lf (.i .i64))), (.c (.o (.lf .b)))]) (.c (.s (.r [.d, .d, .d, .d, (.l (.lf (.i .i64))), .d, .d, .d, .d, (.l (.lf (.i .i64))), .d, .d]) .z) .z))) (.r (D 3))))))) (.s (.r (D 2)) .z)))
def spec.l9Of.vc (list : Sl) (came : ByteArray) (w : World) (K : (Int) × (Int) × Unit → World → Prop) : Prop :=
∃ (I : Int → World → Prop) (M : Int → World → Nat),
I 0 w ∧
(∀ (i : Int) w_, I i w_ → ∀ _ : Nat → Value,
((decide ((i : Int) < ((list.n : Nat) : Int))) = true → QIx list.a list.n i 5 fun a_t15 =>
QLd (.i .i64) (Addr.add a_t15 1) (fun w' => Below (World.heap w_).size w_ w') fun (t17 : Int) =>
QIx list.a list.n i 5 fun a_t21 =>
QLd (.i .i64) (Addr.add a_t21 0) (fun w' => Below (World.heap w_).size w_ w') fun (t23 : Int) =>
QSx came t23 fun t24 =>
QIx list.a list.n i 5 fun a_t28 =>
QLd (.i .i64) (Addr.add a_t28 2) (fun w' => Below (World.heap w_).size w_ w') fun (t30 : Int) =>
QCl (.o (.lf .b)) P0 47 [(.int .i64 t17), (.int .i64 (IntKind.wrap .i64 t24)), (.int .i64 t30)] (fun w' => Below (World.heap w_).size w_ w') fun (t31 : Bool) =>
∀ w__1, Below (World.heap w_).size w_ w__1 →
(t31 = true → QIx list.a list.n i 5 fun a_t34 =>
QLd (.i .i64) (Addr.add a_t34 3) (fun w' => Below (World.heap w__1).size w__1 w') fun (t36 : Int) =>
QIx list.a list.n i 5 fun a_t39 =>
QLd (.i .i64) (Addr.add a_t39 4) (fun w' => Below (World.heap w__1).size w__1 w') fun (t41 : Int) =>
∀ w__2, Below (World.heap w__1).size w__1 w__2 →
K (t36, (t41, ())) w__2) ∧
(t31 = false → (I (IntKind.wrap .i64 (i + 1)) w__1 ∧ M (IntKind.wrap .i64 (i + 1)) w__1 < M i w_))) ∧
((decide ((i : Int) < ((list.n : Nat) : Int))) = false → K (1, (0, ())) w_))
theorem spec.l9Of.ok {list : Sl} {came : ByteArray} {w : World} {K : (Int) × (Int) × Unit → World → Prop} (h : spec.l9Of.vc list came w K) : CallT (.n [(.lf (.i .i64)), (.lf (.i .i64))]) P0 30 [list.v, (.string came)] w K :=
  call_of Tryz.func30 rfl rfl (pl := spec.l9Of.pl) (show VC P0 Tryz.f30 spec.l9Of.pl (.n [(.lf (.i .i64)), (.lf (.i .i64))]) [list.v, (.string came)] w K noP from Eq.mp (by kernel_rfl) h)
/- spec.l14Find -/
def spec.l14Find.pl : Pl := (.s (.r (D 2)) (.s (.r (D 3)) (.s (.s (.r (D 2)) (.c (.s (.r [.d, .d, (.c (.n [(.lf (.i .i64)), (.lf (.i .i64))])), .d, .d, .d, .d, .d]) (.s (.r [.d, .d, (.c (.n [(.lf (.i .i64)), (.lf (.i .i64))])), .d, .d, .d, .d, .d]) (.s (.r [.d, .d, .d, .d, (.sp .d), .d, .d, .d, .d, .d, .d]) .z))) .z)) (.s (.r [.d, .d, .d, .d, (.c (.o (.lf .sl))), .d]) (.s (.s (.r (D 1)) (.b (.l [(14, (.i .i64))] (.s (.s (.r (D 4)) (.c .z .z)) (.s (.b (.s (.r [.d, .d, .d, .d, .d, .d, (.l (.lf (.i .i64))), .d, .d, (.t (.o (.lf .s))), .d, (.c (.n [(.lf .s), (.lf .b)])), .d, .d, .d, .d, .d]) (.s (.r (D 1)) (.c (.s (.r (D 3)) .z) .z)))) (.r (D 3))))))) (.s (.r (D 2)) .z))))))
def spec.l14Find.vc (a : Sl) (b : Sl) (came : ByteArray) (w : World) (K : (ByteArray) × (Bool) × Unit → World → Prop) : Prop :=
((((((ByteArray.size came) : Nat) : Int) : Int) == 12) = true → CallT (.n [(.lf (.i .i64)), (.lf (.i .i64))]) P0 30 [a.v, (.string came)] w fun (t24 : (Int) × (Int) × Unit) w_ =>
CallT (.n [(.lf (.i .i64)), (.lf (.i .i64))]) P0 30 [b.v, (.string came)] w_ fun (t30 : (Int) × (Int) × Unit) w__1 =>
(((t24.1 : Int) != t30.1) = true → K (came, (true, ())) w__1) ∧
(((t24.1 : Int) != t30.1) = false → K (came, (((t24.2.1 : Int) != t30.2.1), ())) w__1)) ∧
((((((ByteArray.size came) : Nat) : Int) : Int) == 12) = false → Nw #[a.v, b.v] 23 w fun a_t44 w__2 =>
CallT (.o (.lf .sl)) P0 29 [(.slice (some a_t44) 2 2), (.int .i64 (((ByteArray.size came) : Nat) : Int))] w__2 fun (t46 : Sl) w__3 =>
∃ (I : Int → World → Prop) (M : Int → World → Nat),
I 0 w__3 ∧
(∀ (i : Int) w__4, I i w__4 → ∀ _ : Nat → Value,
((decide ((i : Int) < ((t46.n : Nat) : Int))) = true → Ix t46.a t46.n i 1 w__4 fun a_t59 w__5 =>
Ld (.i .i64) a_t59 w__5 fun (t60 : Int) w__6 =>
Nw #[(.int .u8 (IntKind.wrap .u8 t60))] 5 w__6 fun a_t62 w__7 =>
RunT (.o (.lf .s)) P0 (convert 22 9 (.slice (some a_t62) 1 1)) w__7 fun (t63 : ByteArray) w__8 =>
(((ByteArray.size came + ByteArray.size t63 : Nat) : Int) ≤ IntKind.i64.max) ∧ CallT (.n [(.lf .s), (.lf .b)]) P0 19 [a.v, b.v, (.string (came ++ t63))] w__8 fun (t65 : (ByteArray) × (Bool) × Unit) w__9 =>
(t65.2.1 = true → K (t65.1, (true, ())) w__9) ∧
(t65.2.1 = false → (I (IntKind.wrap .i64 (i + 1)) w__9 ∧ M (IntKind.wrap .i64 (i + 1)) w__9 < M i w__4))) ∧
((decide ((i : Int) < ((t46.n : Nat) : Int))) = false → K (⟨#[]⟩, (false, ())) w__4)))
theorem spec.l14Find.ok {a : Sl} {b : Sl} {came : ByteArray} {w : World} {K : (ByteArray) × (Bool) × Unit → World → Prop} (h : spec.l14Find.vc a b came w K) : CallT (.n [(.lf .s), (.lf .b)]) P0 19 [a.v, b.v, (.string came)] w K :=
  call_of Tryz.func19 rfl rfl (pl := spec.l14Find.pl) (show VC P0 Tryz.f19 spec.l14Find.pl (.n [(.lf .s), (.lf .b)]) [a.v, b.v, (.string came)] w K noP from Eq.mp (by kernel_rfl) h)
/- spec.SameFind -/
def spec.SameFind.pl : Pl := (.s (.r (D 2)) (.j [] (.s (.r [.d, (.c (.o (.lf .b))), .d, (.sp .d), .d, (.c (.o (.lf .b))), .d, .d, (.sp .d), .d, .d, (.c (.o (.lf (.i .i64)))), .d, .d]) (.c (.s (.r (D 2)) .z) .z)) (.s (.r [.d, .d, (.c (.n [(.lf .s), (.lf .b)])), .d, .d, .d, .d]) .z)))
def spec.SameFind.vc (a : Sl) (b : Sl) (w : World) (K : (ByteArray) × (Bool) × Unit → World → Prop) : Prop :=
∃ J : World → Prop,
(CallT (.o (.lf .b)) P0 17 [a.v] w fun (t7 : Bool) w_ =>
((!t7) = true → K (⟨#[]⟩, (false, ())) w_) ∧
((!t7) = false → CallT (.o (.lf .b)) P0 17 [b.v] w_ fun (t11 : Bool) w__1 =>
((!t11) = true → K (⟨#[]⟩, (false, ())) w__1) ∧
((!t11) = false → CallT (.o (.lf (.i .i64))) P0 18 [a.v, b.v] w__1 fun (t17 : Int) w__2 =>
((decide ((t17 : Int) > 400)) = true → K (⟨#[]⟩, (false, ())) w__2) ∧
((decide ((t17 : Int) > 400)) = false → J w__2)))) ∧
(∀  w__3, J w__3 → ∀ _ : Nat → Value,
CallT (.n [(.lf .s), (.lf .b)]) P0 19 [a.v, b.v, (.string ⟨#[]⟩)] w__3 fun (t22 : (ByteArray) × (Bool) × Unit) w__4 =>
K (t22.1, (t22.2.1, ())) w__4)
theorem spec.SameFind.ok {a : Sl} {b : Sl} {w : World} {K : (ByteArray) × (Bool) × Unit → World → Prop} (h : spec.SameFind.vc a b w K) : CallT (.n [(.lf .s), (.lf .b)]) P0 7 [a.v, b.v] w K :=
  call_of Tryz.func7 rfl rfl (pl := spec.SameFind.pl) (show VC P0 Tryz.f7 spec.SameFind.pl (.n [(.lf .s), (.lf .b)]) [a.v, b.v] w K noP from Eq.mp (by kernel_rfl) h)
end Go.Proofs.YtdlnoabihfnmmaaGreat.V

/- Contracts: what tidies a range in the reference. -/
namespace Go.Proofs.YtdlnoabihfnmmaaGreat.V
open Go Go.RowKit
set_option linter.unusedVariables false
set_option linter.unusedSimpArgs false
section
variable {w : World}
theorem spec.l2Top.c {K : Int → World → Prop} (hk : K 4294967295 w) : CallT (.o (.lf (.i .i64))) P0 41 [] w K := spec.l2Top.ok hk
theorem spec.l2Mask.c {n : Nat} {v : Int} {K : Int → World → Prop} (hn : n < 2 ^ 32) (hv : v = (n : Int)) (hk : K ((2 ^ Lib.bitLen n - 1 : Nat) : Int) w) : CallT (.o (.lf (.i .i64))) P0 72 [.int .i64 v] w K := by
  subst hv
  refine spec.l2Mask.ok ⟨fun m w' => ∃ j : Nat, j ≤ Lib.bitLen n ∧ m = ((2 ^ j - 1 : Nat) : Int) ∧ w' = w, fun m _ => n - m.toNat, ⟨0, by omega, by simp, rfl⟩, ?_⟩
  rintro m w' ⟨j, hj, rfl, rfl⟩ _
  have hb := bl_spec n (by omega) j
  have hp := Nat.two_pow_pos j
  refine And.intro (fun h => ?_) (fun h => ?_)
  · simp only [decide_eq_true_eq] at h
    have hlt : ¬ Lib.bitLen n ≤ j := fun h2 => by have := hb.1 h2; omega
    have e : IntKind.wrap .i64 (IntKind.wrap .i64 (((2 ^ j - 1 : Nat) : Int) * 2) + 1) = ((2 ^ (j + 1) - 1 : Nat) : Int) := by
      rw [(i64_of (by omega) (by omega) : IntKind.wrap .i64 (((2 ^ j - 1 : Nat) : Int) * 2) = ((2 ^ j - 1 : Nat) : Int) * 2), (i64_of (by omega) (by omega) : IntKind.wrap .i64 (((2 ^ j - 1 : Nat) : Int) * 2 + 1) = ((2 ^ j - 1 : Nat) : Int) * 2 + 1), Nat.pow_succ]; omega
    rw [e]
    refine ⟨⟨j + 1, by omega, rfl, rfl⟩, ?_⟩
    rw [Nat.pow_succ]
    simp only [Int.toNat_natCast]
    omega
  · simp only [decide_eq_false_iff_not] at h
    have : Lib.bitLen n ≤ j := hb.2 (by omega)
    obtain rfl : j = Lib.bitLen n := by omega
    exact hk
theorem spec.l2Bits.c {lo hi : Nat} {K : Int × Int × Unit → World → Prop} (hlo : lo < 2 ^ 32) (hhi : hi < 2 ^ 32) (hk : K (iAnd .i64 lo (iXor .i64 4294967295 ((2 ^ kk lo hi - 1 : Nat) : Int)), ((2 ^ kk lo hi - 1 : Nat) : Int), ()) w) :
    CallT (.n [(.lf (.i .i64)), (.lf (.i .i64))]) P0 61 [.int .i64 lo, .int .i64 hi] w K :=
  spec.l2Bits.ok (spec.l2Mask.c (n := lo ^^^ hi) (Nat.xor_lt_two_pow hlo hhi) (iXor_nat (by omega) (by omega)) (spec.l2Top.c hk))
theorem spec.l2Bits.c' {lo hi : Nat} {a b : Int} {K : Int × Int × Unit → World → Prop} (hlo : lo < 2 ^ 32) (hhi : hi < 2 ^ 32) (ha : a = lo) (hb : b = hi) (hk : K (iAnd .i64 lo (iXor .i64 4294967295 ((2 ^ kk lo hi - 1 : Nat) : Int)), ((2 ^ kk lo hi - 1 : Nat) : Int), ()) w) :
    CallT (.n [(.lf (.i .i64)), (.lf (.i .i64))]) P0 61 [.int .i64 a, .int .i64 b] w K := by
  subst ha hb
  exact spec.l2Bits.c hlo hhi hk
end
/-! ### the law -/
theorem iXor_top {j : Nat} (hj : j ≤ 32) : iXor .i64 4294967295 ((2 ^ j - 1 : Nat) : Int) = ((4294967295 ^^^ (2 ^ j - 1) : Nat) : Int) := by
  have := Nat.pow_le_pow_right (n := 2) (by omega) hj
  exact iXor_nat (a := 4294967295) (by omega) (by omega)
theorem and_top {j a : Nat} (hj : j ≤ 32) (ha : a < 2 ^ 32) : a &&& (4294967295 ^^^ (2 ^ j - 1)) = cutN j a := by
  apply Nat.eq_of_testBit_eq
  intro i
  rw [Nat.testBit_and, Nat.testBit_xor, cutN_bit, mask_bit, show (4294967295 : Nat) = 2 ^ 32 - 1 by decide, mask_bit]
  by_cases h1 : i < 32
  · by_cases h2 : i < j
    · simp [h1, h2]; intro h; omega
    · simp [h1, h2, Nat.le_of_not_lt h2]
  · have : a.testBit i = false := Nat.testBit_lt_two_pow (Nat.lt_of_lt_of_le ha (Nat.pow_le_pow_right (by omega) (by omega)))
    simp [this]
theorem iAnd_top {j a : Nat} (hj : j ≤ 32) (ha : a < 2 ^ 32) : iAnd .i64 a (iXor .i64 4294967295 ((2 ^ j - 1 : Nat) : Int)) = ((cutN j a : Nat) : Int) := by
  have := Nat.pow_le_pow_right (n := 2) (by omega) hj
  rw [iXor_top hj, iAnd_nat (by omega) (by have := Nat.xor_lt_two_pow (n := 32) (x := 4294967295) (y := 2 ^ j - 1) (by omega) (by omega); omega), and_top hj ha]
/-- A range is tidied so. -/
def tsO (o m : Int) : Int := iAnd .i64 o m
def tsB (r : T4) (bits m : Int) : Int := iAnd .i64 (iOr .i64 r.2.2.1 bits) (iXor .i64 4294967295 (tsO r.2.2.2.1 m))
def tsF (r : T4) (bits m : Int) : T4 := (if tsB r bits m > r.1 then tsB r bits m else r.1, if iOr .i64 (tsB r bits m) (tsO r.2.2.2.1 m) < r.2.1 then iOr .i64 (tsB r bits m) (tsO r.2.2.2.1 m) else r.2.1, tsB r bits m, tsO r.2.2.2.1 m, ())
section
variable {w : World}
theorem spec.l2Tidy.g {r : T4} {lo hi : Nat} {K : T4 → World → Prop} (hlo : lo < 2 ^ 32) (hhi : hi < 2 ^ 32) (h1 : r.1 = lo) (h2 : r.2.1 = hi) (hk : ∀ w', Below w.heap.size w w' → K (tsF r (iAnd .i64 lo (iXor .i64 4294967295 ((2 ^ kk lo hi - 1 : Nat) : Int))) ((2 ^ kk lo hi - 1 : Nat) : Int)) w') :
    CallT (.o (.ag (R 4 (.i .i64)))) P0 40 [.agg (Tup.cells (R 4 (.i .i64)) r).toArray] w K := by
  refine spec.l2Tidy.ok ?_
  unfold spec.l2Tidy.vc
  have hm := M.start w
  repeat' (first | (with_reducible refine ldM (by assumption) (by with_unfolding_all (repeat (first | exact List.mem_cons_self | refine List.mem_cons_of_mem _ ?_))) (by with_unfolding_all rfl) ?_) | (with_reducible refine ldAM (by assumption) (by with_unfolding_all (repeat (first | exact List.mem_cons_self | refine List.mem_cons_of_mem _ ?_))) ?_) | (with_reducible refine nwZ (by assumption) fun _ _ _ => ?_) | (with_reducible refine nwM' (by assumption) fun _ _ _ => ?_) | (with_reducible refine stM0 (by assumption) (by with_unfolding_all (repeat (first | exact Up.head _ _ _ _ | apply Up.tail))) fun _ _ => ?_) | (with_reducible refine stM1 (by assumption) (by with_unfolding_all (repeat (first | exact Up.head _ _ _ _ | apply Up.tail))) fun _ _ => ?_) | (with_reducible refine stM2 (by assumption) (by with_unfolding_all (repeat (first | exact Up.head _ _ _ _ | apply Up.tail))) fun _ _ => ?_) | (with_reducible refine stM3 (by assumption) (by with_unfolding_all (repeat (first | exact Up.head _ _ _ _ | apply Up.tail))) fun _ _ => ?_) | (with_reducible refine stAM' (by assumption) (by with_unfolding_all (repeat (first | exact Up.head _ _ _ _ | apply Up.tail))) fun _ _ => ?_) | (with_reducible refine stAL (by assumption) (by with_unfolding_all (repeat (first | exact Up.head _ _ _ _ | apply Up.tail))) fun _ _ => ?_) | (with_reducible refine And.intro (fun _ => ?_) (fun _ => ?_)) | (refine stAM' (by assumption) (by with_unfolding_all (repeat (first | exact Up.head _ _ _ _ | apply Up.tail))) fun _ _ => ?_))
  refine spec.l2Bits.c' (lo := lo) (hi := hi) hlo hhi h1 h2 ?_
  generalize ((2 ^ kk lo hi - 1 : Nat) : Int) = m at *
  generalize iAnd .i64 (lo : Int) (iXor .i64 4294967295 m) = bits at *
  repeat' (first | (with_reducible refine ldM (by assumption) (by with_unfolding_all (repeat (first | exact List.mem_cons_self | refine List.mem_cons_of_mem _ ?_))) (by with_unfolding_all rfl) ?_) | (with_reducible refine ldAM (by assumption) (by with_unfolding_all (repeat (first | exact List.mem_cons_self | refine List.mem_cons_of_mem _ ?_))) ?_) | (with_reducible refine nwZ (by assumption) fun _ _ _ => ?_) | (with_reducible refine nwM' (by assumption) fun _ _ _ => ?_) | (with_reducible refine stM0 (by assumption) (by with_unfolding_all (repeat (first | exact Up.head _ _ _ _ | apply Up.tail))) fun _ _ => ?_) | (with_reducible refine stM1 (by assumption) (by with_unfolding_all (repeat (first | exact Up.head _ _ _ _ | apply Up.tail))) fun _ _ => ?_) | (with_reducible refine stM2 (by assumption) (by with_unfolding_all (repeat (first | exact Up.head _ _ _ _ | apply Up.tail))) fun _ _ => ?_) | (with_reducible refine stM3 (by assumption) (by with_unfolding_all (repeat (first | exact Up.head _ _ _ _ | apply Up.tail))) fun _ _ => ?_) | (with_reducible refine stAM' (by assumption) (by with_unfolding_all (repeat (first | exact Up.head _ _ _ _ | apply Up.tail))) fun _ _ => ?_) | (with_reducible refine stAL (by assumption) (by with_unfolding_all (repeat (first | exact Up.head _ _ _ _ | apply Up.tail))) fun _ _ => ?_) | (with_reducible refine And.intro (fun _ => ?_) (fun _ => ?_)) | (refine stAM' (by assumption) (by with_unfolding_all (repeat (first | exact Up.head _ _ _ _ | apply Up.tail))) fun _ _ => ?_))
  rename_i w1 b1 m1 w2 b2 m2 w3 m3
  replace m3 : M w w3 [(b2, ((0, 0, 0, 0, ()) : T4)), (b1, ((r.1, r.2.1, r.2.2.1, tsO r.2.2.2.1 m, ()) : T4))] := m3
  refine ⟨Below w3.heap.size, belOk _, eqG r.2.2.1, keptEq, eqG 4294967295, keptEq, eqG (tsO r.2.2.2.1 m), keptEq, fun w4 hs => ?_, fun t19 => ⟨fun w4 hs => ?_, fun t22 => ⟨fun w4 hs => ?_, fun t24 w4 hs f19 f22 f24 => ?_⟩⟩⟩
  · exact ldM (m3.below hs) (by with_unfolding_all (repeat (first | exact List.mem_cons_self | refine List.mem_cons_of_mem _ ?_))) (by with_unfolding_all rfl) (gkE rfl (Below.refl _ _))
  · exact spec.l2Top.c (gkE rfl (Below.refl _ _))
  · exact ldM (m3.below hs) (by with_unfolding_all (repeat (first | exact List.mem_cons_self | refine List.mem_cons_of_mem _ ?_))) (by with_unfolding_all rfl) (gkE rfl (Below.refl _ _))
  cases f19; cases f22; cases f24
  have m4 := m3.below hs
  clear m3
  repeat' (first | (with_reducible refine ldM (by assumption) (by with_unfolding_all (repeat (first | exact List.mem_cons_self | refine List.mem_cons_of_mem _ ?_))) (by with_unfolding_all rfl) ?_) | (with_reducible refine ldAM (by assumption) (by with_unfolding_all (repeat (first | exact List.mem_cons_self | refine List.mem_cons_of_mem _ ?_))) ?_) | (with_reducible refine nwZ (by assumption) fun _ _ _ => ?_) | (with_reducible refine nwM' (by assumption) fun _ _ _ => ?_) | (with_reducible refine stM0 (by assumption) (by with_unfolding_all (repeat (first | exact Up.head _ _ _ _ | apply Up.tail))) fun _ _ => ?_) | (with_reducible refine stM1 (by assumption) (by with_unfolding_all (repeat (first | exact Up.head _ _ _ _ | apply Up.tail))) fun _ _ => ?_) | (with_reducible refine stM2 (by assumption) (by with_unfolding_all (repeat (first | exact Up.head _ _ _ _ | apply Up.tail))) fun _ _ => ?_) | (with_reducible refine stM3 (by assumption) (by with_unfolding_all (repeat (first | exact Up.head _ _ _ _ | apply Up.tail))) fun _ _ => ?_) | (with_reducible refine stAM' (by assumption) (by with_unfolding_all (repeat (first | exact Up.head _ _ _ _ | apply Up.tail))) fun _ _ => ?_) | (with_reducible refine stAL (by assumption) (by with_unfolding_all (repeat (first | exact Up.head _ _ _ _ | apply Up.tail))) fun _ _ => ?_) | (with_reducible refine And.intro (fun _ => ?_) (fun _ => ?_)) | (refine stAM' (by assumption) (by with_unfolding_all (repeat (first | exact Up.head _ _ _ _ | apply Up.tail))) fun _ _ => ?_))
  rename_i w5 m5
  replace m5 : M w w5 [(b2, ((0, 0, 0, 0, ()) : T4)), (b1, ((r.1, r.2.1, tsB r bits m, tsO r.2.2.2.1 m, ()) : T4))] := m5
  refine ⟨fun w' => M w w' [(b2, ((0, 0, 0, 0, ()) : T4)), (b1, (((tsF r bits m).1, r.2.1, tsB r bits m, tsO r.2.2.2.1 m, ()) : T4))], ?_, fun w6 m6 _ => ?_⟩
  · repeat' (first | (with_reducible refine ldM (by assumption) (by with_unfolding_all (repeat (first | exact List.mem_cons_self | refine List.mem_cons_of_mem _ ?_))) (by with_unfolding_all rfl) ?_) | (with_reducible refine ldAM (by assumption) (by with_unfolding_all (repeat (first | exact List.mem_cons_self | refine List.mem_cons_of_mem _ ?_))) ?_) | (with_reducible refine nwZ (by assumption) fun _ _ _ => ?_) | (with_reducible refine nwM' (by assumption) fun _ _ _ => ?_) | (with_reducible refine stM0 (by assumption) (by with_unfolding_all (repeat (first | exact Up.head _ _ _ _ | apply Up.tail))) fun _ _ => ?_) | (with_reducible refine stM1 (by assumption) (by with_unfolding_all (repeat (first | exact Up.head _ _ _ _ | apply Up.tail))) fun _ _ => ?_) | (with_reducible refine stM2 (by assumption) (by with_unfolding_all (repeat (first | exact Up.head _ _ _ _ | apply Up.tail))) fun _ _ => ?_) | (with_reducible refine stM3 (by assumption) (by with_unfolding_all (repeat (first | exact Up.head _ _ _ _ | apply Up.tail))) fun _ _ => ?_) | (with_reducible refine stAM' (by assumption) (by with_unfolding_all (repeat (first | exact Up.head _ _ _ _ | apply Up.tail))) fun _ _ => ?_) | (with_reducible refine stAL (by assumption) (by with_unfolding_all (repeat (first | exact Up.head _ _ _ _ | apply Up.tail))) fun _ _ => ?_) | (with_reducible refine And.intro (fun _ => ?_) (fun _ => ?_)) | (refine stAM' (by assumption) (by with_unfolding_all (repeat (first | exact Up.head _ _ _ _ | apply Up.tail))) fun _ _ => ?_))
    · rename_i hc w7 m7
      have e : (tsF r bits m).1 = tsB r bits m := if_pos (by simpa using hc)
      rw [e]; exact m7
    · rename_i hc
      have e : (tsF r bits m).1 = r.1 := if_neg (by simpa using hc)
      rw [e]; exact m5
  · repeat' (first | (with_reducible refine ldM (by assumption) (by with_unfolding_all (repeat (first | exact List.mem_cons_self | refine List.mem_cons_of_mem _ ?_))) (by with_unfolding_all rfl) ?_) | (with_reducible refine ldAM (by assumption) (by with_unfolding_all (repeat (first | exact List.mem_cons_self | refine List.mem_cons_of_mem _ ?_))) ?_) | (with_reducible refine nwZ (by assumption) fun _ _ _ => ?_) | (with_reducible refine nwM' (by assumption) fun _ _ _ => ?_) | (with_reducible refine stM0 (by assumption) (by with_unfolding_all (repeat (first | exact Up.head _ _ _ _ | apply Up.tail))) fun _ _ => ?_) | (with_reducible refine stM1 (by assumption) (by with_unfolding_all (repeat (first | exact Up.head _ _ _ _ | apply Up.tail))) fun _ _ => ?_) | (with_reducible refine stM2 (by assumption) (by with_unfolding_all (repeat (first | exact Up.head _ _ _ _ | apply Up.tail))) fun _ _ => ?_) | (with_reducible refine stM3 (by assumption) (by with_unfolding_all (repeat (first | exact Up.head _ _ _ _ | apply Up.tail))) fun _ _ => ?_) | (with_reducible refine stAM' (by assumption) (by with_unfolding_all (repeat (first | exact Up.head _ _ _ _ | apply Up.tail))) fun _ _ => ?_) | (with_reducible refine stAL (by assumption) (by with_unfolding_all (repeat (first | exact Up.head _ _ _ _ | apply Up.tail))) fun _ _ => ?_) | (with_reducible refine And.intro (fun _ => ?_) (fun _ => ?_)) | (refine stAM' (by assumption) (by with_unfolding_all (repeat (first | exact Up.head _ _ _ _ | apply Up.tail))) fun _ _ => ?_))
    · rename_i hc _ m7 _ m8
      have e : (tsF r bits m).2.1 = iOr .i64 (tsB r bits m) (tsO r.2.2.2.1 m) := if_pos (by simpa using hc)
      have := hk _ m8.low
      exact kof this (Prod.ext rfl (Prod.ext e rfl))
    · rename_i hc _ m7
      have e : (tsF r bits m).2.1 = r.2.1 := if_neg (by simpa using hc)
      have := hk _ m7.low
      exact kof this (Prod.ext rfl (Prod.ext e rfl))
end
end Go.Proofs.YtdlnoabihfnmmaaGreat.V

/- Contracts: ranges that share what is known: tidied in the reference; whether they hold a number. -/
namespace Go.Proofs.YtdlnoabihfnmmaaGreat.V
open Go Go.RowKit
set_option linter.unusedVariables false
set_option linter.unusedSimpArgs false
theorem tsF_rgk {k x lo hi : Nat} (hk : k ≤ 32) (hle : lo ≤ hi) (hhi : hi < 2 ^ 32) (h1 : lo / 2 ^ k = x / 2 ^ k) (h2 : hi / 2 ^ k = x / 2 ^ k) :
    tsF (rgk k x lo hi) (iAnd .i64 lo (iXor .i64 4294967295 ((2 ^ kk lo hi - 1 : Nat) : Int))) ((2 ^ kk lo hi - 1 : Nat) : Int) = ivl lo hi := by
  have hj : kk lo hi ≤ k := kk_part (h1.trans h2.symm) (by omega) (by omega)
  have hs := kk_same (a := lo) (b := hi) (by omega) (by omega)
  unfold ivl
  generalize kk lo hi = j at *
  rw [iAnd_top (by omega) (by omega)]
  have hlt : ∀ q : Nat, q ≤ 32 → 2 ^ q - 1 < 2 ^ 63 := fun q hq => by
    have := Nat.pow_le_pow_right (n := 2) (by omega) hq
    omega
  have eO : tsO ((2 ^ k - 1 : Nat) : Int) ((2 ^ j - 1 : Nat) : Int) = ((2 ^ j - 1 : Nat) : Int) := by
    unfold tsO
    rw [iAnd_nat (hlt k hk) (hlt j (by omega)), mask_and hj]
  have c2 := cutN_le j lo
  have ce := cut_eq h1
  have c3 := cutN_le k lo
  have eB : tsB (rgk k x lo hi) ((cutN j lo : Nat) : Int) ((2 ^ j - 1 : Nat) : Int) = ((cutN j lo : Nat) : Int) := by
    show iAnd .i64 (iOr .i64 ((cutN k x : Nat) : Int) ((cutN j lo : Nat) : Int)) (iXor .i64 4294967295 (tsO ((2 ^ k - 1 : Nat) : Int) ((2 ^ j - 1 : Nat) : Int))) = _
    rw [eO, iOr_nat (by omega) (by omega), cut_or hj h1.symm, iAnd_top (by omega) (by omega), cut_cut]
  have eM : iOr .i64 ((cutN j lo : Nat) : Int) ((2 ^ j - 1 : Nat) : Int) = ((cutN j lo + (2 ^ j - 1) : Nat) : Int) := by
    rw [iOr_nat (by omega) (hlt j (by omega)), cut_mask]
  have c4 := cutN_lt j hi
  have c5 := cut_eq hs
  unfold tsF
  rw [eB]
  show ((if ((cutN j lo : Nat) : Int) > (lo : Int) then ((cutN j lo : Nat) : Int) else (lo : Int)), (if iOr .i64 ((cutN j lo : Nat) : Int) (tsO ((2 ^ k - 1 : Nat) : Int) ((2 ^ j - 1 : Nat) : Int)) < (hi : Int) then iOr .i64 ((cutN j lo : Nat) : Int) (tsO ((2 ^ k - 1 : Nat) : Int) ((2 ^ j - 1 : Nat) : Int)) else (hi : Int)), ((cutN j lo : Nat) : Int), tsO ((2 ^ k - 1 : Nat) : Int) ((2 ^ j - 1 : Nat) : Int), ()) = ((lo : Int), (hi : Int), ((cutN j lo : Nat) : Int), ((2 ^ j - 1 : Nat) : Int), ())
  rw [eO, eM, if_neg (by omega), if_neg (by omega)]
section
variable {w : World}
theorem spec.l2Tidy.c {k x lo hi : Nat} {K : T4 → World → Prop} (hk : k ≤ 32) (hle : lo ≤ hi) (hhi : hi < 2 ^ 32) (h1 : lo / 2 ^ k = x / 2 ^ k) (h2 : hi / 2 ^ k = x / 2 ^ k) (hK : ∀ w', Below w.heap.size w w' → K (ivl lo hi) w') :
    CallT (.o (.ag (R 4 (.i .i64)))) P0 40 [.agg (Tup.cells (R 4 (.i .i64)) (rgk k x lo hi)).toArray] w K := by
  refine spec.l2Tidy.g (lo := lo) (hi := hi) (by omega) hhi rfl rfl fun w' hb => ?_
  rw [tsF_rgk hk hle hhi h1 h2]
  exact hK w' hb
theorem has_bits {k x n : Nat} (hk : k ≤ 32) (hn : n < 2 ^ 32) (h : n / 2 ^ k = x / 2 ^ k) : iAndNot .i64 (n : Int) ((2 ^ k - 1 : Nat) : Int) = ((cutN k x : Nat) : Int) := by
  rw [iAndNot_mask (by omega) (by omega), cut_eq h]
end
end Go.Proofs.YtdlnoabihfnmmaaGreat.V

/- Contracts: ranges cut by a number, in the program. -/
namespace Go.Proofs.YtdlnoabihfnmmaaGreat.V
open Go Go.RowKit
set_option linter.unusedVariables false
set_option linter.unusedSimpArgs false
theorem ivl_one (n : Nat) : ivl n n = ((n : Int), (n : Int), (n : Int), (0 : Int), ()) := by
  unfold ivl rgk
  rw [kk_self, show cutN 0 n = n by simp [cutN]]
  rfl
section
variable {w : World}
theorem meet_bits {k lo n : Nat} (hk : k ≤ 32) (hlo : lo < 2 ^ 32) (hn : n < 2 ^ 32) : iAndNot .i64 (iXor .i64 ((cutN k lo : Nat) : Int) (n : Int)) (iOr .i64 ((2 ^ k - 1 : Nat) : Int) 0) = ((cutN k (cutN k lo ^^^ n) : Nat) : Int) := by
  have c := cutN_le k lo
  have hp := Nat.pow_le_pow_right (n := 2) (by omega) hk
  have e0 : iOr .i64 ((2 ^ k - 1 : Nat) : Int) 0 = ((2 ^ k - 1 : Nat) : Int) := by
    have := iOr_nat (a := 2 ^ k - 1) (b := 0) (by omega) (by omega)
    simpa using this
  have hx := Nat.xor_lt_two_pow (n := 32) (x := cutN k lo) (y := n) (by omega) hn
  rw [e0, iXor_nat (by omega) (by omega), iAndNot_mask (by omega) (by omega)]
theorem cut_xor {k lo n : Nat} : cutN k (cutN k lo ^^^ n) = 0 ↔ n / 2 ^ k = lo / 2 ^ k := by
  have e : (cutN k lo ^^^ n) / 2 ^ k = lo / 2 ^ k ^^^ n / 2 ^ k := by
    rw [← Nat.shiftRight_eq_div_pow, ← Nat.shiftRight_eq_div_pow, ← Nat.shiftRight_eq_div_pow, Nat.shiftRight_xor_distrib]
    congr 1
    rw [Nat.shiftRight_eq_div_pow, Nat.shiftRight_eq_div_pow]
    unfold cutN
    exact Nat.mul_div_cancel _ (Nat.two_pow_pos k)
  have hp := Nat.two_pow_pos k
  constructor
  · intro h
    have h2 : (cutN k lo ^^^ n) / 2 ^ k = 0 := by
      have h3 : (cutN k lo ^^^ n) / 2 ^ k * 2 ^ k = 0 := h
      rcases Nat.mul_eq_zero.1 h3 with h4 | h4
      · exact h4
      · omega
    rw [e] at h2
    apply Nat.eq_of_testBit_eq
    intro i
    have h4 := congrArg (·.testBit i) h2
    simp only [Nat.testBit_xor, Nat.zero_testBit] at h4
    cases ha : (lo / 2 ^ k).testBit i <;> cases hb : (n / 2 ^ k).testBit i <;> simp_all
  · intro h
    show (cutN k lo ^^^ n) / 2 ^ k * 2 ^ k = 0
    rw [e, h, Nat.xor_self, Nat.zero_mul]
end
end Go.Proofs.YtdlnoabihfnmmaaGreat.V

/- Contracts: masks of the reference. -/
namespace Go.Proofs.YtdlnoabihfnmmaaGreat.V
open Go Go.RowKit
set_option linter.unusedVariables false
set_option linter.unusedSimpArgs false
section
variable {w : World}
theorem shl_one {n : Nat} (hn : n ≤ 40) : IntKind.wrap .i64 (1 * 2 ^ (min (Int.toNat (n : Int)) (IntKind.bits .i64))) = ((2 ^ n : Nat) : Int) := by
  have h1 : min (Int.toNat (n : Int)) (IntKind.bits .i64) = n := by
    have : IntKind.bits .i64 = 64 := rfl
    rw [this]; omega
  have h2 : (1 * 2 ^ n : Int) = ((2 ^ n : Nat) : Int) := by simp
  have h3 := Nat.pow_le_pow_right (n := 2) (by omega) hn
  rw [h1, h2, i64_nat (by omega)]
theorem spec.l2Mask.p {n : Nat} {v : Int} {K : Int → World → Prop} (hn : n ≤ 32) (hv : v = ((2 ^ n - 1 : Nat) : Int)) (hk : K ((2 ^ n - 1 : Nat) : Int) w) : CallT (.o (.lf (.i .i64))) P0 72 [.int .i64 v] w K := by
  have hp := Nat.two_pow_pos n
  have hp2 := Nat.pow_le_pow_right (n := 2) (by omega) hn
  have e : Lib.bitLen (2 ^ n - 1) = n := by
    have h1 := (bl_spec (2 ^ n - 1) (by omega) n).2 (by omega)
    have h2 := bl_spec (2 ^ n - 1) (by omega) (n - 1)
    rcases Nat.lt_or_ge (Lib.bitLen (2 ^ n - 1)) n with h | h
    · have h3 := h2.1 (by omega)
      have h4 : 2 ^ n = 2 ^ (n - 1) * 2 := by rw [← Nat.pow_succ]; congr 1; omega
      have h5 := Nat.two_pow_pos (n - 1)
      omega
    · omega
  refine spec.l2Mask.c (n := 2 ^ n - 1) (by omega) hv ?_
  rw [e]; exact hk
theorem spec.l2Over.c {n : Nat} {K : Int → World → Prop} (hn : n ≤ 33) (hk : ∀ w', Below w.heap.size w w' → K (iXor .i64 4294967295 ((2 ^ (n - 1) - 1 : Nat) : Int)) w') : CallT (.o (.lf (.i .i64))) P0 114 [.int .i64 n] w K := by
  refine spec.l2Over.ok ?_
  unfold spec.l2Over.vc
  refine And.intro (fun h => ?_) (fun h => ?_)
  · have h0 : n = 0 := by simpa using h
    subst h0
    exact spec.l2Top.c (kof (hk w (Below.refl _ _)) (by decide))
  · have h0 : n ≠ 0 := by simpa using h
    have e1 : IntKind.wrap .i64 ((n : Int) - 1) = ((n - 1 : Nat) : Int) := by rw [i64_of (by omega) (by omega)]; omega
    have hp := Nat.two_pow_pos (n - 1)
    have hp2 := Nat.pow_le_pow_right (n := 2) (j := 32) (by omega) (show n - 1 ≤ 32 by omega)
    rw [e1, shl_one (by omega)]
    refine ⟨Below w.heap.size, belOk _, eqG 4294967295, keptEq, eqG ((2 ^ (n - 1) : Nat) : Int), keptEq, eqG ((2 ^ (n - 1) - 1 : Nat) : Int), keptEq, fun w1 hs => ?_, fun t6 => ⟨fun w1 hs => ⟨by omega, gkE rfl (Below.refl _ _)⟩, fun t9 => ⟨fun w1 hs f9 => ?_, fun t11 w1 hs f6 f9 f11 => ?_⟩⟩⟩
    · exact spec.l2Top.c (gkE rfl (Below.refl _ _))
    · cases f9
      refine spec.l2Mask.p (n := n - 1) (by omega) ?_ (gkE rfl (Below.refl _ _))
      rw [i64_of (by omega) (by omega)]; omega
    · cases f6; cases f11
      exact hk _ hs
end
end Go.Proofs.YtdlnoabihfnmmaaGreat.V

/- Contracts: two ranges, one below the other, in the program. -/
namespace Go.Proofs.YtdlnoabihfnmmaaGreat.V
open Go Go.RowKit
set_option linter.unusedVariables false
set_option linter.unusedSimpArgs false
section
variable {w : World}
end
end Go.Proofs.YtdlnoabihfnmmaaGreat.V
