/- Contracts: the draws of programs. -/
import Derived.Test.YtdgnojjemlfhdaaFG
namespace Go.Proofs.Ytdgnojjemlfhdaa.V
open Go Go.RowKit
set_option linter.unusedVariables false
set_option linter.unusedSimpArgs false
section
variable {B br m : Nat} {w : World}
theorem keepB {w' : World} {b : Nat} {o : Obj} (h : w.heap[b]? = some o) (hg : w.grownBy w' (some br)) (hne : br < b) : w'.heap[b]? = some o :=
  (hg.block b (Array.getElem?_eq_some_iff.1 h).1 (by simp only [ne_eq, Option.some.injEq]; omega)).trans h
theorem spec.l20Rd.one.c {l : Sl} {xs : List Int} {K : Int → World → Prop} (h : RdS B br m w) (hm : m ≤ 1000000000) (hl : SlR kI w l xs) (h1 : 1 ≤ xs.length) (hb : ∀ b o, l.a = some ⟨b, o, none⟩ → b ≠ br)
    (hk : ∀ x w', x ∈ xs → w.grownBy w' (some br) → RdS B br (m + 1) w' → K x w') : CallT (.o (.lf (.i .i64))) P0 95 [.pointer (some ⟨br, 0, none⟩), l.v] w K := by
  have hn := hl.len
  refine spec.l20Rd.one.ok (spec.l20Rd.pick.c h hm (by omega) fun x w1 h0 hx hg hr => ?_)
  have hl1 := hl.kept2 hg (fun b o ha e => hb b o ha (by simpa using e.symm))
  obtain ⟨y, hy⟩ := get_some (l := xs) (k := x.toNat) (by omega)
  exact ixL hl1 h0 hy rfl (l := .i .i64) (v := y) rfl (hk y w1 (List.mem_of_getElem? hy) hg hr)
theorem oneLit {cs : Array Value} {xs : List Int} {n : Nat} {K : Int → World → Prop} (h : RdS B br m w) (hm : m ≤ 1000000000) (hcs : cs.toList = xs.flatMap kI.cells) (hn : n = xs.length) (h1 : 1 ≤ xs.length ∧ xs.length ≤ 100)
    (hk : ∀ x w', x ∈ xs → w.grownBy w' (some br) → RdS B br (m + 1) w' → K x w') : Nw cs 3 w fun a w1 => CallT (.o (.lf (.i .i64))) P0 95 [.pointer (some ⟨br, 0, none⟩), .slice (some a) n n] w1 K := by
  refine nw fun w1 hb hs hc => ?_
  have hl : OwnS kI 3 w.heap.size w1 ⟨some ⟨w.heap.size, 0, none⟩, n, n⟩ xs := OwnS.lit (Nat.le_refl _) hc hn hcs (by simp only [maxLen]; omega)
  have hlt := h.lt
  refine spec.l20Rd.one.c (l := ⟨some ⟨w.heap.size, 0, none⟩, n, n⟩) (h.below hb) hm hl.read h1.1 (fun b o e => ?_) fun x w2 hx hg hr => hk x w2 hx (grown_trans (grown_any hb) hg) hr
  simp only [Option.some.injEq, Addr.mk.injEq] at e
  omega
theorem spec.l20Imm.c {K : Int → World → Prop} (h : RdS B br m w) (hm : m ≤ 1000000000) (hk : ∀ x w', w.grownBy w' (some br) → RdS B br (m + 1) w' → K x w') : CallT (.o (.lf (.i .i64))) P0 94 [.pointer (some ⟨br, 0, none⟩)] w K :=
  spec.l20Imm.ok (oneLit (xs := [0, 1, 2, 3, 7, 8, 15, 31, 100, 255, 65535, 2147483647, 2147483648, 4294967295]) h hm rfl rfl (by decide) fun x w' _ hg hr => hk x w' hg hr)
/-- Good rows of lines, of new memory. -/
def GoodT (H : Nat) (w : World) (t : Sl) : Prop := (∃ xs, SlR kS w t xs ∧ 2 ≤ xs.length ∧ xs.length ≤ 13 ∧ ∀ y ∈ xs, y.size ≤ 100) ∧ ∀ b, t.bk = some b → H ≤ b
theorem GoodT.below {H : Nat} {w' : World} {t : Sl} (h : GoodT H w t) (hb : Below w.heap.size w w') : GoodT H w' t := by
  obtain ⟨⟨xs, h1, h2⟩, h3⟩ := h; exact ⟨⟨xs, h1.below hb, h2⟩, h3⟩
theorem lnStep {H : Nat} {rows : List Sl} {cs : Array Value} {xs : List ByteArray} {n : Nat} (hH : H ≤ w.heap.size) (hR : ∀ t ∈ rows, GoodT H w t) (hcs : cs.toList = xs.flatMap kS.cells) (hn : n = xs.length) (hx : 2 ≤ xs.length ∧ xs.length ≤ 13 ∧ ∀ y ∈ xs, y.size ≤ 100) {K : Addr → World → Prop}
    (hk : ∀ w' a, H ≤ w'.heap.size → Below w.heap.size w w' → (∀ t ∈ rows ++ [⟨some a, n, n⟩], GoodT H w' t) → K a w') : Nw cs 9 w K := by
  refine nw fun w1 hb hs hc => hk w1 _ (by omega) hb fun t ht => ?_
  rcases List.mem_append.1 ht with ht | ht
  · exact (hR t ht).below hb
  · simp only [List.mem_singleton] at ht
    subst ht
    exact ⟨⟨xs, (OwnS.lit (k := kS) (B := 0) (Nat.zero_le _) hc hn hcs (by simp only [maxLen]; omega)).read, hx⟩, fun b hb => by simp only [Sl.bk, Option.map_some, Option.some.injEq] at hb; omega⟩
theorem grown_new {w w1 w2 : World} {row : Option Nat} {b : Nat} (h : w.grownBy w1 row) (h2 : w1.grownBy w2 (some b)) (hb : w.heap.size ≤ b) : w.grownBy w2 row :=
  ⟨h2.os.trans h.os, h2.tape.trans h.tape, h2.output.trans h.output, Nat.le_trans h.size h2.size, fun k hk hne => (h2.block k (Nat.lt_of_lt_of_le hk h.size) (by simp only [ne_eq, Option.some.injEq]; omega)).trans (h.block k hk hne)⟩
theorem spec.l20Alu.c {K : Tup (R 6 (.i .i64)) → World → Prop} (h : RdS B br m w) (hm : m ≤ 900000000) (hk : ∀ (x : Ins) w', w.grownBy w' (some br) → RdS B br (m + 5) w' → K x.t w') : CallT (.o (.ag (R 6 (.i .i64)))) P0 96 [.pointer (some ⟨br, 0, none⟩)] w K := by
  have hlt := h.lt
  refine spec.l20Alu.ok (nw fun w1 b1 s1 c1 => ?_)
  refine spec.l20Rd.pick.c (h.below b1) (by omega) (by omega) fun t5 w2 _ _ g2 r2 => ?_
  refine oneLit (xs := [0, 6, 7, 8]) r2 (by omega) rfl rfl (by decide) fun t9 w3 _ g3 r3 => ?_
  refine spec.l20Imm.c r3 (by omega) fun t11 w4 g4 r4 => ?_
  refine nwStIns (x := ⟨IntKind.wrap .i64 (1 + t5), t9, -1, 0, t11, 0⟩) fun w5 b5 s5 c5 => ?_
  refine spec.l20Rd.pick.c (r4.below b5) (by omega) (by omega) fun t14 w6 _ _ g6 r6 => ?_
  have g14 : w1.grownBy w4 (some br) := grown_trans (grown_trans g2 g3) g4
  have g16 : w1.grownBy w6 (some br) := grown_trans (grown_trans g14 (grown_any b5)) g6
  have hs14 := g14.size
  have c6 := keepB c5 g6 (by omega)
  have z6 := keepB c1 g16 (by omega)
  have G16 : w.grownBy w6 (some br) := grown_trans (grown_any b1) g16
  have fin : ∀ {w7 : World} (y : Ins), w.grownBy w7 (some br) → RdS B br (m + 5) w7 → w7.heap[w4.heap.size]? = some (.cells y.cs 51 (0, 0)) → w7.heap[w.heap.size]? = some (.cells (zc P0 51) 51 (0, 0)) →
      LdA (R 6 (.i .i64)) ⟨w4.heap.size, 0, none⟩ w7 fun t8 w8 => StA P0 ⟨w.heap.size, 0, none⟩ (Tup.cells (R 6 (.i .i64)) t8) w8 fun w9 => LdA (R 6 (.i .i64)) ⟨w.heap.size, 0, none⟩ w9 fun r w10 => K r w9 := by
    intro w7 y g7 r7 c7 z7
    refine ldAB (x := y.t) c7 rfl ?_
    refine stA6 (y := y) z7 zIns fun w8 g8 _ c8 => ?_
    refine ldAB (x := y.t) c8 rfl ?_
    exact hk y w8 (grown_new g7 g8 (Nat.le_refl _)) (r7.kept g8 (fun b hb => by simp only [Option.some.injEq] at hb; omega))
  refine And.intro (fun _ => ?_) (fun _ => fin _ G16 (r6.more (by omega)) c6 z6)
  refine oneLit (xs := [0, 6, 7, 8]) r6 (by omega) rfl rfl (by decide) fun t18 w7 _ g7 r7 => ?_
  have c7 := keepB c6 g7 (by omega)
  have z7 := keepB z6 g7 (by omega)
  refine stB c7 rfl (by simp [Ins.cs]) fun w8 g8 s8 c8 => ?_
  refine stB c8 rfl (by simp [Ins.cs]) fun w9 g9 s9 c9 => ?_
  have G9 : w.grownBy w9 (some br) := grown_new (grown_new (grown_trans G16 g7) g8 (by omega)) g9 (by omega)
  have r9 : RdS B br (m + 5) w9 := (r7.kept g8 (fun b hb => by simp only [Option.some.injEq] at hb; omega)).kept g9 (fun b hb => by simp only [Option.some.injEq] at hb; omega)
  refine fin ⟨IntKind.wrap .i64 (1 + t5), t9, t18, 0, 0, 0⟩ G9 r9 c9 ?_
  have z8 := (g8.block _ (Array.getElem?_eq_some_iff.1 z7).1 (by simp only [ne_eq, Option.some.injEq]; omega)).trans z7
  exact (g9.block _ (Array.getElem?_eq_some_iff.1 z8).1 (by simp only [ne_eq, Option.some.injEq]; omega)).trans z8
set_option maxHeartbeats 1000000 in
theorem spec.l20Lines.c {K : Sl → World → Prop} (hk : ∀ r w' rows, Below w.heap.size w w' → SlR kSl w' r rows → rows.length = 15 → (∀ t ∈ rows, GoodT w.heap.size w' t) → (∀ b, r.bk = some b → w.heap.size ≤ b) → K r w') : CallT (.o (.lf .sl)) P0 92 [] w K := by
  refine spec.l20Lines.ok ?_
  refine lnStep (H := w.heap.size) (rows := []) (xs := [_, _]) (n := 2) (Nat.le_refl _) (by simp) rfl rfl (by decide) fun w1 a1 H1 b1 R1 => ?_
  refine lnStep (xs := [_, _, _, _, _]) (n := 5) H1 R1 rfl rfl (by decide) fun w2 a2 H2 b2 R2 => ?_
  refine lnStep (xs := [_, _, _, _, _, _, _, _, _, _, _, _, _]) (n := 13) H2 R2 rfl rfl (by decide) fun w3 a3 H3 b3 R3 => ?_
  refine lnStep (xs := [_, _, _, _, _]) (n := 5) H3 R3 rfl rfl (by decide) fun w4 a4 H4 b4 R4 => ?_
  refine lnStep (xs := [_, _, _, _, _, _, _, _, _]) (n := 9) H4 R4 rfl rfl (by decide) fun w5 a5 H5 b5 R5 => ?_
  refine lnStep (xs := [_, _, _, _]) (n := 4) H5 R5 rfl rfl (by decide) fun w6 a6 H6 b6 R6 => ?_
  refine lnStep (xs := [_, _, _, _, _]) (n := 5) H6 R6 rfl rfl (by decide) fun w7 a7 H7 b7 R7 => ?_
  refine lnStep (xs := [_, _, _, _, _, _]) (n := 6) H7 R7 rfl rfl (by decide) fun w8 a8 H8 b8 R8 => ?_
  refine lnStep (xs := [_, _, _]) (n := 3) H8 R8 rfl rfl (by decide) fun w9 a9 H9 b9 R9 => ?_
  refine lnStep (xs := [_, _, _, _, _, _]) (n := 6) H9 R9 rfl rfl (by decide) fun w10 a10 H10 b10 R10 => ?_
  refine lnStep (xs := [_, _, _, _, _, _]) (n := 6) H10 R10 rfl rfl (by decide) fun w11 a11 H11 b11 R11 => ?_
  refine lnStep (xs := [_, _, _, _, _, _, _, _, _, _]) (n := 10) H11 R11 rfl rfl (by decide) fun w12 a12 H12 b12 R12 => ?_
  refine lnStep (xs := [_, _, _, _, _, _, _]) (n := 7) H12 R12 rfl rfl (by decide) fun w13 a13 H13 b13 R13 => ?_
  refine lnStep (xs := [_, _, _, _, _, _, _, _, _, _, _]) (n := 11) H13 R13 rfl rfl (by decide) fun w14 a14 H14 b14 R14 => ?_
  refine lnStep (xs := [_, _, _, _, _, _]) (n := 6) H14 R14 rfl rfl (by decide) fun w15 a15 H15 b15 R15 => ?_
  refine nw fun w16 b16 s16 c16 => ?_
  have mono : ∀ {u v : World}, Below w.heap.size w u → Below u.heap.size u v → Below w.heap.size w v := fun h1 h2 => h1.trans (h2.mono h1.size)
  refine hk _ _ _ (mono (mono (mono (mono (mono (mono (mono (mono (mono (mono (mono (mono (mono (mono (mono b1 b2) b3) b4) b5) b6) b7) b8) b9) b10) b11) b12) b13) b14) b15) b16) (OwnS.lit (k := kSl) (B := 0) (xs := [⟨some a1, 2, 2⟩, ⟨some a2, 5, 5⟩, ⟨some a3, 13, 13⟩, ⟨some a4, 5, 5⟩, ⟨some a5, 9, 9⟩, ⟨some a6, 4, 4⟩, ⟨some a7, 5, 5⟩, ⟨some a8, 6, 6⟩, ⟨some a9, 3, 3⟩, ⟨some a10, 6, 6⟩, ⟨some a11, 6, 6⟩, ⟨some a12, 10, 10⟩, ⟨some a13, 7, 7⟩, ⟨some a14, 11, 11⟩, ⟨some a15, 6, 6⟩]) (Nat.zero_le _) c16 rfl rfl (by simp [maxLen])).read rfl (fun t ht => ?_) fun b hb => ?_
  · exact (R15 t (by simpa using ht)).below b16
  · simp only [Sl.bk, Option.map_some, Option.some.injEq] at hb; omega
theorem elIns : El P0 33 51 kIns 48 := ⟨by kernel_rfl, ⟨_, _, Option.eq_some_of_isSome (by kernel_rfl), Option.eq_some_of_isSome (by kernel_rfl), by kernel_rfl, by kernel_rfl, by kernel_rfl⟩, by decide, by intro l hl; simp [kIns] at hl; simp [hl]⟩
theorem spec.l20Read.c {l : Sl} {xs : List ByteArray} {K : Sl → World → Prop} (hl : SlR kS w l xs) (hn : xs.length ≤ 100) (hy : ∀ y ∈ xs, y.size ≤ 100) (hk : ∀ r w' ys, Below w.heap.size w w' → OwnS kIns 51 w.heap.size w' r ys → ys.length = xs.length → K r w') :
    CallT (.o (.lf .sl)) P0 93 [l.v] w K := by
  have hln := hl.len
  refine spec.l20Read.ok (nw fun w0 hb0 hs0 hc0 => ?_)
  have ho0 : OwnS kIns 51 w.heap.size w0 ⟨some ⟨w.heap.size, 0, none⟩, 0, 0⟩ [] := OwnS.lit (Nat.le_refl _) hc0 rfl rfl (by simp [maxLen])
  refine ⟨fun out i w' => ∃ (k : Nat) (ys : List Ins), i = k ∧ k ≤ xs.length ∧ OwnS kIns 51 w.heap.size w' out ys ∧ ys.length = k ∧ Below w.heap.size w w', fun _ i _ => xs.length - i.toNat, ⟨0, [], rfl, by omega, ho0, rfl, hb0⟩, ?_⟩
  rintro out i w1 ⟨k, ys, rfl, hk1, ho, hyl, hb1⟩ _
  refine And.intro (fun hlt => ?_) (fun hge => ?_)
  · simp only [decide_eq_true_eq] at hlt
    obtain ⟨x, hx⟩ := get_some (l := xs) (k := k) (by omega)
    refine ixL (hl.below hb1) (i := k) (by omega) (x := x) (by simpa using hx) rfl (l := .s) (v := x) rfl ?_
    refine spec.LineGet.c (by have := hy x (List.mem_of_getElem? hx); omega) fun y b w2 hb2 => ?_
    refine nwStIns (x := y) fun w3 hb3 hs3 hc3 => ?_
    refine ldAB (x := y.t) hc3 rfl ?_
    have hg2 := hb2.size
    have bb3 : Below w1.heap.size w1 w3 := hb2.trans (hb3.mono hg2)
    have bb : Below w.heap.size w w3 := hb1.trans (bb3.mono hb1.size)
    refine ap1 elIns (ho.below bb3) y rfl (by omega) (by omega) bb.size fun o' w' ho' hg' _ => ?_
    rw [i64_of (n := (k : Int) + 1) (by omega) (by omega)]
    exact ⟨⟨k + 1, ys ++ [y], by omega, by omega, ho', by simp; omega, bb.grown hg' bb.size (fun b hb => ((ho.below bb3).blk hb).1)⟩, by simp only; omega⟩
  · simp only [decide_eq_false_iff_not] at hge
    exact hk _ _ ys hb1 ho (by omega)
end
end Go.Proofs.Ytdgnojjemlfhdaa.V
