/- The row of FnSameFirst: it returns true and leaves its input as it was, whatever the input. PRINTED by row.py out of the law of the same name. -/
import Derived.Laws.StructEq
import Derived.Test.YtdlnoabihfnmmaaGreatRows
import Derived.Test.YtdlnoabihfnmmaaGreatB4
/- Words for regions in which some blocks may change; contracts: a table is copied, put into. -/
namespace Go.Proofs.YtdlnoabihfnmmaaGreat.V
open Go Go.RowKit
set_option linter.unusedVariables false
set_option linter.unusedSimpArgs false
/-- Blocks stay but for some, and for new boxes of one type. -/
structure SqE (H : Nat) (E : Nat → Prop) (t : TypeId) (a b : World) : Prop where
  os : b.os = a.os
  tape : b.tape = a.tape
  output : b.output = a.output
  size : a.heap.size ≤ b.heap.size
  block : ∀ k, k < a.heap.size → ¬ E k → (k < H ∨ ∀ cs, a.heap[k]? ≠ some (.cells cs t (0, 0))) → b.heap[k]? = a.heap[k]?
  shape : ∀ k, k < a.heap.size → ¬ E k → ¬ k < H → ∀ cs, a.heap[k]? = some (.cells cs t (0, 0)) → ∃ cs', b.heap[k]? = some (.cells cs' t (0, 0))
theorem SqE.refl (H : Nat) (E : Nat → Prop) (t : TypeId) (a : World) : SqE H E t a a := ⟨rfl, rfl, rfl, Nat.le_refl _, fun _ _ _ _ => rfl, fun _ _ _ _ cs h => ⟨cs, h⟩⟩
theorem SqE.trans {H : Nat} {E : Nat → Prop} {t : TypeId} {a b c : World} (h1 : SqE H E t a b) (h2 : SqE H E t b c) : SqE H E t a c := by
  refine ⟨h2.os.trans h1.os, h2.tape.trans h1.tape, h2.output.trans h1.output, Nat.le_trans h1.size h2.size, fun k hk he ho => ?_, fun k hk he hH cs hc => ?_⟩
  · have e1 := h1.block k hk he ho
    refine (h2.block k (Nat.lt_of_lt_of_le hk h1.size) he (ho.imp id fun h cs => ?_)).trans e1
    rw [e1]; exact h cs
  · obtain ⟨cs', h'⟩ := h1.shape k hk he hH cs hc
    exact h2.shape k (Nat.lt_of_lt_of_le hk h1.size) he hH cs' h'
theorem SqE.grown {H : Nat} {E : Nat → Prop} {t : TypeId} {a b : World} {row : Option Nat} (h : a.grownBy b row) (hr : ∀ g, row = some g → E g) : SqE H E t a b := by
  have hb : ∀ k, k < a.heap.size → ¬ E k → b.heap[k]? = a.heap[k]? := fun k hk he => h.block k hk (fun e => he (hr k e.symm))
  exact ⟨h.os, h.tape, h.output, h.size, fun k hk he _ => hb k hk he, fun k hk he _ cs hc => ⟨cs, (hb k hk he).trans hc⟩⟩
theorem SqE.below {H : Nat} {E : Nat → Prop} {t : TypeId} {a b : World} (h : Below a.heap.size a b) : SqE H E t a b := SqE.grown (grown_of_below h) (by simp)
theorem SqE.more {H : Nat} {E E' : Nat → Prop} {t : TypeId} {a b : World} (h : SqE H E t a b) (he : ∀ k, E k → E' k) : SqE H E' t a b :=
  ⟨h.os, h.tape, h.output, h.size, fun k hk hn ho => h.block k hk (fun e => hn (he k e)) ho, fun k hk hn => h.shape k hk (fun e => hn (he k e))⟩
theorem sqeOk (H : Nat) (E : Nat → Prop) (t : TypeId) (w : World) : SpOk (SqE H E t) w := ⟨fun a => SqE.refl _ _ _ a, fun _ _ _ h1 h2 => h1.trans h2, SqE.below (Below.refl _ _).drew⟩
section
variable {α : Type} {k : Kd α} {t0 t : TypeId} {B H : Nat} {E : Nat → Prop} {a b : World} {s : Sl} {xs : List α}
theorem OwnS.sq (h : OwnS k t0 B a s xs) (hs : SqE H E t a b) (ht : t0 ≠ t) (hE : ∀ g, (Value.slice s.a s.n s.c).ownBlock = some g → ¬ E g) : OwnS k t0 B b s xs := by
  refine ⟨h.1, h.2.1, ?_⟩
  rcases h.2.2 with h0 | ⟨g, cap, cur, hv, hB, hg, r⟩
  · exact .inl h0
  · have hlt := (Array.getElem?_eq_some_iff.1 hg).1
    refine .inr ⟨g, cap, cur, hv, hB, (hs.block g hlt (hE g (by rw [hv]; rfl)) (.inr fun cs hc => ?_)).trans hg, r⟩
    rw [hg] at hc
    simp only [Option.some.injEq, Obj.cells.injEq] at hc
    exact ht hc.2.1
theorem SlR.sq (h : SlR k a s xs) (hs : SqE H E t a b) (hb : ∀ g, s.bk = some g → xs ≠ [] → g < H ∧ g < a.heap.size ∧ ¬ E g) : SlR k b s xs := by
  refine ⟨h.1, h.2.1, h.2.2.1, ?_⟩
  rcases h.2.2.2 with h0 | ⟨g, o, ha, hat⟩
  · exact .inl h0
  · refine .inr ⟨g, o, ha, fun i x hi m v hv => ?_⟩
    have hne : xs ≠ [] := fun e => by rw [e] at hi; simp at hi
    obtain ⟨h1, h2, h3⟩ := hb g (by simp [Sl.bk, ha]) hne
    rw [← hat i x hi m v hv]
    unfold World.cell?
    simp only
    rw [hs.block g h2 h3 (.inl h1)]
theorem RdS.sq {B br m : Nat} (h : RdS B br m a) (hs : SqE H E t a b) (hbr : br < H) (hE : ∀ g, g ≤ br → ¬ E g) : RdS B br m b := by
  have hlt := h.lt
  obtain ⟨s, bs, p, h1, h2, h3, h4, h5, h6⟩ := h
  refine ⟨s, bs, p, (hs.block br hlt (hE br (Nat.le_refl _)) (.inl hbr)).trans h1, h2.sq hs (fun g hg hne => ?_), h3, h4, h5, h6⟩
  obtain ⟨g', o, ha, _⟩ : ∃ b o, s.a = some ⟨b, o, none⟩ ∧ True := by
    rcases h2.2.2.2 with h0 | ⟨b, o, ha, _⟩
    · exact absurd h0 hne
    · exact ⟨b, o, ha, trivial⟩
  have e : g' = g := by simpa [Sl.bk, ha] using hg
  subst e
  have := h3 hne g' o ha
  exact ⟨by omega, by omega, hE g' (by omega)⟩
theorem SqE.old (hs : SqE H E t a b) {c : Nat} {o : Obj} (h : a.heap[c]? = some o) (hc : c < H) (hE : ¬ E c) : b.heap[c]? = some o := (hs.block c (Array.getElem?_eq_some_iff.1 h).1 hE (.inl hc)).trans h
theorem keepG {w w' : World} {c : Nat} {o : Obj} {row : Option Nat} (h : w.heap[c]? = some o) (hg : w.grownBy w' row) (hne : ∀ g, row = some g → g ≠ c) : w'.heap[c]? = some o :=
  (hg.block c (Array.getElem?_eq_some_iff.1 h).1 (fun e => hne c e.symm rfl)).trans h
/-- What is owned holds its type. -/
theorem OwnS.typ (h : OwnS k t0 B a s xs) {g : Nat} (hg : (Value.slice s.a s.n s.c).ownBlock = some g) : ∃ cur, a.heap[g]? = some (.cells cur t0 (0, 0)) := by
  rcases h.2.2 with ⟨hv, h0⟩ | ⟨g', cap, cur, hv, hB, hg', r⟩
  · rw [hv] at hg; simp [Value.ownBlock] at hg
  · rw [hv] at hg
    have : g' = g := by simpa [Value.ownBlock] using hg
    subst this
    exact ⟨cur, hg'⟩
end
/-- A table in memory of its own. -/
def TbO (H : Nat) (m : Tab) (n : Nat) (w : World) : Prop := ∃ ks vs, OwnS kI 3 H w m.2.2.2.1 ks ∧ OwnS kS 9 H w m.2.2.2.2.1 vs ∧ ks.length ≤ n ∧ vs.length ≤ n
theorem tIS : (3 : TypeId) ≠ 9 := by decide
theorem tIT : (3 : TypeId) ≠ 88 := by decide
theorem tST : (9 : TypeId) ≠ 88 := by decide
theorem own_apart {H H' : Nat} {w : World} {s s' : Sl} {ks : List Int} {vs : List ByteArray} (h1 : OwnS kI 3 H w s ks) (h2 : OwnS kS 9 H' w s' vs) {g : Nat} (hg : (Value.slice s.a s.n s.c).ownBlock = some g) : (Value.slice s'.a s'.n s'.c).ownBlock ≠ some g := fun e => by
  obtain ⟨c1, e1⟩ := h1.typ hg
  obtain ⟨c2, e2⟩ := h2.typ e
  rw [e1] at e2
  simp only [Option.some.injEq, Obj.cells.injEq] at e2
  exact tIS e2.2.1
theorem TbO.zero (H n : Nat) (w : World) (i j k : Int) : TbO H (i, j, k, ⟨none, 0, 0⟩, ⟨none, 0, 0⟩, ()) n w := ⟨[], [], OwnS.nil _ _ _ _, OwnS.nil _ _ _ _, by simp, by simp⟩
theorem TbO.below {H n : Nat} {m : Tab} {w w' : World} (h : TbO H m n w) (hb : Below w.heap.size w w') : TbO H m n w' := by
  obtain ⟨ks, vs, h1, h2, h3⟩ := h; exact ⟨ks, vs, h1.below hb, h2.below hb, h3⟩
theorem TbO.kept {H n g : Nat} {m : Tab} {w w' : World} (h : TbO H m n w) (hg : w.grownBy w' (some g)) (hlt : g < H) : TbO H m n w' := by
  obtain ⟨ks, vs, h1, h2, h3⟩ := h; exact ⟨ks, vs, h1.keptBr hg hlt, h2.keptBr hg hlt, h3⟩
theorem TbO.low {H H' n : Nat} {m : Tab} {w : World} (h : TbO H m n w) (hl : H' ≤ H) : TbO H' m n w := by
  obtain ⟨ks, vs, h1, h2, h3⟩ := h; exact ⟨ks, vs, h1.low hl, h2.low hl, h3⟩
theorem TbO.more {H n n' : Nat} {m : Tab} {w : World} (h : TbO H m n w) (hl : n ≤ n') : TbO H m n' w := by
  obtain ⟨ks, vs, h1, h2, h3, h4⟩ := h; exact ⟨ks, vs, h1, h2, by omega, by omega⟩
section
variable {w : World} {m : Tab} {ks : List Int} {vs : List ByteArray}
set_option maxHeartbeats 1000000 in
theorem spec.l3Copy.c {K : Tab → World → Prop} (h : TbR m ks vs w) (hl : ks.length ≤ 1000 ∧ vs.length ≤ 1000) (hk : ∀ ka va w', Below w.heap.size w w' → OwnS kI 3 w.heap.size w' ka ks → OwnS kS 9 w.heap.size w' va vs → K (m.1, m.2.1, m.2.2.1, ka, va, ()) w') :
    CallT (.o (.ag TB)) P0 81 [.agg (Tup.cells TB m).toArray] w K := by
  refine spec.l3Copy.ok (nwTab fun w1 b1 s1 c1 => nwTz fun w2 b2 s2 c2 => ?_)
  have c1' := (b2.block _ (by omega)).trans c1
  refine ldTab c1' (nwTz fun w3 b3 s3 c3 => ?_)
  have b23 := b2.trans (b3.mono b2.size)
  refine stTab c3 fun w4 g4 s4 c4 => ?_
  have m4 := keepG ((b23.block _ (by omega)).trans c1) g4 (fun g hg => by simp only [Option.some.injEq] at hg; omega)
  have z4 := keepG ((b3.block _ (by omega)).trans c2) g4 (fun g hg => by simp only [Option.some.injEq] at hg; omega)
  have B4 : Below w.heap.size w w4 := (b1.trans (b23.mono b1.size)).grown g4 (by have := b1.size; have := b23.size; omega) (fun g hg => by simp only [Option.some.injEq] at hg; omega)
  refine nw fun w5 b5 s5 c5 => ?_
  have m5 := (b5.block _ (Array.getElem?_eq_some_iff.1 m4).1).trans m4
  refine ldB m5 (j := 3) (l := .sl) (x := m.2.2.2.1) rfl ?_
  have B5 : Below w.heap.size w w5 := B4.trans (b5.mono B4.size)
  have o5 : OwnS kI 3 w.heap.size w5 ⟨some ⟨w4.heap.size, 0, none⟩, 0, 0⟩ [] := OwnS.lit (k := kI) (B := w.heap.size) (xs := []) (n := 0) B4.size c5 rfl rfl (by simp)
  have ob5 : ∀ g, (Value.slice (some (⟨w4.heap.size, 0, none⟩ : Addr)) 0 0).ownBlock = some g → g = w4.heap.size := fun g hg => by simpa [Value.ownBlock] using hg.symm
  have h5 := h.below B5
  have bk : ∀ g, (m.2.2.2.1.bk = some g ∧ ks ≠ []) ∨ (m.2.2.2.2.1.bk = some g ∧ vs ≠ []) → g < w.heap.size := by
    rintro g (⟨hg, hne⟩ | ⟨hg, hne⟩)
    · obtain ⟨x, hx⟩ : ∃ x, ks[0]? = some x := by cases ks with | nil => contradiction | cons x _ => exact ⟨x, rfl⟩
      exact bk_lt h.1 hx (v := .int .i64 x) rfl hg
    · obtain ⟨x, hx⟩ : ∃ x, vs[0]? = some x := by cases vs with | nil => contradiction | cons x _ => exact ⟨x, rfl⟩
      exact bk_lt h.2 hx (v := .string x) rfl hg
  refine apS (s := ⟨some ⟨w4.heap.size, 0, none⟩, 0, 0⟩) (tR := 46) elI o5 h5.1 (by simp; omega) (by simp; omega) B5.size fun ka w6 o6 g6 _ _ => ?_
  simp only [List.nil_append] at o6
  have c6 := keepG ((b5.block _ (Array.getElem?_eq_some_iff.1 c4).1).trans c4) g6 (fun g hg => by have := ob5 g hg; have := g4.size; have := s4; omega)
  have m6 := keepG m5 g6 (fun g hg => by have := ob5 g hg; omega)
  have z6 := keepG ((b5.block _ (Array.getElem?_eq_some_iff.1 z4).1).trans z4) g6 (fun g hg => by have := ob5 g hg; omega)
  have B6 : Below w.heap.size w w6 := B5.grown g6 B5.size (fun g hg => by have := ob5 g hg; have := B4.size; omega)
  have h6 : SlR kS w6 m.2.2.2.2.1 vs := h5.2.kept3 g6 (fun hne b o ha e => by have := ob5 b e; have := bk b (.inr ⟨by simp [Sl.bk, ha], hne⟩); have := B4.size; omega)
  refine stB c6 rfl (by simp [Tup.cells]) fun w7 g7 s7 c7 => ?_
  have c7 : w7.heap[w2.heap.size]? = some (bT (m.1, m.2.1, m.2.2.1, ka, m.2.2.2.2.1, ())) := c7
  have m7 := keepG m6 g7 (fun g hg => by simp only [Option.some.injEq] at hg; omega)
  have z7 := keepG z6 g7 (fun g hg => by simp only [Option.some.injEq] at hg; omega)
  have B7 : Below w.heap.size w w7 := B6.grown g7 B6.size (fun g hg => by simp only [Option.some.injEq] at hg; have := b1.size; omega)
  have hob6 : ∀ g, (Value.slice ka.a ka.n ka.c).ownBlock = some g → g ≠ w2.heap.size := fun g hg e => by
    obtain ⟨cur, hc⟩ := o6.typ hg
    rw [e, c6] at hc
    simp only [bT, Option.some.injEq, Obj.cells.injEq] at hc
    exact tIT hc.2.1.symm
  have o7 := o6.kept g7 (fun g hg e => by simp only [Option.some.injEq] at hg; exact hob6 g e hg.symm)
  have h7 := h6.kept3 g7 (fun hne b o ha e => by simp only [Option.some.injEq] at e; have := bk b (.inr ⟨by simp [Sl.bk, ha], hne⟩); have := b1.size; omega)
  refine nw fun w8 b8 s8 c8 => ?_
  have m8 := (b8.block _ (Array.getElem?_eq_some_iff.1 m7).1).trans m7
  refine ldB m8 (j := 4) (l := .sl) (x := m.2.2.2.2.1) rfl ?_
  have B8 : Below w.heap.size w w8 := B7.trans (b8.mono B7.size)
  have o8 : OwnS kS 9 w.heap.size w8 ⟨some ⟨w7.heap.size, 0, none⟩, 0, 0⟩ [] := OwnS.lit (k := kS) (B := w.heap.size) (xs := []) (n := 0) B7.size c8 rfl rfl (by simp)
  have ob8 : ∀ g, (Value.slice (some (⟨w7.heap.size, 0, none⟩ : Addr)) 0 0).ownBlock = some g → g = w7.heap.size := fun g hg => by simpa [Value.ownBlock] using hg.symm
  refine apS (s := ⟨some ⟨w7.heap.size, 0, none⟩, 0, 0⟩) (tR := 83) elS o8 (h7.below b8) (by simp; omega) (by simp; omega) B8.size fun va w9 o9 g9 _ _ => ?_
  simp only [List.nil_append] at o9
  have hsz7 : w2.heap.size < w7.heap.size := (Array.getElem?_eq_some_iff.1 c7).1
  have hsz7' : w1.heap.size < w7.heap.size := (Array.getElem?_eq_some_iff.1 z7).1
  have c9 := keepG ((b8.block _ hsz7).trans c7) g9 (fun g hg => by have := ob8 g hg; omega)
  have z9 := keepG ((b8.block _ hsz7').trans z7) g9 (fun g hg => by have := ob8 g hg; omega)
  have B9 : Below w.heap.size w w9 := B8.grown g9 B8.size (fun g hg => by have := ob8 g hg; have := B7.size; omega)
  have k9 := (o7.below b8).kept g9 (fun g hg e => by have := ob8 g hg; have := (o7.blk e).2; omega)
  refine stB c9 rfl (by simp [Tup.cells]) fun w10 g10 s10 c10 => ?_
  have c10 : w10.heap[w2.heap.size]? = some (bT (m.1, m.2.1, m.2.2.1, ka, va, ())) := c10
  have z10 := keepG z9 g10 (fun g hg => by simp only [Option.some.injEq] at hg; omega)
  have B10 : Below w.heap.size w w10 := B9.grown g10 B9.size (fun g hg => by simp only [Option.some.injEq] at hg; have := b1.size; omega)
  have hob9 : ∀ g, (Value.slice va.a va.n va.c).ownBlock = some g → g ≠ w2.heap.size := fun g hg e => by
    obtain ⟨cur, hc⟩ := o9.typ hg
    rw [e, c9] at hc
    simp only [bT, Option.some.injEq, Obj.cells.injEq] at hc
    exact tST hc.2.1.symm
  have k10 := k9.kept g10 (fun g hg e => by simp only [Option.some.injEq] at hg; exact hob6 g e hg.symm)
  have v10 := o9.kept g10 (fun g hg e => by simp only [Option.some.injEq] at hg; exact hob9 g e hg.symm)
  refine ldTab c10 (stTab z10 fun w11 g11 s11 c11 => ldTab c11 ?_)
  have t1 : ∀ g, (Value.slice ka.a ka.n ka.c).ownBlock = some g → g ≠ w1.heap.size := fun g hg e => by
    obtain ⟨cur, hc⟩ := k10.typ hg
    rw [e, z10] at hc
    simp only [bT, Option.some.injEq, Obj.cells.injEq] at hc
    exact tIT hc.2.1.symm
  have t2 : ∀ g, (Value.slice va.a va.n va.c).ownBlock = some g → g ≠ w1.heap.size := fun g hg e => by
    obtain ⟨cur, hc⟩ := v10.typ hg
    rw [e, z10] at hc
    simp only [bT, Option.some.injEq, Obj.cells.injEq] at hc
    exact tST hc.2.1.symm
  exact hk ka va w11 (B10.grown g11 B10.size (fun g hg => by simp only [Option.some.injEq] at hg; have := b1.size; omega)) (k10.kept g11 (fun g hg e => by simp only [Option.some.injEq] at hg; exact t1 g e hg.symm)) (v10.kept g11 (fun g hg e => by simp only [Option.some.injEq] at hg; exact t2 g e hg.symm))
end
end Go.Proofs.YtdlnoabihfnmmaaGreat.V

/- Contracts: a key is put into a table; a new table. -/
namespace Go.Proofs.YtdlnoabihfnmmaaGreat.V
open Go Go.RowKit
set_option linter.unusedVariables false
set_option linter.unusedSimpArgs false
theorem ixOwL {α : Type} {k : Kd α} {t : TypeId} {B : Nat} {w : World} {s : Sl} {xs : List α} {i : Int} {sz : Nat} (h : OwnS k t B w s xs) (hi : 0 ≤ i) {x : α} (hx : xs[i.toNat]? = some x) (hsz : sz = k.ls.length) (hl : k.ls.length = 1) {v : Value} (hv : v.oneCell' = true) (y : α) (hy : k.cells y = (k.cells x).set 0 v) {K : World → Prop}
    (hK : ∀ w', OwnS k t B w' s (xs.set i.toNat y) → w.grownBy w' s.bk → w'.heap.size = w.heap.size → K w') : Ix s.a s.n i sz w (fun a w1 => St a v w1 K) := by
  have := ixOwF (j := 0) h hi hx hsz (by omega) hv y hy hK
  simpa [Addr.add] using this
/-- A box of another type is no row's. -/
theorem own_box {α : Type} {k : Kd α} {t0 t1 : TypeId} {B g : Nat} {w : World} {s : Sl} {xs : List α} {cs : Array Value} (h : OwnS k t0 B w s xs) (hb : w.heap[g]? = some (.cells cs t1 (0, 0))) (ht : t0 ≠ t1) : (Value.slice s.a s.n s.c).ownBlock ≠ some g := fun e => by
  obtain ⟨cur, hc⟩ := h.typ e
  rw [hb] at hc
  simp only [Option.some.injEq, Obj.cells.injEq] at hc
  exact ht hc.2.1.symm
theorem OwnS.box {α : Type} {k : Kd α} {t0 t1 : TypeId} {B g : Nat} {w w' : World} {s : Sl} {xs : List α} {cs : Array Value} (h : OwnS k t0 B w s xs) (hb : w.heap[g]? = some (.cells cs t1 (0, 0))) (ht : t0 ≠ t1) (hg : w.grownBy w' (some g)) : OwnS k t0 B w' s xs :=
  h.kept hg (fun b e => by simp only [Option.some.injEq] at e; subst e; exact own_box h hb ht)
section
variable {w : World} {m : Tab} {ks : List Int} {vs : List ByteArray}
set_option maxHeartbeats 1000000 in
theorem spec.l3Put.c {H : Nat} {key : Int} {val : ByteArray} {K : Tab × Int × Unit → World → Prop} (h1 : OwnS kI 3 H w m.2.2.2.1 ks) (h2 : OwnS kS 9 H w m.2.2.2.2.1 vs) (hl : ks.length = vs.length) (hn : ks.length ≤ 500) (hH : H ≤ w.heap.size)
    (hk : ∀ x i w', Below H w w' → TbO H x (ks.length + 1) w' → x.2.1 = m.2.1 → K (x, i, ()) w') : CallT (.n [(.ag TB), (.lf (.i .i64))]) P0 82 [.agg (Tup.cells TB m).toArray, .int .i64 key, .string val] w K := by
  refine spec.l3Put.ok (nwTab fun w1 b1 s1 c1 => nwTz fun w2 b2 s2 c2 => ?_)
  have b12 := b1.trans (b2.mono b1.size)
  have c1' := (b2.block _ (by omega)).trans c1
  refine ldTab c1' (spec.l3At.c (ks := ks) (vs := vs) ⟨(h1.below b12).read, (h2.below b12).read⟩ (by omega) fun t11 w3 b3 hi => ?_)
  have b13 := b12.trans (b3.mono b12.size)
  have c3 := (b3.block _ (Array.getElem?_eq_some_iff.1 c1').1).trans c1'
  have z3 := (b3.block _ (by omega)).trans c2
  have k3 := h1.below b13
  have v3 := h2.below b13
  have hne : w.heap.size ≠ w1.heap.size := by omega
  have ret : ∀ {w4 : World} {x : Tab} {i : Int}, w4.heap[w.heap.size]? = some (bT x) → w4.heap[w1.heap.size]? = some (bT (0, 0, 0, ⟨none, 0, 0⟩, ⟨none, 0, 0⟩, ())) → Below H w w4 → TbO H x (ks.length + 1) w4 → x.2.1 = m.2.1 →
      LdA TB ⟨w.heap.size, 0, none⟩ w4 fun (t : Tup TB) w5 => StA P0 ⟨w1.heap.size, 0, none⟩ (Tup.cells TB t) w5 fun w6 => LdA TB ⟨w1.heap.size, 0, none⟩ w6 fun r w7 => K (r, (i, ())) w6 := by
    intro w4 x i hc hz hb ht hx
    refine ldTab hc (stTab hz fun w5 g5 s5 c5 => ldTab c5 ?_)
    obtain ⟨ks', vs', o1, o2, l1, l2⟩ := ht
    exact hk x i w5 (hb.grown g5 (Nat.le_trans hH hb.size) (fun g hg => by simp only [Option.some.injEq] at hg; omega)) ⟨ks', vs', o1.box hz tIT g5, o2.box hz tST g5, l1, l2⟩ hx
  have t3 : TbO H m (ks.length + 1) w3 := ⟨ks, vs, k3, v3, by omega, by omega⟩
  have B3 : Below H w w3 := b13.mono hH
  refine And.intro (fun hge => ?_) (fun hge => ?_)
  · simp only [decide_eq_true_eq] at hge
    have hi' : t11.toNat < ks.length := by rcases hi with h | h <;> omega
    obtain ⟨y, hy⟩ := get_some (l := vs) (k := t11.toNat) (by omega)
    refine ldB c3 (j := 4) (l := .sl) (x := m.2.2.2.2.1) rfl ?_
    refine ixOwL v3 hge hy rfl rfl rfl val rfl fun w4 v4 g4 s4 => ?_
    rw [← ob_bk] at g4
    have hob : ∀ g, (Value.slice m.2.2.2.2.1.a m.2.2.2.2.1.n m.2.2.2.2.1.c).ownBlock = some g → H ≤ g := fun g hg => (v3.blk hg).1
    have c4 := keepG c3 g4 (fun g hg e => own_box v3 (e ▸ c3) tST hg)
    have z4 := keepG z3 g4 (fun g hg e => own_box v3 (e ▸ z3) tST hg)
    have k4 := k3.kept g4 (fun b hb e => own_apart k3 v3 e hb)
    exact ret c4 z4 (B3.grown g4 (Nat.le_trans hH b13.size) hob) ⟨ks, _, k4, v4, by omega, by simp; omega⟩ rfl
  · refine ldB0 c3 (l := .i .i64) (x := m.1) rfl (And.intro (fun _ => ret c3 z3 B3 t3 rfl) (fun _ => ?_))
    refine ldB c3 (j := 3) (l := .sl) (x := m.2.2.2.1) rfl (ldB c3 (j := 2) (l := .i .i64) (x := m.2.2.1) rfl (And.intro (fun _ => ret c3 z3 B3 t3 rfl) (fun _ => ?_)))
    refine ldB c3 (j := 3) (l := .sl) (x := m.2.2.2.1) rfl ?_
    have hH3 : H ≤ w3.heap.size := Nat.le_trans hH b13.size
    refine ap1 elI k3 key rfl (by omega) (by omega) hH3 fun ka w4 k4 g4 _ => ?_
    have hob : ∀ g, (Value.slice m.2.2.2.1.a m.2.2.2.1.n m.2.2.2.1.c).ownBlock = some g → H ≤ g := fun g hg => (k3.blk hg).1
    have c4 := keepG c3 g4 (fun g hg e => own_box k3 (e ▸ c3) tIT hg)
    have z4 := keepG z3 g4 (fun g hg e => own_box k3 (e ▸ z3) tIT hg)
    have v4 := v3.kept g4 (fun b hb e => own_apart k3 v3 hb e)
    have B4 : Below H w w4 := B3.grown g4 hH3 hob
    refine stB c4 rfl (by simp [Tup.cells]) fun w5 g5 s5 c5 => ?_
    have c5 : w5.heap[w.heap.size]? = some (bT (m.1, m.2.1, m.2.2.1, ka, m.2.2.2.2.1, ())) := c5
    have z5 := keepG z4 g5 (fun g hg => by simp only [Option.some.injEq] at hg; omega)
    have k5 := k4.box c4 tIT g5
    have v5 := v4.box c4 tST g5
    have hH5 : H ≤ w5.heap.size := by have := g4.size; have := g5.size; omega
    have B5 : Below H w w5 := B4.grown g5 (by have := g4.size; omega) (fun g hg => by simp only [Option.some.injEq] at hg; omega)
    refine ldB c5 (j := 4) (l := .sl) (x := m.2.2.2.2.1) rfl ?_
    refine ap1 elS v5 val rfl (by omega) (by omega) hH5 fun va w6 v6 g6 _ => ?_
    have c6 := keepG c5 g6 (fun g hg e => own_box v5 (e ▸ c5) tST hg)
    have z6 := keepG z5 g6 (fun g hg e => own_box v5 (e ▸ z5) tST hg)
    have k6 := k5.kept g6 (fun b hb e => own_apart k5 v5 e hb)
    have B6 : Below H w w6 := B5.grown g6 hH5 (fun g hg => (v5.blk hg).1)
    refine stB c6 rfl (by simp [Tup.cells]) fun w7 g7 s7 c7 => ?_
    have c7 : w7.heap[w.heap.size]? = some (bT (m.1, m.2.1, m.2.2.1, ka, va, ())) := c7
    have z7 := keepG z6 g7 (fun g hg => by simp only [Option.some.injEq] at hg; omega)
    exact ret c7 z7 (B6.grown g7 (by have := g6.size; omega) (fun g hg => by simp only [Option.some.injEq] at hg; omega)) ⟨_, _, k6.box c6 tIT g7, v6.box c6 tST g7, by simp, by simp; omega⟩ rfl
set_option maxHeartbeats 1000000 in
theorem spec.TablePut.c {n : Nat} {key : Int} {val : ByteArray} {K : Tab × Int × Unit → World → Prop} (h : TbR m ks vs w) (hn : ks.length ≤ n ∧ vs.length ≤ n ∧ n ≤ 400) (hk : ∀ x i w', Below w.heap.size w w' → TbO w.heap.size x (n + 1) w' → (x.2.1 = m.2.1 ∨ x.2.1 = 0) → K (x, i, ()) w') :
    CallT (.n [(.ag TB), (.lf (.i .i64))]) P0 67 [.agg (Tup.cells TB m).toArray, .int .i64 key, .string val] w K := by
  refine spec.TablePut.ok (nwTab fun w1 b1 s1 c1 => nwTz fun w2 b2 s2 c2 => ?_)
  have b12 := b1.trans (b2.mono b1.size)
  have c1' := (b2.block _ (by omega)).trans c1
  refine ldTab c1' (spec.l3Ok.c (h.below b12) (by omega) fun ok w3 b3 hok => ?_)
  have b13 := b12.trans (b3.mono b12.size)
  have c3 := (b3.block _ (Array.getElem?_eq_some_iff.1 c1').1).trans c1'
  have z3 := (b3.block _ (by omega)).trans c2
  have h3 := h.below b13
  have ret : ∀ {w4 : World} {x : Tab} {i : Int}, w4.heap[w1.heap.size]? = some (bT (0, 0, 0, ⟨none, 0, 0⟩, ⟨none, 0, 0⟩, ())) → Below w.heap.size w w4 → TbO w.heap.size x (n + 1) w4 → (x.2.1 = m.2.1 ∨ x.2.1 = 0) →
      StA P0 ⟨w1.heap.size, 0, none⟩ (Tup.cells TB x) w4 fun w6 => LdA TB ⟨w1.heap.size, 0, none⟩ w6 fun r w7 => K (r, (i, ())) w6 := by
    intro w4 x i hz hb ht hx
    refine stTab hz fun w5 g5 s5 c5 => ldTab c5 ?_
    obtain ⟨ks', vs', o1, o2, l1, l2⟩ := ht
    exact hk x i w5 (hb.grown g5 hb.size (fun g hg => by simp only [Option.some.injEq] at hg; omega)) ⟨ks', vs', o1.box hz tIT g5, o2.box hz tST g5, l1, l2⟩ hx
  have copy : ∀ {w4 : World} {i : Int}, Below w3.heap.size w3 w4 → LdA TB ⟨w.heap.size, 0, none⟩ w4 fun (t : Tup TB) w5 => CallT (.o (.ag TB)) P0 81 [.agg (Tup.cells TB t).toArray] w5 fun (t24 : Tup TB) w6 => StA P0 ⟨w1.heap.size, 0, none⟩ (Tup.cells TB t24) w6 fun w7 => LdA TB ⟨w1.heap.size, 0, none⟩ w7 fun r w8 => K (r, (i, ())) w7 := by
    intro w4 i b4
    have c4 := (b4.block _ (Array.getElem?_eq_some_iff.1 c3).1).trans c3
    have z4 := (b4.block _ (Array.getElem?_eq_some_iff.1 z3).1).trans z3
    have b14 := b13.trans (b4.mono b13.size)
    refine ldTab c4 (spec.l3Copy.c (h3.below b4) (by omega) fun ka va w5 b5 o1 o2 => ?_)
    have z5 := (b5.block _ (Array.getElem?_eq_some_iff.1 z4).1).trans z4
    exact ret z5 (b14.trans (b5.mono b14.size)) ⟨ks, vs, o1.low b14.size, o2.low b14.size, by omega, by omega⟩ (.inl rfl)
  refine And.intro (fun _ => ret (x := (0, 0, 0, ⟨none, 0, 0⟩, ⟨none, 0, 0⟩, ())) z3 b13 (TbO.zero _ _ _ _ _ _) (.inr rfl)) (fun hc => ?_)
  have hlen : ks.length = vs.length := hok (by simpa using hc)
  refine spec.l2Top.c (spec.l1In.c ?_)
  refine And.intro (fun _ => copy (Below.refl _ _)) (fun _ => ?_)
  refine ldB c3 (j := 1) (l := .i .i64) (x := m.2.1) rfl (And.intro (fun _ => copy (Below.refl _ _)) (fun _ => ?_))
  refine ldTab c3 (spec.l3Copy.c h3 (by omega) fun ka va w4 b4 o1 o2 => ?_)
  have z4 := (b4.block _ (Array.getElem?_eq_some_iff.1 z3).1).trans z3
  have b14 := b13.trans (b4.mono b13.size)
  refine spec.l3Put.c (H := w3.heap.size) (m := (m.1, m.2.1, m.2.2.1, ka, va, ())) o1 o2 hlen (by omega) b4.size fun x i w5 b5 ht hx => ?_
  have z5 := (b5.block _ (by have := b3.size; omega)).trans z4
  exact ret z5 (b14.trans (b5.mono b13.size)) ((ht.low b13.size).more (by omega)) (.inl hx)
set_option maxHeartbeats 2000000 in
theorem spec.l3New.c {kind : Int} {size room : Nat} {K : Tab → World → Prop} (hs : 1 ≤ size ∧ size ≤ 8) (hr : room ≤ 8) (hk : ∀ x w', Below w.heap.size w w' → TbO w.heap.size x 8 w' → x.2.1 = size → K x w') :
    CallT (.o (.ag TB)) P0 79 [.int .i64 kind, .int .i64 (size : Int), .int .i64 (room : Int)] w K := by
  refine spec.l3New.ok (nwTz fun w1 b1 s1 c1 => nwTz fun w2 b2 s2 c2 => ?_)
  refine stTab (y := (kind, (size : Int), (room : Int), ⟨none, 0, 0⟩, ⟨none, 0, 0⟩, ())) c2 fun w3 g3 s3 c3 => ?_
  have z3 := keepG ((b2.block _ (by omega)).trans c1) g3 (fun g hg => by simp only [Option.some.injEq] at hg; omega)
  have b12 := b1.trans (b2.mono b1.size)
  have B3 : Below w.heap.size w w3 := b12.grown g3 b12.size (fun g hg => by simp only [Option.some.injEq] at hg; omega)
  have ret : ∀ {w4 : World} {x : Tab}, w4.heap[w1.heap.size]? = some (bT x) → w4.heap[w.heap.size]? = some (bT (0, 0, 0, ⟨none, 0, 0⟩, ⟨none, 0, 0⟩, ())) → Below w.heap.size w w4 → TbO w.heap.size x 8 w4 → x.2.1 = size →
      LdA TB ⟨w1.heap.size, 0, none⟩ w4 fun (t : Tup TB) w5 => StA P0 ⟨w.heap.size, 0, none⟩ (Tup.cells TB t) w5 fun w6 => LdA TB ⟨w.heap.size, 0, none⟩ w6 fun r w7 => K r w6 := by
    intro w4 x hc hz hb ht hx
    refine ldTab hc (stTab hz fun w5 g5 s5 c5 => ldTab c5 ?_)
    obtain ⟨ks', vs', o1, o2, l1, l2⟩ := ht
    exact hk x w5 (hb.grown g5 hb.size (fun g hg => by simp only [Option.some.injEq] at hg; omega)) ⟨ks', vs', o1.box hz tIT g5, o2.box hz tST g5, l1, l2⟩ hx
  refine And.intro (fun _ => ?_) (fun _ => ret c3 z3 B3 (TbO.zero _ _ _ _ _ _) rfl)
  refine ⟨fun i w' => ∃ (n : Nat) (ka va : Sl) (ks : List Int) (vs : List ByteArray), i = n ∧ n ≤ room ∧ ks.length = n ∧ vs.length = n ∧ OwnS kI 3 w.heap.size w' ka ks ∧ OwnS kS 9 w.heap.size w' va vs ∧ w'.heap[w1.heap.size]? = some (bT (kind, (size : Int), (room : Int), ka, va, ())) ∧ w'.heap[w.heap.size]? = some (bT (0, 0, 0, ⟨none, 0, 0⟩, ⟨none, 0, 0⟩, ())) ∧ Below w.heap.size w w',
    fun i _ => room - i.toNat, ⟨0, _, _, [], [], rfl, Nat.zero_le _, rfl, rfl, OwnS.nil _ _ _ _, OwnS.nil _ _ _ _, c3, z3, B3⟩, ?_⟩
  rintro i w4 ⟨n, ka, va, ks, vs, rfl, hn, hkl, hvl, k4, v4, c4, z4, B4⟩ _
  have hne : w1.heap.size ≠ w.heap.size := by omega
  refine And.intro (fun hlt => ?_) (fun _ => ret c4 z4 B4 ⟨ks, vs, k4, v4, by omega, by omega⟩ rfl)
  simp only [decide_eq_true_eq] at hlt
  refine ldB c4 (j := 3) (l := .sl) (x := ka) rfl ?_
  refine ap1 elI k4 (n : Int) rfl (by omega) (by omega) B4.size fun ka2 w5 k5 g5 _ => ?_
  have c5 := keepG c4 g5 (fun g hg e => own_box k4 (e ▸ c4) tIT hg)
  have z5 := keepG z4 g5 (fun g hg e => own_box k4 (e ▸ z4) tIT hg)
  have v5 := v4.kept g5 (fun b hb e => own_apart k4 v4 hb e)
  have B5 : Below w.heap.size w w5 := B4.grown g5 B4.size (fun g hg => (k4.blk hg).1)
  refine stB c5 rfl (by simp [Tup.cells]) fun w6 g6 s6 c6 => ?_
  have c6 : w6.heap[w1.heap.size]? = some (bT (kind, (size : Int), (room : Int), ka2, va, ())) := c6
  have z6 := keepG z5 g6 (fun g hg => by simp only [Option.some.injEq] at hg; omega)
  have k6 := k5.box c5 tIT g6
  have v6 := v5.box c5 tST g6
  have B6 : Below w.heap.size w w6 := B5.grown g6 B5.size (fun g hg => by simp only [Option.some.injEq] at hg; omega)
  have hvo : ∀ g, (Value.slice va.a va.n va.c).ownBlock = some g → g < w6.heap.size := fun g hg => (v6.blk hg).2
  have hc6l := (Array.getElem?_eq_some_iff.1 c6).1
  refine ⟨fun a b => a.grownBy b (Value.slice va.a va.n va.c).ownBlock, ⟨fun a => grown_refl _ _, fun a b c h1 h2 => grown_trans h1 h2, grown_any (Below.refl _ _).drew⟩, fun a b => Below a.heap.size a b, ⟨fun a => Below.refl _ _, fun a b h => grown_any h⟩,
    fun w' => OwnS kS 9 w.heap.size w' va vs, v6.below (Below.refl _ _).drew, fun a b h hb => h.below hb, eqG va, fun _ _ _ h _ => h, fun _ _ => True, fun _ _ _ _ _ => trivial, fun x w' => ∃ y, OwnS kS 9 w6.heap.size w' x [y], ?_, fun x w' => ∃ y, OwnS kS 9 w.heap.size w' x (vs ++ [y]), ?_, ?_⟩
  · rintro x a b ⟨y, hy⟩ hg
    exact ⟨y, hy.kept hg (fun g hg e => by have := hvo g hg; have := (hy.blk e).1; omega)⟩
  · rintro x a b ⟨y, hy⟩ hb
    exact ⟨y, hy.below hb⟩
  have nb : ∀ {a b : World}, Below a.heap.size a b → NewOnly w6.heap.size a b := fun hb => ⟨hb.size, fun g _ hg => hb.block g hg⟩
  refine ⟨fun w' hs => ?_, fun t27 => ⟨fun w' hs => ?_, fun t29 => ⟨fun w' hs _ => ?_, fun t30 => ⟨fun w' hs hN f27 f30 => ?_, fun t31 w7 hs f27 f29 f30 f31 _ => ?_⟩⟩⟩⟩
  · exact ldB (keepG c6 hs (fun g hg e => own_box v6 (e ▸ c6) tST hg)) (j := 4) (l := .sl) (x := va) rfl ⟨va, rfl, ⟨Below.refl _ _, nb (Below.refl _ _)⟩, rfl⟩
  · exact spec.l3Zero.c (by omega) fun r w'' hb => ⟨r, rfl, ⟨hb, nb hb⟩, trivial⟩
  · exact nw fun w'' hb hs2 hc2 => ⟨⟨some ⟨w'.heap.size, 0, none⟩, 1, 1⟩, rfl, ⟨hb, nb hb⟩, t29, OwnS.lit (k := kS) (B := w6.heap.size) (xs := [t29]) (n := 1) hs.size hc2 rfl rfl (by simp [maxLen])⟩
  · cases f27
    obtain ⟨y, hy⟩ := f30
    refine apS (tR := 83) elS hN hy.read (by simp; omega) (by simp; omega) (by have := B6.size; have := hs.size; omega) fun x w'' hx hg _ _ => ?_
    exact ⟨x, rfl, ⟨hg, hg.size, fun g hg1 hg2 => hg.block g hg2 (fun e => by have := hvo g e.symm; omega)⟩, y, hx⟩
  · cases f27
    obtain ⟨y, hy⟩ := f31
    have c7 := keepG c6 hs (fun g hg e => own_box v6 (e ▸ c6) tST hg)
    have z7 := keepG z6 hs (fun g hg e => own_box v6 (e ▸ z6) tST hg)
    have k7 := k6.kept hs (fun b hb e => own_apart k6 v6 e hb)
    have B7 : Below w.heap.size w w7 := B6.grown hs B6.size (fun g hg => (v6.blk hg).1)
    refine stB c7 rfl (by simp [Tup.cells]) fun w8 g8 s8 c8 => ?_
    have c8 : w8.heap[w1.heap.size]? = some (bT (kind, (size : Int), (room : Int), ka2, t31, ())) := c8
    have ei : IntKind.wrap .i64 ((n : Int) + 1) = ((n + 1 : Nat) : Int) := by rw [i64_of (by omega) (by omega)]; omega
    rw [ei]
    exact ⟨⟨n + 1, ka2, t31, _, _, rfl, by omega, by simp; omega, by simp; omega, k7.box c7 tIT g8, hy.box c7 tST g8, c8, keepG z7 g8 (fun g hg => by simp only [Option.some.injEq] at hg; omega), B7.grown g8 B7.size (fun g hg => by simp only [Option.some.injEq] at hg; omega)⟩, by simp only [Int.toNat_natCast]; omega⟩
end
end Go.Proofs.YtdlnoabihfnmmaaGreat.V

/- Contracts: a drawn table. -/
namespace Go.Proofs.YtdlnoabihfnmmaaGreat.V
open Go Go.RowKit
set_option linter.unusedVariables false
set_option linter.unusedSimpArgs false
theorem SqE.box {H : Nat} {E : Nat → Prop} {t : TypeId} {a b : World} {x : Nat} {c0 c1 : Array Value} (h : a.grownBy b (some x)) (hx : H ≤ x) (h0 : a.heap[x]? = some (.cells c0 t (0, 0))) (h1 : b.heap[x]? = some (.cells c1 t (0, 0))) : SqE H E t a b := by
  refine ⟨h.os, h.tape, h.output, h.size, fun k hk he ho => ?_, fun k hk he hH cs hc => ?_⟩
  · refine h.block k hk (fun e => ?_)
    simp only [Option.some.injEq] at e
    subst e
    rcases ho with ho | ho
    · omega
    · exact ho _ h0
  · by_cases e : k = x
    · subst e; exact ⟨c1, h1⟩
    · exact ⟨cs, (h.block k hk (by simpa using e)).trans hc⟩
theorem TbO.sq {H H' n : Nat} {E : Nat → Prop} {m : Tab} {a b : World} (h : TbO H m n a) (hs : SqE H' E 88 a b) (hE : ∀ g, H ≤ g → ¬ E g) : TbO H m n b := by
  obtain ⟨ks, vs, h1, h2, h3⟩ := h
  exact ⟨ks, vs, h1.sq hs tIT (fun g hg => hE g (h1.blk hg).1), h2.sq hs tST (fun g hg => hE g (h2.blk hg).1), h3⟩
section
variable {w : World}
theorem spec.TableNew.c {kind : Int} {size room : Nat} {K : Tab → World → Prop} (hs : 1 ≤ size ∧ size ≤ 8) (hr : room ≤ 8) (hk : ∀ x w', Below w.heap.size w w' → TbO w.heap.size x 8 w' → x.2.1 ≤ 8 → K x w') :
    CallT (.o (.ag TB)) P0 66 [.int .i64 kind, .int .i64 (size : Int), .int .i64 (room : Int)] w K := by
  refine spec.TableNew.ok (nwTz fun w1 b1 s1 c1 => ?_)
  have ret : ∀ {w4 : World} {x : Tab}, w4.heap[w.heap.size]? = some (bT (0, 0, 0, ⟨none, 0, 0⟩, ⟨none, 0, 0⟩, ())) → Below w.heap.size w w4 → TbO w.heap.size x 8 w4 → x.2.1 ≤ 8 →
      StA P0 ⟨w.heap.size, 0, none⟩ (Tup.cells TB x) w4 fun w6 => LdA TB ⟨w.heap.size, 0, none⟩ w6 fun r w7 => K r w6 := by
    intro w4 x hz hb ht hx
    refine stTab hz fun w5 g5 s5 c5 => ldTab c5 ?_
    obtain ⟨ks', vs', o1, o2, l1, l2⟩ := ht
    exact hk x w5 (hb.grown g5 hb.size (fun g hg => by simp only [Option.some.injEq] at hg; omega)) ⟨ks', vs', o1.box hz tIT g5, o2.box hz tST g5, l1, l2⟩ hx
  have zero : StA P0 ⟨w.heap.size, 0, none⟩ (Tup.cells TB ((0, 0, 0, ⟨none, 0, 0⟩, ⟨none, 0, 0⟩, ()) : Tab)) w1 fun w6 => LdA TB ⟨w.heap.size, 0, none⟩ w6 fun r w7 => K r w6 := ret c1 b1 (TbO.zero _ _ _ _ _ _) (by show (0 : Int) ≤ 8; omega)
  refine spec.l1In.c (And.intro (fun _ => zero) (fun _ => spec.l1In.c (And.intro (fun _ => zero) (fun _ => spec.l1In.c (And.intro (fun _ => zero) (fun _ => ?_))))))
  refine spec.l3New.c hs hr fun x w2 b2 ht hx => ?_
  exact ret ((b2.block _ (by omega)).trans c1) (b1.trans (b2.mono b1.size)) (ht.low b1.size) (Int.le_trans (Int.le_of_eq hx) (Int.ofNat_le.2 hs.2))
end
section
variable {B br m : Nat} {w : World}
/-- What is known between two puts. -/
def TlI (B br m : Nat) (w w0 : World) (n : Int) (w' : World) : Prop :=
  ∃ (c : Nat) (x : Tab), n = c ∧ c ≤ 5 ∧ w'.heap[w0.heap.size]? = some (bT x) ∧ w'.heap[w.heap.size]? = some (bT (0, 0, 0, ⟨none, 0, 0⟩, ⟨none, 0, 0⟩, ())) ∧ TbO w.heap.size x (13 - c) w' ∧ x.2.1 ≤ 8 ∧ RdS B br (m + 4 + 4 * (5 - c)) w' ∧ w.grownBy w' (some br)
set_option maxHeartbeats 4000000 in
theorem spec.l20Table.c {K : Tab → World → Prop} (h : RdS B br m w) (hm : m ≤ 800000000) (hk : ∀ x w', w.grownBy w' (some br) → RdS B br (m + 30) w' → K x w') : CallT (.o (.ag TB)) P0 53 [.pointer (some ⟨br, 0, none⟩)] w K := by
  have hlt := h.lt
  refine spec.l20Table.ok (nwTz fun w1 b1 s1 c1 => ?_)
  refine spec.l20Rd.pick.c (h.below b1) (by omega) (by omega) fun t8 w2 _ _ g2 r2 => ?_
  refine oneLit (xs := [1, 2, 4, 8]) r2 (by omega) rfl rfl (by decide) fun t12 w3 h12 g3 r3 => ?_
  refine oneLit (xs := [1, 2, 4, 8]) r3 (by omega) rfl rfl (by decide) fun t15 w4 h15 g4 r4 => ?_
  have e12 : 1 ≤ t12 ∧ t12 ≤ 8 := by simp at h12; omega
  have e15 : 1 ≤ t15 ∧ t15 ≤ 8 := by simp at h15; omega
  obtain ⟨sz, hsz⟩ : ∃ sz : Nat, t12 = sz := ⟨t12.toNat, by omega⟩
  obtain ⟨rm, hrm⟩ : ∃ rm : Nat, t15 = rm := ⟨t15.toNat, by omega⟩
  subst hsz hrm
  have g14 : w1.grownBy w4 (some br) := grown_trans (grown_trans g2 g3) g4
  refine spec.TableNew.c (by omega) (by omega) fun x0 w5 b5 ht5 hx5 => ?_
  have g15 : w1.grownBy w5 (some br) := grown_trans g14 (grown_any b5)
  have z5 := keepB c1 g15 hlt
  refine nwTz fun w6 b6 s6 c6 => stTab c6 fun w7 g7 s7 c7 => ?_
  have hw15 := g15.size
  have z7 := keepG ((b6.block _ (Array.getElem?_eq_some_iff.1 z5).1).trans z5) g7 (fun g hg => by simp only [Option.some.injEq] at hg; omega)
  have t7 : TbO w.heap.size x0 8 w7 := by
    have h1 := (ht5.below b6).low (H' := w.heap.size) (by have := g14.size; omega)
    obtain ⟨ks, vs, o1, o2, l⟩ := h1
    exact ⟨ks, vs, o1.box c6 tIT g7, o2.box c6 tST g7, l⟩
  have G7 : w.grownBy w7 (some br) := grown_new (grown_trans (grown_trans (grown_any b1) g15) (grown_any b6)) g7 (by omega)
  have r7 : RdS B br (m + 3) w7 := ((r4.below b5).below b6).kept g7 (fun b hb => by simp only [Option.some.injEq] at hb; omega)
  refine spec.l20Rd.pick.c r7 (by omega) (by omega) fun t18 w8 k0 k1 g8 r8 => ?_
  refine ⟨fun n w' => TlI B br m w w5 n w', fun n _ => n.toNat, ⟨t18.toNat, x0, by omega, by omega, keepB c7 g8 (by omega), keepB z7 g8 hlt, (t7.kept g8 hlt).more (by omega), hx5, r8.more (by omega), grown_trans G7 g8⟩, ?_⟩
  rintro n w10 ⟨c, x, rfl, hc, cm, cz, ht, hx8, hr, hG⟩ _
  have hbm : w5.heap.size < w10.heap.size := (Array.getElem?_eq_some_iff.1 cm).1
  have hbr10 : br < w10.heap.size := hr.lt
  refine And.intro (fun hpos => ?_) (fun _ => ?_)
  · simp only [decide_eq_true_eq] at hpos
    have hbm2 : w5.heap.size ≠ br := by omega
    have hwH := hG.size
    obtain ⟨ks, vs, o1, o2, l1, l2⟩ := ht
    have eG : ∀ {a b : World}, a.grownBy b (some br) → SqE w10.heap.size (· = br) 88 a b := fun hg => SqE.grown hg (fun g e => by simpa using e.symm)
    have nG : ∀ {a b : World}, a.grownBy b (some br) → NewOnly w10.heap.size a b := fun hg => ⟨hg.size, fun g h1 h2 => hg.block g h2 (by simp; omega)⟩
    have nb : ∀ {a b : World}, Below a.heap.size a b → NewOnly w10.heap.size a b := fun hb => ⟨hb.size, fun g _ hg => hb.block g hg⟩
    have hnoE : ∀ g, g ≤ br → ¬ (fun _ : Nat => False) g := fun _ _ h => h
    refine ⟨SqE w10.heap.size (· = br) 88, sqeOk _ _ _ _, SqE w10.heap.size (fun _ => False) 88, ⟨fun a => SqE.refl _ _ _ a, fun a b h => h.more (fun _ h => h.elim)⟩, RdS B br (m + 4 + 4 * (5 - c)), hr.below (Below.refl _ _).drew, fun a b h hs => h.sq hs hbr10 hnoE, RdS B br (m + 4 + 4 * (5 - c) + 1), fun a b h hs => h.sq hs hbr10 hnoE,
      eqG x, fun _ _ _ h _ => h, fun s w' => OwnS kI 3 w10.heap.size w' s [0, 1, 2, 3, 7, 200, 4294967295], fun s a b h hs => h.sq hs tIT (fun g hg e => by have := (h.blk hg).1; omega), fun _ _ => True, fun _ _ _ _ _ => trivial, fun _ w' => RdS B br (m + 4 + 4 * (5 - c) + 4) w', fun _ a b h hs => h.sq hs hbr10 hnoE, eqG x.2.1, fun _ _ _ h _ => h, fun _ _ => True, fun _ _ _ _ _ => trivial,
      fun p w' => TbO w10.heap.size p.1 (13 - c + 1) w' ∧ p.1.2.1 ≤ 8, fun p a b h hs => ⟨h.1.sq hs (fun g hg e => by omega), h.2⟩, fun y w' => TbO w10.heap.size y (13 - c + 1) w' ∧ y.2.1 ≤ 8, fun p a b h hs => ⟨h.1.sq hs (fun g hg e => by omega), h.2⟩, ?_⟩
    refine ⟨fun w' hs => ?_, fun t24 => ⟨fun w' hs => ?_, fun t26 => ⟨fun w' hs hN f26 => ?_, fun t27 => ⟨fun w' hs hN => ?_, fun t29 => ⟨fun w' hs => ?_, fun t31 => ⟨fun w' hs f29 f31 => ?_, fun t32 => ⟨fun w' hs f24 f27 f32 => ?_, fun t33 => ⟨fun w' hs => ?_, fun bx_ => ⟨fun w' hs f33 q1 q2 => ?_, fun st w11 hs f24 f26 f27 f29 f31 f32 f33 f40 hbx => ?_⟩⟩⟩⟩⟩⟩⟩⟩⟩
    · exact ldTab (hs.old cm hbm hbm2) ⟨x, rfl, ⟨SqE.refl _ _ _ _, Nat.le_refl _, fun _ _ _ => rfl⟩, rfl⟩
    · exact nw fun w'' hb hs2 hc2 => ⟨⟨some ⟨w'.heap.size, 0, none⟩, 7, 7⟩, rfl, ⟨SqE.below hb, nb hb⟩, OwnS.lit (k := kI) (B := w10.heap.size) (xs := [0, 1, 2, 3, 7, 200, 4294967295]) (n := 7) hs.size hc2 rfl rfl (by simp [maxLen])⟩
    · refine spec.l20Rd.one.c hN (by omega) f26.read (by simp) (fun b o e => ?_) fun y w'' _ hg hr2 => ⟨y, rfl, ⟨⟨eG hg, hr2⟩, nG hg⟩, trivial⟩
      have := (f26.blk (b := b) (by rw [ob_bk]; simp [Sl.bk, e])).1
      omega
    · exact spec.l20Number.c hN (by omega) fun y w'' hg hr2 => ⟨y, rfl, ⟨eG hg, nG hg⟩, hr2.more (by omega)⟩
    · exact ldB (hs.old cm hbm hbm2) (j := 1) (l := .i .i64) (x := x.2.1) rfl ⟨x.2.1, rfl, ⟨SqE.refl _ _ _ _, Nat.le_refl _, fun _ _ _ => rfl⟩, rfl⟩
    · cases f31
      exact spec.l4Bytes.c (Int.le_trans hx8 (by decide)) fun r w'' hb => ⟨r, rfl, ⟨SqE.below hb, nb hb⟩, trivial⟩
    · cases f24
      have hR : TbR x ks vs w' := ⟨o1.read.sq hs (fun g hg _ => by have := o1.blk ((ob_bk _).trans hg); exact ⟨this.2, this.2, by omega⟩), o2.read.sq hs (fun g hg _ => by have := o2.blk ((ob_bk _).trans hg); exact ⟨this.2, this.2, by omega⟩)⟩
      refine spec.TablePut.c (n := 13 - c) hR (by omega) fun y i w'' hb hty hy => ⟨(y, i, ()), rfl, ⟨SqE.below hb, nb hb⟩, hty.low hs.size, ?_⟩
      rcases hy with hy | hy
      · exact Int.le_trans (Int.le_of_eq hy) hx8
      · exact Int.le_trans (Int.le_of_eq hy) (by decide)
    · exact nw fun w'' hb hs2 hc2 => ⟨rfl, ⟨SqE.below hb, nb hb⟩, by omega, hc2⟩
    · rw [zTab] at q2
      refine stTab (m := (0, 0, 0, ⟨none, 0, 0⟩, ⟨none, 0, 0⟩, ())) q2 fun w'' hg hs2 hc2 => ?_
      have hq : SqE w10.heap.size (fun _ => False) 88 w' w'' := SqE.box hg q1 q2 hc2
      exact ⟨t33.1, hq, ⟨hg.size, fun k hk hne => hg.block k hk (by simpa using hne), hc2⟩, f33.1.sq hq (fun _ _ h => h), f33.2⟩
    · have hb := hbx.1 _ List.mem_cons_self
      have cx : w11.heap[bx_]? = some (bT st) := hb.2.2
      have cm11 := hs.old cm hbm hbm2
      have cz11 := hs.old cz (by have := (Array.getElem?_eq_some_iff.1 cz).1; omega) (by omega)
      refine ldTab cx (stTab cm11 fun w12 g12 s12 c12 => ?_)
      have ei : IntKind.wrap .i64 ((c : Int) - 1) = ((c - 1 : Nat) : Int) := by rw [i64_of (by omega) (by omega)]; omega
      rw [ei]
      have G11 : w.grownBy w11 (some br) := ⟨hs.os.trans hG.os, hs.tape.trans hG.tape, hs.output.trans hG.output, Nat.le_trans hG.size hs.size, fun k hk hne => (hs.block k (by omega) (by simpa using hne) (.inl (by omega))).trans (hG.block k hk hne)⟩
      have ht12 : TbO w.heap.size st (13 - (c - 1)) w12 := by
        obtain ⟨ks', vs', p1, p2, p3, p4⟩ := f40.1.low (H' := w.heap.size) hwH
        exact ⟨ks', vs', p1.box cm11 tIT g12, p2.box cm11 tST g12, by omega, by omega⟩
      refine ⟨⟨c - 1, st, rfl, by omega, c12, keepG cz11 g12 (fun g hg => by simp only [Option.some.injEq] at hg; omega), ht12, f40.2, ((f29 : RdS B br _ w11).kept g12 (fun b hb => by simp only [Option.some.injEq] at hb; omega)).more (by omega), grown_new G11 g12 (by omega)⟩, ?_⟩
      simp only [Int.toNat_natCast]; omega
  · refine ldTab cm (stTab cz fun w11 g11 s11 c11 => ldTab c11 ?_)
    exact hk x w11 (grown_new hG g11 (Nat.le_refl _)) ((hr.kept g11 (fun b hb => by simp only [Option.some.injEq] at hb; omega)).more (by omega))
end
end Go.Proofs.YtdlnoabihfnmmaaGreat.V

/- Contracts: drawn tables, starts; the draw of rules and of what came. -/
namespace Go.Proofs.YtdlnoabihfnmmaaGreat.V
open Go Go.RowKit
set_option linter.unusedVariables false
set_option linter.unusedSimpArgs false
/-- A start: program, what came, tables, numbers, sockets. -/
abbrev SA : List Lf := [.sl, .s, .sl, .sl, .sl]
abbrev Sta := Tup SA
def kSta : Kd Sta := ⟨SA, fun x => x⟩
def sta0 : Sta := (⟨none, 0, 0⟩, ByteArray.empty, ⟨none, 0, 0⟩, ⟨none, 0, 0⟩, ⟨none, 0, 0⟩, ())
theorem zSta : zc P0 48 = (Tup.cells SA sta0).toArray := by kernel_rfl
theorem noAnySta : ∀ l ∈ kSta.ls, l ≠ Lf.any := by intro l hl; simp [kSta, SA] at hl; rcases hl with rfl | rfl | rfl <;> simp
/-- The box of a start. -/
def bS (m : Sta) : Obj := .cells (Tup.cells SA m).toArray 48 (0, 0)
section
variable {w w0 : World} {b : Nat} {m y : Sta}
theorem nwSz {K : Addr → World → Prop} (hk : ∀ w', Below w.heap.size w w' → w'.heap.size = w.heap.size + 1 → w'.heap[w.heap.size]? = some (bS sta0) → K ⟨w.heap.size, 0, none⟩ w') : Nw (zc P0 48) 48 w K := by
  rw [zSta]; exact nw hk
theorem stSta (h : w.heap[b]? = some (bS m)) {K : World → Prop} (hk : ∀ w', w.grownBy w' (some b) → w'.heap.size = w.heap.size → w'.heap[b]? = some (bS y) → K w') : StA P0 ⟨b, 0, none⟩ (Tup.cells SA y) w K := by
  obtain ⟨w', hr, hg, hsz, hh⟩ := run_storeCells_at' P0 (b := b) (t := 48) (Tup.cells SA y) 0 [] (Tup.cells SA m) w (oneCell_cells kSta noAnySta y) rfl rfl (by simpa [bS] using h)
  exact ⟨w', hr, hk w' hg hsz (by simpa [bS] using hh)⟩
theorem ldSta (h : w.heap[b]? = some (bS m)) {K : Sta → World → Prop} (hk : K m w) : LdA SA ⟨b, 0, none⟩ w K := ldAB h rfl hk
end
theorem tIA : (3 : TypeId) ≠ 48 := by decide
theorem tUA : (5 : TypeId) ≠ 48 := by decide
theorem SqE.gr {H br : Nat} {E : Nat → Prop} {t : TypeId} {w a b : World} (hG : w.grownBy a (some br)) (hs : SqE H E t a b) (hH : w.heap.size ≤ H) (hE : ∀ g, g < w.heap.size → E g → g = br) : w.grownBy b (some br) :=
  ⟨hs.os.trans hG.os, hs.tape.trans hG.tape, hs.output.trans hG.output, Nat.le_trans hG.size hs.size, fun k hk hne => (hs.block k (Nat.lt_of_lt_of_le hk hG.size) (fun e => hne (by rw [hE k hk e])) (.inl (by omega))).trans (hG.block k hk hne)⟩
section
variable {B br m : Nat} {w : World}
set_option maxHeartbeats 1000000 in
theorem spec.l20Tables.c {K : Sl → World → Prop} (h : RdS B br m w) (hm : m ≤ 700000000) (hk : ∀ x w', w.grownBy w' (some br) → RdS B br (m + 70) w' → K x w') : CallT (.o (.lf .sl)) P0 33 [.pointer (some ⟨br, 0, none⟩)] w K := by
  refine spec.l20Tables.ok (spec.l20Table.c h (by omega) fun x w1 g1 r1 => spec.l20Table.c r1 (by omega) fun y w2 g2 r2 => nw fun w3 b3 s3 c3 => ?_)
  have G3 : w.grownBy w3 (some br) := grown_trans (grown_trans g1 g2) (grown_any b3)
  have o3 : OwnS kTab 88 w2.heap.size w3 ⟨some ⟨w2.heap.size, 0, none⟩, 2, 2⟩ [x, y] := OwnS.lit (k := kTab) (B := w2.heap.size) (xs := [x, y]) (n := 2) (Nat.le_refl _) c3 rfl rfl (by simp [maxLen])
  refine spec.l20Rd.pick.c (r2.below b3) (by omega) (by omega) fun t10 w4 _ _ g4 r4 => ?_
  refine And.intro (fun _ => ?_) (fun _ => hk _ _ (grown_trans G3 g4) (r4.more (by omega)))
  refine spec.l20Rd.pick.c r4 (by omega) (by omega) fun t14 w5 k0 k1 g5 r5 => ?_
  have hbr : br < w2.heap.size := r2.lt
  have o5 := (o3.keptBr g4 hbr).keptBr g5 hbr
  refine slcR (k := kTab) (e := 88) (s := ⟨some ⟨w2.heap.size, 0, none⟩, 2, 2⟩) (by kernel_rfl) (by kernel_rfl) o5.read (lo := none) (hi := some t14) (mx := none) (l := 0) (h' := t14.toNat) (m := 2) rfl (by show t14 = _; omega) rfl (by simp) (by omega) (by omega) (Nat.le_refl _) (by show t14.toNat ≤ 2; omega) fun q _ _ hq hqb => ?_
  exact hk _ _ (grown_trans (grown_trans G3 g4) g5) (r5.more (by omega))
/-- What is known between two numbers. -/
def StJ (B br M : Nat) (w : World) (bs bz : Nat) (f : Sta → Sl) (p : Sta → Prop) (n : Int) (w' : World) : Prop :=
  ∃ (c : Nat) (x : Sta) (rs : List Int), n = c ∧ rs.length + c ≤ 5 ∧ w'.heap[bs]? = some (bS x) ∧ w'.heap[bz]? = some (bS sta0) ∧ OwnS kI 3 w.heap.size w' (f x) rs ∧ p x ∧ RdS B br (M + 4 * (5 - c)) w' ∧ w.grownBy w' (some br)
/-- What is known between two bytes. -/
def StC (B br M : Nat) (w : World) (bs bz : Nat) (x : Sta) (came : Sl) (i : Int) (w' : World) : Prop :=
  ∃ (c : Nat) (ys : List Int), i = c ∧ c ≤ 12 ∧ ys.length = c ∧ OwnS kU8 5 w.heap.size w' came ys ∧ w'.heap[bs]? = some (bS x) ∧ w'.heap[bz]? = some (bS sta0) ∧ RdS B br (M + c) w' ∧ w.grownBy w' (some br)
set_option maxHeartbeats 4000000 in
theorem spec.l20Start.c {K : Sta → World → Prop} (h : RdS B br m w) (hm : m ≤ 600000000) (hk : ∀ x w', w.grownBy w' (some br) → RdS B br (m + 500) w' → K x w') : CallT (.o (.ag SA)) P0 21 [.pointer (some ⟨br, 0, none⟩)] w K := by
  have hlt := h.lt
  refine spec.l20Start.ok (nwSz fun w1 b1 s1 c1 => ?_)
  refine spec.l20Prog.c (h.below b1) (by omega) fun t9 w2 ys g2 r2 o2 _ _ => ?_
  refine spec.l20Tables.c r2 (by omega) fun t11 w3 g3 r3 => nwSz fun w4 b4 s4 c4 => ?_
  have G3 : w.grownBy w3 (some br) := grown_trans (grown_trans (grown_any b1) g2) g3
  have G4 : w.grownBy w4 (some br) := grown_trans G3 (grown_any b4)
  have z3 := keepB (keepB c1 g2 hlt) g3 hlt
  have z4 := (b4.block _ (Array.getElem?_eq_some_iff.1 z3).1).trans z3
  have hz3 : w.heap.size < w3.heap.size := (Array.getElem?_eq_some_iff.1 z3).1
  refine stSta (y := (t9, ByteArray.empty, t11, ⟨none, 0, 0⟩, ⟨none, 0, 0⟩, ())) c4 fun w5 g5 s5 c5 => ?_
  have z5 := keepG z4 g5 (fun g hg => by simp only [Option.some.injEq] at hg; omega)
  have r5 : RdS B br (m + 370) w5 := ((r3.below b4).kept g5 (fun b hb => by simp only [Option.some.injEq] at hb; omega)).more (by omega)
  have G5 : w.grownBy w5 (some br) := grown_new G4 g5 (by omega)
  have hbr3 : br < w3.heap.size := by omega
  refine nw fun w6 b6 s6 c6 => ?_
  have ho6 : OwnS kU8 5 w.heap.size w6 ⟨some ⟨w5.heap.size, 0, none⟩, 0, 0⟩ [] := OwnS.lit (k := kU8) (B := w.heap.size) (xs := []) (n := 0) G5.size c6 rfl rfl (by simp)
  refine ⟨StC B br (m + 370) w w3.heap.size w.heap.size (t9, ByteArray.empty, t11, ⟨none, 0, 0⟩, ⟨none, 0, 0⟩, ()), fun _ i _ => 12 - i.toNat, ⟨0, [], rfl, by omega, rfl, ho6, (b6.block _ (Array.getElem?_eq_some_iff.1 c5).1).trans c5, (b6.block _ (Array.getElem?_eq_some_iff.1 z5).1).trans z5, r5.below b6, grown_trans G5 (grown_any b6)⟩, ?_⟩
  rintro came i w7 ⟨c, ys7, rfl, hc, hl, o7, c7, z7, r7, G7⟩ _
  refine And.intro (fun hlt7 => ?_) (fun _ => ?_)
  · simp only [decide_eq_true_eq] at hlt7
    refine oneLit (xs := [0, 1, 2, 3, 5, 7, 9, 10, 200, 255]) r7 (by omega) rfl rfl (by decide) fun t21 w8 _ g8 r8 => ?_
    have o8 := o7.keptBr g8 hlt
    have c8 := keepB c7 g8 hbr3
    have z8 := keepB z7 g8 hlt
    have G8 := grown_trans G7 g8
    refine ap1 elU8 o8 (IntKind.wrap .u8 t21) rfl (by omega) (by omega) G8.size fun t24 w9 o9 g9 _ => ?_
    have ei : IntKind.wrap .i64 ((c : Int) + 1) = ((c + 1 : Nat) : Int) := by rw [i64_of (by omega) (by omega)]; omega
    rw [ei]
    refine ⟨⟨c + 1, _, rfl, by omega, by simp; omega, o9, keepG c8 g9 (fun g hg e => own_box o8 (e ▸ c8) tUA hg), keepG z8 g9 (fun g hg e => own_box o8 (e ▸ z8) tUA hg), (r8.keptO o8 g9 hlt).more (by omega), grown_newO G8 g9 (fun b hb => (o8.blk hb).1)⟩, ?_⟩
    simp only [Int.toNat_natCast]; omega
  · refine convB o7 fun t26 _ => stB c7 rfl (by simp [Tup.cells]) fun w8 g8 s8 c8 => ?_
    have c8 : w8.heap[w3.heap.size]? = some (bS (t9, t26, t11, ⟨none, 0, 0⟩, ⟨none, 0, 0⟩, ())) := c8
    have z8 := keepG z7 g8 (fun g hg => by simp only [Option.some.injEq] at hg; omega)
    have r8 : RdS B br (m + 370 + c) w8 := r7.kept g8 (fun b hb => by simp only [Option.some.injEq] at hb; omega)
    have G8 : w.grownBy w8 (some br) := grown_new G7 g8 (by omega)
    refine spec.l20Rd.pick.c r8 (by omega) (by omega) fun t29 w9 k0 k1 g9 r9 => ?_
    have e9 : IntKind.wrap .i64 (1 + t29) = (((1 + t29).toNat : Nat) : Int) := by rw [i64_of (by omega) (by omega)]; omega
    rw [e9]
    refine ⟨StJ B br (m + 390) w w3.heap.size w.heap.size (fun x => x.2.2.2.1) (fun x => x.2.2.2.2.1 = ⟨none, 0, 0⟩), fun n _ => n.toNat, ⟨(1 + t29).toNat, _, [], rfl, by simp; omega, keepB c8 g9 hbr3, keepB z8 g9 hlt, OwnS.nil _ _ _ _, rfl, r9.more (by omega), grown_trans G8 g9⟩, ?_⟩
    rintro n w10 ⟨c, x, rs, rfl, hrs, c10, z10, o10, p10, r10, G10⟩ _
    have hbs10 : w3.heap.size < w10.heap.size := (Array.getElem?_eq_some_iff.1 c10).1
    have hz10 : w.heap.size < w10.heap.size := (Array.getElem?_eq_some_iff.1 z10).1
    have hbr10 : br < w10.heap.size := r10.lt
    have nbx : ∀ {s : Sl} {w' : World} {g : Nat} {rs' : List Int} {y : Sta}, OwnS kI 3 w.heap.size w' s rs' → (Value.slice s.a s.n s.c).ownBlock = some g → w'.heap[w3.heap.size]? = some (bS y) → g ≠ w3.heap.size := fun ho hg hc e => own_box ho (e ▸ hc) tIA hg
    refine And.intro (fun hpos => ?_) (fun _ => ?_)
    · simp only [decide_eq_true_eq] at hpos
      have obl : ∀ g, (Value.slice x.2.2.2.1.a x.2.2.2.1.n x.2.2.2.1.c).ownBlock = some g → w.heap.size ≤ g ∧ g < w10.heap.size := fun g hg => o10.blk hg
      have nb : ∀ {a b : World}, Below a.heap.size a b → NewOnly w10.heap.size a b := fun hb => ⟨hb.size, fun g _ hg => hb.block g hg⟩
      refine ⟨SqE w10.heap.size (fun g => g = br ∨ (Value.slice x.2.2.2.1.a x.2.2.2.1.n x.2.2.2.1.c).ownBlock = some g) 48, sqeOk _ _ _ _, fun a b => Below a.heap.size a b, ⟨fun a => Below.refl _ _, fun a b h => SqE.below h⟩,
        fun w' => RdS B br (m + 390 + 4 * (5 - c)) w' ∧ OwnS kI 3 w.heap.size w' x.2.2.2.1 rs, ⟨r10.below (Below.refl _ _).drew, o10.below (Below.refl _ _).drew⟩, fun a b h hs => ⟨h.1.below hs, h.2.below hs⟩,
        fun w' => RdS B br (m + 390 + 4 * (5 - c) + 3) w' ∧ OwnS kI 3 w.heap.size w' x.2.2.2.1 rs, fun a b h hs => ⟨h.1.below hs, h.2.below hs⟩,
        eqG x.2.2.2.1, fun _ _ _ h _ => h, fun _ _ => True, fun _ _ _ _ _ => trivial, fun s w' => ∃ y, OwnS kI 3 w10.heap.size w' s [y], ?_, fun s w' => ∃ y, RdS B br (m + 390 + 4 * (5 - c) + 3) w' ∧ OwnS kI 3 w.heap.size w' s (rs ++ [y]), ?_, ?_⟩
      · rintro s a b ⟨y, hy⟩ hs
        exact ⟨y, hy.sq hs tIA (fun g hg e => by have := (hy.blk hg).1; rcases e with e | e; omega; have := (obl g e).2; omega)⟩
      · rintro s a b ⟨y, hy, ho⟩ hs
        exact ⟨y, hy.below hs, ho.below hs⟩
      refine ⟨fun w' hs => ?_, fun t36 => ⟨fun w' hs hN => ?_, fun t38 => ⟨fun w' hs _ => ?_, fun t39 => ⟨fun w' hs hN f36 f39 => ?_, fun t40 w11 hs f36 f38 f39 f40 _ => ?_⟩⟩⟩⟩
      · exact ldB (hs.old c10 hbs10 (by rintro (e | e); omega; exact nbx o10 e c10 rfl)) (j := 3) (l := .sl) (x := x.2.2.2.1) rfl ⟨x.2.2.2.1, rfl, ⟨Below.refl _ _, nb (Below.refl _ _)⟩, rfl⟩
      · exact spec.l20Number.c hN.1 (by omega) fun y w'' hg hr => ⟨y, rfl, ⟨⟨SqE.grown hg (fun g e => .inl (by simpa using e.symm)), hr, hN.2.keptBr hg hlt⟩, ⟨hg.size, fun g h1 h2 => hg.block g h2 (by simp; omega)⟩⟩, trivial⟩
      · exact nw fun w'' hb hs2 hc2 => ⟨⟨some ⟨w'.heap.size, 0, none⟩, 1, 1⟩, rfl, ⟨hb, nb hb⟩, t38, OwnS.lit (k := kI) (B := w10.heap.size) (xs := [t38]) (n := 1) hs.size hc2 rfl rfl (by simp [maxLen])⟩
      · cases f36
        obtain ⟨y, hy⟩ := f39
        refine apS (tR := 46) elI hN.2 hy.read (by simp; omega) (by simp; omega) (by have := hs.size; omega) fun s w'' hx hg _ _ => ?_
        exact ⟨s, rfl, ⟨SqE.grown hg (fun g e => .inr e), ⟨hg.size, fun g h1 h2 => hg.block g h2 (fun e => by have := (obl g e.symm).2; omega)⟩⟩, y, hN.1.keptO hN.2 hg hlt, hx⟩
      · cases f36
        obtain ⟨y, hr, hy⟩ := f40
        have c11 := hs.old c10 hbs10 (by rintro (e | e); omega; exact nbx o10 e c10 rfl)
        have z11 := hs.old z10 hz10 (by rintro (e | e); omega; exact own_box o10 z10 tIA e)
        have G11 := SqE.gr G10 hs G10.size (fun g hg e => by rcases e with e | e; exact e; have := (obl g e).1; omega)
        refine stB c11 rfl (by simp [Tup.cells]) fun w12 g12 s12 c12 => ?_
        have c12 : w12.heap[w3.heap.size]? = some (bS (x.1, x.2.1, x.2.2.1, t40, x.2.2.2.2.1, ())) := c12
        have ei : IntKind.wrap .i64 ((c : Int) - 1) = ((c - 1 : Nat) : Int) := by rw [i64_of (by omega) (by omega)]; omega
        rw [ei]
        refine ⟨⟨c - 1, _, rs ++ [y], rfl, by simp; omega, c12, keepG z11 g12 (fun g hg => by simp only [Option.some.injEq] at hg; omega), hy.box c11 tIA g12, p10, (hr.kept g12 (fun b hb => by simp only [Option.some.injEq] at hb; omega)).more (by omega), grown_new G11 g12 (by omega)⟩, ?_⟩
        simp only [Int.toNat_natCast]; omega
    · refine spec.l20Rd.pick.c r10 (by omega) (by omega) fun t43 w20 k0 k1 g20 r20 => ?_
      have p10 : x.2.2.2.2.1 = ⟨none, 0, 0⟩ := p10
      refine ⟨StJ B br (m + 420) w w3.heap.size w.heap.size (fun x => x.2.2.2.2.1) (fun x => True), fun n _ => n.toNat, ⟨t43.toNat, x, [], by omega, by simp; omega, keepB c10 g20 hbr3, keepB z10 g20 hlt, by show OwnS kI _ _ _ x.2.2.2.2.1 _; rw [p10]; exact OwnS.nil _ _ _ _, trivial, r20.more (by omega), grown_trans G10 g20⟩, ?_⟩
      clear c10 z10 o10 p10 r10 G10 r20 g20
      rintro n w10 ⟨c, x, rs, rfl, hrs, c10, z10, o10, p10, r10, G10⟩ _
      have hbs10 : w3.heap.size < w10.heap.size := (Array.getElem?_eq_some_iff.1 c10).1
      have hz10 : w.heap.size < w10.heap.size := (Array.getElem?_eq_some_iff.1 z10).1
      have hbr10 : br < w10.heap.size := r10.lt
      refine And.intro (fun hpos => ?_) (fun _ => ?_)
      · simp only [decide_eq_true_eq] at hpos
        have obl : ∀ g, (Value.slice x.2.2.2.2.1.a x.2.2.2.2.1.n x.2.2.2.2.1.c).ownBlock = some g → w.heap.size ≤ g ∧ g < w10.heap.size := fun g hg => o10.blk hg
        have nb : ∀ {a b : World}, Below a.heap.size a b → NewOnly w10.heap.size a b := fun hb => ⟨hb.size, fun g _ hg => hb.block g hg⟩
        refine ⟨SqE w10.heap.size (fun g => g = br ∨ (Value.slice x.2.2.2.2.1.a x.2.2.2.2.1.n x.2.2.2.2.1.c).ownBlock = some g) 48, sqeOk _ _ _ _, fun a b => Below a.heap.size a b, ⟨fun a => Below.refl _ _, fun a b h => SqE.below h⟩,
          fun w' => RdS B br (m + 420 + 4 * (5 - c)) w' ∧ OwnS kI 3 w.heap.size w' x.2.2.2.2.1 rs, ⟨r10.below (Below.refl _ _).drew, o10.below (Below.refl _ _).drew⟩, fun a b h hs => ⟨h.1.below hs, h.2.below hs⟩,
          fun w' => RdS B br (m + 420 + 4 * (5 - c) + 3) w' ∧ OwnS kI 3 w.heap.size w' x.2.2.2.2.1 rs, fun a b h hs => ⟨h.1.below hs, h.2.below hs⟩,
          eqG x.2.2.2.2.1, fun _ _ _ h _ => h, fun s w' => OwnS kI 3 w10.heap.size w' s [0, 1, 2, 3, 7, 9], ?_, fun _ _ => True, fun _ _ _ _ _ => trivial, fun s w' => ∃ y, OwnS kI 3 w10.heap.size w' s [y], ?_, fun s w' => ∃ y, RdS B br (m + 420 + 4 * (5 - c) + 3) w' ∧ OwnS kI 3 w.heap.size w' s (rs ++ [y]), ?_, ?_⟩
        · rintro s a b hy hs
          exact hy.sq hs tIA (fun g hg e => by have := (hy.blk hg).1; rcases e with e | e; omega; have := (obl g e).2; omega)
        · rintro s a b ⟨y, hy⟩ hs
          exact ⟨y, hy.sq hs tIA (fun g hg e => by have := (hy.blk hg).1; rcases e with e | e; omega; have := (obl g e).2; omega)⟩
        · rintro s a b ⟨y, hy, ho⟩ hs
          exact ⟨y, hy.below hs, ho.below hs⟩
        refine ⟨fun w' hs => ?_, fun t36 => ⟨fun w' hs => ?_, fun t51 => ⟨fun w' hs hN f51 => ?_, fun t38 => ⟨fun w' hs _ => ?_, fun t39 => ⟨fun w' hs hN f36 f39 => ?_, fun t40 w11 hs f36 f51 f38 f39 f40 _ => ?_⟩⟩⟩⟩⟩
        · exact ldB (hs.old c10 hbs10 (by rintro (e | e); omega; exact nbx o10 e c10 rfl)) (j := 4) (l := .sl) (x := x.2.2.2.2.1) rfl ⟨x.2.2.2.2.1, rfl, ⟨Below.refl _ _, nb (Below.refl _ _)⟩, rfl⟩
        · exact nw fun w'' hb hs2 hc2 => ⟨⟨some ⟨w'.heap.size, 0, none⟩, 6, 6⟩, rfl, ⟨hb, nb hb⟩, OwnS.lit (k := kI) (B := w10.heap.size) (xs := [0, 1, 2, 3, 7, 9]) (n := 6) hs.size hc2 rfl rfl (by simp [maxLen])⟩
        · refine spec.l20Rd.one.c hN.1 (by omega) f51.read (by simp) (fun b o e => ?_) fun y w'' _ hg hr => ⟨y, rfl, ⟨⟨SqE.grown hg (fun g e => .inl (by simpa using e.symm)), hr.more (by omega), hN.2.keptBr hg hlt⟩, ⟨hg.size, fun g h1 h2 => hg.block g h2 (by simp; omega)⟩⟩, trivial⟩
          have := (f51.blk (b := b) (by rw [ob_bk]; simp [Sl.bk, e])).1
          omega
        · exact nw fun w'' hb hs2 hc2 => ⟨⟨some ⟨w'.heap.size, 0, none⟩, 1, 1⟩, rfl, ⟨hb, nb hb⟩, t38, OwnS.lit (k := kI) (B := w10.heap.size) (xs := [t38]) (n := 1) hs.size hc2 rfl rfl (by simp [maxLen])⟩
        · cases f36
          obtain ⟨y, hy⟩ := f39
          refine apS (tR := 46) elI hN.2 hy.read (by simp; omega) (by simp; omega) (by have := hs.size; omega) fun s w'' hx hg _ _ => ?_
          exact ⟨s, rfl, ⟨SqE.grown hg (fun g e => .inr e), ⟨hg.size, fun g h1 h2 => hg.block g h2 (fun e => by have := (obl g e.symm).2; omega)⟩⟩, y, hN.1.keptO hN.2 hg hlt, hx⟩
        · cases f36
          obtain ⟨y, hr, hy⟩ := f40
          have c11 := hs.old c10 hbs10 (by rintro (e | e); omega; exact nbx o10 e c10 rfl)
          have z11 := hs.old z10 hz10 (by rintro (e | e); omega; exact own_box o10 z10 tIA e)
          have G11 := SqE.gr G10 hs G10.size (fun g hg e => by rcases e with e | e; exact e; have := (obl g e).1; omega)
          refine stB c11 rfl (by simp [Tup.cells]) fun w12 g12 s12 c12 => ?_
          have c12 : w12.heap[w3.heap.size]? = some (bS (x.1, x.2.1, x.2.2.1, x.2.2.2.1, t40, ())) := c12
          have ei : IntKind.wrap .i64 ((c : Int) - 1) = ((c - 1 : Nat) : Int) := by rw [i64_of (by omega) (by omega)]; omega
          rw [ei]
          refine ⟨⟨c - 1, _, rs ++ [y], rfl, by simp; omega, c12, keepG z11 g12 (fun g hg => by simp only [Option.some.injEq] at hg; omega), hy.box c11 tIA g12, trivial, (hr.kept g12 (fun b hb => by simp only [Option.some.injEq] at hb; omega)).more (by omega), grown_new G11 g12 (by omega)⟩, ?_⟩
          simp only [Int.toNat_natCast]; omega
      · refine ldSta c10 (stSta z10 fun w21 g21 s21 c21 => ldSta c21 ?_)
        exact hk x w21 (grown_new G10 g21 (Nat.le_refl _)) ((r10.kept g21 (fun b hb => by simp only [Option.some.injEq] at hb; omega)).more (by omega))
end
section
variable {w : World} {code : Sl} {bs : List Int}
theorem spec.DrawRulesOf.c {K : Sl × ByteArray × Unit → World → Prop} (h : SlR kU8 w code bs) (hb : ∀ x ∈ bs, 0 ≤ x ∧ x ≤ 255) (hk : ∀ r s w', Below w.heap.size w w' → K (r, s, ()) w') : CallT (.n [(.lf .sl), (.lf .s)]) P0 8 [code.v] w K := by
  refine spec.DrawRulesOf.ok (spec.l20Open.c h hb fun w1 b1 r1 => ?_)
  refine spec.l20Rules.c r1 (by omega) fun r w2 ys g2 r2 o2 h1 => ?_
  refine spec.l20Start.c r2 (by omega) fun x w3 g3 r3 => ?_
  exact hk r x.2.1 w3 (b1.grown (grown_trans g2 g3) b1.size (fun b hb => by simp only [Option.some.injEq] at hb; omega))
end
end Go.Proofs.YtdlnoabihfnmmaaGreat.V

/- Verification conditions, printed by this session's own program (wip/vc.py) and checked by the kernel. -/
namespace Go.Proofs.YtdlnoabihfnmmaaGreat.V
open Go Go.RowKit
set_option linter.unusedVariables false
/- impl.looked -/
def impl.looked.pl : Pl := (.s (.r (D 1)) (.s (.r [.d, (.c (.o (.lf .b))), (.sp .d), .d, (.c (.o (.lf .b))), .d, (.sp .d), .d, .d, (.c (.o (.lf (.i .i64)))), .d, .d, .d]) .z))
def impl.looked.vc (a : Sl) (b : Sl) (w : World) (K : Bool → World → Prop) : Prop :=
CallT (.o (.lf .b)) P0 22 [a.v] w fun (t6 : Bool) w_ =>
(t6 = true → CallT (.o (.lf .b)) P0 22 [b.v] w_ fun (t9 : Bool) w__1 =>
(t9 = true → CallT (.o (.lf (.i .i64))) P0 24 [a.v, b.v] w__1 fun (t14 : Int) w__2 =>
K (decide ((t14 : Int) ≤ 400)) w__2) ∧
(t9 = false → K false w__1)) ∧
(t6 = false → K false w_)
theorem impl.looked.ok {a : Sl} {b : Sl} {w : World} {K : Bool → World → Prop} (h : impl.looked.vc a b w K) : CallT (.o (.lf .b)) P0 15 [a.v, b.v] w K :=
  call_of Tryz.func15 rfl rfl (pl := impl.looked.pl) (show VC P0 Tryz.f15 impl.looked.pl (.o (.lf .b)) [a.v, b.v] w K noP from Eq.mp (by kernel_rfl) h)
/- impl.everyPiece -/
def impl.everyPiece.pl : Pl := (.s (.r (D 3)) (.s (.r (D 2)) .z))
def impl.everyPiece.vc (a : Sl) (b : Sl) (w : World) (K : Value → World → Prop) : Prop :=
Nw #[a.v] 23 w fun a_a w_ =>
Nw #[b.v] 23 w_ fun a_b w__1 =>
K (.func (.func 44) #[] #[(.pointer (some a_a)), (.pointer (some a_b))]) w__1
theorem impl.everyPiece.ok {a : Sl} {b : Sl} {w : World} {K : Value → World → Prop} (h : impl.everyPiece.vc a b w K) : CallT (.o (.lf .any)) P0 27 [a.v, b.v] w K :=
  call_of Tryz.func27 rfl rfl (pl := impl.everyPiece.pl) (show VC P0 Tryz.f27 impl.everyPiece.pl (.o (.lf .any)) [a.v, b.v] w K noP from Eq.mp (by kernel_rfl) h)
/- impl.everyPiece$1$1 -/
def impl.everyPiece_1_1.pl : Pl := (.s (.r (D 1)) (.s (.s (.r (D 2)) (.c (.s (.r [(.l (.lf .yl)), (.l (.lf .sl)), (.t (.o (.lf .s))), .y, .d]) .z) .z)) (.s (.s (.r [(.l (.lf .sl)), (.l (.lf .sl)), .d, (.c (.o (.lf .sl))), .d, .d]) (.b (.l [(21, (.i .i64))] (.s (.r (D 1)) (.s (.c .z .z) (.s (.b (.s (.r [.d, (.l (.lf (.i .i64))), .d]) (.s (.r [(.l (.lf .sl)), .d, .d, .d, .d, .d]) (.s (.r [(.l (.lf (.fn 45 5))), .d, .d, (.c (.o (.lf .b))), .d]) (.c (.s (.r (D 1)) .z) .z))))) (.r (D 2)))))))) (.s (.r (D 1)) .z))))
def impl.everyPiece_1_1.vc (at_ : Int) (t1 : Addr) (t2 : Addr) (t3 : Addr) (t4 : Addr) (t5 : Addr) (w : World) (K : Bool → World → Prop) : Prop :=
(((at_ : Int) == 12) = true → Ld .yl t1 w fun (t12 : Nat) w_ =>
Ld .sl t2 w_ fun (t13 : Sl) w__1 =>
RunT (.o (.lf .s)) P0 (convert 22 9 t13.v) w__1 fun (t14 : ByteArray) w__2 =>
YldT P0 t12 [(.string t14)] w__2 fun (t15 : Bool) w__3 =>
K t15 w__3) ∧
(((at_ : Int) == 12) = false → Ld .sl t3 w fun (t16 : Sl) w__4 =>
Ld .sl t4 w__4 fun (t17 : Sl) w__5 =>
CallT (.o (.lf .sl)) P0 39 [t16.v, t17.v, (.int .i64 at_)] w__5 fun (t19 : Sl) w__6 =>
∃ (I : Int → World → Prop) (M : Int → World → Nat),
I 0 w__6 ∧
(∀ (t21 : Int) w__7, I t21 w__7 → ∀ _ : Nat → Value,
((decide ((t21 : Int) < ((t19.n : Nat) : Int))) = true → Ix t19.a t19.n t21 1 w__7 fun a_t23 w__8 =>
Ld (.i .i64) a_t23 w__8 fun (t24 : Int) w__9 =>
Ld .sl t2 w__9 fun (t25 : Sl) w__10 =>
Ix t25.a t25.n at_ 1 w__10 fun a_t29 w__11 =>
St a_t29 (.int .u8 (IntKind.wrap .u8 t24)) w__11 fun w__12 =>
Ld (.fn 45 5) t5 w__12 fun (t30 : AdT 5) w__13 =>
CallT (.o (.lf .b)) P0 45 [(.int .i64 (IntKind.wrap .i64 (at_ + 1))), (.pointer (some t30.1)), (.pointer (some t30.2.1)), (.pointer (some t30.2.2.1)), (.pointer (some t30.2.2.2.1)), (.pointer (some t30.2.2.2.2.1))] w__13 fun (t33 : Bool) w__14 =>
((!t33) = true → K false w__14) ∧
((!t33) = false → (I (IntKind.wrap .i64 (t21 + 1)) w__14 ∧ M (IntKind.wrap .i64 (t21 + 1)) w__14 < M t21 w__7))) ∧
((decide ((t21 : Int) < ((t19.n : Nat) : Int))) = false → K true w__7)))
theorem impl.everyPiece_1_1.ok {at_ : Int} {t1 : Addr} {t2 : Addr} {t3 : Addr} {t4 : Addr} {t5 : Addr} {w : World} {K : Bool → World → Prop} (h : impl.everyPiece_1_1.vc at_ t1 t2 t3 t4 t5 w K) : CallT (.o (.lf .b)) P0 45 [(.int .i64 at_), (.pointer (some t1)), (.pointer (some t2)), (.pointer (some t3)), (.pointer (some t4)), (.pointer (some t5))] w K :=
  callI_of Tryz.func45 rfl rfl (pl := impl.everyPiece_1_1.pl) (show VCI P0 Tryz.f45 impl.everyPiece_1_1.pl (.o (.lf .b)) [(.int .i64 at_), (.pointer (some t1)), (.pointer (some t2)), (.pointer (some t3)), (.pointer (some t4)), (.pointer (some t5))] w K noP from Eq.mp (by kernel_rfl) h)
/- impl.everyPiece$1 -/
def impl.everyPiece_1.pl : Pl := (.s (.r (D 1)) (.s (.r [(.t (.o (.lf .sl))), .d, .d]) (.s (.r (D 1)) (.s (.r (D 2)) (.r [(.l (.lf (.fn 45 5))), (.c (.o (.lf .b)))])))))
def impl.everyPiece_1.vc (yield : Nat) (t1 : Addr) (t2 : Addr) (w : World) (K : Unit → World → Prop) : Prop :=
Nw #[(.func (.yield yield) #[] #[])] 77 w fun a_yield w_ =>
RunT (.o (.lf .sl)) P0 (Instr.makeSlice 22 (.int .i64 12) (.int .i64 12)) w_ fun (t6 : Sl) w__1 =>
Nw (zc P0 22) 22 w__1 fun a_came w__2 =>
St a_came t6.v w__2 fun w__3 =>
Nw (zc P0 78) 78 w__3 fun a_from w__4 =>
St a_from (.func (.func 45) #[] #[(.pointer (some a_yield)), (.pointer (some a_came)), (.pointer (some t1)), (.pointer (some t2)), (.pointer (some a_from))]) w__4 fun w__5 =>
Ld (.fn 45 5) a_from w__5 fun (t8 : AdT 5) w__6 =>
CallT (.o (.lf .b)) P0 45 [(.int .i64 0), (.pointer (some t8.1)), (.pointer (some t8.2.1)), (.pointer (some t8.2.2.1)), (.pointer (some t8.2.2.2.1)), (.pointer (some t8.2.2.2.2.1))] w__6 fun (t9 : Bool) w__7 =>
K () w__7
theorem impl.everyPiece_1.ok {yield : Nat} {t1 : Addr} {t2 : Addr} {w : World} {K : Unit → World → Prop} (h : impl.everyPiece_1.vc yield t1 t2 w K) : CallT .z P0 44 [(.func (.yield yield) #[] #[]), (.pointer (some t1)), (.pointer (some t2))] w K :=
  call_of Tryz.func44 rfl rfl (pl := impl.everyPiece_1.pl) (show VC P0 Tryz.f44 impl.everyPiece_1.pl .z [(.func (.yield yield) #[] #[]), (.pointer (some t1)), (.pointer (some t2))] w K noP from Eq.mp (by kernel_rfl) h)
/- impl.SameFind -/
def impl.SameFind.pl : Pl := (.s (.r (D 2)) (.s (.s (.r [.d, .d, (.c (.o (.lf .b))), .d]) (.c (.s (.r (D 2)) .z) .z)) (.s (.r [.d, .d, (.c (.n [(.lf .s), (.lf .b)])), .d, .d, .d, .d]) .z)))
def impl.SameFind.vc (a : Sl) (b : Sl) (w : World) (K : (ByteArray) × (Bool) × Unit → World → Prop) : Prop :=
CallT (.o (.lf .b)) P0 15 [a.v, b.v] w fun (t8 : Bool) w_ =>
((!t8) = true → K (⟨#[]⟩, (false, ())) w_) ∧
((!t8) = false → CallT (.n [(.lf .s), (.lf .b)]) P0 16 [a.v, b.v] w_ fun (t12 : (ByteArray) × (Bool) × Unit) w__1 =>
K (t12.1, (t12.2.1, ())) w__1)
theorem impl.SameFind.ok {a : Sl} {b : Sl} {w : World} {K : (ByteArray) × (Bool) × Unit → World → Prop} (h : impl.SameFind.vc a b w K) : CallT (.n [(.lf .s), (.lf .b)]) P0 6 [a.v, b.v] w K :=
  call_of Tryz.func6 rfl rfl (pl := impl.SameFind.pl) (show VC P0 Tryz.f6 impl.SameFind.pl (.n [(.lf .s), (.lf .b)]) [a.v, b.v] w K noP from Eq.mp (by kernel_rfl) h)
end Go.Proofs.YtdlnoabihfnmmaaGreat.V

/- Contracts: the iterator over all pieces of all bytes. -/
namespace Go.Proofs.YtdlnoabihfnmmaaGreat.V
open Go Go.RowKit
set_option linter.unusedVariables false
set_option linter.unusedSimpArgs false
/-- What the iterator's closure has captured; the first bytes are those that are looked at. -/
structure PcM (la lb : List Rule) (sa sb sc : Sl) (l y cc pa pb f bb H : Nat) (cs : List Int) (w : World) : Prop where
  hy : ∃ t, w.heap[y]? = some (.cells #[.func (.yield l) #[] #[]] t (0, 0))
  hc : ∃ t, w.heap[cc]? = some (.cells #[sc.v] t (0, 0))
  ha' : ∃ t, w.heap[pa]? = some (.cells #[sa.v] t (0, 0))
  hb' : ∃ t, w.heap[pb]? = some (.cells #[sb.v] t (0, 0))
  hf : ∃ t, w.heap[f]? = some (.cells #[.func (.func 45) #[] #[.pointer (some ⟨y, 0, none⟩), .pointer (some ⟨cc, 0, none⟩), .pointer (some ⟨pa, 0, none⟩), .pointer (some ⟨pb, 0, none⟩), .pointer (some ⟨f, 0, none⟩)]] t (0, 0))
  ha : SlR kRule w sa la
  hb : SlR kRule w sb lb
  na : la ≠ [] → ∀ b o, sa.a = some ⟨b, o, none⟩ → b ≠ bb
  nb : lb ≠ [] → ∀ b o, sb.a = some ⟨b, o, none⟩ → b ≠ bb
  ne : y ≠ bb ∧ cc ≠ bb ∧ pa ≠ bb ∧ pb ≠ bb ∧ f ≠ bb
  hbk : sc.bk = some bb ∧ H ≤ bb
  hz : ∃ zs : List Int, WrS kU8 5 H w sc zs ∧ zs.length = 12 ∧ (∀ x ∈ zs, 0 ≤ x ∧ x ≤ 255) ∧ zs.take cs.length = cs
section
variable {la lb : List Rule} {sa sb sc : Sl} {l y cc pa pb f bb H : Nat} {cs : List Int} {w w' : World}
theorem SlR.kept3' {α : Type} {k : Kd α} {w w' : World} {s : Sl} {xs : List α} {row : Option Nat} (h : SlR k w s xs) (hg : w.grownBy w' row) (hb : xs ≠ [] → ∀ b o, s.a = some ⟨b, o, none⟩ → row ≠ some b) : SlR k w' s xs := by
  by_cases hx : xs = []
  · exact ⟨h.1, h.2.1, h.2.2.1, .inl hx⟩
  · exact h.kept2 hg (hb hx)
theorem blk_kept {b bb : Nat} {o : Obj} (h : w.heap[b]? = some o) (hg : w.grownBy w' (some bb)) (hne : b ≠ bb) : w'.heap[b]? = some o :=
  (hg.block b (Array.getElem?_eq_some_iff.1 h).1 (by simp only [ne_eq, Option.some.injEq]; exact hne)).trans h
/-- Behind a step that may have written the bytes. -/
theorem PcM.put {cs' : List Int} (h : PcM la lb sa sb sc l y cc pa pb f bb H cs w) (hg : w.grownBy w' (some bb)) (hz : ∃ zs : List Int, WrS kU8 5 H w' sc zs ∧ zs.length = 12 ∧ (∀ x ∈ zs, 0 ≤ x ∧ x ≤ 255) ∧ zs.take cs'.length = cs') :
    PcM la lb sa sb sc l y cc pa pb f bb H cs' w' := by
  obtain ⟨n1, n2, n3, n4, n5⟩ := h.ne
  obtain ⟨t1, h1⟩ := h.hy
  obtain ⟨t2, h2⟩ := h.hc
  obtain ⟨t3, h3⟩ := h.ha'
  obtain ⟨t4, h4⟩ := h.hb'
  obtain ⟨t5, h5⟩ := h.hf
  exact ⟨⟨t1, blk_kept h1 hg n1⟩, ⟨t2, blk_kept h2 hg n2⟩, ⟨t3, blk_kept h3 hg n3⟩, ⟨t4, blk_kept h4 hg n4⟩, ⟨t5, blk_kept h5 hg n5⟩,
    h.ha.kept3' hg (fun hne b o e e2 => h.na hne b o e (by simpa using e2.symm)), h.hb.kept3' hg (fun hne b o e e2 => h.nb hne b o e (by simpa using e2.symm)), h.na, h.nb, h.ne, h.hbk, hz⟩
theorem PcM.below (h : PcM la lb sa sb sc l y cc pa pb f bb H cs w) (hb : Below w.heap.size w w') : PcM la lb sa sb sc l y cc pa pb f bb H cs w' := by
  obtain ⟨zs, h1, h2⟩ := h.hz
  exact h.put (⟨hb.os, hb.tape, hb.output, hb.size, fun k hk _ => hb.block k hk⟩) ⟨zs, h1.below hb, h2⟩
theorem PcM.cut {n : Nat} (h : PcM la lb sa sb sc l y cc pa pb f bb H cs w) : PcM la lb sa sb sc l y cc pa pb f bb H (cs.take n) w := by
  obtain ⟨zs, h1, h2, h3, h4⟩ := h.hz
  have hcs : cs.length ≤ 12 := by
    have := congrArg List.length h4
    rw [List.length_take] at this; omega
  refine h.put (grown_refl _ _) ⟨zs, h1, h2, h3, ?_⟩
  rw [List.length_take]
  conv => rhs; rw [← h4, List.take_take]
theorem gen_cons {la lb : List Rule} {n k : Nat} {cs : List Int} {x : Int} (hx : (cuts la lb cs.length)[k]? = some x) :
    ((cuts la lb cs.length).take (k + 1)).flatMap (fun x => gen la lb n (cs ++ [x])) = ((cuts la lb cs.length).take k).flatMap (fun x => gen la lb n (cs ++ [x])) ++ gen la lb n (cs ++ [x]) := by
  rw [List.take_add_one, hx]
  simp
theorem gen_pre {la lb : List Rule} {n k : Nat} {cs : List Int} {x : Int} (hx : (cuts la lb cs.length)[k]? = some x) {q : List (List Int)} (hq : q <+: gen la lb n (cs ++ [x])) :
    ((cuts la lb cs.length).take k).flatMap (fun x => gen la lb n (cs ++ [x])) ++ q <+: gen la lb (n + 1) cs := by
  have h1 : gen la lb (n + 1) cs = ((cuts la lb cs.length).take (k + 1)).flatMap (fun x => gen la lb n (cs ++ [x])) ++ ((cuts la lb cs.length).drop (k + 1)).flatMap (fun x => gen la lb n (cs ++ [x])) := by
    rw [← List.flatMap_append, List.take_append_drop]
    rfl
  obtain ⟨u, hu⟩ := hq
  refine ⟨u ++ ((cuts la lb cs.length).drop (k + 1)).flatMap (fun x => gen la lb n (cs ++ [x])), ?_⟩
  rw [h1, gen_cons hx, ← hu]
  simp
end
section
variable {la lb : List Rule} (hpa : RulesP la) (hpb : RulesP lb) {sa sb sc : Sl} {l y cc pa pb f bb H : Nat} {J Jx : List (List Int) → World → Prop}
  (hJ : ∀ s A B, J s A → Below H A B → J s B)
  (hY : ∀ pre x W1, Came x → J pre W1 → H ≤ W1.heap.size → YieldAt Fence.wide 0 P0 l #[.string (strOfNums x)] W1 fun e W' => (e = .returned (.bool true) ∧ J (pre ++ [x]) W' ∧ Below W1.heap.size W1 W') ∨ (e = .returned (.bool false) ∧ Jx (pre ++ [x]) W'))
include hpa hpb hJ hY
set_option maxHeartbeats 1000000 in
theorem impl.everyPiece_1_1.c : ∀ (n : Nat) {cs : List Int} {w : World} {pre : List (List Int)} {K : Bool → World → Prop}, cs.length + n = 12 → PcM la lb sa sb sc l y cc pa pb f bb H cs w → J pre w → H ≤ w.heap.size →
    (∀ w', J (pre ++ gen la lb n cs) w' → PcM la lb sa sb sc l y cc pa pb f bb H cs w' → w.grownBy w' (some bb) → K true w') → (∀ w' q, q <+: gen la lb n cs → Jx (pre ++ q) w' → K false w') →
    CallT (.o (.lf .b)) P0 45 [.int .i64 (cs.length : Int), .pointer (some ⟨y, 0, none⟩), .pointer (some ⟨cc, 0, none⟩), .pointer (some ⟨pa, 0, none⟩), .pointer (some ⟨pb, 0, none⟩), .pointer (some ⟨f, 0, none⟩)] w K
  | 0, cs, w, pre, K, hn, hm, hj, hH, hT, hF => by
    refine impl.everyPiece_1_1.ok (And.intro (fun _ => ?_) (fun hne => by rw [beq_eq_false_iff_ne] at hne; omega))
    obtain ⟨t1, h1⟩ := hm.hy
    obtain ⟨t2, h2⟩ := hm.hc
    obtain ⟨zs, hz1, hz2, hz3, hz4⟩ := hm.hz
    have hzc : zs = cs := by rw [← hz4, List.take_of_length_le (by omega)]
    subst hzc
    refine ldB0 h1 (x := l) rfl (ldB0 h2 (x := sc) rfl ?_)
    obtain ⟨b, o, ha, hat⟩ : ∃ b o, sc.a = some ⟨b, o, none⟩ ∧ ∀ i x, zs[i]? = some x → At w b (o + i * 1) [.int .u8 x] := by
      rcases hz1.read.2.2.2 with h0 | h
      · rw [h0] at hz2; simp at hz2
      · exact h
    have hzn := hz1.len
    have hconv := run_convert_bytes_arg (P := P0) w 22 5 (by kernel_rfl) (by kernel_rfl) b o sc.n sc.c zs hz1.len.symm (fun i hi => by
      obtain ⟨x, hx⟩ := get_some (l := zs) (k := i) (by omega)
      have := hat i x hx 0 _ rfl
      rw [show zs.getD i 0 = x by rw [List.getD_eq_getElem?_getD, hx]; rfl]
      simpa using this) 9 (by kernel_rfl)
    refine ⟨strOfNums zs, w, by unfold Sl.v; rw [ha]; exact hconv, ?_⟩
    obtain ⟨fn, tmps, asg, body, hy, hR⟩ := hY pre zs w ⟨hz2, hz3⟩ hj hH
    refine ⟨fn, tmps, asg, body, hy, hR.mono ?_⟩
    rintro e w' (⟨rfl, hj', hb⟩ | ⟨rfl, hx⟩)
    · exact ⟨true, rfl, hT w' hj' (hm.below hb) ⟨hb.os, hb.tape, hb.output, hb.size, fun k hk _ => hb.block k hk⟩⟩
    · exact ⟨false, rfl, hF w' [zs] (List.prefix_refl _) hx⟩
  | n + 1, cs, w, pre, K, hn, hm, hj, hH, hT, hF => by
    refine impl.everyPiece_1_1.ok (And.intro (fun he => by rw [beq_iff_eq] at he; omega) (fun _ => ?_))
    obtain ⟨t3, h3⟩ := hm.ha'
    obtain ⟨t4, h4⟩ := hm.hb'
    refine ldB0 h3 (x := sa) rfl (ldB0 h4 (x := sb) rfl ?_)
    refine impl.cuts.c hm.ha hm.hb hpa hpb fun r w2 ho2 b2 => ?_
    have hrn := ho2.len
    have hcl := cuts_length la lb (cs.length : Int)
    have g2 : w.grownBy w2 (some bb) := ⟨b2.os, b2.tape, b2.output, b2.size, fun k hk _ => b2.block k hk⟩
    have hsz2 := b2.size
    have hbbw : bb < w.heap.size := by
      obtain ⟨zs, hz1, _⟩ := hm.hz
      exact (hz1.blk hm.hbk.1).2
    have hj2 : J pre w2 := hJ _ _ _ hj (b2.mono hH)
    refine ⟨fun i w' => ∃ k : Nat, i = k ∧ k ≤ (cuts la lb cs.length).length ∧ PcM la lb sa sb sc l y cc pa pb f bb H cs w' ∧ J (pre ++ ((cuts la lb cs.length).take k).flatMap (fun x => gen la lb n (cs ++ [x]))) w' ∧ OwnS kI 3 w.heap.size w' r (cuts la lb cs.length) ∧ w.grownBy w' (some bb),
      fun i _ => (cuts la lb cs.length).length - i.toNat, ⟨0, rfl, by omega, hm.below b2, by simpa using hj2, ho2, g2⟩, ?_⟩
    rintro i w3 ⟨k, rfl, hk1, hm3, hj3, ho3, g3⟩ _
    have hsz3 := g3.size
    refine And.intro (fun hlt => ?_) (fun hge => ?_)
    · simp only [decide_eq_true_eq] at hlt
      obtain ⟨x, hx⟩ := get_some (l := cuts la lb cs.length) (k := k) (by omega)
      have hxb := cuts_byte (List.mem_of_getElem? hx)
      obtain ⟨t2, h2⟩ := hm3.hc
      obtain ⟨zs, hz1, hz2, hz3, hz4⟩ := hm3.hz
      refine ixL ho3.read (i := k) (by omega) (x := x) (by simpa using hx) rfl (l := .i .i64) (v := x) rfl ?_
      refine ldB0 h2 (x := sc) rfl ?_
      obtain ⟨z, hz⟩ := get_some (l := zs) (k := cs.length) (by omega)
      rw [show IntKind.wrap .u8 x = x by rw [IntKind.wrap_u8]; omega]
      refine ixStL hz1 (i := (cs.length : Int)) (by omega) (x := z) (by simpa using hz) rfl rfl rfl x rfl fun w4 hz4' g4 s4 => ?_
      rw [hm3.hbk.1] at g4
      have hzl : zs.length = 12 := hz2
      have hm4 : PcM la lb sa sb sc l y cc pa pb f bb H (cs ++ [x]) w4 := by
        refine hm3.put g4 ⟨_, hz4', by simpa using hz2, fun u hu => ?_, ?_⟩
        · rcases List.mem_or_eq_of_mem_set hu with h | h
          · exact hz3 u h
          · rw [h]; exact hxb
        · rw [Int.toNat_natCast]
          have e1 : (cs ++ [x]).length = cs.length + 1 := by simp
          rw [e1, List.take_add_one, List.take_set_of_le (Nat.le_refl _), hz4, List.getElem?_set_self (by omega)]
          rfl
      have hj4 : J (pre ++ ((cuts la lb cs.length).take k).flatMap (fun x => gen la lb n (cs ++ [x]))) w4 := hJ _ _ _ hj3 ⟨g4.os, g4.tape, g4.output, g4.size, fun q hq => g4.block q (by omega) (by have := hm.hbk.2; simp only [ne_eq, Option.some.injEq]; omega)⟩
      obtain ⟨t5, h5⟩ := hm4.hf
      refine ldB0 h5 (l := .fn 45 5) (x := (⟨y, 0, none⟩, ⟨cc, 0, none⟩, ⟨pa, 0, none⟩, ⟨pb, 0, none⟩, ⟨f, 0, none⟩, ())) rfl ?_
      rw [i64_of (n := (cs.length : Int) + 1) (by omega) (by omega), i64_of (n := (k : Int) + 1) (by omega) (by omega)]
      have hl1 : ((cs.length : Int) + 1) = ((cs ++ [x]).length : Int) := by simp
      rw [hl1]
      refine impl.everyPiece_1_1.c n (by simp; omega) hm4 hj4 (by omega) (fun w5 hj5 hm5 g5 => ?_) (fun w5 q hq hx5 => ?_)
      · refine And.intro (fun hc => by simp at hc) (fun _ => ?_)
        refine ⟨⟨k + 1, by omega, by omega, ?_, ?_, ?_, ?_⟩, by simp only; omega⟩
        · have := hm5.cut (n := cs.length)
          rwa [List.take_left' rfl] at this
        · rw [gen_cons hx, ← List.append_assoc]; exact hj5
        · have o4 := ho3.kept g4 (fun b hb e => by simp only [Option.some.injEq] at hb; have := (ho3.blk e).1; omega)
          exact o4.kept g5 (fun b hb e => by simp only [Option.some.injEq] at hb; have := (o4.blk e).1; omega)
        · exact grown_trans (grown_trans g3 g4) g5
      · refine And.intro (fun _ => ?_) (fun hc => by simp at hc)
        exact hF w5 _ (gen_pre hx hq) (by rw [← List.append_assoc]; exact hx5)
    · simp only [decide_eq_false_iff_not] at hge
      obtain rfl : k = (cuts la lb cs.length).length := by omega
      rw [List.take_length] at hj3
      exact hT w3 hj3 hm3 g3
end
end Go.Proofs.YtdlnoabihfnmmaaGreat.V

/- Contracts: the search through an iterator; SameFind and SameRules on both sides. -/
namespace Go.Proofs.YtdlnoabihfnmmaaGreat.V
open Go Go.RowKit
set_option linter.unusedVariables false
set_option linter.unusedSimpArgs false
theorem mkU8 : Mk P0 22 5 kU8 1 0 := ⟨by kernel_rfl, ⟨_, _, Option.eq_some_of_isSome (by kernel_rfl), Option.eq_some_of_isSome (by kernel_rfl), by kernel_rfl, by kernel_rfl, by kernel_rfl⟩⟩
theorem zSl8 : zc P0 22 = #[.slice none 0 0] := by kernel_rfl
theorem zFn : zc P0 78 = #[.nilFunc] := by kernel_rfl
theorem rd_lt {la : List Rule} {s : Sl} {w : World} (h : SlR kRule w s la) (hne : la ≠ []) {b o : Nat} (ha : s.a = some ⟨b, o, none⟩) : b < w.heap.size := by
  rcases h.2.2.2 with h0 | ⟨b', o', ha', hat⟩
  · exact absurd h0 hne
  · rw [ha] at ha'
    simp only [Option.some.injEq, Addr.mk.injEq] at ha'
    obtain ⟨x, hx⟩ := get_some (l := la) (k := 0) (List.length_pos_iff.2 hne)
    have := hat 0 x hx 0 (.int .i64 x.at_) rfl
    have := World.block_lt_of_cell? w _ this
    simp only at this; omega
section
variable {la lb : List Rule} (hpa : RulesP la) (hpb : RulesP lb) {sa sb : Sl} {l pa pb : Nat} {J Jx : List (List Int) → World → Prop} {W : World}
  (hJ : ∀ s A B, J s A → Below W.heap.size A B → J s B)
  (hY : ∀ pre x W1, Came x → J pre W1 → W.heap.size ≤ W1.heap.size → YieldAt Fence.wide 0 P0 l #[.string (strOfNums x)] W1 fun e W' => (e = .returned (.bool true) ∧ J (pre ++ [x]) W' ∧ Below W1.heap.size W1 W') ∨ (e = .returned (.bool false) ∧ Jx (pre ++ [x]) W'))
include hpa hpb hJ hY
theorem impl.everyPiece_1.c (h1 : ∃ t, W.heap[pa]? = some (.cells #[sa.v] t (0, 0))) (h2 : ∃ t, W.heap[pb]? = some (.cells #[sb.v] t (0, 0))) (ha : SlR kRule W sa la) (hb : SlR kRule W sb lb) (h0 : J [] W) :
    CallT .z P0 44 [.func (.yield l) #[] #[], .pointer (some ⟨pa, 0, none⟩), .pointer (some ⟨pb, 0, none⟩)] W fun _ W' => J (gen la lb 12 []) W' ∨ ∃ q, q <+: gen la lb 12 [] ∧ Jx q W' := by
  obtain ⟨ta, h1⟩ := h1
  obtain ⟨tb, h2⟩ := h2
  have hpa' := (Array.getElem?_eq_some_iff.1 h1).1
  have hpb' := (Array.getElem?_eq_some_iff.1 h2).1
  refine impl.everyPiece_1.ok (nw fun w1 b1 s1 c1 => ?_)
  refine mkS (n := 12) mkU8 (by omega) (by simp [maxLen]) fun sc w2 b2 hz2 => ?_
  have b12 := b1.trans (b2.mono b1.size)
  have hs2 := b2.size
  obtain ⟨bb, o, cur, hsa, hbbH, hbbw, _, _⟩ := hz2.at (i := 0) (x := 0) (by simp) (by decide)
  have hbb2 := (Array.getElem?_eq_some_iff.1 hbbw).1
  refine nw fun w3 b3 s3 c3 => ?_
  rw [zSl8] at c3
  have b13 := b12.trans (b3.mono b12.size)
  refine stB0 c3 rfl (by simp) fun w4 g4 s4 c4 => ?_
  have b14 : Below W.heap.size W w4 := b13.grown g4 b13.size (fun b hb => by simp only [Option.some.injEq] at hb; have := b12.size; omega)
  refine nw fun w5 b5 s5 c5 => ?_
  rw [zFn] at c5
  have b15 := b14.trans (b5.mono b14.size)
  refine stB0 c5 rfl (by simp) fun w6 g6 s6 c6 => ?_
  have hs12 := b12.size
  have b16 : Below W.heap.size W w6 := b15.grown g6 b15.size (fun b hb => by simp only [Option.some.injEq] at hb; omega)
  have k36 : ∀ {k : Nat} {o : Obj}, k < w4.heap.size → w4.heap[k]? = some o → w6.heap[k]? = some o := fun hk h => by
    have h5 := (b5.block _ hk).trans h
    exact blk_kept h5 g6 (by omega)
  have k24 : ∀ {k : Nat} {o : Obj}, k < w2.heap.size → w2.heap[k]? = some o → w4.heap[k]? = some o := fun hk h => by
    have h5 := (b3.block _ hk).trans h
    exact blk_kept h5 g4 (by omega)
  have hz6 : WrS kU8 5 W.heap.size w6 sc (List.replicate 12 0) := by
    have z3 := hz2.below b3
    have z4 := z3.kept g4 (fun b hb e => by simp only [Option.some.injEq] at hb; rw [Sl.bk, hsa] at e; simp only [Option.map_some, Option.some.injEq] at e; omega)
    have z5 := z4.below b5
    exact (z5.kept g6 (fun b hb e => by simp only [Option.some.injEq] at hb; rw [Sl.bk, hsa] at e; simp only [Option.map_some, Option.some.injEq] at e; omega)).low b1.size
  have hm : PcM la lb sa sb sc l W.heap.size w2.heap.size pa pb w4.heap.size bb W.heap.size [] w6 := by
    refine ⟨⟨_, k36 (by omega) (k24 (by omega) ((b2.block _ (by omega)).trans c1))⟩, ⟨_, k36 (by omega) c4⟩, ⟨ta, (b16.block _ hpa').trans h1⟩, ⟨tb, (b16.block _ hpb').trans h2⟩, ⟨_, c6⟩, ha.below b16, hb.below b16,
      fun hne b o e => ?_, fun hne b o e => ?_, ⟨by omega, by omega, by omega, by omega, by omega⟩, ⟨by simp [Sl.bk, hsa], by omega⟩, ⟨_, hz6, by simp, by simp, by simp⟩⟩
    · have := rd_lt ha hne e; omega
    · have := rd_lt hb hne e; omega
  refine ldB0 c6 (l := .fn 45 5) (x := (⟨W.heap.size, 0, none⟩, ⟨w2.heap.size, 0, none⟩, ⟨pa, 0, none⟩, ⟨pb, 0, none⟩, ⟨w4.heap.size, 0, none⟩, ())) rfl ?_
  refine impl.everyPiece_1_1.c hpa hpb hJ hY 12 (cs := []) (pre := []) rfl hm (hJ _ _ _ h0 b16) b16.size (fun w' hj _ _ => .inl (by simpa using hj)) (fun w' q hq hx => .inr ⟨q, hq, by simpa using hx⟩)
end
/-! ### the code of the search -/
noncomputable def dC : Code := code Tryz.f16
noncomputable def dR0 : Code := cL dC
noncomputable def dX : Code := cR dC
noncomputable def dR1 : Code := cL (cL dX)
noncomputable def dRf : Code := cB (cR (cL dX))
noncomputable def dAs : Code := cAs dRf
noncomputable def dBd : Code := cBd dRf
noncomputable def dR7 : Code := cL (cR dX)
set_option maxRecDepth 100000 in
theorem differ_code : Tryz.f16.body = some (.seq dR0 (.seq (.seq dR1 (.block 0 (.rangeFunc (.tmp 13) #[14] dAs dBd))) (.seq dR7 .ret))) := by kernel_rfl
def dEnv (sa sb : Sl) (p2 p3 p4 p5 : Addr) (v6 v11 v12 v13 v14 : Value) : Env :=
  [.v sa.v, .v sb.v, .v (.pointer (some p2)), .v (.pointer (some p3)), .v (.pointer (some p4)), .v (.pointer (some p5)), .v v6, u0, u0, u0, u0, .v v11, .v v12, .v v13, .v v14] ++ List.replicate 21 u0
section
variable {sa sb : Sl} {p2 p3 p4 p5 : Addr} {v6 v11 v12 v13 v14 : Value} {w : World} {Kn : Env → World → Prop}
set_option maxRecDepth 100000 in
theorem differ_r0 (h : Nw #[sa.v] 23 w fun p2 w1 => Nw #[sb.v] 23 w1 fun p3 w2 => Nw (zc P0 9) 9 w2 fun p4 w3 => Nw (zc P0 4) 4 w3 fun p5 w4 => Kn (dEnv sa sb p2 p3 p4 p5 undef undef undef undef undef) w4) :
    evI P0 (.r (D 4)) dR0 (nK Kn) ([sa.v, sb.v].map EV.v ++ List.replicate (Tryz.f16.ntmps - [sa.v, sb.v].length) u0) w := Eq.mp (by kernel_rfl) h
set_option maxRecDepth 100000 in
theorem differ_r1 (h : Ld .sl p2 w fun x w1 => Ld .sl p3 w1 fun y w2 => CallT (.o (.lf .any)) P0 27 [x.v, y.v] w2 fun f w3 => Kn (dEnv sa sb p2 p3 p4 p5 undef x.v y.v f undef) w3) :
    evI P0 (.r [.l (.lf .sl), .l (.lf .sl), .c (.o (.lf .any))]) dR1 (nK Kn) (dEnv sa sb p2 p3 p4 p5 undef undef undef undef undef) w := Eq.mp (by kernel_rfl) h
set_option maxRecDepth 100000 in
theorem differ_as (h : Kn (dEnv sa sb p2 p3 p4 p5 v14 v11 v12 v13 v14) w) : evI P0 (.r (D 1)) dAs (nK Kn) (dEnv sa sb p2 p3 p4 p5 v6 v11 v12 v13 v14) w := Eq.mp (by kernel_rfl) h
set_option maxRecDepth 100000 in
theorem differ_r7 (h : St p4 (.string ⟨#[]⟩) w fun w1 => St p5 (.bool false) w1 fun w2 => Kn (dEnv sa sb p2 p3 p4 p5 v6 v11 v12 v13 v14) w2) : evI P0 (.r (D 2)) dR7 (nK Kn) (dEnv sa sb p2 p3 p4 p5 v6 v11 v12 v13 v14) w := Eq.mp (by kernel_rfl) h
def differ.body.pl : Pl := (.b (.s (.r [(.l (.lf .sl)), .d, (.c (.n [(.lf (.i .i64)), (.lf (.i .i64))])), .d, .d, .d, .d, .d]) (.s (.r [(.l (.lf .sl)), .d, (.c (.n [(.lf (.i .i64)), (.lf (.i .i64))])), .d, .d, .d, .d, .d]) (.s (.r [.d, .d, .d, (.sp .d), .d, .d, .d, .d]) (.c (.s (.r (D 3)) .z) .z)))))
def differ.body.vc (t2 : Addr) (t3 : Addr) (t4 : Addr) (t5 : Addr) (came : ByteArray) (w : World) (K : Bool → World → Prop) : Prop :=
Ld .sl t2 w fun (t16 : Sl) w_ =>
CallT (.n [(.lf (.i .i64)), (.lf (.i .i64))]) P0 23 [t16.v, (.string came)] w_ fun (t18 : (Int) × (Int) × Unit) w__1 =>
Ld .sl t3 w__1 fun (t22 : Sl) w__2 =>
CallT (.n [(.lf (.i .i64)), (.lf (.i .i64))]) P0 23 [t22.v, (.string came)] w__2 fun (t24 : (Int) × (Int) × Unit) w__3 =>
(((t18.1 : Int) != t24.1) = true → St t4 (.string came) w__3 fun w__4 =>
St t5 (.bool true) w__4 fun w__5 =>
K false w__5) ∧
(((t18.1 : Int) != t24.1) = false → (((t18.2.1 : Int) != t24.2.1) = true → St t4 (.string came) w__3 fun w__6 =>
St t5 (.bool true) w__6 fun w__7 =>
K false w__7) ∧
(((t18.2.1 : Int) != t24.2.1) = false → K true w__3))
set_option maxRecDepth 100000 in
theorem differ_yield {u : Value} : ({ tmps := ((#[14] : Array Tmp).zip #[u]).foldl (fun t (p, v) => t.setIfInBounds p v) (act [] (dEnv sa sb p2 p3 p4 p5 v6 v11 v12 v13 v14)).tmps, defers := [] } : Act) = act [] (dEnv sa sb p2 p3 p4 p5 v6 v11 v12 v13 u) := by kernel_rfl
set_option maxRecDepth 100000 in
theorem differ_body {s : ByteArray} {K : Bool → World → Prop} (h : differ.body.vc p2 p3 p4 p5 s w K) : evI P0 differ.body.pl dBd (bK K) (dEnv sa sb p2 p3 p4 p5 (.string s) v11 v12 v13 v14) w := Eq.mp (by kernel_rfl) h
set_option maxRecDepth 100000 in
theorem differ_res {x : ByteArray} {b : Bool} {k : ByteArray × Bool × Unit → World → Prop} (h1 : w.cell? p4 = some (.string x)) (h2 : w.cell? p5 = some (.bool b)) (hk : k (x, b, ()) w) :
    resK P0 Tryz.f16.results.toList [(.lf .s), (.lf .b)] (dEnv sa sb p2 p3 p4 p5 v6 v11 v12 v13 v14) w fun t => k t w :=
  Eq.mp (by kernel_rfl) (show Ld .s p4 w fun x _ => Ld .b p5 w fun y _ => k (x, y, ()) w from ⟨x, h1, b, h2, hk⟩)
end
end Go.Proofs.YtdlnoabihfnmmaaGreat.V

/- Contracts: the search; SameFind, SameRules on both sides. -/
namespace Go.Proofs.YtdlnoabihfnmmaaGreat.V
open Go Go.RowKit
set_option linter.unusedVariables false
set_option linter.unusedSimpArgs false
theorem results_leave {r : Rs} {env : Env} {w : World} {fn : Func} {K : r.T → World → Prop} (hr : r.fine = true) (h : resK P0 fn.results.toList r.tys env w fun t => K (r.of t) w) :
    LeavesInM (Rd none) 0 P0 fn (act [] env).tmps (fun e w' => ∃ x, e = .returned (r.emb x) ∧ K x w') [] .returning w := by
  obtain ⟨x, hx, hrun⟩ := results_run (ds := []) (env := env) hr h
  exact ⟨_, hrun, x, rfl, hx⟩
/-- What is known between two rounds. -/
structure DiI (la lb : List Rule) (sa sb : Sl) (b2 b3 b4 b5 : Nat) (w0 : World) (pre : List (List Int)) (W : World) : Prop where
  bel : Below w0.heap.size w0 W
  h2 : ∃ t, W.heap[b2]? = some (.cells #[sa.v] t (0, 0))
  h3 : ∃ t, W.heap[b3]? = some (.cells #[sb.v] t (0, 0))
  h4 : ∃ t, W.heap[b4]? = some (.cells #[.string ByteArray.empty] t (0, 0))
  h5 : ∃ t, W.heap[b5]? = some (.cells #[.bool false] t (0, 0))
  no : ∀ x ∈ pre, diffB la lb x = false
structure DiX (la lb : List Rule) (b4 b5 : Nat) (w0 : World) (pre : List (List Int)) (W : World) : Prop where
  bel : Below w0.heap.size w0 W
  ex : ∃ q x, pre = q ++ [x] ∧ (∀ y ∈ q, diffB la lb y = false) ∧ diffB la lb x = true ∧ (∃ t, W.heap[b4]? = some (.cells #[.string (strOfNums x)] t (0, 0))) ∧ ∃ t, W.heap[b5]? = some (.cells #[.bool true] t (0, 0))
theorem find_none {la lb : List Rule} {l : List (List Int)} (h : ∀ x ∈ l, diffB la lb x = false) : l.find? (diffB la lb) = none := by
  rw [List.find?_eq_none]; intro x hx; simp [h x hx]
theorem find_some' {la lb : List Rule} {l q : List (List Int)} {x : List Int} (hp : q ++ [x] <+: l) (h : ∀ y ∈ q, diffB la lb y = false) (hx : diffB la lb x = true) : l.find? (diffB la lb) = some x := by
  obtain ⟨u, hu⟩ := hp
  rw [← hu, List.append_assoc, List.find?_append, find_none h]
  simp [List.find?_cons, hx]
theorem gen_came {la lb : List Rule} : ∀ (n : Nat) {cs : List Int}, cs.length + n = 12 → (∀ x ∈ cs, 0 ≤ x ∧ x ≤ 255) → ∀ y ∈ gen la lb n cs, Came y
  | 0, cs, hn, hx, y, hy => by
    simp only [gen, List.mem_singleton] at hy
    subst hy; exact ⟨by omega, hx⟩
  | n + 1, cs, hn, hx, y, hy => by
    simp only [gen, List.mem_flatMap] at hy
    obtain ⟨x, hxc, hy⟩ := hy
    exact gen_came n (by simp; omega) (fun z hz => by rcases List.mem_append.1 hz with h | h; exact hx z h; simp at h; subst h; exact cuts_byte hxc) y hy
theorem zStr : zc P0 9 = #[.string ByteArray.empty] := by kernel_rfl
theorem zBool : zc P0 4 = #[.bool false] := by kernel_rfl
section
variable {la lb : List Rule} {sa sb : Sl} {w : World}
set_option maxHeartbeats 2000000 in
set_option maxRecDepth 100000 in
theorem impl.differ.c (hpa : RulesP la) (hpb : RulesP lb) (ha : SlR kRule w sa la) (hb : SlR kRule w sb lb) {K : ByteArray × Bool × Unit → World → Prop} (hk : ∀ w', Below w.heap.size w w' → K ((fres la lb 12 []).1, (fres la lb 12 []).2, ()) w') :
    CallT (.n [(.lf .s), (.lf .b)]) P0 16 [sa.v, sb.v] w K := by
  refine callM_of Tryz.func16 differ_code (step_seq (differ_r0 ?_))
  refine nw fun w1 b1 s1 c1 => nw fun w2 b2 s2 c2 => nw fun w3 b3 s3 c3 => nw fun w4 b4 s4 c4 => ?_
  rw [zStr] at c3
  rw [zBool] at c4
  have b12 := b1.trans (b2.mono (by omega))
  have b13 := b12.trans (b3.mono (by omega))
  have b14 := b13.trans (b4.mono (by omega))
  have h2 := (b4.block _ (by omega)).trans ((b3.block _ (by omega)).trans ((b2.block _ (by omega)).trans c1))
  have h3 := (b4.block _ (by omega)).trans ((b3.block _ (by omega)).trans c2)
  have h4 := (b4.block _ (by omega)).trans c3
  refine wpIn_seq (step_seq (differ_r1 ?_))
  refine ldB0 h2 (x := sa) rfl (ldB0 h3 (x := sb) rfl ?_)
  refine impl.everyPiece.ok (nw fun w5 b5 s5 c5 => nw fun w6 b6 s6 c6 => ?_)
  have b56 := b5.trans (b6.mono (by omega))
  have b16 := b14.trans (b56.mono (by omega))
  have i5 := (b6.block _ (by omega)).trans c5
  refine wpIn_block ?_
  have hI0 : DiI la lb sa sb w.heap.size w1.heap.size w2.heap.size w3.heap.size w [] w6 := ⟨b16, ⟨_, (b56.block _ (by omega)).trans h2⟩, ⟨_, (b56.block _ (by omega)).trans h3⟩, ⟨_, (b56.block _ (by omega)).trans h4⟩, ⟨_, (b56.block _ (by omega)).trans c4⟩, by simp⟩
  have keep : ∀ {A B : World} {k : Nat} {o : Obj}, k < w6.heap.size → A.heap[k]? = some o → Below w6.heap.size A B → B.heap[k]? = some o := fun hk h hab => (hab.block _ hk).trans h
  have hs6 : w3.heap.size < w6.heap.size ∧ w2.heap.size < w6.heap.size ∧ w1.heap.size < w6.heap.size ∧ w.heap.size < w6.heap.size := by have := b56.size; omega
  refine rf_law (n := 0) (α := List Int) (gf := 44) (lb := #[.pointer (some ⟨w4.heap.size, 0, none⟩), .pointer (some ⟨w5.heap.size, 0, none⟩)]) (by rw [act_eval]; rfl) (enters_ok (by kernel_rfl)) (encs := fun x => #[.string (strOfNums x)]) (fun _ => rfl) Came
    (DiI la lb sa sb w.heap.size w1.heap.size w2.heap.size w3.heap.size w) (DiX la lb w2.heap.size w3.heap.size w) ?_ ?_ hI0 (gen la lb 12 []) (fun x => act [] (dEnv sa sb ⟨w.heap.size, 0, none⟩ ⟨w1.heap.size, 0, none⟩ ⟨w2.heap.size, 0, none⟩ ⟨w3.heap.size, 0, none⟩ (.string (strOfNums x)) sa.v sb.v (.func (.func 44) #[] #[.pointer (some ⟨w4.heap.size, 0, none⟩), .pointer (some ⟨w5.heap.size, 0, none⟩)]) (.string (strOfNums x)))) ?_ ?_ ?_ ?_ ?_
  · rintro s A B h hab
    obtain ⟨t2, q2⟩ := h.h2
    obtain ⟨t3, q3⟩ := h.h3
    obtain ⟨t4, q4⟩ := h.h4
    obtain ⟨t5, q5⟩ := h.h5
    exact ⟨h.bel.trans (hab.mono (by omega)), ⟨t2, keep (by omega) q2 hab⟩, ⟨t3, keep (by omega) q3 hab⟩, ⟨t4, keep (by omega) q4 hab⟩, ⟨t5, keep (by omega) q5 hab⟩, h.no⟩
  · rintro s A B h hab
    obtain ⟨q, x, e, h1, h2, ⟨t4, q4⟩, t5, q5⟩ := h.ex
    exact ⟨h.bel.trans (hab.mono (by omega)), q, x, e, h1, h2, ⟨t4, keep (by omega) q4 hab⟩, t5, keep (by omega) q5 hab⟩
  · intro l W J Jx hW hWs hJ hJx hY h0
    have hl4 : w4.heap.size < w6.heap.size := by omega
    have hl5 : w5.heap.size < w6.heap.size := by omega
    have c5' : W.heap[w4.heap.size]? = _ := keep hl4 i5 hW
    have c6' : W.heap[w5.heap.size]? = _ := keep hl5 c6 hW
    have := impl.everyPiece_1.c hpa hpb hJ hY ⟨_, c5'⟩ ⟨_, c6'⟩ (ha.below (b16.trans (hW.mono (by omega)))) (hb.below (b16.trans (hW.mono (by omega)))) h0
    exact Calls.mono this fun e W' ⟨x, he, hx⟩ => ⟨⟨_, he⟩, hx.imp id (fun ⟨q, h1, h2⟩ => ⟨q, h1, h2⟩)⟩
  · intro l x W K' hK
    refine Eq.mpr (congrArg (fun a => Code.wpIn (Rd (some l)) 0 P0 dAs (Exit.then K' fun _ _ _ => False) a W) differ_yield) ?_
    exact step_one (differ_as hK)
  · intro l pre x W hok hI hW
    refine step_body (differ_body ?_)
    obtain ⟨t2, q2⟩ := hI.h2
    obtain ⟨t3, q3⟩ := hI.h3
    obtain ⟨t4, q4⟩ := hI.h4
    obtain ⟨t5, q5⟩ := hI.h5
    refine ldB0 q2 (x := sa) rfl ?_
    refine impl.ruled.c (ha.below hI.bel) hpa hok fun u1 d1 => ?_
    refine ldB0 ((d1.block _ (by omega)).trans q3) (x := sb) rfl ?_
    refine impl.ruled.c (hb.below (hI.bel.trans (d1.mono hI.bel.size))) hpb hok fun u2 d2 => ?_
    have d12 := d1.trans (d2.mono d1.size)
    have hsW := d12.size
    have fin : diffB la lb x = true → St ⟨w2.heap.size, 0, none⟩ (.string (strOfNums x)) u2 fun u3 => St ⟨w3.heap.size, 0, none⟩ (.bool true) u3 fun u4 => KeepsHi w6.heap.size W u4 ∧ DiX la lb w2.heap.size w3.heap.size w (pre ++ [x]) u4 := by
      intro hd
      refine stB0 ((d12.block _ (by omega)).trans q4) rfl (by simp) fun u3 g3 e3 k3 => ?_
      refine stB0 (blk_kept ((d12.block _ (by omega)).trans q5) g3 (by omega)) rfl (by simp) fun u4 g4 e4 k4 => ?_
      refine ⟨⟨by omega, fun k h1 h2 => ?_⟩, ?_, pre, x, rfl, hI.no, hd, ⟨_, blk_kept k3 g4 (by omega)⟩, ⟨_, k4⟩⟩
      · rw [g4.block k (by omega) (by simp only [ne_eq, Option.some.injEq]; omega), g3.block k (by omega) (by simp only [ne_eq, Option.some.injEq]; omega)]
        exact d12.block k h2
      · have := hI.bel.trans (d12.mono hI.bel.size)
        exact (this.grown g3 this.size (fun b hb => by simp only [Option.some.injEq] at hb; omega)).grown g4 (by have := this.size; have := g3.size; omega) (fun b hb => by simp only [Option.some.injEq] at hb; omega)
    refine And.intro (fun hd => fin (by unfold diffB; rw [hd]; rfl)) (fun hd => And.intro (fun hd2 => fin (by unfold diffB; rw [hd2]; simp)) (fun hd2 => ?_))
    have kk : ∀ {k : Nat} {o : Obj}, k < W.heap.size → W.heap[k]? = some o → u2.heap[k]? = some o := fun hk h => (d12.block _ hk).trans h
    refine ⟨d12, hI.bel.trans (d12.mono hI.bel.size), ⟨t2, kk (by omega) q2⟩, ⟨t3, kk (by omega) q3⟩, ⟨t4, kk (by omega) q4⟩, ⟨t5, kk (by omega) q5⟩, fun y hy => ?_⟩
    rcases List.mem_append.1 hy with h | h
    · exact hI.no y h
    · simp only [List.mem_singleton] at h
      subst h
      unfold diffB; rw [hd, hd2]; rfl
  · intro W hI hD
    obtain ⟨t4, q4⟩ := hI.h4
    obtain ⟨t5, q5⟩ := hI.h5
    refine step_seq (ds := [{ target := .collected w6.heap.size, args := #[] }]) (pl := .r (D 2)) (differ_r7 ?_)
    refine stB0 q4 rfl (by simp) fun u3 g3 e3 k3 => ?_
    refine stB0 (blk_kept q5 g3 (by omega)) rfl (by simp) fun u4 g4 e4 k4 => ?_
    have hD4 := blk_kept (blk_kept hD g3 (by omega)) g4 (by omega)
    have k34 := blk_kept k3 g4 (by omega)
    refine wpIn_ret ⟨by simp, .inl ⟨_, _, rfl, run_takeDeferred hD4, results_leave rfl (differ_res (x := ⟨#[]⟩) (b := false) ?_ ?_ ?_)⟩⟩
    · have := cell_of ((World.putObj_heap_other (o := .deferred none) (w := u4) (r := w6.heap.size) (k := w2.heap.size) (by omega)).trans k34) 0
      rw [this]; rfl
    · have := cell_of ((World.putObj_heap_other (o := .deferred none) (w := u4) (r := w6.heap.size) (k := w3.heap.size) (by omega)).trans k4) 0
      rw [this]; rfl
    · have hb4 : Below w.heap.size w u4 := (hI.bel.grown g3 hI.bel.size (fun b hb => by simp only [Option.some.injEq] at hb; omega)).grown g4 (by have := hI.bel.size; have := g3.size; omega) (fun b hb => by simp only [Option.some.injEq] at hb; omega)
      have := hk _ (hb4.trans (below_putObj (l := w6.heap.size) (o := .deferred none) (by omega)))
      unfold fres at this
      rw [find_none hI.no] at this
      exact this
  · intro pre W hp hX hD
    obtain ⟨q, x, rfl, h1, h2, ⟨t4, q4⟩, t5, q5⟩ := hX.ex
    refine ⟨by simp, .inl ⟨_, _, rfl, run_takeDeferred hD, results_leave rfl (differ_res (x := strOfNums x) (b := true) ?_ ?_ ?_)⟩⟩
    · have := cell_of ((World.putObj_heap_other (o := .deferred none) (w := W) (r := w6.heap.size) (k := w2.heap.size) (by omega)).trans q4) 0
      rw [this]; rfl
    · have := cell_of ((World.putObj_heap_other (o := .deferred none) (w := W) (r := w6.heap.size) (k := w3.heap.size) (by omega)).trans q5) 0
      rw [this]; rfl
    · have := hk _ (hX.bel.trans (below_putObj (l := w6.heap.size) (o := .deferred none) (by omega)))
      unfold fres at this
      rw [find_some' hp h1 h2] at this
      exact this
end
end Go.Proofs.YtdlnoabihfnmmaaGreat.V

/- Contracts: SameFind and SameRules on both sides. -/
namespace Go.Proofs.YtdlnoabihfnmmaaGreat.V
open Go Go.RowKit
set_option linter.unusedVariables false
def SameOk (la lb : List Rule) : Prop := RulesP la ∧ RulesP lb ∧ pieces la lb ≤ 400
open Classical in
/-- The first bytes of which rules say something else, if there are such. -/
noncomputable def sameFind (la lb : List Rule) : ByteArray × Bool := if SameOk la lb then fres la lb 12 [] else (⟨#[]⟩, false)
open Classical in
noncomputable def sameRules (la lb : List Rule) : Bool := if SameOk la lb then !(fres la lb 12 []).2 else false
section
variable {la lb : List Rule} {sa sb : Sl} {w : World}
open Classical in
theorem impl.looked.c {K : Bool → World → Prop} (ha : SlR kRule w sa la) (hb : SlR kRule w sb lb) (hk : ∀ w', Below w.heap.size w w' → K (decide (SameOk la lb)) w') : CallT (.o (.lf .b)) P0 15 [sa.v, sb.v] w K := by
  refine impl.looked.ok (impl.RulesOk.c ha fun w1 b1 => ?_)
  refine And.intro (fun h1 => ?_) (fun h1 => ?_)
  · simp only [decide_eq_true_eq] at h1
    refine impl.RulesOk.c (hb.below b1) fun w2 b2 => ?_
    have b12 := b1.trans (b2.mono b1.size)
    refine And.intro (fun h2 => ?_) (fun h2 => ?_)
    · simp only [decide_eq_true_eq] at h2
      refine impl.pieces.c (ha.below b12) (hb.below b12) h1 h2 fun w3 b3 => ?_
      refine kof (hk w3 (b12.trans (b3.mono b12.size))) ?_
      rw [decide_eq_decide]
      exact ⟨fun h => h.2.2, fun h => ⟨h1, h2, h⟩⟩
    · simp only [decide_eq_false_iff_not] at h2
      exact kof (hk w2 b12) (by simp only [decide_eq_false_iff_not]; exact fun h => h2 h.2.1)
  · simp only [decide_eq_false_iff_not] at h1
    exact kof (hk w1 b1) (by simp only [decide_eq_false_iff_not]; exact fun h => h1 h.1)
theorem impl.SameFind.c {K : ByteArray × Bool × Unit → World → Prop} (ha : SlR kRule w sa la) (hb : SlR kRule w sb lb) (hk : ∀ w', Below w.heap.size w w' → K ((sameFind la lb).1, (sameFind la lb).2, ()) w') :
    CallT (.n [(.lf .s), (.lf .b)]) P0 6 [sa.v, sb.v] w K := by
  refine impl.SameFind.ok (impl.looked.c ha hb fun w1 b1 => ?_)
  unfold sameFind at hk
  refine And.intro (fun h => ?_) (fun h => ?_)
  · simp only [Bool.not_eq_true', decide_eq_false_iff_not] at h
    rw [if_neg h] at hk
    exact hk w1 b1
  · simp only [Bool.not_eq_false', decide_eq_true_eq] at h
    rw [if_pos h] at hk
    exact impl.differ.c h.1 h.2.1 (ha.below b1) (hb.below b1) fun w2 b2 => hk w2 (b1.trans (b2.mono b1.size))
theorem spec.SameFind.c {K : ByteArray × Bool × Unit → World → Prop} (ha : SlR kRule w sa la) (hb : SlR kRule w sb lb) (hk : ∀ w', Below w.heap.size w w' → K ((sameFind la lb).1, (sameFind la lb).2, ()) w') :
    CallT (.n [(.lf .s), (.lf .b)]) P0 7 [sa.v, sb.v] w K := by
  unfold sameFind at hk
  refine spec.SameFind.ok ⟨fun w' => Below w.heap.size w w' ∧ SameOk la lb, ?_, ?_⟩
  · refine spec.l9Ok.c ha fun w1 b1 => ?_
    refine And.intro (fun h => ?_) (fun h1 => ?_)
    · simp only [Bool.not_eq_true', decide_eq_false_iff_not] at h
      rw [if_neg (fun hh => h hh.1)] at hk
      exact hk w1 b1
    · simp only [Bool.not_eq_false', decide_eq_true_eq] at h1
      refine spec.l9Ok.c (hb.below b1) fun w2 b2 => ?_
      have b12 := b1.trans (b2.mono b1.size)
      refine And.intro (fun h => ?_) (fun h2 => ?_)
      · simp only [Bool.not_eq_true', decide_eq_false_iff_not] at h
        rw [if_neg (fun hh => h hh.2.1)] at hk
        exact hk w2 b12
      · simp only [Bool.not_eq_false', decide_eq_true_eq] at h2
        refine spec.l14Ways.c (ha.below b12) (hb.below b12) h1 h2 fun w3 b3 => ?_
        have b13 := b12.trans (b3.mono b12.size)
        refine And.intro (fun h => ?_) (fun h3 => ?_)
        · simp only [decide_eq_true_eq] at h
          rw [if_neg (fun hh => by have := hh.2.2; omega)] at hk
          exact hk w3 b13
        · simp only [decide_eq_false_iff_not] at h3
          exact ⟨b13, h1, h2, by omega⟩
  · rintro w3 ⟨b3, hok⟩ _
    rw [if_pos hok] at hk
    exact spec.l14Find.c hok.1 hok.2.1 12 (cs := []) rfl (by simp) (ha.below b3) (hb.below b3) fun w4 b4 => hk w4 (b3.trans (b4.mono b3.size))
end
end Go.Proofs.YtdlnoabihfnmmaaGreat.V

/- Plain laws: each byte has a cut that stands for it; the first bytes that are found are the first of all. -/
namespace Go.Proofs.YtdlnoabihfnmmaaGreat.V
open Go Go.RowKit
set_option linter.unusedVariables false
set_option linter.unusedSimpArgs false
/-- The last hit at a number or below it. -/
def lastHit (f : Nat → Bool) : Nat → Nat
  | 0 => 0
  | n + 1 => if f (n + 1) then n + 1 else lastHit f n
theorem lastHit_le (f : Nat → Bool) : ∀ n, lastHit f n ≤ n
  | 0 => Nat.le_refl _
  | n + 1 => by
    unfold lastHit
    split
    · exact Nat.le_refl _
    · have := lastHit_le f n; omega
theorem lastHit_hit {f : Nat → Bool} (h0 : f 0 = true) : ∀ n, f (lastHit f n) = true
  | 0 => h0
  | n + 1 => by
    unfold lastHit
    split
    · rename_i h; exact h
    · exact lastHit_hit h0 n
theorem lastHit_no {f : Nat → Bool} : ∀ {n m : Nat}, lastHit f n < m → m ≤ n → f m = false
  | 0, m, h, hm => by omega
  | n + 1, m, h, hm => by
    unfold lastHit at h
    split at h
    · omega
    · rename_i hf
      by_cases e : m = n + 1
      · subst e; simpa using hf
      · exact lastHit_no h (by omega)
open Classical in
noncomputable def hitB (a b : List Rule) (i : Int) (n : Nat) : Bool := decide (hits (a ++ b) i n)
theorem hitB_zero (a b : List Rule) (i : Int) : hitB a b i 0 = true := by simp [hitB, hits]
/-- The cut that stands for a byte. -/
noncomputable def stand (a b : List Rule) (i x : Int) : Int := (lastHit (hitB a b i) x.toNat : Nat)
theorem stand_le {a b : List Rule} {i x : Int} (hx : 0 ≤ x) : 0 ≤ stand a b i x ∧ stand a b i x ≤ x := by
  have := lastHit_le (hitB a b i) x.toNat
  unfold stand; omega
theorem stand_cut {a b : List Rule} {i x : Int} (hx : 0 ≤ x ∧ x ≤ 255) : stand a b i x ∈ cuts a b i := by
  have h1 := lastHit_le (hitB a b i) x.toNat
  unfold cuts
  rw [mem_picks]
  exact ⟨lastHit (hitB a b i) x.toNat, rfl, by omega, lastHit_hit (hitB_zero a b i) _⟩
theorem stand_holds {a b : List Rule} {r : Rule} (hr : r ∈ a ++ b) (hp : RuleP r) {x : Int} (hx : 0 ≤ x ∧ x ≤ 255) : holdsB r.op (stand a b r.at_ x) r.num = holdsB r.op x r.num := by
  have hle := stand_le (a := a) (b := b) (i := r.at_) hx.1
  have h1 : hitB a b r.at_ r.num.toNat = true := by
    simp only [hitB, decide_eq_true_eq]
    exact .inr ⟨r, hr, rfl, .inl (by have := hp.2.2.1; omega)⟩
  have h2 : hitB a b r.at_ (r.num.toNat + 1) = true := by
    simp only [hitB, decide_eq_true_eq]
    exact .inr ⟨r, hr, rfl, .inr (by have := hp.2.2.1; omega)⟩
  have hn := hp.2.2.1
  have c1 : ¬ (stand a b r.at_ x < r.num ∧ r.num ≤ x) := by
    rintro ⟨c, d⟩
    have := lastHit_no (f := hitB a b r.at_) (n := x.toNat) (m := r.num.toNat) (by unfold stand at c; omega) (by omega)
    rw [h1] at this; simp at this
  have c2 : ¬ (stand a b r.at_ x < r.num + 1 ∧ r.num + 1 ≤ x) := by
    rintro ⟨c, d⟩
    have := lastHit_no (f := hitB a b r.at_) (n := x.toNat) (m := r.num.toNat + 1) (by unfold stand at c; omega) (by omega)
    rw [h2] at this; simp at this
  unfold holdsB
  generalize stand a b r.at_ x = y at *
  split
  · rw [Bool.eq_iff_iff]; simp only [beq_iff_eq]; omega
  · split
    · rw [Bool.eq_iff_iff]; simp only [bne_iff_ne, ne_eq]; omega
    · split
      · rw [decide_eq_decide]; omega
      · rw [decide_eq_decide]; omega
/-- The bytes that stand for bytes, from a place on. -/
noncomputable def standL (a b : List Rule) : Nat → List Int → List Int
  | _, [] => []
  | i, x :: xs => stand a b i x :: standL a b (i + 1) xs
theorem standL_length (a b : List Rule) : ∀ (i : Nat) (xs : List Int), (standL a b i xs).length = xs.length
  | _, [] => rfl
  | i, x :: xs => by simp [standL, standL_length a b (i + 1) xs]
theorem standL_get (a b : List Rule) : ∀ (i : Nat) (xs : List Int) (j : Nat) (x : Int), xs[j]? = some x → (standL a b i xs)[j]? = some (stand a b ((i + j : Nat) : Int) x)
  | _, [], j, x, h => by simp at h
  | i, y :: ys, 0, x, h => by
    simp only [List.getElem?_cons_zero, Option.some.injEq] at h
    subst h; rfl
  | i, y :: ys, j + 1, x, h => by
    have := standL_get a b (i + 1) ys j x (by simpa using h)
    rw [standL, List.getElem?_cons_succ, this]
    congr 3; omega
theorem standL_gen (a b : List Rule) : ∀ (n : Nat) (pre xs : List Int), xs.length = n → (∀ x ∈ xs, 0 ≤ x ∧ x ≤ 255) → pre ++ standL a b pre.length xs ∈ gen a b n pre
  | 0, pre, xs, hn, hx => by
    have : xs = [] := List.eq_nil_of_length_eq_zero hn
    subst this; simp [standL, gen]
  | n + 1, pre, [], hn, hx => by simp at hn
  | n + 1, pre, x :: xs, hn, hx => by
    simp only [gen, List.mem_flatMap, standL]
    refine ⟨stand a b pre.length x, stand_cut (hx x List.mem_cons_self), ?_⟩
    have := standL_gen a b n (pre ++ [stand a b pre.length x]) xs (by simpa using hn) (fun y hy => hx y (List.mem_cons_of_mem _ hy))
    simpa [List.append_assoc] using this
theorem ruledL_stand {a b : List Rule} {cs : List Int} (hc : Came cs) : ∀ (l : List Rule), (∀ r ∈ l, r ∈ a ++ b ∧ RuleP r) → ruledL l (standL a b 0 cs) = ruledL l cs
  | [], _ => rfl
  | r :: rs, h => by
    obtain ⟨hr, hp⟩ := h r List.mem_cons_self
    obtain ⟨hg, hb⟩ := came_at hc hp
    have hs := standL_get a b 0 cs _ _ hg
    have e : (standL a b 0 cs).getD r.at_.toNat 0 = stand a b r.at_ (cs.getD r.at_.toNat 0) := by
      conv => lhs; rw [List.getD_eq_getElem?_getD, hs]
      have : ((0 + r.at_.toNat : Nat) : Int) = r.at_ := by have := hp.1.1; omega
      rw [this]; rfl
    unfold ruledL
    rw [e, stand_holds hr hp hb, ruledL_stand hc rs (fun q hq => h q (List.mem_cons_of_mem _ hq))]
theorem diffB_stand {a b : List Rule} (ha : RulesP a) (hb : RulesP b) {cs : List Int} (hc : Came cs) : diffB a b (standL a b 0 cs) = diffB a b cs := by
  unfold diffB
  rw [ruledL_stand hc a (fun r hr => ⟨List.mem_append_left _ hr, ha.2 r hr⟩), ruledL_stand hc b (fun r hr => ⟨List.mem_append_right _ hr, hb.2 r hr⟩)]
/-- If no bytes are found, rules say the same of all. -/
theorem none_same {a b : List Rule} (ha : RulesP a) (hb : RulesP b) (h : (gen a b 12 []).find? (diffB a b) = none) {cs : List Int} (hc : Came cs) : diffB a b cs = false := by
  rw [← diffB_stand ha hb hc]
  have hm := standL_gen a b 12 [] cs hc.1 hc.2
  rw [List.find?_eq_none] at h
  simpa using h _ hm
theorem some_diff {a b : List Rule} {s : List Int} (h : (gen a b 12 []).find? (diffB a b) = some s) : diffB a b s = true ∧ Came s :=
  ⟨List.find?_some h, gen_came 12 rfl (by simp) s (List.mem_of_find?_eq_some h)⟩
/-- One text of bytes is no later than another one. -/
def lexLe : List Int → List Int → Prop
  | [], _ => True
  | _ :: _, [] => False
  | x :: xs, y :: ys => x < y ∨ (x = y ∧ lexLe xs ys)
theorem lexLe_refl : ∀ xs, lexLe xs xs
  | [] => trivial
  | x :: xs => .inr ⟨rfl, lexLe_refl xs⟩
theorem lexLe_trans : ∀ {xs ys zs : List Int}, lexLe xs ys → lexLe ys zs → lexLe xs zs
  | [], _, _, _, _ => trivial
  | _ :: _, [], _, h, _ => h.elim
  | _ :: _, _ :: _, [], _, h => h.elim
  | x :: xs, y :: ys, z :: zs, h1, h2 => by
    rcases h1 with h1 | ⟨rfl, h1⟩
    · rcases h2 with h2 | ⟨rfl, h2⟩
      · exact .inl (by omega)
      · exact .inl h1
    · rcases h2 with h2 | ⟨rfl, h2⟩
      · exact .inl h2
      · exact .inr ⟨rfl, lexLe_trans h1 h2⟩
theorem lexLe_app : ∀ (pre xs ys : List Int), lexLe xs ys → lexLe (pre ++ xs) (pre ++ ys)
  | [], _, _, h => h
  | p :: ps, xs, ys, h => .inr ⟨rfl, lexLe_app ps xs ys h⟩
theorem standL_le {a b : List Rule} : ∀ (i : Nat) (xs : List Int), (∀ x ∈ xs, 0 ≤ x ∧ x ≤ 255) → lexLe (standL a b i xs) xs
  | _, [], _ => trivial
  | i, x :: xs, h => by
    have h1 := stand_le (a := a) (b := b) (i := i) (h x List.mem_cons_self).1
    rcases Int.lt_or_le (stand a b i x) x with h2 | h2
    · exact .inl h2
    · exact .inr ⟨by omega, standL_le (i + 1) xs (fun y hy => h y (List.mem_cons_of_mem _ hy))⟩
theorem gen_app {a b : List Rule} : ∀ (n : Nat) {cs y : List Int}, y ∈ gen a b n cs → ∃ u, y = cs ++ u
  | 0, cs, y, h => by
    simp only [gen, List.mem_singleton] at h
    exact ⟨[], by simp [h]⟩
  | n + 1, cs, y, h => by
    simp only [gen, List.mem_flatMap] at h
    obtain ⟨x, _, h⟩ := h
    obtain ⟨u, hu⟩ := gen_app n h
    exact ⟨x :: u, by rw [hu]; simp⟩
theorem cuts_asc (a b : List Rule) (i : Int) : (cuts a b i).Pairwise (· < ·) := picks_asc _ _
theorem pairwise_flat {α β : Type} {R : β → β → Prop} {f : α → List β} : ∀ {l : List α}, (∀ x ∈ l, (f x).Pairwise R) → l.Pairwise (fun x y => ∀ u ∈ f x, ∀ v ∈ f y, R u v) → (l.flatMap f).Pairwise R
  | [], _, _ => by simp
  | x :: xs, h, hp => by
    rw [List.flatMap_cons, List.pairwise_append]
    rw [List.pairwise_cons] at hp
    refine ⟨h x List.mem_cons_self, pairwise_flat (fun y hy => h y (List.mem_cons_of_mem _ hy)) hp.2, fun u hu v hv => ?_⟩
    obtain ⟨y, hy, hv⟩ := List.mem_flatMap.1 hv
    exact hp.1 y hy u hu v hv
theorem gen_sorted {a b : List Rule} : ∀ (n : Nat) (cs : List Int), (gen a b n cs).Pairwise lexLe
  | 0, cs => by simp [gen]
  | n + 1, cs => by
    refine pairwise_flat (fun x _ => gen_sorted n _) ((cuts_asc a b cs.length).imp fun {x y} hxy u hu v hv => ?_)
    obtain ⟨p, rfl⟩ := gen_app n hu
    obtain ⟨q, rfl⟩ := gen_app n hv
    rw [List.append_assoc, List.append_assoc]
    exact lexLe_app cs _ _ (.inl hxy)
theorem find_first {a b : List Rule} {s y : List Int} (h : (gen a b 12 []).find? (diffB a b) = some s) (hy : y ∈ gen a b 12 []) (hd : diffB a b y = true) : lexLe s y := by
  obtain ⟨_, us, vs, he, hno⟩ := List.find?_eq_some_iff_append.1 h
  have hs := gen_sorted (a := a) (b := b) 12 []
  rw [he] at hy hs
  rcases List.mem_append.1 hy with h1 | h1
  · have := hno y h1; simp [hd] at this
  · rcases List.mem_cons.1 h1 with rfl | h1
    · exact lexLe_refl _
    · exact (List.pairwise_cons.1 (List.pairwise_append.1 hs).2.1).1 y h1
/-- What is found is no later than any bytes of which rules say something else. -/
theorem found_first {a b : List Rule} (ha : RulesP a) (hb : RulesP b) {s cs : List Int} (h : (gen a b 12 []).find? (diffB a b) = some s) (hc : Came cs) (hd : diffB a b cs = true) : lexLe s cs := by
  have h1 := standL_gen a b 12 [] cs hc.1 hc.2
  have h2 := find_first h h1 (by rw [show [] ++ standL a b ([] : List Int).length cs = standL a b 0 cs from rfl, diffB_stand ha hb hc]; exact hd)
  exact lexLe_trans h2 (standL_le 0 cs hc.2)
end Go.Proofs.YtdlnoabihfnmmaaGreat.V

/- Plain laws: how many pieces there are, without a wrap; to say the same is to say the same both ways; tidied rules say the same. -/
namespace Go.Proofs.YtdlnoabihfnmmaaGreat.V
open Go Go.RowKit
set_option linter.unusedVariables false
set_option linter.unusedSimpArgs false
theorem nodup_sub {α : Type} [DecidableEq α] : ∀ {l m : List α}, l.Nodup → (∀ x ∈ l, x ∈ m) → l.length ≤ m.length
  | [], _, _, _ => Nat.zero_le _
  | x :: xs, m, hn, hs => by
    rw [List.nodup_cons] at hn
    have hx := hs x List.mem_cons_self
    have := nodup_sub (l := xs) (m := m.erase x) hn.2 fun y hy => (List.mem_erase_of_ne (fun e : y = x => by subst e; exact hn.1 hy)).2 (hs y (List.mem_cons_of_mem _ hy))
    rw [List.length_erase_of_mem hx] at this
    have h1 := List.length_pos_of_mem hx
    rw [List.length_cons]
    omega
/-- How many rules ask of a byte. -/
def askN (l : List Rule) (i : Int) : Nat := l.countP fun r => r.at_ == i
def askB (l : List Rule) (n : Nat) : Nat := l.countP fun r => decide (0 ≤ r.at_ ∧ r.at_ < (n : Int))
theorem askB_le (l : List Rule) (n : Nat) : askB l n ≤ l.length := List.countP_le_length
theorem askB_succ (n : Nat) : ∀ l : List Rule, askB l (n + 1) = askB l n + askN l n
  | [] => rfl
  | r :: rs => by
    have ih := askB_succ n rs
    unfold askB askN at *
    rw [List.countP_cons, List.countP_cons, List.countP_cons, ih]
    have h : ((if decide (0 ≤ r.at_ ∧ r.at_ < ((n + 1 : Nat) : Int)) = true then 1 else 0) : Nat) = (if decide (0 ≤ r.at_ ∧ r.at_ < (n : Int)) = true then 1 else 0) + (if (r.at_ == (n : Int)) = true then 1 else 0) := by
      simp only [decide_eq_true_eq, beq_iff_eq]
      split <;> split <;> split <;> omega
    omega
def askL (l : List Rule) (i : Int) : List Int := 0 :: (l.filter fun r => r.at_ == i).flatMap fun r => [r.num, r.num + 1]
theorem flat2_len {α : Type} (f g : α → Int) : ∀ l : List α, (l.flatMap fun r => [f r, g r]).length = 2 * l.length
  | [] => rfl
  | r :: rs => by rw [List.flatMap_cons, List.length_append, flat2_len f g rs, List.length_cons]; simp; omega
theorem cuts_few (a b : List Rule) (i : Int) : (cuts a b i).length ≤ 1 + 2 * askN (a ++ b) i := by
  have h1 : (cuts a b i).Nodup := (cuts_asc a b i).imp fun {x y} h e => by omega
  have h2 := nodup_sub (m := askL (a ++ b) i) h1 fun x hx => by
    unfold cuts at hx
    rw [mem_picks] at hx
    obtain ⟨n, rfl, hn, hf⟩ := hx
    simp only [decide_eq_true_eq] at hf
    rcases hf with h0 | ⟨r, hr, ha, hnum⟩
    · rw [h0]; exact List.mem_cons_self
    · refine List.mem_cons_of_mem _ (List.mem_flatMap.2 ⟨r, List.mem_filter.2 ⟨hr, by simpa using ha⟩, ?_⟩)
      rcases hnum with h | h
      · rw [h]; exact List.mem_cons_self
      · rw [h]; exact List.mem_cons_of_mem _ List.mem_cons_self
  refine Nat.le_trans h2 ?_
  unfold askL askN
  rw [List.length_cons, flat2_len, List.countP_eq_length_filter]
  omega
theorem cuts_some (a b : List Rule) (i : Int) : 1 ≤ (cuts a b i).length := by
  have : (0 : Int) ∈ cuts a b i := by
    unfold cuts
    rw [mem_picks]
    exact ⟨0, rfl, by omega, by simp [hits]⟩
  exact List.length_pos_of_mem this
theorem many_some {a b : List Rule} (h : (a ++ b).length ≤ 12) : ∀ n : Nat, ∃ p : Nat, many a b n = (p : Int) ∧ 1 ≤ p ∧ p ≤ 2 ^ (2 * askB (a ++ b) n)
  | 0 => ⟨1, rfl, Nat.le_refl _, Nat.two_pow_pos _⟩
  | n + 1 => by
    obtain ⟨p, hp, h1, h2⟩ := many_some h n
    have h3 := cuts_few a b n
    have h4 := cuts_some a b n
    have h5 : 1 + 2 * askN (a ++ b) n ≤ 2 ^ (2 * askN (a ++ b) n) := by have := Nat.lt_two_pow_self (n := 2 * askN (a ++ b) n); omega
    have h6 := askB_succ n (a ++ b)
    have h7 : p * (cuts a b n).length ≤ 2 ^ (2 * askB (a ++ b) (n + 1)) := by
      rw [h6, Nat.mul_add, Nat.pow_add]
      exact Nat.mul_le_mul h2 (Nat.le_trans h3 h5)
    have h8 := askB_le (a ++ b) (n + 1)
    have h9 : 2 ^ (2 * askB (a ++ b) (n + 1)) ≤ 2 ^ 24 := Nat.pow_le_pow_right (by omega) (by omega)
    refine ⟨p * (cuts a b n).length, ?_, Nat.mul_pos h1 h4, h7⟩
    rw [many, hp, ← Int.natCast_mul]
    exact i64_of (by omega) (by omega)
theorem pieces_pos {a b : List Rule} (ha : RulesP a) (hb : RulesP b) : 1 ≤ pieces a b := by
  obtain ⟨p, hp, h1, _⟩ := many_some (a := a) (b := b) (by rw [List.length_append]; have := ha.1; have := hb.1; omega) 12
  unfold pieces; omega
/-! ### both ways -/
theorem cuts_comm (a b : List Rule) (i : Int) : cuts a b i = cuts b a i := by
  unfold cuts
  refine picks_congr fun n _ => ?_
  rw [decide_eq_decide]
  unfold hits
  simp only [List.mem_append]
  constructor
  · rintro (h | ⟨r, hr, h⟩)
    · exact .inl h
    · exact .inr ⟨r, hr.symm, h⟩
  · rintro (h | ⟨r, hr, h⟩)
    · exact .inl h
    · exact .inr ⟨r, hr.symm, h⟩
theorem many_comm (a b : List Rule) : ∀ n, many a b n = many b a n
  | 0 => rfl
  | n + 1 => by rw [many, many, many_comm a b n, cuts_comm]
theorem gen_comm (a b : List Rule) : ∀ (n : Nat) (cs : List Int), gen a b n cs = gen b a n cs
  | 0, _ => rfl
  | n + 1, cs => by
    unfold gen
    rw [cuts_comm]
    congr 1
    funext x
    exact gen_comm a b n _
theorem diffB_comm (a b : List Rule) (cs : List Int) : diffB a b cs = diffB b a cs := by
  unfold diffB
  rw [bne_comm (a := (ruledL a cs).1), bne_comm (a := (ruledL a cs).2)]
theorem fres_snd (a b : List Rule) (n : Nat) (cs : List Int) : (fres a b n cs).2 = ((gen a b n cs).find? (diffB a b)).isSome := by
  unfold fres
  cases (gen a b n cs).find? (diffB a b) <;> rfl
theorem fres_comm (a b : List Rule) (n : Nat) (cs : List Int) : (fres a b n cs).2 = (fres b a n cs).2 := by
  rw [fres_snd, fres_snd, gen_comm, show diffB a b = diffB b a from funext (diffB_comm a b)]
theorem sameOk_comm {a b : List Rule} : SameOk a b ↔ SameOk b a := by
  unfold SameOk pieces
  rw [many_comm a b]
  exact ⟨fun h => ⟨h.2.1, h.1, h.2.2⟩, fun h => ⟨h.2.1, h.1, h.2.2⟩⟩
theorem sameRules_comm (a b : List Rule) : sameRules a b = sameRules b a := by
  unfold sameRules
  rw [fres_comm a b]
  by_cases h : SameOk a b
  · rw [if_pos h, if_pos (sameOk_comm.1 h)]
  · rw [if_neg h, if_neg (fun h2 => h (sameOk_comm.1 h2))]
theorem same_of {a b : List Rule} (ho : SameOk a b) (h : ∀ cs, Came cs → ruledL a cs = ruledL b cs) : sameRules a b = true := by
  unfold sameRules
  rw [if_pos ho, fres_snd]
  have : (gen a b 12 []).find? (diffB a b) = none := by
    rw [List.find?_eq_none]
    intro y hy
    have := gen_came 12 (by simp) (by simp) y hy
    simp [diffB, h y this]
  rw [this]; rfl
/-- What the search finds of rules that it looks at. -/
theorem sameFind_pos {a b : List Rule} (h : SameOk a b) : sameFind a b = fres a b 12 [] := by unfold sameFind; rw [if_pos h]
theorem samePieces_none {a b : List Rule} (h : samePieces a b < 0 ∨ samePieces a b > 400) : ¬ SameOk a b := by
  intro ho
  unfold samePieces at h
  rw [if_pos ⟨ho.1, ho.2.1⟩] at h
  have := pieces_pos ho.1 ho.2.1
  have := ho.2.2
  omega
theorem samePieces_ok {a b : List Rule} (h : ¬ (samePieces a b < 0 ∨ samePieces a b > 400)) : SameOk a b := by
  unfold samePieces at h
  split at h
  · rename_i h2
    exact ⟨h2.1, h2.2, by omega⟩
  · simp at h
/-- Rules say the same as themselves, and as they tidied. -/
theorem same_self {a : List Rule} (h : RulesP a) : samePieces a a > 400 ∨ sameRules a a = true := by
  rcases Int.lt_or_le 400 (samePieces a a) with h1 | h1
  · exact .inl h1
  · refine .inr (same_of ?_ fun _ _ => rfl)
    unfold samePieces at h1
    rw [if_pos ⟨h, h⟩] at h1
    exact ⟨h, h, h1⟩
theorem same_tidy {a : List Rule} (h : RulesP a) : samePieces a (tidyR a) > 400 ∨ sameRules a (tidyR a) = true := by
  have e : tidyR a = tidyL kn0 a := by unfold tidyR; rw [if_pos h]
  rw [e]
  have ht := tidy_ok h
  rcases Int.lt_or_le 400 (samePieces a (tidyL kn0 a)) with h1 | h1
  · exact .inl h1
  · refine .inr (same_of ?_ fun cs hc => (tidy_ruled (fits0 hc) h.2).symm)
    unfold samePieces at h1
    rw [if_pos ⟨h, ht⟩] at h1
    exact ⟨h, ht, h1⟩
end Go.Proofs.YtdlnoabihfnmmaaGreat.V

/- Contracts: what rules say of any text; two rows of rules are the same; texts in their order. -/
namespace Go.Proofs.YtdlnoabihfnmmaaGreat.V
open Go Go.RowKit
set_option linter.unusedVariables false
set_option linter.unusedSimpArgs false
/-- The bytes of a text. -/
def numsOf (s : ByteArray) : List Int := s.data.toList.map fun b => (b.toNat : Int)
theorem str_nums (s : ByteArray) : strOfNums (numsOf s) = s := by
  apply ByteArray.ext
  apply Array.ext'
  rw [strOfNums_data]
  rw [numsOf, List.map_map]
  conv => rhs; rw [← List.map_id s.data.toList]
  apply List.map_congr_left
  intro b _
  apply UInt8.toNat_inj.1
  simp
theorem nums_str {cs : List Int} (h : ∀ x ∈ cs, 0 ≤ x ∧ x ≤ 255) : numsOf (strOfNums cs) = cs := by
  unfold numsOf
  rw [strOfNums_data, List.map_map]
  conv => rhs; rw [← List.map_id cs]
  apply List.map_congr_left
  intro x hx
  have := h x hx
  simp; omega
theorem came_nums {s : ByteArray} (h : s.size = 12) : Came (numsOf s) := by
  refine ⟨by simp [numsOf]; exact h, fun x hx => ?_⟩
  simp only [numsOf, List.mem_map] at hx
  obtain ⟨b, _, rfl⟩ := hx
  have := b.toNat_lt
  omega
/-- What rules say of a text. -/
def rulesOf (l : List Rule) (s : ByteArray) : Int × Int := if RulesP l ∧ s.size = 12 then ruledL l (numsOf s) else (-1, 0)
theorem rulesOf_tidy {l : List Rule} (h : RulesP l) (s : ByteArray) : rulesOf (tidyR l) s = rulesOf l s := by
  have ht : tidyR l = tidyL kn0 l := by unfold tidyR; rw [if_pos h]
  unfold rulesOf
  rw [ht]
  by_cases h2 : s.size = 12
  · rw [if_pos ⟨tidy_ok h, h2⟩, if_pos ⟨h, h2⟩]
    exact tidy_ruled (fits0 (came_nums h2)) h.2
  · rw [if_neg (fun c => h2 c.2), if_neg (fun c => h2 c.2)]
theorem sameFind_none {a b : List Rule} (h : SameOk a b) (ho : (sameFind a b).2 = false) (s : ByteArray) : rulesOf a s = rulesOf b s := by
  rw [sameFind_pos h, fres_snd] at ho
  unfold rulesOf
  by_cases h2 : s.size = 12
  · rw [if_pos ⟨h.1, h2⟩, if_pos ⟨h.2.1, h2⟩]
    have := none_same h.1 h.2.1 (by simpa using ho) (came_nums h2)
    simp [diffB] at this
    exact Prod.ext this.1 this.2
  · rw [if_neg (fun c => h2 c.2), if_neg (fun c => h2 c.2)]
theorem sameFind_some {a b : List Rule} (h : SameOk a b) (ho : (sameFind a b).2 = true) : ∃ cs, (gen a b 12 []).find? (diffB a b) = some cs ∧ (sameFind a b).1 = strOfNums cs := by
  rw [sameFind_pos h] at ho ⊢
  rw [fres_snd] at ho
  obtain ⟨cs, hc⟩ := Option.isSome_iff_exists.1 ho
  exact ⟨cs, hc, by unfold fres; rw [hc]⟩
theorem sameFind_diff {a b : List Rule} (h : SameOk a b) (ho : (sameFind a b).2 = true) : rulesOf a (sameFind a b).1 ≠ rulesOf b (sameFind a b).1 := by
  obtain ⟨cs, hc, he⟩ := sameFind_some h ho
  obtain ⟨hd, hm⟩ := some_diff hc
  rw [he]
  have hs : (strOfNums cs).size = 12 := by rw [strOfNums_size]; exact hm.1
  unfold rulesOf
  rw [if_pos ⟨h.1, hs⟩, if_pos ⟨h.2.1, hs⟩, nums_str hm.2]
  simp [diffB] at hd
  intro e
  rw [e] at hd
  simp at hd
theorem less_lex : ∀ {us vs : List UInt8}, lexLe (us.map fun b => (b.toNat : Int)) (vs.map fun b => (b.toNat : Int)) → Op.bytesLess us vs = true ∨ us = vs
  | [], [], _ => .inr rfl
  | [], _ :: _, _ => .inl rfl
  | _ :: _, [], h => h.elim
  | u :: us, v :: vs, h => by
    rcases h with h | ⟨h1, h2⟩
    · left
      have h' : (u.toNat : Int) < v.toNat := h
      have : u < v := by rw [UInt8.lt_iff_toNat_lt]; omega
      simp [Op.bytesLess, this]
    · have h' : (u.toNat : Int) = v.toNat := h1
      have e : u = v := UInt8.toNat_inj.1 (by omega)
      subst e
      rcases less_lex h2 with h3 | h3
      · left; simp [Op.bytesLess, h3]
      · right; rw [h3]
theorem sameFind_first {a b : List Rule} (h : SameOk a b) (ho : (sameFind a b).2 = true) {s : ByteArray} (hd : rulesOf a s ≠ rulesOf b s) : (Op.bytesLess (sameFind a b).1.toList s.toList || (sameFind a b).1.toList == s.toList) = true := by
  obtain ⟨cs, hc, he⟩ := sameFind_some h ho
  obtain ⟨_, hm⟩ := some_diff hc
  have h2 : s.size = 12 := by
    refine Decidable.byContradiction fun h2 => hd ?_
    unfold rulesOf
    rw [if_neg (fun c => h2 c.2), if_neg (fun c => h2 c.2)]
  have hdb : diffB a b (numsOf s) = true := by
    unfold rulesOf at hd
    rw [if_pos ⟨h.1, h2⟩, if_pos ⟨h.2.1, h2⟩] at hd
    simp [diffB]
    by_cases h1 : (ruledL a (numsOf s)).1 = (ruledL b (numsOf s)).1
    · right
      exact fun h2 => hd (Prod.ext h1 h2)
    · left; exact h1
  have hl := found_first h.1 h.2.1 hc (came_nums h2) hdb
  rw [he, ByteArray.toList_eq, ByteArray.toList_eq]
  rw [← nums_str hm.2] at hl
  rcases less_lex hl with h3 | h3
  · rw [h3]; rfl
  · rw [h3]; simp
theorem leqStr {a b : ByteArray} {x y : Operand} {w : World} {K : Bool → World → Prop} (hk : K (Op.bytesLess a.toList b.toList || a.toList == b.toList) w) :
    RunT (.o (.lf .b)) P0 (do eqGuard .leq 9 x y (.string a) (.string b); binOp .leq 9 (.string a) (.string b)) w K :=
  ⟨_, w, by rw [show eqGuard .leq 9 x y (.string a) (.string b) = pure () from rfl]; simp [binOp, Op.stringOp, Rs.emb, Ty.emb, Lf.emb], hk⟩
section
variable {w : World} {s : Sl} {l : List Rule}
theorem impl.RulesOf.c {came : ByteArray} {K : Int × Int × Unit → World → Prop} (h : SlR kRule w s l) (hk : ∀ w', Below w.heap.size w w' → K ((rulesOf l came).1, (rulesOf l came).2, ()) w') :
    CallT (.n [(.lf (.i .i64)), (.lf (.i .i64))]) P0 9 [s.v, .string came] w K := by
  refine impl.RulesOf.ok (impl.RulesOk.c h fun w1 b1 => ?_)
  unfold rulesOf at hk
  refine And.intro (fun h1 => ?_) (fun h1 => And.intro (fun h2 => ?_) (fun h2 => ?_))
  · simp only [Bool.not_eq_true', decide_eq_false_iff_not] at h1
    rw [if_neg (fun c => h1 c.1)] at hk
    exact hk _ b1
  · simp only [bne_iff_ne, ne_eq] at h2
    rw [if_neg (fun c => h2 (by omega))] at hk
    exact hk _ b1
  · simp only [Bool.not_eq_false', decide_eq_true_eq] at h1
    have h3 : came.size = 12 := by simp at h2; omega
    rw [if_pos ⟨h1, h3⟩] at hk
    have := impl.ruled.c (K := fun t16 w2 => K (t16.1, (t16.2.1, ())) w2) (h.below b1) h1 (came_nums h3) fun w2 b2 => hk w2 (b1.trans (b2.mono b1.size))
    rw [str_nums] at this
    exact this
end
theorem neqRule {x y : Rule} {xo yo : Operand} {w : World} {K : Bool → World → Prop} (hk : K (decide (x ≠ y)) w) :
    RunT (.o (.lf .b)) P0 (do eqGuard .neq 40 xo yo (.agg (Tup.cells (R 5 (.i .i64)) x.t).toArray) (.agg (Tup.cells (R 5 (.i .i64)) y.t).toArray); binOp .neq 40 (.agg (Tup.cells (R 5 (.i .i64)) x.t).toArray) (.agg (Tup.cells (R 5 (.i .i64)) y.t).toArray)) w K := by
  rcases x with ⟨a0, a1, a2, a3, a4⟩
  rcases y with ⟨b0, b1, b2, b3, b4⟩
  refine ⟨_, w, ?_, hk⟩
  show (do eqGuard .neq 40 xo yo (.agg #[.int .i64 a0, .int .i64 a1, .int .i64 a2, .int .i64 a3, .int .i64 a4]) (.agg #[.int .i64 b0, .int .i64 b1, .int .i64 b2, .int .i64 b3, .int .i64 b4]); binOp .neq 40 (.agg #[.int .i64 a0, .int .i64 a1, .int .i64 a2, .int .i64 a3, .int .i64 a4]) (.agg #[.int .i64 b0, .int .i64 b1, .int .i64 b2, .int .i64 b3, .int .i64 b4]) : Sem Value).run P0 w = _
  have hg := run_eqGuard_agg (P := P0) w .neq 40 xo yo #[.int .i64 a0, .int .i64 a1, .int .i64 a2, .int .i64 a3, .int .i64 a4] #[.int .i64 b0, .int .i64 b1, .int .i64 b2, .int .i64 b3, .int .i64 b4] (by kernel_rfl)
  have ht : P0.underlying 40 = some (.struct (P0.fieldsOf 40)) := by kernel_rfl
  have hf : (P0.fieldsOf 40).toList = [Field.mk "At" 3 0 false "" "" 0, Field.mk "Op" 3 1 false "" "" 8, Field.mk "Num" 3 2 false "" "" 16, Field.mk "Verdict" 3 3 false "" "" 24, Field.mk "Key" 3 4 false "" "" 32] := by kernel_rfl
  have hi : P0.underlying 3 = some (.int .i64) := by kernel_rfl
  have hag : aggT P0 3 = some false := by kernel_rfl
  have hp : ∀ (cs : Array Value) (j : Nat) (h : j < cs.size), (part 3 cs j).run P0 w = .ok cs[j] w := fun cs j h => by simp [part, run_isAgg hag, Array.getElem?_eq_getElem h]
  simp only [Sem.run_bind, hg, Result.andThen_ok, run_neq_struct, run_equalIn_agg (P := P0) w 9999 40 _ _ ht (by kernel_rfl), hf]
  by_cases e0 : a0 = b0 <;> by_cases e1 : a1 = b1 <;> by_cases e2 : a2 = b2 <;> by_cases e3 : a3 = b3 <;> by_cases e4 : a4 = b4 <;>
    simp [Op.eqFields, hp, run_equalIn_int (P := P0) w 9998 3 .i64 .i64 _ _ hi, e0, e1, e2, e3, e4, Rs.emb, Ty.emb, Lf.emb]
section
variable {w : World} {a b : Sl} {xs ys : List Rule}
end
end Go.Proofs.YtdlnoabihfnmmaaGreat.V

/- Contracts: the draws of the flow's laws, and what the laws use. -/
namespace Go.Proofs.YtdlnoabihfnmmaaGreat.V
open Go Go.RowKit
set_option linter.unusedVariables false
set_option linter.unusedSimpArgs false
section
variable {w : World} {a b : Sl} {xs ys : List Int}
end
theorem u8_all {bs : List Int} (h : ∀ x ∈ bs, (Lit.int .u8 x).wf = true) : ∀ x ∈ bs, 0 ≤ x ∧ x ≤ 255 := fun x hx => by
  have := h x hx
  simp only [Lit.wf, Bool.and_eq_true, decide_eq_true_eq] at this
  exact this
section
variable {w : World} {code : Sl} {bs : List Int}
/-- What a draw of a program begins with. -/
theorem prog0 {Kp : Option Addr → World → Prop} (h : SlR kU8 w code bs) (hb : ∀ x ∈ bs, 0 ≤ x ∧ x ≤ 255)
    (hk : ∀ w1, Below w.heap.size w w1 → RdS w.heap.size w.heap.size 0 w1 → Kp (some ⟨w.heap.size, 0, none⟩) w1) : CallT (.o (.lf .p)) P0 11 [code.v] w Kp := spec.l20Open.c h hb hk
end
end Go.Proofs.YtdlnoabihfnmmaaGreat.V

/- The law SameFirst: of all bytes that are told apart the first are found. No condition. -/
namespace Go.Proofs.YtdlnoabihfnmmaaGreat.V
open Go Go.RowKit
set_option linter.unusedVariables false
set_option linter.unusedSimpArgs false
theorem sameFind_yes {a b : List Rule} (h : (sameFind a b).2 = true) : SameOk a b := by
  refine Classical.byContradiction fun hn => ?_
  unfold sameFind at h
  rw [if_neg hn] at h
  simp at h
set_option maxHeartbeats 1000000 in
theorem laws.FnSameFirst.pure {w : World} (s : Sl) (bs : List Int) (h : SlR kU8 w s bs ∧ ∀ x ∈ bs, (Lit.int .u8 x).wf = true) (s2 : Sl) (bs2 : List Int) (h2 : SlR kU8 w s2 bs2 ∧ ∀ x ∈ bs2, (Lit.int .u8 x).wf = true) :
    CallT (.o (.lf .b)) P0 3 [s.v, s2.v] w fun b w' => b = true ∧ Below w.heap.size w w' := by
  refine laws.FnSameFirst.ok ⟨fun w' => w' = w, And.intro (fun _ => ⟨rfl, Below.refl _ _⟩) (fun _ => And.intro (fun _ => ⟨rfl, Below.refl _ _⟩) (fun _ => rfl)), ?_⟩
  rintro w0 rfl _
  refine spec.DrawSameFind.c h.1 (u8_all h.2) fun ra rb w1 xs ys b1 ha hb hx3 hy6 => ?_
  refine impl.SameFind.c ha hb fun w2 b2' => ?_
  have b2 := b1.trans (b2'.mono b1.size)
  have ha2 := ha.below b2'; have hb2 := hb.below b2'
  refine spec.SameFind.c ha2 hb2 fun w3 b3' => ?_
  have b3 := b2.trans (b3'.mono b2.size)
  have ha3 := ha2.below b3'; have hb3 := hb2.below b3'
  refine ⟨fun t w' => w' = w3 ∧ (t = false → (sameFind xs ys).2 = true), And.intro (fun hc => by simp at hc) (fun _ => And.intro (fun hc => by simp at hc) (fun _ => ⟨rfl, fun h => by simpa using h⟩)), ?_⟩
  rintro t w4 ⟨rfl, ht⟩ _
  refine And.intro (fun _ => And.intro (fun _ => ⟨by simp, b3⟩) (fun hc => by simp at hc)) (fun h0 => ?_)
  have ho := ht h0
  have hok := sameFind_yes ho
  refine spec.DrawRulesOf.c (h2.1.below b3) (u8_all h2.2) fun rc came w6 b6' => ?_
  have b6 := b3.trans (b6'.mono b3.size)
  have ha6 := ha3.below b6'; have hb6 := hb3.below b6'
  refine impl.RulesOf.c ha6 fun w8 b8' => ?_
  refine impl.RulesOf.c (hb6.below b8') fun w9 b9' => ?_
  have b9 := b6.trans ((b8'.trans (b9'.mono b8'.size)).mono b6.size)
  refine And.intro (fun e1 => And.intro (fun e2 => ⟨rfl, b9⟩) (fun e2 => ?_)) (fun e1 => ?_)
  · exact leqStr ⟨sameFind_first hok ho (fun e => by rw [e] at e2; simp at e2), b9⟩
  · exact leqStr ⟨sameFind_first hok ho (fun e => by rw [e] at e1; simp at e1), b9⟩
end Go.Proofs.YtdlnoabihfnmmaaGreat.V

/- The row of FnSameFirst: it returns true and leaves its input as it was, whatever the input. PRINTED by row.py out of the law of the same name. -/
namespace Go.Proofs.YtdlnoabihfnmmaaGreat.V
open Go Go.RowKit Go.ChangeShapes Go.WideShapes Go.ChangeAt
open Go.ChangeMaps (open_string shut_string)
set_option linter.unusedVariables false
set_option maxRecDepth 100000 in
theorem FnSameFirst.lifted (os : Os) (started : os.Started) (H : Type) (enc : TypeId × Value → H) :
    ReturnsInHanded {} Tryz.checked os 3 .any (Rows.fnSameFirstSpec.pre6 enc P0 Tryz.f3 Rows.fnSameFirstRow.domain false) (Rows.fnSameFirstSpec.post enc P0 Tryz.f3 false true false false) := by
  refine returnsInHanded_of_change_sized (C := Tryz.checked) own started (by kernel_rfl) Tryz.func3
    (ChangeSpec.witness6 (enc := enc) (C := Tryz.checked) false ⟨#[], #[.slice none 0 0, .slice none 0 0], []⟩ 8 (by kernel_rfl) (by kernel_rfl) (by kernel_rfl) (by kernel_rfl)) ?_
  intro W base args ds gs before hval0 hW hcnd hsz0 _
  have hsz : (DataW.weightsEach P0 (Tryz.f3.params.toList ++ Rows.fnSameFirstSpec.plain.varTypes P0) (ds ++ gs)).all (· ≤ reachBytes) = true := hsz0
  have hval : ∀ (j : Nat) t v, Tryz.f3.params[j]? = some t → args[j]? = some v → Value.okWide P0 W .any base t v := hval0
  have hW' := hW
  obtain ⟨p, q, hA0, hV, rfl, hfz, hnd⟩ := hW
  have hA : DataW.TrodAll enc P0 W 0 (fun _ => true) true Tryz.f3.params.toList args.toList ds p := hA0
  rw [Tryz.params3] at hA hval hsz
  obtain ⟨v0, vs0, d0, ds0, p0, q0, hargs, rfl, rfl, h0, r0⟩ := trodAll_cons hA
  obtain ⟨v1, vs1, d1, ds1, p1, q1, rfl, rfl, rfl, h1, r1⟩ := trodAll_cons r0
  obtain ⟨rfl, rfl, rfl⟩ := trodAll_nil r1
  obtain rfl : args = #[v0, v1] := by cases args; simp_all
  obtain ⟨rfl, rfl⟩ := trodVars_none hV
  obtain ⟨a0, len0, cap0, rfl⟩ := okWide_slice Tryz.underlying22 (hval 0 22 v0 rfl rfl)
  have k0 := h0
  have lt0 : ∀ x ∈ p0, x.block < W.heap.size := by obtain ⟨m, hm⟩ := k0; exact DataW.trod_lt m _ _ _ hm
  obtain ⟨l0, w0⟩ : ∃ l, SlR kU8 W ⟨a0, len0, cap0⟩ l ∧ ∀ x ∈ l, (Lit.int .u8 x).wf = true := by
    obtain ⟨fuel, hf⟩ := h0
    exact open_nums (e := 5) Tryz.underlying22 Tryz.underlying5 (by kernel_rfl) hf
  obtain ⟨a1, len1, cap1, rfl⟩ := okWide_slice Tryz.underlying22 (hval 1 22 v1 rfl rfl)
  have k1 := h1
  have lt1 : ∀ x ∈ p1, x.block < W.heap.size := by obtain ⟨m, hm⟩ := k1; exact DataW.trod_lt m _ _ _ hm
  obtain ⟨l1, w1⟩ : ∃ l, SlR kU8 W ⟨a1, len1, cap1⟩ l ∧ ∀ x ∈ l, (Lit.int .u8 x).wf = true := by
    obtain ⟨fuel, hf⟩ := h1
    exact open_nums (e := 5) Tryz.underlying22 Tryz.underlying5 (by kernel_rfl) hf
  clear hA0 hval0 hsz0 hsz
  refine Calls.mono (laws.FnSameFirst.pure (w := W) ⟨a0, len0, cap0⟩ l0 w0 ⟨a1, len1, cap1⟩ l1 w1) fun e W' he => ?_
  obtain ⟨x, he, hx, bel⟩ := he
  subst hx
  subst he
  exact ⟨_, rfl, _, _, _, [], _, [], hW', trodAll_mk1 (shut_bool Tryz.underlying4 _), (trodAll_cons_mk (Below.trod laidOut (by kernel_rfl) (of_decide_eq_true (by kernel_rfl)) k0 bel lt0) (trodAll_cons_mk (Below.trod laidOut (by kernel_rfl) (of_decide_eq_true (by kernel_rfl)) k1 bel lt1) trodAll_mk0)), rfl, bel.frame _, fun h => by cases h⟩
theorem FnSameFirst.over : Rows.fnSameFirstRow.holds Tryz.pinned (OpenSpec.ofChange Rows.fnSameFirstSpec) :=
  OpenClaim.holds_of_wide 3 Tryz.f3 rfl rfl rfl rfl rfl rfl rfl ⟨rfl, rfl, rfl, rfl, rfl⟩ rfl rfl rfl rfl rfl (by kernel_rfl) Tryz.func3 (by kernel_rfl)
    (of_decide_eq_true (by kernel_rfl)) (by unfold Func.isWrapper; first | (rw [if_pos (by decide +kernel)]; kernel_rfl) | (rw [if_neg (by decide +kernel)]; exact ⟨rfl, rfl⟩))
    (fun os started H enc _ => FnSameFirst.lifted os started H enc)
end Go.Proofs.YtdlnoabihfnmmaaGreat.V
namespace Go.Proofs.YtdlnoabihfnmmaaGreat
/-- The row, under a short name, for the claim. -/
theorem fnSameFirst_holds : Rows.FnSameFirstSaid := V.FnSameFirst.over
#print axioms fnSameFirst_holds
end Go.Proofs.YtdlnoabihfnmmaaGreat
