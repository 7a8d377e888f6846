/- Contracts: the draws of programs. -/
import Derived.Test.YtdgnojjemlfhdaaFI
namespace Go.Proofs.Ytdgnojjemlfhdaa.V
open Go Go.RowKit
set_option linter.unusedVariables false
set_option linter.unusedSimpArgs false
theorem grown_newO {w w1 w2 : World} {row row2 : Option Nat} (h : w.grownBy w1 row) (h2 : w1.grownBy w2 row2) (hb : ∀ b, row2 = some b → w.heap.size ≤ b) : w.grownBy w2 row :=
  ⟨h2.os.trans h.os, h2.tape.trans h.tape, h2.output.trans h.output, Nat.le_trans h.size h2.size, fun k hk hne => (h2.block k (Nat.lt_of_lt_of_le hk h.size) (fun e => by have := hb k e.symm; omega)).trans (h.block k hk hne)⟩
section
variable {B br m : Nat} {w : World}
theorem OwnS.keptBr {α : Type} {k : Kd α} {t : TypeId} {B' : Nat} {w1 w2 : World} {s : Sl} {xs : List α} (ho : OwnS k t B' w1 s xs) (hg : w1.grownBy w2 (some br)) (h : br < B') : OwnS k t B' w2 s xs :=
  ho.kept hg (fun b hb e => by simp only [Option.some.injEq] at hb; have := (ho.blk e).1; omega)
theorem RdS.keptO {α : Type} {k : Kd α} {t : TypeId} {B' : Nat} {w1 w2 : World} {s : Sl} {xs : List α} (h : RdS B br m w1) (ho : OwnS k t B' w1 s xs) (hg : w1.grownBy w2 (Value.slice s.a s.n s.c).ownBlock) (hb : br < B') : RdS B br m w2 :=
  h.kept hg (fun b e => by have := (ho.blk e).1; omega)
def MkI (B br m : Nat) (w : World) (t : Int) (out : Sl) (w' : World) : Prop :=
  ∃ ys, OwnS kIns 51 w.heap.size w' out ys ∧ 4 ≤ ys.length ∧ (ys.length : Int) ≤ t + 8 ∧ RdS B br (m + 1 + 8 * (ys.length - 4)) w' ∧ w.grownBy w' (some br)
set_option maxHeartbeats 1000000 in
theorem spec.l20Make.c {K : Sl → World → Prop} (h : RdS B br m w) (hm : m ≤ 800000000) (hk : ∀ r w' ys, w.grownBy w' (some br) → RdS B br (m + 200) w' → OwnS kIns 51 w.heap.size w' r ys → 1 ≤ ys.length → ys.length ≤ 40 → K r w') :
    CallT (.o (.lf .sl)) P0 91 [.pointer (some ⟨br, 0, none⟩)] w K := by
  have hlt := h.lt
  refine spec.l20Make.ok (nw fun w1 b1 s1 c1 => ?_)
  have hl : OwnS kS 9 w.heap.size w1 ⟨some ⟨w.heap.size, 0, none⟩, 4, 4⟩ [_, _, _, _] := OwnS.lit (Nat.le_refl _) c1 rfl rfl (by simp [maxLen])
  refine spec.l20Read.c (l := ⟨some ⟨w.heap.size, 0, none⟩, 4, 4⟩) hl.read (by simp) (by decide) fun r0 w2 ys0 b2 ho2 hl2 => ?_
  have g2 : w.grownBy w2 (some br) := grown_trans (grown_any b1) (grown_any b2)
  refine spec.l20Rd.pick.c ((h.below b1).below b2) (by omega) (by omega) fun t10 w3 p0 p1 g3 r3 => ?_
  have hN : IntKind.wrap .i64 (IntKind.wrap .i64 (4 + t10) + 4) = t10 + 8 := by rw [i64_of (n := 4 + t10) (by omega) (by omega), i64_of (by omega) (by omega)]; omega
  simp only [List.length_cons, List.length_nil] at hl2
  refine ⟨MkI B br m w t10, fun out _ => 40 - out.n, ⟨ys0, (ho2.low b1.size).keptBr g3 hlt, by omega, by omega, r3.more (by omega), grown_trans g2 g3⟩, ?_⟩
  rintro out w4 ⟨ys, ho, hl4, hln, hr, hg⟩ _
  have hn := ho.len
  rw [hN]
  have app : ∀ {w5 : World} {K' : Sl → World → Prop} (y : Ins) (p : Nat), w4.grownBy w5 (some br) → RdS B br p w5 →
      (∀ o' w7, OwnS kIns 51 w.heap.size w7 o' (ys ++ [y]) → RdS B br p w7 → w.grownBy w7 (some br) → K' o' w7) →
      Nw y.cs 51 w5 fun a w6 => RunT (.o (.lf .sl)) P0 (Builtin.append_ #[33, 33] 33 #[.slice out.a out.n out.c, .slice (some a) 1 1]) w6 K' := by
    intro w5 K' y p g5 r5 hk'
    have o5 := ho.keptBr g5 hlt
    have G5 := grown_trans hg g5
    refine ap1 elIns o5 y rfl (by omega) (by omega) G5.size fun o' w6 o6 g6 _ => ?_
    exact hk' o' w6 o6 (r5.keptO o5 g6 hlt) (grown_newO G5 g6 (fun b hb => (o5.blk hb).1))
  refine And.intro (fun hlt' => ?_) (fun hge => ?_)
  · simp only [decide_eq_true_eq] at hlt'
    have fin : ∀ {w5 : World} (y : Ins), w4.grownBy w5 (some br) → RdS B br (m + 1 + 8 * (ys.length - 4) + 8) w5 →
        Nw y.cs 51 w5 fun a w6 => RunT (.o (.lf .sl)) P0 (Builtin.append_ #[33, 33] 33 #[.slice out.a out.n out.c, .slice (some a) 1 1]) w6 fun o' w7 => MkI B br m w t10 o' w7 ∧ 40 - o'.n < 40 - out.n := by
      intro w5 y g5 r5
      refine app y _ g5 r5 fun o' w7 o7 r7 g7 => ?_
      have hl7 := o7.len
      simp only [List.length_append, List.length_cons, List.length_nil] at hl7
      exact ⟨⟨ys ++ [y], o7, by simp; omega, by simp; omega, r7.more (by simp; omega), g7⟩, by omega⟩
    refine spec.l20Rd.pick.c hr (by omega) (by omega) fun t23 w5 q0 q1 g5 r5 => ?_
    refine ⟨fun _ w' => w' = w5, And.intro (fun _ => rfl) (fun _ => rfl), ?_⟩
    rintro t29 w6 rfl _
    refine And.intro (fun _ => ?_) (fun _ => ?_)
    · refine spec.l20Rd.pick.c r5 (by omega) (by omega) fun t33 w7 _ _ g7 r7 => ?_
      refine oneLit (xs := [0, 6, 7, 8]) r7 (by omega) rfl rfl (by decide) fun t37 w8 _ g8 r8 => ?_
      refine spec.l20Imm.c r8 (by omega) fun t39 w9 g9 r9 => ?_
      rw [i64_of (n := t10 + 8 - ((out.n : Nat) : Int)) (by omega) (by omega)]
      refine spec.l20Rd.pick.c r9 (by omega) (by omega) fun t42 w10 _ _ g10 r10 => ?_
      have g410 : w4.grownBy w10 (some br) := grown_trans (grown_trans (grown_trans (grown_trans g5 g7) g8) g9) g10
      refine nwStIns (x := ⟨IntKind.wrap .i64 (12 + t33), t37, -1, t42, t39, 0⟩) fun w11 b11 s11 c11 => ?_
      refine spec.l20Rd.pick.c (r10.below b11) (by omega) (by omega) fun t45 w12 _ _ g12 r12 => ?_
      have c12 := keepB c11 g12 (by have := g410.size; have := hr.lt; omega)
      have g412 : w4.grownBy w12 (some br) := grown_trans (grown_trans g410 (grown_any b11)) g12
      have hs10 := g410.size
      have hbr4 := hr.lt
      refine And.intro (fun _ => ?_) (fun _ => ?_)
      · refine oneLit (xs := [0, 6, 7, 8]) r12 (by omega) rfl rfl (by decide) fun t49 w13 _ g13 r13 => ?_
        have c13 := keepB c12 g13 (by omega)
        refine stB c13 rfl (by simp [Ins.cs]) fun w14 g14 s14 c14 => ?_
        refine stB c14 rfl (by simp [Ins.cs]) fun w15 g15 s15 c15 => ?_
        have G15 : w4.grownBy w15 (some br) := grown_new (grown_new (grown_trans g412 g13) g14 (by omega)) g15 (by omega)
        have r15 := (r13.kept g14 (fun b hb => by simp only [Option.some.injEq] at hb; omega)).kept g15 (fun b hb => by simp only [Option.some.injEq] at hb; omega)
        have c15' : w15.heap[w10.heap.size]? = some (.cells (Ins.cs ⟨IntKind.wrap .i64 (12 + t33), t37, t49, t42, 0, 0⟩) 51 (0, 0)) := c15
        refine ldAB (x := Ins.t ⟨IntKind.wrap .i64 (12 + t33), t37, t49, t42, 0, 0⟩) c15' rfl ?_
        exact fin ⟨IntKind.wrap .i64 (12 + t33), t37, t49, t42, 0, 0⟩ G15 (r15.more (by omega))
      · refine ldAB (x := Ins.t ⟨IntKind.wrap .i64 (12 + t33), t37, -1, t42, t39, 0⟩) c12 rfl ?_
        exact fin ⟨IntKind.wrap .i64 (12 + t33), t37, -1, t42, t39, 0⟩ g412 (r12.more (by omega))
    · refine And.intro (fun _ => ?_) (fun _ => And.intro (fun _ => ?_) (fun _ => ?_))
      · refine oneLit (xs := [0, 6, 7, 8]) r5 (by omega) rfl rfl (by decide) fun t61 w7 _ g7 r7 => ?_
        refine oneLit (xs := [-4, -8, -2]) r7 (by omega) rfl rfl (by decide) fun t64 w8 _ g8 r8 => ?_
        refine oneLit (xs := [1, 2]) r8 (by omega) rfl rfl (by decide) fun t67 w9 _ g9 r9 => ?_
        exact fin ⟨18, 10, t61, t64, 0, t67⟩ (grown_trans (grown_trans (grown_trans g5 g7) g8) g9) (r9.more (by omega))
      · refine oneLit (xs := [0, 6, 8]) r5 (by omega) rfl rfl (by decide) fun t76 w7 _ g7 r7 => ?_
        refine oneLit (xs := [1, 10, 1]) r7 (by omega) rfl rfl (by decide) fun t79 w8 _ g8 r8 => ?_
        refine oneLit (xs := [0, 3, 8]) r8 (by omega) rfl rfl (by decide) fun t82 w9 _ g9 r9 => ?_
        refine oneLit (xs := [1, 2, 4]) r9 (by omega) rfl rfl (by decide) fun t85 w10 _ g10 r10 => ?_
        exact fin ⟨17, t76, t79, t82, 0, t85⟩ (grown_trans (grown_trans (grown_trans (grown_trans g5 g7) g8) g9) g10) (r10.more (by omega))
      · refine spec.l20Alu.c r5 (by omega) fun x w7 g7 r7 => ?_
        exact fin x (grown_trans g5 g7) (r7.more (by omega))
  · refine app ⟨20, 0, -1, 0, 0, 0⟩ _ (grown_refl _ _) hr fun o' w7 o7 r7 g7 => ?_
    exact hk o' w7 _ g7 (r7.more (by omega)) o7 (by simp) (by simp; omega)
/-- A part of a row. -/
theorem slcR {α : Type} {k : Kd α} {P : Program} {tS e : TypeId} (hu : P.underlying tS = some (.slice e)) (hs : szOf P e = some k.ls.length) {w : World} {s : Sl} {xs : List α} (h : SlR k w s xs) {lo hi mx : Option Int} {l h' m : Nat}
    (hlo : lo.getD 0 = l) (hhi : hi.getD s.n = h') (hmx : mx.getD s.c = m) (hm2 : mx.isSome = true → hi.isSome = true) (h1 : l ≤ h') (h2 : h' ≤ m) (h3 : m ≤ s.c) (h4 : h' ≤ s.n) {K : Sl → World → Prop}
    (hk : ∀ r : Sl, r.n = h' - l → r.c = m - l → SlR k w r ((xs.take h').drop l) → (∀ b, r.bk = some b → s.bk = some b) → K r w) :
    RunT (.o (.lf .sl)) P (Instr.sliceAt tS s.v (lo.map (.int .i64)) (hi.map (.int .i64)) (mx.map (.int .i64))) w K := by
  have hrun : (Instr.sliceAt tS s.v (lo.map (.int .i64)) (hi.map (.int .i64)) (mx.map (.int .i64))).run P w = .ok (.slice (if m = l then s.a else s.a.map (·.add (l * k.ls.length))) (h' - l) (m - l)) w := by
    have ho : ∀ (x : Option Int) (d a : Nat), x.getD (d : Int) = (a : Int) → (x = none ∧ a = d) ∨ x = some (a : Int) := by
      intro x d a hx
      cases x with
      | none => left; simp only [Option.getD_none] at hx; exact ⟨rfl, by omega⟩
      | some y => right; simp only [Option.getD_some] at hx; rw [hx]
    rcases ho lo 0 l hlo with ⟨rfl, rfl⟩ | rfl <;> rcases ho hi s.n h' hhi with ⟨rfl, rfl⟩ | rfl <;> rcases ho mx s.c m hmx with ⟨rfl, rfl⟩ | rfl <;>
      first
      | (have hx := hm2 rfl; simp at hx; done)
      | simp [Instr.sliceAt, Instr.slice, Sl.v, underlying, hu, Instr.sliceBounds, Instr.sliceBound, asIntOf, run_sizeOf hs, h1, h2, h3, h4]
  refine ⟨⟨if m = l then s.a else s.a.map (·.add (l * k.ls.length)), h' - l, m - l⟩, w, hrun, hk _ rfl rfl ?_ ?_⟩
  · have hn := h.1
    refine ⟨by rw [List.length_drop, List.length_take]; simp only; omega, by simp only; omega, by have := h.2.2.1; simp only; omega, ?_⟩
    rcases h.2.2.2 with h0 | ⟨b, o, ha, hat⟩
    · left; rw [h0]; simp
    · by_cases hml : m = l
      · left
        apply List.eq_nil_of_length_eq_zero
        rw [List.length_drop, List.length_take]; omega
      · refine .inr ⟨b, o + l * k.ls.length, ?_, fun i x hx => ?_⟩
        · simp only
          rw [if_neg hml, ha, Option.map_some, add_mk]
        · rw [List.getElem?_drop, List.getElem?_take] at hx
          split at hx
          · have := hat _ _ hx
            rw [Nat.add_mul, ← Nat.add_assoc] at this
            exact this
          · simp at hx
  · intro b hb
    simp only [Sl.bk] at hb ⊢
    split at hb
    · exact hb
    · cases hsa : s.a with
      | none => rw [hsa] at hb; simp at hb
      | some a =>
        rw [hsa] at hb
        simp only [Option.map_some, Option.some.injEq] at hb ⊢
        rw [← hb]
        unfold Addr.add
        split <;> rfl
theorem spec.l20Open.c {code : Sl} {bs : List Int} {K : Option Addr → World → Prop} (h : SlR kU8 w code bs) (hb : ∀ x ∈ bs, 0 ≤ x ∧ x ≤ 255) (hk : ∀ w', Below w.heap.size w w' → RdS w.heap.size w.heap.size 0 w' → K (some ⟨w.heap.size, 0, none⟩) w') :
    CallT (.o (.lf .p)) P0 72 [code.v] w K := by
  have hn := h.len
  have blk : ∀ {s : Sl} {xs : List Int}, SlR kU8 w s xs → xs ≠ [] → ∀ b o, s.a = some ⟨b, o, none⟩ → b < w.heap.size := by
    intro s xs hs hne b o ha
    rcases hs.2.2.2 with h0 | ⟨b', o', ha', hat⟩
    · exact absurd h0 hne
    · rw [ha] at ha'
      simp only [Option.some.injEq, Addr.mk.injEq] at ha'
      obtain ⟨x, hx⟩ := get_some (l := xs) (k := 0) (List.length_pos_iff.2 hne)
      have := hat 0 x hx 0 (.int .u8 x) rfl
      have := World.block_lt_of_cell? w _ this
      simp only at this; omega
  have fin : ∀ {s : Sl} {xs : List Int}, SlR kU8 w s xs → (∀ x ∈ xs, 0 ≤ x ∧ x ≤ 255) → Nw #[s.v, .int .i64 0] 98 w fun a w1 => K (some a) w1 := by
    intro s xs hs hx
    exact nw fun w1 b1 s1 c1 => hk w1 b1 ⟨s, xs, 0, c1, hs.below b1, blk hs, Nat.le_refl _, hx, by omega⟩
  refine spec.l20Open.ok (And.intro (fun hgt => ?_) (fun _ => fin h hb))
  simp only [decide_eq_true_eq] at hgt
  refine slcR (k := kU8) (e := 5) (by kernel_rfl) (by kernel_rfl) h (lo := none) (hi := some 2000) (mx := none) (l := 0) (h' := 2000) (m := code.c) rfl rfl rfl (by simp) (by omega) (by have := h.2.1; omega) (by omega) (by omega) fun r _ _ hr _ => ?_
  refine fin hr fun x hx => hb x (List.mem_of_mem_take (by simpa using hx))
end
end Go.Proofs.Ytdgnojjemlfhdaa.V
