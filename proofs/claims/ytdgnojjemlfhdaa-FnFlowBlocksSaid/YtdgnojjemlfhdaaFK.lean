/- Contracts: a drawn program, and the draws of the flow's laws. -/
import Derived.Test.YtdgnojjemlfhdaaFJ
namespace Go.Proofs.Ytdgnojjemlfhdaa.V
open Go Go.RowKit
set_option linter.unusedVariables false
set_option linter.unusedSimpArgs false
/-- What may become of the world in a region that appends to rows of its own beside a draw. -/
structure SpD (H br : Nat) (R : World → Prop) (a b : World) : Prop where
  os : b.os = a.os
  tape : b.tape = a.tape
  output : b.output = a.output
  size : a.heap.size ≤ b.heap.size
  low : ∀ k, k < H → k ≠ br → b.heap[k]? = a.heap[k]?
  ip : Ip H a b
  rd : R a → R b
theorem SpD.refl (H br : Nat) (R : World → Prop) (a : World) : SpD H br R a a := ⟨rfl, rfl, rfl, Nat.le_refl _, fun _ _ _ => rfl, Ip.refl _ _, id⟩
theorem SpD.trans {H br : Nat} {R : World → Prop} {a b c : World} (h1 : SpD H br R a b) (h2 : SpD H br R b c) : SpD H br R a c :=
  ⟨h2.os.trans h1.os, h2.tape.trans h1.tape, h2.output.trans h1.output, Nat.le_trans h1.size h2.size, fun k hk hne => (h2.low k hk hne).trans (h1.low k hk hne), h1.ip.trans h2.ip, fun h => h2.rd (h1.rd h)⟩
theorem SpD.grown {H br : Nat} {R : World → Prop} {a b : World} (h : SpD H br R a b) (hH : H = a.heap.size) : a.grownBy b (some br) :=
  ⟨h.os, h.tape, h.output, h.size, fun k hk hne => h.low k (by omega) (fun e => hne (by rw [e]))⟩
section
variable {B br m : Nat} {w : World}
theorem spD_ok (w : World) : SpOk (SpD w.heap.size br (RdS B br m)) w := by
  refine ⟨fun a => SpD.refl _ _ _ a, fun a b c h1 h2 => h1.trans h2, ?_⟩
  have hb : Below w.heap.size w w.drew := (Below.refl _ _).drew
  exact ⟨rfl, rfl, rfl, Nat.le_refl _, fun k _ _ => rfl, Ip.of_same fun g _ _ => rfl, fun h => h.below hb⟩
/-- A step beside the draw. -/
theorem sk_step {H : Nat} {a b : World} {row : Option Nat} {m1 m2 : Nat} (hg : a.grownBy b row) (hH : H ≤ a.heap.size) (hr : ∀ g, row = some g → H ≤ g) (hi : Ip H a b) (hbr : br < H) : Sk (SpD H br (RdS B br m1)) (RdS B br m2) a b := by
  refine ⟨⟨hg.os, hg.tape, hg.output, hg.size, fun k hk hne => hg.block k (by omega) (fun e => by have := hr k e.symm; omega), hi, fun h => h.kept hg (fun b hb => by have := hr b hb; omega)⟩, fun h => h.kept hg (fun b hb => by have := hr b hb; omega)⟩
theorem sk_below {H : Nat} {a b : World} {m1 m2 : Nat} (hb : Below a.heap.size a b) (hH : H ≤ a.heap.size) (hbr : br < H) : Sk (SpD H br (RdS B br m1)) (RdS B br m2) a b :=
  sk_step (row := none) (grown_of_below hb) hH (by simp) (Ip.of_same fun g _ hg => hb.block g hg) hbr
end
section
variable {α : Type} {k : Kd α} {t : TypeId} {H br n : Nat} {R : World → Prop} {w : World}
/-- Some row of so many elements, owned. -/
def IO (k : Kd α) (t : TypeId) (H n : Nat) (x : Sl) (w : World) : Prop := ∃ zs, zs.length = n ∧ OwnS k t H w x zs
/-- Some row of so many elements, of old memory. -/
def RO (k : Kd α) (H br n : Nat) (x : Sl) (w : World) : Prop := ∃ zs, zs.length = n ∧ SlR k w x zs ∧ ∀ b, x.bk = some b → b < H ∧ b ≠ br
theorem kept_IO (hk : KN k) : Kept (SpD H br R) (IO k t H n) := by
  rintro x a b ⟨zs, hl, ho⟩ hab
  obtain ⟨ys, hyl, hy⟩ := ho.ip hk hab.ip
  exact ⟨ys, by omega, hy⟩
theorem kept_RO : Kept (SpD H br R) (RO k H br n) := by
  rintro x a b ⟨zs, hl, ho, hx⟩ hab
  refine ⟨zs, hl, ⟨ho.1, ho.2.1, ho.2.2.1, ?_⟩, hx⟩
  rcases ho.2.2.2 with h0 | ⟨g, o, ha, hat⟩
  · exact .inl h0
  · refine .inr ⟨g, o, ha, fun i x hi j v hj => ?_⟩
    have h1 := hat i x hi j v hj
    have h2 := hx g (by simp [Sl.bk, ha])
    unfold World.cell? at h1 ⊢
    simp only at h1 ⊢
    rw [hab.low g h2.1 h2.2]; exact h1
end
section
variable {B br m : Nat} {w : World}
def PgJ (B br m : Nat) (w : World) (out : Sl) (w' : World) : Prop := ∃ ys, w.grownBy w' (some br) ∧ RdS B br (m + 210) w' ∧ OwnS kIns 51 w.heap.size w' out ys ∧ 1 ≤ ys.length ∧ ys.length ≤ 40
set_option maxHeartbeats 2000000 in
theorem spec.l20Prog.c {K : Sl → World → Prop} (h : RdS B br m w) (hm : m ≤ 700000000) (hk : ∀ r w' ys, w.grownBy w' (some br) → RdS B br (m + 300) w' → OwnS kIns 51 w.heap.size w' r ys → 1 ≤ ys.length → ys.length ≤ 41 → K r w') :
    CallT (.o (.lf .sl)) P0 73 [.pointer (some ⟨br, 0, none⟩)] w K := by
  have hlt := h.lt
  refine spec.l20Prog.ok (spec.l20Make.c h (by omega) fun r0 w1 ys0 g1 r1 o1 n1 n1' => ?_)
  refine ⟨PgJ B br m w, ?_, ?_⟩
  · refine spec.l20Rd.pick.c r1 (by omega) (by omega) fun t9 w2 _ _ g2 r2 => ?_
    have G2 := grown_trans g1 g2
    refine And.intro (fun _ => ?_) (fun _ => ⟨ys0, G2, r2.more (by omega), o1.keptBr g2 hlt, n1, n1'⟩)
    refine spec.l20Lines.c fun r w3 rows b3 hrows hlen hgood hbk => ?_
    have hrn := hrows.len
    have hH2 := r2.lt
    refine spec.l20Rd.pick.c (r2.below b3) (by omega) (by omega) fun t16 w4 k0 k1 g4 r4 => ?_
    have hsz3 := b3.size
    have hsz2 := G2.size
    obtain ⟨row, hrow⟩ := get_some (l := rows) (k := t16.toNat) (by omega)
    obtain ⟨⟨txt, ht1, ht2, ht3, ht4⟩, hbt⟩ := hgood row (List.mem_of_getElem? hrow)
    have G4 : w.grownBy w4 (some br) := grown_trans (grown_trans G2 (grown_any b3)) g4
    refine ixL (hrows.kept2 g4 (fun b o ha e => by have := hbk b (by simp [Sl.bk, ha]); simp only [Option.some.injEq] at e; omega)) k0 hrow rfl (l := .sl) (v := row) rfl ?_
    refine spec.l20Read.c (ht1.kept2 g4 (fun b o ha e => by have := hbt b (by simp [Sl.bk, ha]); simp only [Option.some.injEq] at e; omega)) (by omega) ht4 fun o' w5 zs b5 o5 hl5 => ?_
    have hsz4 := G4.size
    exact ⟨zs, grown_trans G4 (grown_any b5), (r4.below b5).more (by omega), o5.low hsz4, by omega, by omega⟩
  · rintro out w7 ⟨ys, g7, r7, o7, ny, ny'⟩ _
    have hon := o7.len
    have hoc := o7.cap
    refine spec.l20Rd.pick.c r7 (by omega) (by omega) fun t21 w8 _ _ g8 r8 => ?_
    have G8 := grown_trans g7 g8
    have o8 := o7.keptBr g8 hlt
    refine And.intro (fun _ => ?_) (fun _ => hk _ _ ys G8 (r8.more (by omega)) o8 ny (by omega))
    refine spec.l20Rd.pick.c r8 (by omega) (by omega) fun t26 w9 k0 k1 g9 r9 => ?_
    refine spec.l20Rd.pick.c r9 (by omega) (by omega) fun t28 w10 _ _ g10 r10 => ?_
    have G10 := grown_trans (grown_trans G8 g9) g10
    have o10 := (o8.keptBr g9 hlt).keptBr g10 hlt
    obtain ⟨x, hx⟩ := get_some (l := ys) (k := t26.toNat) (by omega)
    have stf : ∀ {w11 : World} (j : Nat) (v : Int) (y : Ins), w10.grownBy w11 (some br) → RdS B br (m + 250) w11 → j < 6 → kIns.cells y = (kIns.cells x).set j (.int .i64 v) → Ix out.a out.n t26 6 w11 fun a w12 => St (Addr.add a j) (.int .i64 v) w12 fun w13 => K out w13 := by
      intro w11 j v y g11 r11 hj hy
      have o11 := o10.keptBr g11 hlt
      refine ixOwF o11 k0 hx rfl hj rfl y hy fun w12 o12 g12 _ => ?_
      rw [← ob_bk] at g12
      exact hk out w12 _ (grown_newO (grown_trans G10 g11) g12 (fun b hb => (o11.blk hb).1)) ((r11.keptO o11 g12 hlt).more (by omega)) o12 (by simpa using ny) (by simp; omega)
    refine And.intro (fun _ => ?_) (fun _ => And.intro (fun _ => ?_) (fun _ => And.intro (fun _ => ?_) (fun _ => And.intro (fun _ => ?_) (fun _ => And.intro (fun _ => ?_) (fun _ => ?_)))))
    · exact spec.l20Imm.c r10 (by omega) fun v w11 g11 r11 => stf 4 v { x with imm := v } g11 (r11.more (by omega)) (by omega) rfl
    · exact oneLit (xs := [-1, 0, 1, 2, -2, 12, 200]) r10 (by omega) rfl rfl (by decide) fun v w11 _ g11 r11 => stf 3 v { x with off := v } g11 (r11.more (by omega)) (by omega) rfl
    · exact spec.l20Rd.pick.c r10 (by omega) (by omega) fun v w11 _ _ g11 r11 => stf 1 v { x with dst := v } g11 (r11.more (by omega)) (by omega) rfl
    · exact spec.l20Rd.pick.c r10 (by omega) (by omega) fun v w11 _ _ g11 r11 => stf 0 v { x with op := v } g11 (r11.more (by omega)) (by omega) rfl
    · exact spec.l20Rd.pick.c r10 (by omega) (by omega) fun v w11 _ _ g11 r11 => stf 2 (IntKind.wrap .i64 (v - 1)) { x with src := IntKind.wrap .i64 (v - 1) } g11 (r11.more (by omega)) (by omega) rfl
    · have hbr : br < w10.heap.size := r10.lt
      have hoR := o10.read
      have hobk : ∀ b, out.bk = some b → b < w10.heap.size ∧ b ≠ br := fun b hb => by have := o10.blk ((ob_bk _).trans hb); exact ⟨this.2, by omega⟩
      have hkn : t26.toNat ≤ ys.length := by omega
      refine ⟨SpD w10.heap.size br (RdS B br (m + 260)), spD_ok w10, RdS B br (m + 255), (r10.below (Below.refl _ _).drew).more (by omega),
        IO kIns 51 w10.heap.size 0, kept_IO knIns, RO kIns w10.heap.size br t26.toNat, kept_RO, IO kIns 51 w10.heap.size t26.toNat, kept_IO knIns, fun _ _ => True, keptT, IO kIns 51 w10.heap.size 1, kept_IO knIns,
        IO kIns 51 w10.heap.size (t26.toNat + 1), kept_IO knIns, RO kIns w10.heap.size br (ys.length - t26.toNat), kept_RO, IO kIns 51 w10.heap.size (ys.length + 1), kept_IO knIns, ?_⟩
      have app : ∀ {w11 : World} {s x : Sl} {n1 n2 : Nat}, SpD w10.heap.size br (RdS B br (m + 260)) w10 w11 → IO kIns 51 w10.heap.size n1 s w11 → (∃ zs, zs.length = n2 ∧ SlR kIns w11 x zs) → n1 + n2 ≤ 100 →
          RunT (.o (.lf .sl)) P0 (Builtin.append_ #[33, 33] 33 #[.slice s.a s.n s.c, .slice x.a x.n x.c]) w11 fun t w12 => GK (.o (.lf .sl)) (Sk (SpD w10.heap.size br (RdS B br (m + 260))) (RdS B br (m + 255))) w11 (IO kIns 51 w10.heap.size (n1 + n2)) t.v w12 := by
        rintro w11 s x n1 n2 hsp ⟨zs, hz, ho⟩ ⟨us, hu, hx⟩ hle
        have h1 := apS (tR := 33) elIns ho hx (by omega) (by omega) hsp.size (K := fun s' w' => OwnS kIns 51 w10.heap.size w' s' (zs ++ us) ∧ w11.grownBy w' (Value.slice s.a s.n s.c).ownBlock) (fun s' w' h1 h2 _ _ => ⟨h1, h2⟩)
        obtain ⟨t, w12, hr, ⟨h2, h3⟩, h4⟩ := h1.and (I := Ip w10.heap.size w11) (ap_ip elIns knIns ho hx (by omega) (by omega))
        exact ⟨t, w12, hr, t, rfl, sk_step h3 hsp.size (fun g hg => (ho.blk hg).1) h4 hbr, _, by simp [hz, hu], h2⟩
      have hRO : ∀ {w11 : World} {r : Sl} {n : Nat}, (∃ zs, zs.length = n ∧ SlR kIns w11 r zs) → (∀ b, r.bk = some b → out.bk = some b) → RO kIns w10.heap.size br n r w11 := by
        rintro w11 r n ⟨zs, hz, hr⟩ hb
        exact ⟨zs, hz, hr, fun b h => hobk b (hb b h)⟩
      have outR : ∀ {w11 : World}, SpD w10.heap.size br (RdS B br (m + 260)) w10 w11 → ∃ zs, zs.length = ys.length ∧ SlR kIns w11 out zs := fun hsp => by
        obtain ⟨zs, hz, hr, _⟩ := kept_RO (k := kIns) (H := w10.heap.size) (br := br) (n := ys.length) (R := RdS B br (m + 260)) out w10 _ ⟨ys, rfl, hoR, hobk⟩ hsp
        exact ⟨zs, hz, hr⟩
      have hsz10 := G10.size
      refine ⟨fun w11 hsp => ?_, fun t29 => ⟨fun w11 hsp => ?_, fun t32 => ⟨fun w11 hsp f29 f32 => ?_, fun t33 => ⟨fun w11 hsp hN => ?_, fun t35 => ⟨fun w11 hsp f35 => ?_, fun t36 => ⟨fun w11 hsp f33 f36 => ?_, fun t37 => ⟨fun w11 hsp => ?_, fun t40 => ⟨fun w11 hsp f37 f40 => ?_, fun t41 w11 hsp _ _ _ _ _ _ _ f41 => ?_⟩⟩⟩⟩⟩⟩⟩⟩
      · exact nw fun w12 b12 s12 c12 => ⟨⟨some ⟨w11.heap.size, 0, none⟩, 0, 0⟩, rfl, sk_below b12 hsp.size hbr, [], rfl, OwnS.lit hsp.size c12 rfl rfl (by simp)⟩
      · obtain ⟨zs, hz, hr⟩ := outR hsp
        refine slcR (k := kIns) (e := 51) (by kernel_rfl) (by kernel_rfl) hr (lo := none) (hi := some t26) (mx := none) (l := 0) (h' := t26.toNat) (m := out.c) rfl (by simp; omega) rfl (by simp) (by omega) (by omega) (by omega) (by omega) fun r _ _ hr2 hb2 => ?_
        exact ⟨r, rfl, sk_below (Below.refl _ _) hsp.size hbr, hRO ⟨_, by simp; omega, hr2⟩ hb2⟩
      · obtain ⟨zs, hz, hr, _⟩ := f32
        have := app (x := t32) (n2 := t26.toNat) hsp f29 ⟨zs, hz, hr⟩ (by omega)
        rw [Nat.zero_add] at this
        exact this
      · refine spec.l20Alu.c hN (by omega) fun x w12 g12 r12 => ?_
        have hbb : Ip w10.heap.size w11 w12 := Ip.of_same fun g hg hg2 => g12.block g hg2 (fun e => by simp only [Option.some.injEq] at e; omega)
        exact ⟨x.t, rfl, ⟨g12.os, g12.tape, g12.output, g12.size, fun k hk hne => g12.block k (by have := hsp.size; omega) (fun e => hne (by simpa using e)), hbb, fun _ => r12.more (by omega)⟩, trivial⟩
      · exact nw fun w12 b12 s12 c12 => ⟨⟨some ⟨w11.heap.size, 0, none⟩, 1, 1⟩, rfl, sk_below b12 hsp.size hbr, [insOf t35], rfl, OwnS.lit hsp.size c12 rfl rfl (by simp [maxLen])⟩
      · obtain ⟨zs, hz, ho⟩ := f36
        exact app (x := t36) (n2 := 1) hsp f33 ⟨zs, hz, ho.read⟩ (by omega)
      · obtain ⟨zs, hz, hr⟩ := outR hsp
        refine slcR (k := kIns) (e := 51) (by kernel_rfl) (by kernel_rfl) hr (lo := some t26) (hi := none) (mx := none) (l := t26.toNat) (h' := out.n) (m := out.c) (by simp; omega) rfl rfl (by simp) (by omega) (by omega) (by omega) (by omega) fun r _ _ hr2 hb2 => ?_
        exact ⟨r, rfl, sk_below (Below.refl _ _) hsp.size hbr, hRO ⟨_, by simp; omega, hr2⟩ hb2⟩
      · obtain ⟨zs, hz, hr, _⟩ := f40
        have := app (x := t40) (n2 := ys.length - t26.toNat) hsp f37 ⟨zs, hz, hr⟩ (by omega)
        rw [show t26.toNat + 1 + (ys.length - t26.toNat) = ys.length + 1 by omega] at this
        exact this
      · obtain ⟨zs, hz, ho⟩ := f41
        exact hk t41 w11 zs (grown_trans G10 (hsp.grown rfl)) ((hsp.rd (r10.more (by omega))).more (by omega)) (ho.low hsz10) (by omega) (by omega)
end
end Go.Proofs.Ytdgnojjemlfhdaa.V
