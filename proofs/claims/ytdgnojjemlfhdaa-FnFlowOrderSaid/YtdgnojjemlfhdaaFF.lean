/- Contracts: how a line of an op is read, as far as the draws ask. -/
import Derived.Test.YtdgnojjemlfhdaaFE
namespace Go.Proofs.Ytdgnojjemlfhdaa.V
open Go Go.RowKit
set_option linter.unusedVariables false
set_option linter.unusedSimpArgs false
/-- An op lies in a block. -/
def InsAt (b : Nat) (w : World) : Prop := ∃ y : Ins, w.heap[b]? = some (.cells y.cs 51 (0, 0))
theorem stIns {b : Nat} {w : World} (h : InsAt b w) {j : Nat} (hj : j < 6) (n : Int) {K : World → Prop} (hk : ∀ w', w.grownBy w' (some b) → w'.heap.size = w.heap.size → InsAt b w' → K w') : St (Addr.add ⟨b, 0, none⟩ j) (.int .i64 n) w K := by
  obtain ⟨y, hy⟩ := h
  refine stB hy rfl (by simp [Ins.cs]; omega) fun w' hg hs hc => hk w' hg hs ?_
  match j, hj with
  | 0, _ => exact ⟨{ y with op := n }, hc⟩
  | 1, _ => exact ⟨{ y with dst := n }, hc⟩
  | 2, _ => exact ⟨{ y with src := n }, hc⟩
  | 3, _ => exact ⟨{ y with off := n }, hc⟩
  | 4, _ => exact ⟨{ y with imm := n }, hc⟩
  | 5, _ => exact ⟨{ y with size := n }, hc⟩
theorem loop_len (s : ByteArray) : ∀ (m i : Nat) (r : List UInt8), s.size - i = m → i ≤ s.size → (ByteArray.toList.loop s i r).length = r.length + (s.size - i)
  | 0, i, r, hm, hi => by rw [ByteArray.toList.loop, if_neg (by omega)]; simp; omega
  | m + 1, i, r, hm, hi => by rw [ByteArray.toList.loop, if_pos (by omega), loop_len s m (i + 1) _ (by omega) (by omega)]; simp only [List.length_cons]; omega
theorem list_len (s : ByteArray) : s.toList.length = s.size := by have := loop_len s s.size 0 [] (by omega) (by omega); simpa [ByteArray.toList] using this
/-- The state of the read: the op's block, and the block of the result. -/
def Z1 (w : World) (bx : Nat) (w' : World) : Prop := Below w.heap.size w w' ∧ InsAt bx w' ∧ w'.heap[w.heap.size]? = some (.cells (zc P0 51) 51 (0, 0)) ∧ w.heap.size < bx
section
variable {w w' : World} {bx : Nat}
theorem Z1.below (h : Z1 w bx w') {w2 : World} (hb : Below w'.heap.size w' w2) : Z1 w bx w2 := by
  obtain ⟨h1, ⟨y, hy⟩, h3, h4⟩ := h
  exact ⟨h1.trans (hb.mono h1.size), ⟨y, (hb.block _ (Array.getElem?_eq_some_iff.1 hy).1).trans hy⟩, (hb.block _ (Array.getElem?_eq_some_iff.1 h3).1).trans h3, h4⟩
theorem Z1.st (h : Z1 w bx w') {j : Nat} (hj : j < 6) (n : Int) {K : World → Prop} (hk : ∀ w2, Z1 w bx w2 → K w2) : St (Addr.add ⟨bx, 0, none⟩ j) (.int .i64 n) w' K := by
  refine stIns h.2.1 hj n fun w2 hg hs hi => hk w2 ⟨h.1.grown hg h.1.size (fun b hb => by simp only [Option.some.injEq] at hb; have := h.2.2.2; omega), hi, ?_, h.2.2.2⟩
  exact (hg.block _ (Array.getElem?_eq_some_iff.1 h.2.2.1).1 (by simp only [ne_eq, Option.some.injEq]; have := h.2.2.2; omega)).trans h.2.2.1
theorem Z1.ld (h : Z1 w bx w') {j : Nat} (hj : j < 6) {K : Int → World → Prop} (hk : ∀ n, K n w') : Ld (.i .i64) (Addr.add ⟨bx, 0, none⟩ j) w' K := by
  obtain ⟨h1, ⟨y, hy⟩, h3, h4⟩ := h
  match j, hj with
  | 0, _ => exact ldB hy (x := y.op) rfl (hk _)
  | 1, _ => exact ldB hy (x := y.dst) rfl (hk _)
  | 2, _ => exact ldB hy (x := y.src) rfl (hk _)
  | 3, _ => exact ldB hy (x := y.off) rfl (hk _)
  | 4, _ => exact ldB hy (x := y.imm) rfl (hk _)
  | 5, _ => exact ldB hy (x := y.size) rfl (hk _)
end
def insOf (t : Tup (R 6 (.i .i64))) : Ins := ⟨t.1, t.2.1, t.2.2.1, t.2.2.2.1, t.2.2.2.2.1, t.2.2.2.2.2.1⟩
theorem stA6 {b : Nat} {w : World} {cs : Array Value} (h : w.heap[b]? = some (.cells cs 51 (0, 0))) (hs : cs.toList.length = 6) (y : Ins) {K : World → Prop} (hk : ∀ w', w.grownBy w' (some b) → w'.heap.size = w.heap.size → w'.heap[b]? = some (.cells y.cs 51 (0, 0)) → K w') :
    StA P0 ⟨b, 0, none⟩ (Tup.cells (R 6 (.i .i64)) y.t) w K := by
  obtain ⟨w', hr, hg, hsz, hh⟩ := run_storeCells_at' P0 (b := b) (t := 51) (Tup.cells (R 6 (.i .i64)) y.t) 0 [] cs.toList w (oneCell_cells kIns (by intro l hl; simp [kIns] at hl; simp [hl]) y) rfl hs (by simpa using h)
  exact ⟨w', hr, hk w' hg hsz hh⟩
theorem insOf_t (t : Tup (R 6 (.i .i64))) : (insOf t).t = t := rfl
set_option maxHeartbeats 4000000 in
theorem spec.l1Read.c {s : Sl} {xs : List ByteArray} {w : World} {K : Tup (R 6 (.i .i64)) → World → Prop} (h : SlR kS w s xs) (hl : 1 ≤ xs.length) (hsz : ∀ y ∈ xs, y.size < 1099511627776) (hk : ∀ (x : Ins) w', Below w.heap.size w w' → K x.t w') :
    CallT (.o (.ag (R 6 (.i .i64)))) P0 126 [s.v] w K := by
  have hn := h.len; have hmax := h.max
  refine spec.l1Read.ok (nw fun w1 hb1 hs1 hc1 => ?_)
  have word : ∀ {w' : World} (i : Nat), Below w.heap.size w w' → i < xs.length → ∃ y, xs[i]? = some y ∧ y.size < 1099511627776 ∧ SlR kS w' s xs := fun i hb hi => by
    obtain ⟨y, hy⟩ := get_some (l := xs) (k := i) hi
    exact ⟨y, hy, hsz y (List.mem_of_getElem? hy), h.below hb⟩
  obtain ⟨y0, hy0, hz0, _⟩ := word 0 (Below.refl _ _) (by omega)
  have aty : ∀ (y : ByteArray), Kept (fun a b : World => Below a.heap.size a b) (fun (a : Addr) w' => w'.cell? a = some (.string y)) := fun y x a b h hab => by
    have h : a.cell? x = some (.string y) := h
    show b.cell? x = some (.string y)
    rw [Below.cell hab (World.block_lt_of_cell? a _ h)]; exact h
  have rows : ∀ n : Nat, Kept (fun a b : World => Below a.heap.size a b) (fun (r : Sl) w' => ∃ xs, SlR kS w' r xs) := fun n r a b ⟨xs, h⟩ hab => ⟨xs, h.below hab⟩
  have ix : ∀ {w' : World} (i : Nat) {y : ByteArray} {Kx : Addr → World → Prop}, Below w.heap.size w w' → xs[i]? = some y → (∀ a, w'.cell? a = some (.string y) → Kx a w') → Ix s.a s.n (i : Int) 1 w' Kx := fun i y Kx hb hy hK =>
    ixR (h.below hb) (i := i) (by omega) (x := y) (by simpa using hy) rfl fun b o hA => hK _ (hA 0 (.string y) rfl)
  have zlen : (zc P0 51).size = 6 := by have := zIns; simpa using this
  refine ⟨fun a b => Below a.heap.size a b, spBelow w1, fun r w' => ∃ xs, SlR kS w' r xs, rows 0, fun a w' => w'.cell? a = some (.string y0), aty y0, fun v _ => v = y0, keptT, fun _ _ => True, keptT, fun _ _ => True, keptT, fun a w' => ∃ bx, a = ⟨bx, 0, none⟩ ∧ w.heap.size < bx ∧ w'.heap[bx]? = some (.cells (zc P0 51) 51 (0, 0)), ?_,
    fun w2 hb2 => ?_, fun t18 => ⟨fun w2 hb2 => ?_, fun t20 => ⟨fun w2 hb2 h20 => ?_, fun t21 => ⟨fun w2 hb2 h18 h21 => ?_, fun t22 => ⟨fun w2 hb2 h22 => ?_, fun t23 => ⟨fun w2 hb2 => ?_, fun x w2 hb2 _ _ _ _ _ hx => ?_⟩⟩⟩⟩⟩⟩
  · rintro a x y ⟨bx, rfl, h1, h2⟩ hab
    exact ⟨bx, rfl, h1, (Below.block hab _ (Array.getElem?_eq_some_iff.1 h2).1).trans h2⟩
  · exact spec.l1Words.c fun r w3 ys hb3 hr _ _ => ⟨r, rfl, hb3, ys, hr⟩
  · exact ix 0 (hb1.trans (Below.mono hb2 hb1.size)) hy0 fun a ha => ⟨a, rfl, Below.refl _ _, ha⟩
  · exact ⟨y0, h20, y0, rfl, Below.refl _ _, rfl⟩
  · obtain ⟨ys, hr⟩ := h18
    exact spec.l1Find.c hr fun n => ⟨n, rfl, Below.refl _ _, trivial⟩
  · exact ⟨(⟨t22, 0, -1, 0, 0, 0⟩ : Ins).t, rfl, Below.refl _ _, trivial⟩
  · exact nw fun w3 hb3 hs3 hc3 => ⟨⟨w2.heap.size, 0, none⟩, rfl, hb3, w2.heap.size, rfl, by have := Below.size hb2; omega, hc3⟩
  · obtain ⟨bx, rfl, hbx, hcx⟩ := hx
    have bb2 : Below w.heap.size w w2 := hb1.trans (Below.mono hb2 hb1.size)
    have hz2 : w2.heap[w.heap.size]? = some (.cells (zc P0 51) 51 (0, 0)) := (Below.block hb2 _ (by omega)).trans hc1
    refine stA6 (y := insOf t23) hcx zIns fun w3 hg3 hs3 hh3 => ?_
    have z3 : Z1 w bx w3 := ⟨bb2.grown hg3 bb2.size (fun b hb => by simp only [Option.some.injEq] at hb; omega), ⟨_, hh3⟩, ?_, hbx⟩
    rotate_left
    · exact (hg3.block _ (Array.getElem?_eq_some_iff.1 hz2).1 (by simp only [ne_eq, Option.some.injEq]; omega)).trans hz2
    have zix : ∀ {w' : World} (i : Nat) {Kx : ByteArray → World → Prop}, Z1 w bx w' → i < xs.length → (∀ y : ByteArray, y.size < 4611686018427387904 → Kx y w') → Ix s.a s.n (i : Int) 1 w' fun a w2 => Ld .s a w2 Kx := fun i Kx hz hi hK => by
      obtain ⟨y, hy, hyz, hr⟩ := word i hz.1 hi
      exact ixL hr (i := i) (by omega) (x := y) (by simpa using hy) rfl (l := .s) (v := y) rfl (hK y (by omega))
    refine ⟨fun size w' => Z1 w bx w' ∧ (size = 1 ∨ size = 2 ∨ size = 4 ∨ size = 8), fun size _ => 8 - size.toNat, ⟨z3, .inl rfl⟩, ?_⟩
    rintro size w4 ⟨z4, hsize⟩ _
    have x4 : ∀ {w' : World}, Below w4.heap.size w4 w' → Z1 w bx w' := fun hb => z4.below hb
    have h4 : SlR kS w4 s xs := h.below z4.1
    have cl : ∀ w5 w6 : World, Below w4.heap.size w4 w5 → Below w5.heap.size w5 w6 → Below w4.heap.size w4 w6 := fun w5 w6 h5 h6 => h5.trans (h6.mono h5.size)
    refine And.intro (fun hlt => ?_) (fun _ => ?_)
    · simp only [decide_eq_true_eq] at hlt
      have next : IntKind.wrap .i64 (size * 2) = size * 2 := i64_of (by omega) (by omega)
      have dsz := dec_size (n := size) (by omega)
      have s4 : (⟨#[108, 111, 97, 100]⟩ : ByteArray).size = 4 := rfl
      have s5 : (⟨#[115, 116, 111, 114, 101]⟩ : ByteArray).size = 5 := rfl
      refine ⟨fun b w' => Z1 w bx w' ∧ (b = true → 1 ≤ y0.size), ?_, ?_⟩
      · refine qixL h4 (i := 0) (by omega) (x := y0) (by simpa using hy0) rfl (l := .s) (v := y0) rfl ?_
        refine qcl _ (fun w5 hb5 => spec.l1Dec.c (by omega) fun w6 hb6 => ⟨rfl, cl _ _ hb5 hb6⟩) ?_
        refine ⟨szS _ _ 50 (by rw [s4]; omega) (by omega), fun he w5 hb5 => ⟨x4 hb5, fun _ => ?_⟩, fun _ => ?_⟩
        · have := congrArg List.length (beq_iff_eq.1 he)
          rw [list_len, list_len, ByteArray.size_append, s4] at this
          omega
        · refine qixL h4 (i := 0) (by omega) (x := y0) (by simpa using hy0) rfl (l := .s) (v := y0) rfl ?_
          refine qcl _ (fun w5 hb5 => spec.l1Dec.c (by omega) fun w6 hb6 => ⟨rfl, cl _ _ hb5 hb6⟩) ?_
          refine ⟨szS _ _ 50 (by rw [s5]; omega) (by omega), fun w5 hb5 => ⟨x4 hb5, fun he => ?_⟩⟩
          have := congrArg List.length (beq_iff_eq.1 he)
          rw [list_len, list_len, ByteArray.size_append, s5] at this
          omega
      · rintro b w5 ⟨z5, hb5⟩ _
        refine And.intro (fun ht => ?_) (fun _ => ?_)
        · have hy1 := hb5 ht
          refine ⟨fun a b => Below a.heap.size a b, spBelow w5, fun r w' => ∃ xs, SlR kS w' r xs, rows 0, fun a w' => w'.cell? a = some (.string y0), aty y0, fun v _ => v = y0, keptT, fun a w' => w'.cell? a = some (.string y0), aty y0, fun v _ => v = y0, keptT, fun v _ => v.size < 4611686018427387904, keptT, fun _ _ => True, keptT, fun w6 hb6 => ?_,
            fun t44 => ⟨fun w6 hb6 => ?_, fun t46 => ⟨fun w6 hb6 h46 => ?_, fun t47 => ⟨fun w6 hb6 => ?_, fun t49 => ⟨fun w6 hb6 h49 => ?_, fun t50 => ⟨fun w6 hb6 h47 h50 => ?_, fun t53 => ⟨fun w6 hb6 h44 h53 => ?_, fun t54 w6 hb6 _ _ _ _ _ _ _ => ?_⟩⟩⟩⟩⟩⟩⟩
          · exact spec.l1Words.c fun r w3 ys hb3 hr _ _ => ⟨r, rfl, hb3, ys, hr⟩
          · exact ix 0 (z5.below hb6).1 hy0 fun a ha => ⟨a, rfl, Below.refl _ _, ha⟩
          · exact ⟨y0, h46, y0, rfl, Below.refl _ _, rfl⟩
          · exact ix 0 (z5.below hb6).1 hy0 fun a ha => ⟨a, rfl, Below.refl _ _, ha⟩
          · exact ⟨y0, h49, y0, rfl, Below.refl _ _, rfl⟩
          · subst h47 h50
            rw [i64_of (n := (t50.size : Int) - 1) (by omega) (by omega)]
            exact sub (lo := none) (hi := some ((t50.size : Int) - 1)) (a := 0) (b := (t50.size : Int) - 1) rfl rfl (by omega) (by omega) (by omega) (by omega) fun r hr => ⟨r, rfl, Below.refl _ _, by omega⟩
          · obtain ⟨ys, hr⟩ := h44
            exact spec.l1Find.c hr fun n => ⟨n, rfl, Below.refl _ _, trivial⟩
          · refine (z5.below hb6).st (by omega) _ fun w7 z7 => z7.st (by omega) _ fun w8 z8 => ?_
            rw [next]
            exact ⟨⟨z8, by omega⟩, by simp only; omega⟩
        · rw [next]
          exact ⟨⟨z5, by omega⟩, by simp only; omega⟩
    · have rr : ∀ {i : Nat} {w5 : World} {Kx : (Int × Int × Unit) → World → Prop}, Z1 w bx w5 → i < xs.length → (∀ n, Kx n w5) → Ix s.a s.n (i : Int) 1 w5 fun a w2 => Ld .s a w2 fun y w3 => CallT (.n [(.lf (.i .i64)), (.lf (.i .i64))]) P0 139 [.string y] w3 Kx :=
        fun {i} {w5} {Kx} hz hi hK => zix i hz hi fun y hy => spec.l1ReadReg.c hy hK
      have rs : ∀ {i : Nat} {w5 : World} {Kx : Int → World → Prop}, Z1 w bx w5 → i < xs.length → (∀ n, Kx n w5) → Ix s.a s.n (i : Int) 1 w5 fun a w2 => Ld .s a w2 fun y w3 => CallT (.o (.lf (.i .i64))) P0 140 [.string y] w3 Kx :=
        fun {i} {w5} {Kx} hz hi hK => zix i hz hi fun y hy => spec.l1Signed.c hy hK
      refine ⟨fun w' => Z1 w bx w', ⟨fun b w' => Z1 w bx w' ∧ (b = true → xs.length = 3 ∨ xs.length = 4), ?_, ?_⟩, ?_⟩
      · refine z4.ld (by omega) fun n => spec.l1Alu.c ?_
        have c4 : ((s.n : Int) == 4) = true → xs.length = 3 ∨ xs.length = 4 := fun h => by simp only [beq_iff_eq] at h; omega
        refine And.intro (fun _ => And.intro (fun h3 => ⟨z4, fun _ => ?_⟩) (fun _ => ?_)) (fun _ => ?_)
        · simp only [beq_iff_eq] at h3; omega
        · exact z4.ld (by omega) fun n => spec.l1Jump.c (And.intro (fun _ => ⟨z4, c4⟩) (fun _ => ⟨z4, fun h => by simp at h⟩))
        · exact z4.ld (by omega) fun n => spec.l1Jump.c (And.intro (fun _ => ⟨z4, c4⟩) (fun _ => ⟨z4, fun h => by simp at h⟩))
      · rintro b w5 ⟨z5, hb5⟩ _
        refine And.intro (fun ht => ?_) (fun _ => ?_)
        · have hl3 := hb5 ht
          refine rr (i := 1) z5 (by omega) fun n1 => ?_
          refine rr (i := 2) z5 (by omega) fun n2 => ?_
          refine z5.st (by omega) _ fun w6 z6 => z6.st (by omega) _ fun w7 z7 => z7.st (by omega) _ fun w8 z8 => ?_
          refine And.intro (fun h4 => ?_) (fun _ => z8)
          simp only [beq_iff_eq] at h4
          exact rs (i := 3) z8 (by omega) fun n3 => z8.st (by omega) _ fun w9 z9 => z9
        · refine ⟨fun b w' => Z1 w bx w' ∧ (b = true → xs.length = 2), ?_, ?_⟩
          · exact z5.ld (by omega) fun n => And.intro (fun _ => ⟨z5, fun h => by simp only [beq_iff_eq] at h; omega⟩) (fun _ => ⟨z5, fun h => by simp at h⟩)
          · rintro b w6 ⟨z6, hb6⟩ _
            refine And.intro (fun ht => ?_) (fun _ => ?_)
            · have hl2 := hb6 ht
              exact rs (i := 1) z6 (by omega) fun n1 => z6.st (by omega) _ fun w7 z7 => z7
            · refine ⟨fun b w' => Z1 w bx w' ∧ (b = true → xs.length = 4), ?_, ?_⟩
              · exact z6.ld (by omega) fun n => And.intro (fun _ => ⟨z6, fun h => by simp only [beq_iff_eq] at h; omega⟩) (fun _ => ⟨z6, fun h => by simp at h⟩)
              · rintro b w7 ⟨z7, hb7⟩ _
                refine And.intro (fun ht => ?_) (fun _ => ?_)
                · have hl4 := hb7 ht
                  refine rr (i := 1) z7 (by omega) fun n1 => ?_
                  refine rr (i := 2) z7 (by omega) fun n2 => ?_
                  refine z7.st (by omega) _ fun w8 z8 => z8.st (by omega) _ fun w9 z9 => ?_
                  exact rs (i := 3) z9 (by omega) fun n3 => z9.st (by omega) _ fun w10 z10 => z10
                · refine ⟨fun b w' => Z1 w bx w' ∧ (b = true → xs.length = 4), ?_, ?_⟩
                  · exact z7.ld (by omega) fun n => And.intro (fun _ => ⟨z7, fun h => by simp only [beq_iff_eq] at h; omega⟩) (fun _ => ⟨z7, fun h => by simp at h⟩)
                  · rintro b w8 ⟨z8, hb8⟩ _
                    refine And.intro (fun ht => ?_) (fun _ => ?_)
                    · have hl4 := hb8 ht
                      refine rr (i := 1) z8 (by omega) fun n1 => ?_
                      refine rr (i := 3) z8 (by omega) fun n2 => ?_
                      refine z8.st (by omega) _ fun w9 z9 => ?_
                      refine rs (i := 2) z9 (by omega) fun n3 => ?_
                      exact z9.st (by omega) _ fun w10 z10 => z10.st (by omega) _ fun w11 z11 => z11.st (by omega) _ fun w12 z12 => z12
                    · refine z8.ld (by omega) fun n => And.intro (fun _ => And.intro (fun h2 => ?_) (fun _ => z8)) (fun _ => z8)
                      simp only [beq_iff_eq] at h2
                      obtain ⟨y1, hy1, hz1, _⟩ := word 1 z8.1 (by omega)
                      refine ⟨fun a b => Below a.heap.size a b, spBelow w8, fun r w' => ∃ xs, SlR kS w' r xs, rows 0, fun a w' => w'.cell? a = some (.string y1), aty y1, fun v _ => v = y1, keptT, fun _ _ => True, keptT, fun w9 hb9 => ?_, fun t189 => ⟨fun w9 hb9 => ?_, fun t191 => ⟨fun w9 hb9 h191 => ?_, fun t192 => ⟨fun w9 hb9 h189 h192 => ?_, fun t193 w9 hb9 _ _ _ _ => ?_⟩⟩⟩⟩
                      · exact spec.l1Calls.c fun r w3 ys hb3 hr _ _ => ⟨r, rfl, hb3, ys, hr⟩
                      · exact ix 1 (z8.below hb9).1 hy1 fun a ha => ⟨a, rfl, Below.refl _ _, ha⟩
                      · exact ⟨y1, h191, y1, rfl, Below.refl _ _, rfl⟩
                      · obtain ⟨ys, hr⟩ := h189
                        exact spec.l1Find.c hr fun n => ⟨n, rfl, Below.refl _ _, trivial⟩
                      · exact (z8.below hb9).st (by omega) _ fun w10 z10 => z10
      · rintro w5 ⟨hb5, ⟨y, hy⟩, hz5, hlt5⟩ _
        refine ldAB (x := y.t) hy rfl ?_
        refine stA6 (y := y) hz5 zIns fun w6 hg6 hs6 hh6 => ?_
        refine ldAB (x := y.t) hh6 rfl ?_
        exact hk y w6 (hb5.grown hg6 hb5.size (fun b hb => by simp only [Option.some.injEq] at hb; omega))
end Go.Proofs.Ytdgnojjemlfhdaa.V
