/- Texts of one proof, put together in build order by pack.py (the last one states what is proved). -/
import Derived.Lib.ItoaLen
import Derived.Laws.BytesArg
import Derived.Sort.KeysCollected
import Derived.Test.YteggdoigliddkaaGreatDoorX3
/- Contracts: how a line of an op is read, as far as the draws ask. -/
namespace Go.Proofs.YteggdoigliddkaaGreatDoor.V
open Go Go.RowKit
set_option linter.unusedVariables false
set_option linter.unusedSimpArgs false
/-- An op lies in a block. -/
def InsAt (b : Nat) (w : World) : Prop := ∃ y : Ins, w.heap[b]? = some (.cells y.cs 39 (0, 0))
theorem stIns {b : Nat} {w : World} (h : InsAt b w) {j : Nat} (hj : j < 6) (n : Int) {K : World → Prop} (hk : ∀ w', w.grownBy w' (some b) → w'.heap.size = w.heap.size → InsAt b w' → K w') : St (Addr.add ⟨b, 0, none⟩ j) (.int .i64 n) w K := by
  obtain ⟨y, hy⟩ := h
  refine stB hy rfl (by simp [Ins.cs]; omega) fun w' hg hs hc => hk w' hg hs ?_
  match j, hj with
  | 0, _ => exact ⟨{ y with op := n }, hc⟩
  | 1, _ => exact ⟨{ y with dst := n }, hc⟩
  | 2, _ => exact ⟨{ y with src := n }, hc⟩
  | 3, _ => exact ⟨{ y with off := n }, hc⟩
  | 4, _ => exact ⟨{ y with imm := n }, hc⟩
  | 5, _ => exact ⟨{ y with size := n }, hc⟩
theorem loop_len (s : ByteArray) : ∀ (m i : Nat) (r : List UInt8), s.size - i = m → i ≤ s.size → (ByteArray.toList.loop s i r).length = r.length + (s.size - i)
  | 0, i, r, hm, hi => by rw [ByteArray.toList.loop, if_neg (by omega)]; simp; omega
  | m + 1, i, r, hm, hi => by rw [ByteArray.toList.loop, if_pos (by omega), loop_len s m (i + 1) _ (by omega) (by omega)]; simp only [List.length_cons]; omega
theorem list_len (s : ByteArray) : s.toList.length = s.size := by have := loop_len s s.size 0 [] (by omega) (by omega); simpa [ByteArray.toList] using this
/-- The state of the read: the op's block, and the block of the result. -/
def Z1 (w : World) (bx : Nat) (w' : World) : Prop := Below w.heap.size w w' ∧ InsAt bx w' ∧ w'.heap[w.heap.size]? = some (.cells (zc P0 39) 39 (0, 0)) ∧ w.heap.size < bx
section
variable {w w' : World} {bx : Nat}
theorem Z1.below (h : Z1 w bx w') {w2 : World} (hb : Below w'.heap.size w' w2) : Z1 w bx w2 := by
  obtain ⟨h1, ⟨y, hy⟩, h3, h4⟩ := h
  exact ⟨h1.trans (hb.mono h1.size), ⟨y, (hb.block _ (Array.getElem?_eq_some_iff.1 hy).1).trans hy⟩, (hb.block _ (Array.getElem?_eq_some_iff.1 h3).1).trans h3, h4⟩
theorem Z1.st (h : Z1 w bx w') {j : Nat} (hj : j < 6) (n : Int) {K : World → Prop} (hk : ∀ w2, Z1 w bx w2 → K w2) : St (Addr.add ⟨bx, 0, none⟩ j) (.int .i64 n) w' K := by
  refine stIns h.2.1 hj n fun w2 hg hs hi => hk w2 ⟨h.1.grown hg h.1.size (fun b hb => by simp only [Option.some.injEq] at hb; have := h.2.2.2; omega), hi, ?_, h.2.2.2⟩
  exact (hg.block _ (Array.getElem?_eq_some_iff.1 h.2.2.1).1 (by simp only [ne_eq, Option.some.injEq]; have := h.2.2.2; omega)).trans h.2.2.1
theorem Z1.ld (h : Z1 w bx w') {j : Nat} (hj : j < 6) {K : Int → World → Prop} (hk : ∀ n, K n w') : Ld (.i .i64) (Addr.add ⟨bx, 0, none⟩ j) w' K := by
  obtain ⟨h1, ⟨y, hy⟩, h3, h4⟩ := h
  match j, hj with
  | 0, _ => exact ldB hy (x := y.op) rfl (hk _)
  | 1, _ => exact ldB hy (x := y.dst) rfl (hk _)
  | 2, _ => exact ldB hy (x := y.src) rfl (hk _)
  | 3, _ => exact ldB hy (x := y.off) rfl (hk _)
  | 4, _ => exact ldB hy (x := y.imm) rfl (hk _)
  | 5, _ => exact ldB hy (x := y.size) rfl (hk _)
end
def insOf (t : Tup (R 6 (.i .i64))) : Ins := ⟨t.1, t.2.1, t.2.2.1, t.2.2.2.1, t.2.2.2.2.1, t.2.2.2.2.2.1⟩
theorem stA6 {b : Nat} {w : World} {cs : Array Value} (h : w.heap[b]? = some (.cells cs 39 (0, 0))) (hs : cs.toList.length = 6) (y : Ins) {K : World → Prop} (hk : ∀ w', w.grownBy w' (some b) → w'.heap.size = w.heap.size → w'.heap[b]? = some (.cells y.cs 39 (0, 0)) → K w') :
    StA P0 ⟨b, 0, none⟩ (Tup.cells (R 6 (.i .i64)) y.t) w K := by
  obtain ⟨w', hr, hg, hsz, hh⟩ := run_storeCells_at' P0 (b := b) (t := 39) (Tup.cells (R 6 (.i .i64)) y.t) 0 [] cs.toList w (oneCell_cells kIns (by intro l hl; simp [kIns] at hl; simp [hl]) y) rfl hs (by simpa using h)
  exact ⟨w', hr, hk w' hg hsz hh⟩
theorem insOf_t (t : Tup (R 6 (.i .i64))) : (insOf t).t = t := rfl
set_option maxHeartbeats 4000000 in
theorem spec.l1Read.c {s : Sl} {xs : List ByteArray} {w : World} {K : Tup (R 6 (.i .i64)) → World → Prop} (h : SlR kS w s xs) (hl : 1 ≤ xs.length) (hsz : ∀ y ∈ xs, y.size < 1099511627776) (hk : ∀ (x : Ins) w', Below w.heap.size w w' → K x.t w') :
    CallT (.o (.ag (R 6 (.i .i64)))) P0 80 [s.v] w K := by
  have hn := h.len; have hmax := h.max
  refine spec.l1Read.ok (nw fun w1 hb1 hs1 hc1 => ?_)
  have word : ∀ {w' : World} (i : Nat), Below w.heap.size w w' → i < xs.length → ∃ y, xs[i]? = some y ∧ y.size < 1099511627776 ∧ SlR kS w' s xs := fun i hb hi => by
    obtain ⟨y, hy⟩ := get_some (l := xs) (k := i) hi
    exact ⟨y, hy, hsz y (List.mem_of_getElem? hy), h.below hb⟩
  obtain ⟨y0, hy0, hz0, _⟩ := word 0 (Below.refl _ _) (by omega)
  have aty : ∀ (y : ByteArray), Kept (fun a b : World => Below a.heap.size a b) (fun (a : Addr) w' => w'.cell? a = some (.string y)) := fun y x a b h hab => by
    have h : a.cell? x = some (.string y) := h
    show b.cell? x = some (.string y)
    rw [Below.cell hab (World.block_lt_of_cell? a _ h)]; exact h
  have rows : ∀ n : Nat, Kept (fun a b : World => Below a.heap.size a b) (fun (r : Sl) w' => ∃ xs, SlR kS w' r xs) := fun n r a b ⟨xs, h⟩ hab => ⟨xs, h.below hab⟩
  have ix : ∀ {w' : World} (i : Nat) {y : ByteArray} {Kx : Addr → World → Prop}, Below w.heap.size w w' → xs[i]? = some y → (∀ a, w'.cell? a = some (.string y) → Kx a w') → Ix s.a s.n (i : Int) 1 w' Kx := fun i y Kx hb hy hK =>
    ixR (h.below hb) (i := i) (by omega) (x := y) (by simpa using hy) rfl fun b o hA => hK _ (hA 0 (.string y) rfl)
  have zlen : (zc P0 39).size = 6 := by have := zIns; simpa using this
  refine ⟨fun a b => Below a.heap.size a b, spBelow w1, fun r w' => ∃ xs, SlR kS w' r xs, rows 0, fun a w' => w'.cell? a = some (.string y0), aty y0, fun v _ => v = y0, keptT, fun _ _ => True, keptT, fun _ _ => True, keptT, fun a w' => ∃ bx, a = ⟨bx, 0, none⟩ ∧ w.heap.size < bx ∧ w'.heap[bx]? = some (.cells (zc P0 39) 39 (0, 0)), ?_,
    fun w2 hb2 => ?_, fun t18 => ⟨fun w2 hb2 => ?_, fun t20 => ⟨fun w2 hb2 h20 => ?_, fun t21 => ⟨fun w2 hb2 h18 h21 => ?_, fun t22 => ⟨fun w2 hb2 h22 => ?_, fun t23 => ⟨fun w2 hb2 => ?_, fun x w2 hb2 _ _ _ _ _ hx => ?_⟩⟩⟩⟩⟩⟩
  · rintro a x y ⟨bx, rfl, h1, h2⟩ hab
    exact ⟨bx, rfl, h1, (Below.block hab _ (Array.getElem?_eq_some_iff.1 h2).1).trans h2⟩
  · exact spec.l1Words.c fun r w3 ys hb3 hr _ _ => ⟨r, rfl, hb3, ys, hr⟩
  · exact ix 0 (hb1.trans (Below.mono hb2 hb1.size)) hy0 fun a ha => ⟨a, rfl, Below.refl _ _, ha⟩
  · exact ⟨y0, h20, y0, rfl, Below.refl _ _, rfl⟩
  · obtain ⟨ys, hr⟩ := h18
    exact spec.l1Find.c hr fun n => ⟨n, rfl, Below.refl _ _, trivial⟩
  · exact ⟨(⟨t22, 0, -1, 0, 0, 0⟩ : Ins).t, rfl, Below.refl _ _, trivial⟩
  · exact nw fun w3 hb3 hs3 hc3 => ⟨⟨w2.heap.size, 0, none⟩, rfl, hb3, w2.heap.size, rfl, by have := Below.size hb2; omega, hc3⟩
  · obtain ⟨bx, rfl, hbx, hcx⟩ := hx
    have bb2 : Below w.heap.size w w2 := hb1.trans (Below.mono hb2 hb1.size)
    have hz2 : w2.heap[w.heap.size]? = some (.cells (zc P0 39) 39 (0, 0)) := (Below.block hb2 _ (by omega)).trans hc1
    refine stA6 (y := insOf t23) hcx zIns fun w3 hg3 hs3 hh3 => ?_
    have z3 : Z1 w bx w3 := ⟨bb2.grown hg3 bb2.size (fun b hb => by simp only [Option.some.injEq] at hb; omega), ⟨_, hh3⟩, ?_, hbx⟩
    rotate_left
    · exact (hg3.block _ (Array.getElem?_eq_some_iff.1 hz2).1 (by simp only [ne_eq, Option.some.injEq]; omega)).trans hz2
    have zix : ∀ {w' : World} (i : Nat) {Kx : ByteArray → World → Prop}, Z1 w bx w' → i < xs.length → (∀ y : ByteArray, y.size < 4611686018427387904 → Kx y w') → Ix s.a s.n (i : Int) 1 w' fun a w2 => Ld .s a w2 Kx := fun i Kx hz hi hK => by
      obtain ⟨y, hy, hyz, hr⟩ := word i hz.1 hi
      exact ixL hr (i := i) (by omega) (x := y) (by simpa using hy) rfl (l := .s) (v := y) rfl (hK y (by omega))
    refine ⟨fun size w' => Z1 w bx w' ∧ (size = 1 ∨ size = 2 ∨ size = 4 ∨ size = 8), fun size _ => 8 - size.toNat, ⟨z3, .inl rfl⟩, ?_⟩
    rintro size w4 ⟨z4, hsize⟩ _
    have x4 : ∀ {w' : World}, Below w4.heap.size w4 w' → Z1 w bx w' := fun hb => z4.below hb
    have h4 : SlR kS w4 s xs := h.below z4.1
    have cl : ∀ w5 w6 : World, Below w4.heap.size w4 w5 → Below w5.heap.size w5 w6 → Below w4.heap.size w4 w6 := fun w5 w6 h5 h6 => h5.trans (h6.mono h5.size)
    refine And.intro (fun hlt => ?_) (fun _ => ?_)
    · simp only [decide_eq_true_eq] at hlt
      have next : IntKind.wrap .i64 (size * 2) = size * 2 := i64_of (by omega) (by omega)
      have dsz := dec_size (n := size) (by omega)
      have s4 : (⟨#[108, 111, 97, 100]⟩ : ByteArray).size = 4 := rfl
      have s5 : (⟨#[115, 116, 111, 114, 101]⟩ : ByteArray).size = 5 := rfl
      refine ⟨fun b w' => Z1 w bx w' ∧ (b = true → 1 ≤ y0.size), ?_, ?_⟩
      · refine qixL h4 (i := 0) (by omega) (x := y0) (by simpa using hy0) rfl (l := .s) (v := y0) rfl ?_
        refine qcl _ (fun w5 hb5 => spec.l1Dec.c (by omega) fun w6 hb6 => ⟨rfl, cl _ _ hb5 hb6⟩) ?_
        refine ⟨szS _ _ 50 (by rw [s4]; omega) (by omega), fun he w5 hb5 => ⟨x4 hb5, fun _ => ?_⟩, fun _ => ?_⟩
        · have := congrArg List.length (beq_iff_eq.1 he)
          rw [list_len, list_len, ByteArray.size_append, s4] at this
          omega
        · refine qixL h4 (i := 0) (by omega) (x := y0) (by simpa using hy0) rfl (l := .s) (v := y0) rfl ?_
          refine qcl _ (fun w5 hb5 => spec.l1Dec.c (by omega) fun w6 hb6 => ⟨rfl, cl _ _ hb5 hb6⟩) ?_
          refine ⟨szS _ _ 50 (by rw [s5]; omega) (by omega), fun w5 hb5 => ⟨x4 hb5, fun he => ?_⟩⟩
          have := congrArg List.length (beq_iff_eq.1 he)
          rw [list_len, list_len, ByteArray.size_append, s5] at this
          omega
      · rintro b w5 ⟨z5, hb5⟩ _
        refine And.intro (fun ht => ?_) (fun _ => ?_)
        · have hy1 := hb5 ht
          refine ⟨fun a b => Below a.heap.size a b, spBelow w5, fun r w' => ∃ xs, SlR kS w' r xs, rows 0, fun a w' => w'.cell? a = some (.string y0), aty y0, fun v _ => v = y0, keptT, fun a w' => w'.cell? a = some (.string y0), aty y0, fun v _ => v = y0, keptT, fun v _ => v.size < 4611686018427387904, keptT, fun _ _ => True, keptT, fun w6 hb6 => ?_,
            fun t44 => ⟨fun w6 hb6 => ?_, fun t46 => ⟨fun w6 hb6 h46 => ?_, fun t47 => ⟨fun w6 hb6 => ?_, fun t49 => ⟨fun w6 hb6 h49 => ?_, fun t50 => ⟨fun w6 hb6 h47 h50 => ?_, fun t53 => ⟨fun w6 hb6 h44 h53 => ?_, fun t54 w6 hb6 _ _ _ _ _ _ _ => ?_⟩⟩⟩⟩⟩⟩⟩
          · exact spec.l1Words.c fun r w3 ys hb3 hr _ _ => ⟨r, rfl, hb3, ys, hr⟩
          · exact ix 0 (z5.below hb6).1 hy0 fun a ha => ⟨a, rfl, Below.refl _ _, ha⟩
          · exact ⟨y0, h46, y0, rfl, Below.refl _ _, rfl⟩
          · exact ix 0 (z5.below hb6).1 hy0 fun a ha => ⟨a, rfl, Below.refl _ _, ha⟩
          · exact ⟨y0, h49, y0, rfl, Below.refl _ _, rfl⟩
          · subst h47 h50
            rw [i64_of (n := (t50.size : Int) - 1) (by omega) (by omega)]
            exact sub (lo := none) (hi := some ((t50.size : Int) - 1)) (a := 0) (b := (t50.size : Int) - 1) rfl rfl (by omega) (by omega) (by omega) (by omega) fun r hr => ⟨r, rfl, Below.refl _ _, by omega⟩
          · obtain ⟨ys, hr⟩ := h44
            exact spec.l1Find.c hr fun n => ⟨n, rfl, Below.refl _ _, trivial⟩
          · refine (z5.below hb6).st (by omega) _ fun w7 z7 => z7.st (by omega) _ fun w8 z8 => ?_
            rw [next]
            exact ⟨⟨z8, by omega⟩, by simp only; omega⟩
        · rw [next]
          exact ⟨⟨z5, by omega⟩, by simp only; omega⟩
    · have rr : ∀ {i : Nat} {w5 : World} {Kx : (Int × Int × Unit) → World → Prop}, Z1 w bx w5 → i < xs.length → (∀ n, Kx n w5) → Ix s.a s.n (i : Int) 1 w5 fun a w2 => Ld .s a w2 fun y w3 => CallT (.n [(.lf (.i .i64)), (.lf (.i .i64))]) P0 98 [.string y] w3 Kx :=
        fun {i} {w5} {Kx} hz hi hK => zix i hz hi fun y hy => spec.l1ReadReg.c hy hK
      have rs : ∀ {i : Nat} {w5 : World} {Kx : Int → World → Prop}, Z1 w bx w5 → i < xs.length → (∀ n, Kx n w5) → Ix s.a s.n (i : Int) 1 w5 fun a w2 => Ld .s a w2 fun y w3 => CallT (.o (.lf (.i .i64))) P0 99 [.string y] w3 Kx :=
        fun {i} {w5} {Kx} hz hi hK => zix i hz hi fun y hy => spec.l1Signed.c hy hK
      refine ⟨fun w' => Z1 w bx w', ⟨fun b w' => Z1 w bx w' ∧ (b = true → xs.length = 3 ∨ xs.length = 4), ?_, ?_⟩, ?_⟩
      · refine z4.ld (by omega) fun n => spec.l1Alu.c ?_
        have c4 : ((s.n : Int) == 4) = true → xs.length = 3 ∨ xs.length = 4 := fun h => by simp only [beq_iff_eq] at h; omega
        refine And.intro (fun _ => And.intro (fun h3 => ⟨z4, fun _ => ?_⟩) (fun _ => ?_)) (fun _ => ?_)
        · simp only [beq_iff_eq] at h3; omega
        · exact z4.ld (by omega) fun n => spec.l1Jump.c (And.intro (fun _ => ⟨z4, c4⟩) (fun _ => ⟨z4, fun h => by simp at h⟩))
        · exact z4.ld (by omega) fun n => spec.l1Jump.c (And.intro (fun _ => ⟨z4, c4⟩) (fun _ => ⟨z4, fun h => by simp at h⟩))
      · rintro b w5 ⟨z5, hb5⟩ _
        refine And.intro (fun ht => ?_) (fun _ => ?_)
        · have hl3 := hb5 ht
          refine rr (i := 1) z5 (by omega) fun n1 => ?_
          refine rr (i := 2) z5 (by omega) fun n2 => ?_
          refine z5.st (by omega) _ fun w6 z6 => z6.st (by omega) _ fun w7 z7 => z7.st (by omega) _ fun w8 z8 => ?_
          refine And.intro (fun h4 => ?_) (fun _ => z8)
          simp only [beq_iff_eq] at h4
          exact rs (i := 3) z8 (by omega) fun n3 => z8.st (by omega) _ fun w9 z9 => z9
        · refine ⟨fun b w' => Z1 w bx w' ∧ (b = true → xs.length = 2), ?_, ?_⟩
          · exact z5.ld (by omega) fun n => And.intro (fun _ => ⟨z5, fun h => by simp only [beq_iff_eq] at h; omega⟩) (fun _ => ⟨z5, fun h => by simp at h⟩)
          · rintro b w6 ⟨z6, hb6⟩ _
            refine And.intro (fun ht => ?_) (fun _ => ?_)
            · have hl2 := hb6 ht
              exact rs (i := 1) z6 (by omega) fun n1 => z6.st (by omega) _ fun w7 z7 => z7
            · refine ⟨fun b w' => Z1 w bx w' ∧ (b = true → xs.length = 4), ?_, ?_⟩
              · exact z6.ld (by omega) fun n => And.intro (fun _ => ⟨z6, fun h => by simp only [beq_iff_eq] at h; omega⟩) (fun _ => ⟨z6, fun h => by simp at h⟩)
              · rintro b w7 ⟨z7, hb7⟩ _
                refine And.intro (fun ht => ?_) (fun _ => ?_)
                · have hl4 := hb7 ht
                  refine rr (i := 1) z7 (by omega) fun n1 => ?_
                  refine rr (i := 2) z7 (by omega) fun n2 => ?_
                  refine z7.st (by omega) _ fun w8 z8 => z8.st (by omega) _ fun w9 z9 => ?_
                  exact rs (i := 3) z9 (by omega) fun n3 => z9.st (by omega) _ fun w10 z10 => z10
                · refine ⟨fun b w' => Z1 w bx w' ∧ (b = true → xs.length = 4), ?_, ?_⟩
                  · exact z7.ld (by omega) fun n => And.intro (fun _ => ⟨z7, fun h => by simp only [beq_iff_eq] at h; omega⟩) (fun _ => ⟨z7, fun h => by simp at h⟩)
                  · rintro b w8 ⟨z8, hb8⟩ _
                    refine And.intro (fun ht => ?_) (fun _ => ?_)
                    · have hl4 := hb8 ht
                      refine rr (i := 1) z8 (by omega) fun n1 => ?_
                      refine rr (i := 3) z8 (by omega) fun n2 => ?_
                      refine z8.st (by omega) _ fun w9 z9 => ?_
                      refine rs (i := 2) z9 (by omega) fun n3 => ?_
                      exact z9.st (by omega) _ fun w10 z10 => z10.st (by omega) _ fun w11 z11 => z11.st (by omega) _ fun w12 z12 => z12
                    · refine z8.ld (by omega) fun n => And.intro (fun _ => And.intro (fun h2 => ?_) (fun _ => z8)) (fun _ => z8)
                      simp only [beq_iff_eq] at h2
                      obtain ⟨y1, hy1, hz1, _⟩ := word 1 z8.1 (by omega)
                      refine ⟨fun a b => Below a.heap.size a b, spBelow w8, fun r w' => ∃ xs, SlR kS w' r xs, rows 0, fun a w' => w'.cell? a = some (.string y1), aty y1, fun v _ => v = y1, keptT, fun _ _ => True, keptT, fun w9 hb9 => ?_, fun t189 => ⟨fun w9 hb9 => ?_, fun t191 => ⟨fun w9 hb9 h191 => ?_, fun t192 => ⟨fun w9 hb9 h189 h192 => ?_, fun t193 w9 hb9 _ _ _ _ => ?_⟩⟩⟩⟩
                      · exact spec.l1Calls.c fun r w3 ys hb3 hr _ _ => ⟨r, rfl, hb3, ys, hr⟩
                      · exact ix 1 (z8.below hb9).1 hy1 fun a ha => ⟨a, rfl, Below.refl _ _, ha⟩
                      · exact ⟨y1, h191, y1, rfl, Below.refl _ _, rfl⟩
                      · obtain ⟨ys, hr⟩ := h189
                        exact spec.l1Find.c hr fun n => ⟨n, rfl, Below.refl _ _, trivial⟩
                      · exact (z8.below hb9).st (by omega) _ fun w10 z10 => z10
      · rintro w5 ⟨hb5, ⟨y, hy⟩, hz5, hlt5⟩ _
        refine ldAB (x := y.t) hy rfl ?_
        refine stA6 (y := y) hz5 zIns fun w6 hg6 hs6 hh6 => ?_
        refine ldAB (x := y.t) hh6 rfl ?_
        exact hk y w6 (hb5.grown hg6 hb5.size (fun b hb => by simp only [Option.some.injEq] at hb; omega))
end Go.Proofs.YteggdoigliddkaaGreatDoor.V

/- Contracts: a line as an op, and the reader of the draws. -/
namespace Go.Proofs.YteggdoigliddkaaGreatDoor.V
open Go Go.RowKit
set_option linter.unusedVariables false
set_option linter.unusedSimpArgs false
theorem nwStT {t : Tup (R 6 (.i .i64))} {w : World} {K : Addr → World → Prop}
    (hk : ∀ w', Below w.heap.size w w' → w'.heap.size = w.heap.size + 1 → w'.heap[w.heap.size]? = some (.cells (insOf t).cs 39 (0, 0)) → K ⟨w.heap.size, 0, none⟩ w') :
    Nw (zc P0 39) 39 w (fun a w' => StA P0 a (Tup.cells (R 6 (.i .i64)) t) w' (K a)) := nwStIns (x := insOf t) hk
theorem spec.LineGet.c {s : ByteArray} {w : World} {K : Tup (R 6 (.i .i64)) × Bool × Unit → World → Prop} (hs : s.size < 1099511627776) (hk : ∀ (x : Ins) (b : Bool) w', Below w.heap.size w w' → K (x.t, b, ()) w') :
    CallT (.n [(.ag (R 6 (.i .i64))), (.lf .b)]) P0 47 [.string s] w K := by
  refine spec.LineGet.ok (nw fun w1 hb1 hs1 hc1 => ?_)
  refine spec.l1Cut.c (by omega) (by omega) fun r w2 xs hb2 hr hl hsz => ?_
  refine spec.l1Read.c hr hl (fun y hy => by have := hsz y hy; omega) fun x w3 hb3 => ?_
  refine nwStIns (x := x) fun w4 hb4 hs4 hc4 => ?_
  refine ldAB (x := x.t) hc4 rfl ?_
  refine spec.l1InsOk.c (x := x) fun w5 hb5 => ?_
  have g2 := hb2.size
  have g3 := hb3.size
  have g4 := hb4.size
  have g5 := hb5.size
  have b15 : Below w1.heap.size w1 w5 := ((hb2.trans (hb3.mono g2)).trans (hb4.mono (by omega))).trans (hb5.mono (by omega))
  have c5 : w5.heap[w3.heap.size]? = some (.cells x.cs 39 (0, 0)) := (hb5.block _ (by omega)).trans hc4
  have fin : ∀ {w6 : World} (y : Ins) (b : Bool), Below w1.heap.size w1 w6 → StA P0 ⟨w.heap.size, 0, none⟩ (Tup.cells (R 6 (.i .i64)) y.t) w6 fun w7 => LdA (R 6 (.i .i64)) ⟨w.heap.size, 0, none⟩ w7 fun r w8 => K (r, b, ()) w7 := by
    intro w6 y b hb6
    have z6 := (hb6.block _ (by omega)).trans hc1
    refine stA6 (y := y) z6 zIns fun w7 hg7 hs7 hh7 => ?_
    refine ldAB (x := y.t) hh7 rfl ?_
    have b16 : Below w.heap.size w w6 := hb1.trans (hb6.mono hb1.size)
    exact hk y b w7 (b16.grown hg7 b16.size (fun b hb => by simp only [Option.some.injEq] at hb; omega))
  refine And.intro (fun _ => fin ⟨0, 0, 0, 0, 0, 0⟩ false b15) (fun hp => ?_)
  simp only [Bool.not_eq_false', decide_eq_true_eq] at hp
  refine ldAB (x := x.t) c5 rfl ?_
  refine spec.l1Line.c hp fun y w6 hb6 => ?_
  have b16 := b15.trans (hb6.mono b15.size)
  refine And.intro (fun _ => fin ⟨0, 0, 0, 0, 0, 0⟩ false b16) (fun _ => ?_)
  refine ldAB (x := x.t) ((hb6.block _ (by omega)).trans c5) rfl ?_
  exact fin x true b16
theorem SlR.kept3 {α : Type} {k : Kd α} {w w' : World} {s : Sl} {xs : List α} {row : Option Nat} (h : SlR k w s xs) (hg : w.grownBy w' row) (hb : xs ≠ [] → ∀ b o, s.a = some ⟨b, o, none⟩ → row ≠ some b) : SlR k w' s xs := by
  by_cases hx : xs = []
  · exact ⟨h.1, h.2.1, h.2.2.1, .inl hx⟩
  · exact h.kept2 hg (hb hx)
/-- The reader. -/
def RdS (B br m : Nat) (w : World) : Prop := ∃ (s : Sl) (bs : List Int) (p : Nat), w.heap[br]? = some (.cells #[s.v, .int .i64 p] 100 (0, 0)) ∧ SlR kU8 w s bs ∧ (bs ≠ [] → ∀ b o, s.a = some ⟨b, o, none⟩ → b < B) ∧ B ≤ br ∧ (∀ x ∈ bs, 0 ≤ x ∧ x ≤ 255) ∧ p ≤ m
section
variable {B br m : Nat} {w : World}
theorem RdS.lt (h : RdS B br m w) : br < w.heap.size := by
  obtain ⟨s, bs, p, hc, _⟩ := h
  exact (Array.getElem?_eq_some_iff.1 hc).1
theorem RdS.more {m' : Nat} (h : RdS B br m w) (hm : m ≤ m') : RdS B br m' w := by
  obtain ⟨s, bs, p, h1, h2, h3, h4, h5, h6⟩ := h
  exact ⟨s, bs, p, h1, h2, h3, h4, h5, by omega⟩
theorem RdS.kept {w' : World} {row : Option Nat} (h : RdS B br m w) (hg : w.grownBy w' row) (hr : ∀ b, row = some b → br < b) : RdS B br m w' := by
  have hlt := h.lt
  obtain ⟨s, bs, p, h1, h2, h3, h4, h5, h6⟩ := h
  refine ⟨s, bs, p, (hg.block br hlt (fun e => by have := hr br e.symm; omega)).trans h1, h2.kept3 hg (fun hne b o ha e => by have := hr b e; have := h3 hne b o ha; omega), h3, h4, h5, h6⟩
theorem RdS.below {w' : World} (h : RdS B br m w) (hb : Below w.heap.size w w') : RdS B br m w' := h.kept (grown_of_below hb) (by simp)
theorem grown_any {w w' : World} {row : Option Nat} (h : Below w.heap.size w w') : w.grownBy w' row := ⟨h.os, h.tape, h.output, h.size, fun k hk _ => h.block k hk⟩
theorem ixor_nonneg {a b : Int} (ha : 0 ≤ a ∧ a < 9223372036854775808) (hb : 0 ≤ b ∧ b < 9223372036854775808) : 0 ≤ iXor .i64 a b := by
  unfold iXor
  have e : ∀ x : Int, 0 ≤ x ∧ x < 9223372036854775808 → (BitVec.ofInt 64 x).toNat < 2 ^ 63 := fun x hx => by rw [BitVec.toNat_ofInt]; omega
  have h1 : (BitVec.ofInt 64 a ^^^ BitVec.ofInt 64 b).toNat < 2 ^ 63 := by
    rw [BitVec.toNat_xor]; exact Nat.xor_lt_two_pow (e a ha) (e b hb)
  show 0 ≤ IntKind.wrap .i64 ((BitVec.ofInt 64 a ^^^ BitVec.ofInt 64 b).toNat : Int)
  rw [i64_of (by omega) (by omega)]
  omega
theorem tmod_in {x n : Int} (hx : 0 ≤ x) (hn : 1 ≤ n) : 0 ≤ Int.tmod x n ∧ Int.tmod x n < n := by
  rw [Int.tmod_eq_emod_of_nonneg hx]
  exact ⟨Int.emod_nonneg _ (by omega), Int.emod_lt_of_pos _ (by omega)⟩
theorem spec.l20Rd.pick.c {n : Int} {K : Int → World → Prop} (h : RdS B br m w) (hm : m ≤ 1000000000) (hn : 1 ≤ n) (hk : ∀ x w', 0 ≤ x → x < n → w.grownBy w' (some br) → RdS B br (m + 1) w' → K x w') :
    CallT (.o (.lf (.i .i64))) P0 39 [.pointer (some ⟨br, 0, none⟩), .int .i64 n] w K := by
  obtain ⟨s, bs, p, h1, h2, h3, h4, h5, h6⟩ := h
  refine spec.l20Rd.pick.ok ⟨_, rfl, ldB h1 (x := (p : Int)) rfl ⟨_, rfl, ?_⟩⟩
  rw [i64_of (n := (p : Int) + 1) (by omega) (by omega)]
  refine stB h1 rfl (by simp) fun w1 hg1 hs1 hc1 => ?_
  have hc1 : w1.heap[br]? = some (.cells #[s.v, .int .i64 ((p + 1 : Nat) : Int)] 100 (0, 0)) := hc1
  have hs1 : SlR kU8 w1 s bs := h2.kept3 hg1 (fun hne b o ha e => by have := h3 hne b o ha; simp only [Option.some.injEq] at e; omega)
  have hR : RdS B br (m + 1) w1 := ⟨s, bs, p + 1, hc1, hs1, h3, h4, h5, by omega⟩
  have hlen := hs1.len
  have hmax := hs1.max
  refine ⟨fun w' => w' = w1 ∧ 1 ≤ bs.length, And.intro (fun h0 => hk _ _ (by omega) (by omega) hg1 hR) (fun _ => ⟨_, rfl, ldB hc1 (x := s) rfl (And.intro (fun h0 => hk _ _ (by omega) (by omega) hg1 hR) (fun h0 => ⟨rfl, ?_⟩))⟩), ?_⟩
  · simp only [beq_eq_false_iff_ne, ne_eq] at h0; omega
  rintro w2 ⟨rfl, hb1⟩ _
  refine ⟨_, rfl, ldB hc1 (x := ((p + 1 : Nat) : Int)) rfl ⟨_, rfl, ldB hc1 (x := s) rfl ?_⟩⟩
  rw [i64_of (n := ((p + 1 : Nat) : Int) - 1) (by omega) (by omega)]
  have hp : ((p + 1 : Nat) : Int) - 1 = (p : Int) := by omega
  rw [hp]
  have byte : ∀ {i : Nat}, i < bs.length → ∃ y, bs[i]? = some y ∧ 0 ≤ y ∧ y ≤ 255 := fun {i} hi => by
    obtain ⟨y, hy⟩ := get_some (l := bs) (k := i) hi
    exact ⟨y, hy, h5 y (List.mem_of_getElem? hy)⟩
  refine And.intro (fun hlt => ?_) (fun hge => ?_)
  · simp only [decide_eq_true_eq] at hlt
    obtain ⟨y, hy, hy0, hy1⟩ := byte (i := p) (by omega)
    refine ⟨_, rfl, ldB hc1 (x := s) rfl ?_⟩
    refine ixL hs1 (i := p) (by omega) (x := y) (by simpa using hy) rfl (l := .i .u8) (v := y) rfl ?_
    rw [i64_of (n := y) (by omega) (by omega)]
    have := tmod_in hy0 hn
    exact ⟨by omega, hk _ _ this.1 this.2 hg1 hR⟩
  · have hnz : ((s.n : Nat) : Int) ≠ 0 := by omega
    have t1 := tmod_in (x := (p : Int)) (n := (s.n : Int)) (by omega) (by omega)
    have hq7 : IntKind.wrap .i64 (IntKind.wrap .i64 ((p : Int) * 7) + 3) = (p : Int) * 7 + 3 := by
      rw [i64_of (n := (p : Int) * 7) (by omega) (by omega), i64_of (by omega) (by omega)]
    have t2 := tmod_in (x := (p : Int) * 7 + 3) (n := (s.n : Int)) (by omega) (by omega)
    obtain ⟨y1, hy1, hy10, hy11⟩ := byte (i := (Int.tmod (p : Int) (s.n : Int)).toNat) (by omega)
    obtain ⟨y2, hy2, hy20, hy21⟩ := byte (i := (Int.tmod ((p : Int) * 7 + 3) (s.n : Int)).toNat) (by omega)
    rw [hq7]
    refine ⟨_, rfl, ?_⟩
    refine qldB hc1 (x := s) rfl ?_
    refine ⟨_, rfl, ?_⟩
    refine qldB hc1 (x := s) rfl ⟨hnz, ?_⟩
    refine qixL hs1 t1.1 hy1 rfl (l := .i .u8) (v := y1) rfl ?_
    refine ⟨_, rfl, ?_⟩
    refine qldB hc1 (x := s) rfl ?_
    refine ⟨_, rfl, ?_⟩
    refine qldB hc1 (x := s) rfl ⟨hnz, ?_⟩
    refine qixL hs1 t2.1 hy2 rfl (l := .i .u8) (v := y2) rfl ?_
    refine ⟨_, rfl, ?_⟩
    refine qldB hc1 (x := s) rfl ⟨hnz, fun w3 hb3 => ⟨by omega, by omega, ?_⟩⟩
    have hq : 0 ≤ Int.tdiv (p : Int) (s.n : Int) ∧ Int.tdiv (p : Int) (s.n : Int) ≤ p := by
      rw [Int.tdiv_eq_ediv_of_nonneg (by omega)]
      exact ⟨Int.ediv_nonneg (by omega) (by omega), Int.ediv_le_self _ (by omega)⟩
    generalize Int.tdiv (p : Int) (s.n : Int) = q at hq
    rw [i64_of (n := y1) (by omega) (by omega), i64_of (n := y2) (by omega) (by omega), i64_of (n := y1 * 131) (by omega) (by omega), i64_of (n := y2 * 1117) (by omega) (by omega), i64_of (n := y1 * 131 + y2 * 1117) (by omega) (by omega),
      i64_of (n := (p : Int) * 29) (by omega) (by omega), i64_of (n := y1 * 131 + y2 * 1117 + (p : Int) * 29) (by omega) (by omega), i64_of (n := q) (by omega) (by omega), i64_of (n := q * 53) (by omega) (by omega), i64_of (n := y1 * 131 + y2 * 1117 + (p : Int) * 29 + q * 53) (by omega) (by omega)]
    have hd : 0 ≤ Int.tdiv (y1 * 131 + y2 * 1117 + (p : Int) * 29 + q * 53) 64 ∧ Int.tdiv (y1 * 131 + y2 * 1117 + (p : Int) * 29 + q * 53) 64 ≤ y1 * 131 + y2 * 1117 + (p : Int) * 29 + q * 53 := by
      rw [Int.tdiv_eq_ediv_of_nonneg (by omega)]; omega
    generalize Int.tdiv (y1 * 131 + y2 * 1117 + (p : Int) * 29 + q * 53) 64 = d at hd
    rw [i64_of (n := d) (by omega) (by omega)]
    have hx := ixor_nonneg (a := y1 * 131 + y2 * 1117 + (p : Int) * 29 + q * 53) (b := d) (by omega) (by omega)
    have := tmod_in hx hn
    exact hk _ _ this.1 this.2 (grown_trans hg1 (grown_any hb3)) (hR.below hb3)
end
end Go.Proofs.YteggdoigliddkaaGreatDoor.V

/- Contracts: the draws of programs. -/
namespace Go.Proofs.YteggdoigliddkaaGreatDoor.V
open Go Go.RowKit
set_option linter.unusedVariables false
set_option linter.unusedSimpArgs false
section
variable {B br m : Nat} {w : World}
theorem keepB {w' : World} {b : Nat} {o : Obj} (h : w.heap[b]? = some o) (hg : w.grownBy w' (some br)) (hne : br < b) : w'.heap[b]? = some o :=
  (hg.block b (Array.getElem?_eq_some_iff.1 h).1 (by simp only [ne_eq, Option.some.injEq]; omega)).trans h
theorem spec.l20Rd.one.c {l : Sl} {xs : List Int} {K : Int → World → Prop} (h : RdS B br m w) (hm : m ≤ 1000000000) (hl : SlR kI w l xs) (h1 : 1 ≤ xs.length) (hb : ∀ b o, l.a = some ⟨b, o, none⟩ → b ≠ br)
    (hk : ∀ x w', x ∈ xs → w.grownBy w' (some br) → RdS B br (m + 1) w' → K x w') : CallT (.o (.lf (.i .i64))) P0 78 [.pointer (some ⟨br, 0, none⟩), l.v] w K := by
  have hn := hl.len
  refine spec.l20Rd.one.ok (spec.l20Rd.pick.c h hm (by omega) fun x w1 h0 hx hg hr => ?_)
  have hl1 := hl.kept2 hg (fun b o ha e => hb b o ha (by simpa using e.symm))
  obtain ⟨y, hy⟩ := get_some (l := xs) (k := x.toNat) (by omega)
  exact ixL hl1 h0 hy rfl (l := .i .i64) (v := y) rfl (hk y w1 (List.mem_of_getElem? hy) hg hr)
theorem oneLit {cs : Array Value} {xs : List Int} {n : Nat} {K : Int → World → Prop} (h : RdS B br m w) (hm : m ≤ 1000000000) (hcs : cs.toList = xs.flatMap kI.cells) (hn : n = xs.length) (h1 : 1 ≤ xs.length ∧ xs.length ≤ 100)
    (hk : ∀ x w', x ∈ xs → w.grownBy w' (some br) → RdS B br (m + 1) w' → K x w') : Nw cs 3 w fun a w1 => CallT (.o (.lf (.i .i64))) P0 78 [.pointer (some ⟨br, 0, none⟩), .slice (some a) n n] w1 K := by
  refine nw fun w1 hb hs hc => ?_
  have hl : OwnS kI 3 w.heap.size w1 ⟨some ⟨w.heap.size, 0, none⟩, n, n⟩ xs := OwnS.lit (Nat.le_refl _) hc hn hcs (by simp only [maxLen]; omega)
  have hlt := h.lt
  refine spec.l20Rd.one.c (l := ⟨some ⟨w.heap.size, 0, none⟩, n, n⟩) (h.below hb) hm hl.read h1.1 (fun b o e => ?_) fun x w2 hx hg hr => hk x w2 hx (grown_trans (grown_any hb) hg) hr
  simp only [Option.some.injEq, Addr.mk.injEq] at e
  omega
theorem spec.l20Imm.c {K : Int → World → Prop} (h : RdS B br m w) (hm : m ≤ 1000000000) (hk : ∀ x w', w.grownBy w' (some br) → RdS B br (m + 1) w' → K x w') : CallT (.o (.lf (.i .i64))) P0 77 [.pointer (some ⟨br, 0, none⟩)] w K :=
  spec.l20Imm.ok (oneLit (xs := [0, 1, 2, 3, 7, 8, 15, 31, 100, 255, 65535, 2147483647, 2147483648, 4294967295]) h hm rfl rfl (by decide) fun x w' _ hg hr => hk x w' hg hr)
/-- Good rows of lines, of new memory. -/
def GoodT (H : Nat) (w : World) (t : Sl) : Prop := (∃ xs, SlR kS w t xs ∧ 2 ≤ xs.length ∧ xs.length ≤ 13 ∧ ∀ y ∈ xs, y.size ≤ 100) ∧ ∀ b, t.bk = some b → H ≤ b
theorem GoodT.below {H : Nat} {w' : World} {t : Sl} (h : GoodT H w t) (hb : Below w.heap.size w w') : GoodT H w' t := by
  obtain ⟨⟨xs, h1, h2⟩, h3⟩ := h; exact ⟨⟨xs, h1.below hb, h2⟩, h3⟩
theorem lnStep {H : Nat} {rows : List Sl} {cs : Array Value} {xs : List ByteArray} {n : Nat} (hH : H ≤ w.heap.size) (hR : ∀ t ∈ rows, GoodT H w t) (hcs : cs.toList = xs.flatMap kS.cells) (hn : n = xs.length) (hx : 2 ≤ xs.length ∧ xs.length ≤ 13 ∧ ∀ y ∈ xs, y.size ≤ 100) {K : Addr → World → Prop}
    (hk : ∀ w' a, H ≤ w'.heap.size → Below w.heap.size w w' → (∀ t ∈ rows ++ [⟨some a, n, n⟩], GoodT H w' t) → K a w') : Nw cs 9 w K := by
  refine nw fun w1 hb hs hc => hk w1 _ (by omega) hb fun t ht => ?_
  rcases List.mem_append.1 ht with ht | ht
  · exact (hR t ht).below hb
  · simp only [List.mem_singleton] at ht
    subst ht
    exact ⟨⟨xs, (OwnS.lit (k := kS) (B := 0) (Nat.zero_le _) hc hn hcs (by simp only [maxLen]; omega)).read, hx⟩, fun b hb => by simp only [Sl.bk, Option.map_some, Option.some.injEq] at hb; omega⟩
theorem grown_new {w w1 w2 : World} {row : Option Nat} {b : Nat} (h : w.grownBy w1 row) (h2 : w1.grownBy w2 (some b)) (hb : w.heap.size ≤ b) : w.grownBy w2 row :=
  ⟨h2.os.trans h.os, h2.tape.trans h.tape, h2.output.trans h.output, Nat.le_trans h.size h2.size, fun k hk hne => (h2.block k (Nat.lt_of_lt_of_le hk h.size) (by simp only [ne_eq, Option.some.injEq]; omega)).trans (h.block k hk hne)⟩
theorem spec.l20Alu.c {K : Tup (R 6 (.i .i64)) → World → Prop} (h : RdS B br m w) (hm : m ≤ 900000000) (hk : ∀ (x : Ins) w', w.grownBy w' (some br) → RdS B br (m + 5) w' → K x.t w') : CallT (.o (.ag (R 6 (.i .i64)))) P0 79 [.pointer (some ⟨br, 0, none⟩)] w K := by
  have hlt := h.lt
  refine spec.l20Alu.ok (nw fun w1 b1 s1 c1 => ?_)
  refine spec.l20Rd.pick.c (h.below b1) (by omega) (by omega) fun t5 w2 _ _ g2 r2 => ?_
  refine oneLit (xs := [0, 6, 7, 8]) r2 (by omega) rfl rfl (by decide) fun t9 w3 _ g3 r3 => ?_
  refine spec.l20Imm.c r3 (by omega) fun t11 w4 g4 r4 => ?_
  refine nwStIns (x := ⟨IntKind.wrap .i64 (1 + t5), t9, -1, 0, t11, 0⟩) fun w5 b5 s5 c5 => ?_
  refine spec.l20Rd.pick.c (r4.below b5) (by omega) (by omega) fun t14 w6 _ _ g6 r6 => ?_
  have g14 : w1.grownBy w4 (some br) := grown_trans (grown_trans g2 g3) g4
  have g16 : w1.grownBy w6 (some br) := grown_trans (grown_trans g14 (grown_any b5)) g6
  have hs14 := g14.size
  have c6 := keepB c5 g6 (by omega)
  have z6 := keepB c1 g16 (by omega)
  have G16 : w.grownBy w6 (some br) := grown_trans (grown_any b1) g16
  have fin : ∀ {w7 : World} (y : Ins), w.grownBy w7 (some br) → RdS B br (m + 5) w7 → w7.heap[w4.heap.size]? = some (.cells y.cs 39 (0, 0)) → w7.heap[w.heap.size]? = some (.cells (zc P0 39) 39 (0, 0)) →
      LdA (R 6 (.i .i64)) ⟨w4.heap.size, 0, none⟩ w7 fun t8 w8 => StA P0 ⟨w.heap.size, 0, none⟩ (Tup.cells (R 6 (.i .i64)) t8) w8 fun w9 => LdA (R 6 (.i .i64)) ⟨w.heap.size, 0, none⟩ w9 fun r w10 => K r w9 := by
    intro w7 y g7 r7 c7 z7
    refine ldAB (x := y.t) c7 rfl ?_
    refine stA6 (y := y) z7 zIns fun w8 g8 _ c8 => ?_
    refine ldAB (x := y.t) c8 rfl ?_
    exact hk y w8 (grown_new g7 g8 (Nat.le_refl _)) (r7.kept g8 (fun b hb => by simp only [Option.some.injEq] at hb; omega))
  refine And.intro (fun _ => ?_) (fun _ => fin _ G16 (r6.more (by omega)) c6 z6)
  refine oneLit (xs := [0, 6, 7, 8]) r6 (by omega) rfl rfl (by decide) fun t18 w7 _ g7 r7 => ?_
  have c7 := keepB c6 g7 (by omega)
  have z7 := keepB z6 g7 (by omega)
  refine stB c7 rfl (by simp [Ins.cs]) fun w8 g8 s8 c8 => ?_
  refine stB c8 rfl (by simp [Ins.cs]) fun w9 g9 s9 c9 => ?_
  have G9 : w.grownBy w9 (some br) := grown_new (grown_new (grown_trans G16 g7) g8 (by omega)) g9 (by omega)
  have r9 : RdS B br (m + 5) w9 := (r7.kept g8 (fun b hb => by simp only [Option.some.injEq] at hb; omega)).kept g9 (fun b hb => by simp only [Option.some.injEq] at hb; omega)
  refine fin ⟨IntKind.wrap .i64 (1 + t5), t9, t18, 0, 0, 0⟩ G9 r9 c9 ?_
  have z8 := (g8.block _ (Array.getElem?_eq_some_iff.1 z7).1 (by simp only [ne_eq, Option.some.injEq]; omega)).trans z7
  exact (g9.block _ (Array.getElem?_eq_some_iff.1 z8).1 (by simp only [ne_eq, Option.some.injEq]; omega)).trans z8
set_option maxHeartbeats 1000000 in
theorem spec.l20Lines.c {K : Sl → World → Prop} (hk : ∀ r w' rows, Below w.heap.size w w' → SlR kSl w' r rows → rows.length = 15 → (∀ t ∈ rows, GoodT w.heap.size w' t) → (∀ b, r.bk = some b → w.heap.size ≤ b) → K r w') : CallT (.o (.lf .sl)) P0 75 [] w K := by
  refine spec.l20Lines.ok ?_
  refine lnStep (H := w.heap.size) (rows := []) (xs := [_, _]) (n := 2) (Nat.le_refl _) (by simp) rfl rfl (by decide) fun w1 a1 H1 b1 R1 => ?_
  refine lnStep (xs := [_, _, _, _, _]) (n := 5) H1 R1 rfl rfl (by decide) fun w2 a2 H2 b2 R2 => ?_
  refine lnStep (xs := [_, _, _, _, _, _, _, _, _, _, _, _, _]) (n := 13) H2 R2 rfl rfl (by decide) fun w3 a3 H3 b3 R3 => ?_
  refine lnStep (xs := [_, _, _, _, _]) (n := 5) H3 R3 rfl rfl (by decide) fun w4 a4 H4 b4 R4 => ?_
  refine lnStep (xs := [_, _, _, _, _, _, _, _, _]) (n := 9) H4 R4 rfl rfl (by decide) fun w5 a5 H5 b5 R5 => ?_
  refine lnStep (xs := [_, _, _, _]) (n := 4) H5 R5 rfl rfl (by decide) fun w6 a6 H6 b6 R6 => ?_
  refine lnStep (xs := [_, _, _, _, _]) (n := 5) H6 R6 rfl rfl (by decide) fun w7 a7 H7 b7 R7 => ?_
  refine lnStep (xs := [_, _, _, _, _, _]) (n := 6) H7 R7 rfl rfl (by decide) fun w8 a8 H8 b8 R8 => ?_
  refine lnStep (xs := [_, _, _]) (n := 3) H8 R8 rfl rfl (by decide) fun w9 a9 H9 b9 R9 => ?_
  refine lnStep (xs := [_, _, _, _, _, _]) (n := 6) H9 R9 rfl rfl (by decide) fun w10 a10 H10 b10 R10 => ?_
  refine lnStep (xs := [_, _, _, _, _, _]) (n := 6) H10 R10 rfl rfl (by decide) fun w11 a11 H11 b11 R11 => ?_
  refine lnStep (xs := [_, _, _, _, _, _, _, _, _, _]) (n := 10) H11 R11 rfl rfl (by decide) fun w12 a12 H12 b12 R12 => ?_
  refine lnStep (xs := [_, _, _, _, _, _, _]) (n := 7) H12 R12 rfl rfl (by decide) fun w13 a13 H13 b13 R13 => ?_
  refine lnStep (xs := [_, _, _, _, _, _, _, _, _, _, _]) (n := 11) H13 R13 rfl rfl (by decide) fun w14 a14 H14 b14 R14 => ?_
  refine lnStep (xs := [_, _, _, _, _, _]) (n := 6) H14 R14 rfl rfl (by decide) fun w15 a15 H15 b15 R15 => ?_
  refine nw fun w16 b16 s16 c16 => ?_
  have mono : ∀ {u v : World}, Below w.heap.size w u → Below u.heap.size u v → Below w.heap.size w v := fun h1 h2 => h1.trans (h2.mono h1.size)
  refine hk _ _ _ (mono (mono (mono (mono (mono (mono (mono (mono (mono (mono (mono (mono (mono (mono (mono b1 b2) b3) b4) b5) b6) b7) b8) b9) b10) b11) b12) b13) b14) b15) b16) (OwnS.lit (k := kSl) (B := 0) (xs := [⟨some a1, 2, 2⟩, ⟨some a2, 5, 5⟩, ⟨some a3, 13, 13⟩, ⟨some a4, 5, 5⟩, ⟨some a5, 9, 9⟩, ⟨some a6, 4, 4⟩, ⟨some a7, 5, 5⟩, ⟨some a8, 6, 6⟩, ⟨some a9, 3, 3⟩, ⟨some a10, 6, 6⟩, ⟨some a11, 6, 6⟩, ⟨some a12, 10, 10⟩, ⟨some a13, 7, 7⟩, ⟨some a14, 11, 11⟩, ⟨some a15, 6, 6⟩]) (Nat.zero_le _) c16 rfl rfl (by simp [maxLen])).read rfl (fun t ht => ?_) fun b hb => ?_
  · exact (R15 t (by simpa using ht)).below b16
  · simp only [Sl.bk, Option.map_some, Option.some.injEq] at hb; omega
theorem elIns : El P0 22 39 kIns 48 := ⟨by kernel_rfl, ⟨_, _, Option.eq_some_of_isSome (by kernel_rfl), Option.eq_some_of_isSome (by kernel_rfl), by kernel_rfl, by kernel_rfl, by kernel_rfl⟩, by decide, by intro l hl; simp [kIns] at hl; simp [hl]⟩
theorem spec.l20Read.c {l : Sl} {xs : List ByteArray} {K : Sl → World → Prop} (hl : SlR kS w l xs) (hn : xs.length ≤ 100) (hy : ∀ y ∈ xs, y.size ≤ 100) (hk : ∀ r w' ys, Below w.heap.size w w' → OwnS kIns 39 w.heap.size w' r ys → ys.length = xs.length → K r w') :
    CallT (.o (.lf .sl)) P0 76 [l.v] w K := by
  have hln := hl.len
  refine spec.l20Read.ok (nw fun w0 hb0 hs0 hc0 => ?_)
  have ho0 : OwnS kIns 39 w.heap.size w0 ⟨some ⟨w.heap.size, 0, none⟩, 0, 0⟩ [] := OwnS.lit (Nat.le_refl _) hc0 rfl rfl (by simp [maxLen])
  refine ⟨fun out i w' => ∃ (k : Nat) (ys : List Ins), i = k ∧ k ≤ xs.length ∧ OwnS kIns 39 w.heap.size w' out ys ∧ ys.length = k ∧ Below w.heap.size w w', fun _ i _ => xs.length - i.toNat, ⟨0, [], rfl, by omega, ho0, rfl, hb0⟩, ?_⟩
  rintro out i w1 ⟨k, ys, rfl, hk1, ho, hyl, hb1⟩ _
  refine And.intro (fun hlt => ?_) (fun hge => ?_)
  · simp only [decide_eq_true_eq] at hlt
    obtain ⟨x, hx⟩ := get_some (l := xs) (k := k) (by omega)
    refine ixL (hl.below hb1) (i := k) (by omega) (x := x) (by simpa using hx) rfl (l := .s) (v := x) rfl ?_
    refine spec.LineGet.c (by have := hy x (List.mem_of_getElem? hx); omega) fun y b w2 hb2 => ?_
    refine nwStIns (x := y) fun w3 hb3 hs3 hc3 => ?_
    refine ldAB (x := y.t) hc3 rfl ?_
    have hg2 := hb2.size
    have bb3 : Below w1.heap.size w1 w3 := hb2.trans (hb3.mono hg2)
    have bb : Below w.heap.size w w3 := hb1.trans (bb3.mono hb1.size)
    refine ap1 elIns (ho.below bb3) y rfl (by omega) (by omega) bb.size fun o' w' ho' hg' _ => ?_
    rw [i64_of (n := (k : Int) + 1) (by omega) (by omega)]
    exact ⟨⟨k + 1, ys ++ [y], by omega, by omega, ho', by simp; omega, bb.grown hg' bb.size (fun b hb => ((ho.below bb3).blk hb).1)⟩, by simp only; omega⟩
  · simp only [decide_eq_false_iff_not] at hge
    exact hk _ _ ys hb1 ho (by omega)
end
end Go.Proofs.YteggdoigliddkaaGreatDoor.V

/- Contracts: the draws of programs, and rows whose cells stay numbers. -/
namespace Go.Proofs.YteggdoigliddkaaGreatDoor.V
open Go Go.RowKit
set_option linter.unusedVariables false
set_option linter.unusedSimpArgs false
theorem chooseL {α : Type} {p : Nat → α → Prop} : ∀ (n : Nat), (∀ i, i < n → ∃ x, p i x) → ∃ l : List α, l.length = n ∧ ∀ i x, l[i]? = some x → p i x
  | 0, _ => ⟨[], rfl, by simp⟩
  | n + 1, h => by
    obtain ⟨l, hl, hp⟩ := chooseL n fun i hi => h i (by omega)
    obtain ⟨x, hx⟩ := h n (by omega)
    refine ⟨l ++ [x], by simp [hl], fun i y hy => ?_⟩
    rcases Nat.lt_trichotomy i n with hi | hi | hi
    · rw [List.getElem?_append_left (by omega)] at hy; exact hp i y hy
    · subst hi; rw [List.getElem?_append_right (by omega)] at hy; simp [hl] at hy; subst hy; exact hx
    · rw [List.getElem?_eq_none (by simp; omega)] at hy; simp at hy
section
variable {α : Type} {k : Kd α} {t : TypeId} {B : Nat} {w w' : World} {s : Sl} {xs : List α} {i : Int} {sz : Nat}
theorem take_flat {ys : List α} {cur : List Value} (hp : 0 < k.ls.length) (h : ∀ i x, ys[i]? = some x → ∀ j v, (k.cells x)[j]? = some v → cur[i * k.ls.length + j]? = some v) : cur.take (ys.flatMap k.cells).length = ys.flatMap k.cells := by
  refine List.ext_getElem? fun p => ?_
  rw [List.getElem?_take]
  split
  · rename_i hlt
    rw [flat_length] at hlt
    have hq : p / k.ls.length < ys.length := Nat.div_lt_of_lt_mul (by rw [Nat.mul_comm]; exact hlt)
    have hr : p % k.ls.length < k.ls.length := Nat.mod_lt _ hp
    have hy : ys[p / k.ls.length]? = some ys[p / k.ls.length] := List.getElem?_eq_getElem hq
    have hv : (k.cells ys[p / k.ls.length])[p % k.ls.length]? = some ((k.cells ys[p / k.ls.length])[p % k.ls.length]'(by rw [k.cells_length]; exact hr)) := List.getElem?_eq_getElem _
    have h1 := flat_get k ys _ _ hy _ _ hv
    have h2 := h _ _ hy _ _ hv
    have hj : p / k.ls.length * k.ls.length + p % k.ls.length = p := by rw [Nat.mul_comm]; exact Nat.div_add_mod _ _
    rw [hj] at h1 h2
    rw [h1, h2]
  · rename_i hge
    rw [List.getElem?_eq_none (by omega)]
theorem take_flat' {ys : List α} {cur : List Value} {n : Nat} (hp : 0 < k.ls.length) (hn : n = ys.length) (h : ∀ i x, ys[i]? = some x → ∀ j v, (k.cells x)[j]? = some v → cur[i * k.ls.length + j]? = some v) : cur.take (n * k.ls.length) = ys.flatMap k.cells := by
  have := take_flat hp h
  rwa [flat_length, ← hn] at this
/-- Cells that are numbers stay numbers. -/
def Ip (H : Nat) (a b : World) : Prop := ∀ g, H ≤ g → ∀ cur t, a.heap[g]? = some (.cells cur t (0, 0)) → ∃ cur', b.heap[g]? = some (.cells cur' t (0, 0)) ∧ cur'.size = cur.size ∧ ∀ (i : Nat) (n : Int), cur[i]? = some (.int .i64 n) → ∃ n', cur'[i]? = some (.int .i64 n')
theorem Ip.refl (H : Nat) (a : World) : Ip H a a := fun g _ cur t h => ⟨cur, h, rfl, fun i n hi => ⟨n, hi⟩⟩
theorem Ip.trans {H : Nat} {a b c : World} (h1 : Ip H a b) (h2 : Ip H b c) : Ip H a c := fun g hg cur t h => by
  obtain ⟨c1, hc1, hs1, hi1⟩ := h1 g hg cur t h
  obtain ⟨c2, hc2, hs2, hi2⟩ := h2 g hg c1 t hc1
  exact ⟨c2, hc2, by omega, fun i n hi => by obtain ⟨n1, h1⟩ := hi1 i n hi; exact hi2 i n1 h1⟩
theorem Ip.of_same {H : Nat} {a b : World} (h : ∀ g, H ≤ g → g < a.heap.size → b.heap[g]? = a.heap[g]?) : Ip H a b := fun g hg cur t hc =>
  ⟨cur, (h g hg (Array.getElem?_eq_some_iff.1 hc).1).trans hc, rfl, fun i n hi => ⟨n, hi⟩⟩
/-- A kind of whole numbers. -/
structure KN (k : Kd α) : Prop where
  all : ∀ l ∈ k.ls, l = .i .i64
  pos : 0 < k.ls.length
  sur : ∀ t : Tup k.ls, ∃ y, k.t y = t
theorem tup_ints : ∀ (ls : List Lf), (∀ l ∈ ls, l = .i .i64) → ∀ vs : Nat → Int, ∃ t : Tup ls, ∀ j, j < ls.length → (Tup.cells ls t)[j]? = some (.int .i64 (vs j))
  | [], _, _ => ⟨(), by simp⟩
  | l :: ls, h, vs => by
    obtain rfl := h l List.mem_cons_self
    obtain ⟨t, ht⟩ := tup_ints ls (fun l' hl' => h l' (List.mem_cons_of_mem _ hl')) (fun j => vs (j + 1))
    refine ⟨(vs 0, t), fun j hj => ?_⟩
    cases j with
    | zero => rfl
    | succ j => simpa [Tup.cells] using ht j (by simpa using hj)
theorem cells_ints : ∀ (ls : List Lf), (∀ l ∈ ls, l = .i .i64) → ∀ (t : Tup ls) (j : Nat) (v : Value), (Tup.cells ls t)[j]? = some v → ∃ n, v = .int .i64 n
  | [], _, _, j, v, h => by simp [Tup.cells] at h
  | l :: ls, h, t, j, v, hv => by
    obtain rfl := h l List.mem_cons_self
    cases j with
    | zero => simp only [Tup.cells, List.getElem?_cons_zero, Option.some.injEq] at hv; exact ⟨_, hv.symm⟩
    | succ j => exact cells_ints ls (fun l' hl' => h l' (List.mem_cons_of_mem _ hl')) t.2 j v (by simpa [Tup.cells] using hv)
/-- What was owned is owned, with other numbers. -/
theorem OwnS.ip (hk : KN k) (h : OwnS k t B w s xs) (hi : Ip B w w') : ∃ ys, ys.length = xs.length ∧ OwnS k t B w' s ys := by
  rcases h.2.2 with ⟨hv, hn⟩ | ⟨g, cap, cur, hv, hB, hg, hnc, hcm, hcs, ht⟩
  · have hx : xs = [] := List.eq_nil_of_length_eq_zero (by rw [← h.1]; exact hn)
    subst hx
    exact ⟨[], rfl, h.1, by rw [hn]; simp, .inl ⟨hv, hn⟩⟩
  · obtain ⟨cur', hg', hs', hint⟩ := hi g hB cur t hg
    have hcell : ∀ (i : Nat) (x : α), xs[i]? = some x → ∀ j, j < k.ls.length → ∃ n : Int, cur[i * k.ls.length + j]? = some (.int .i64 n) := by
      intro i x hx j hj
      have hv : (k.cells x)[j]? = some ((k.cells x)[j]'(by rw [k.cells_length]; exact hj)) := List.getElem?_eq_getElem _
      obtain ⟨n, hn⟩ := cells_ints k.ls hk.all (k.t x) j _ hv
      have h1 := flat_get k xs i x hx j _ hv
      rw [← ht, List.getElem?_take] at h1
      split at h1
      · refine ⟨n, ?_⟩
        rw [← hn]; simpa using h1
      · simp at h1
    obtain ⟨ys, hyl, hy⟩ := chooseL (p := fun i y => ∀ j v, (k.cells y)[j]? = some v → cur'[i * k.ls.length + j]? = some v) xs.length (fun i hi => by
      obtain ⟨x, hx⟩ := get_some (l := xs) (k := i) hi
      have h1 : ∀ j, ∃ n : Int, j < k.ls.length → cur'[i * k.ls.length + j]? = some (.int .i64 n) := fun j => by
        by_cases hj : j < k.ls.length
        · obtain ⟨n, hn⟩ := hcell i x hx j hj
          obtain ⟨n', hn'⟩ := hint _ n hn
          exact ⟨n', fun _ => hn'⟩
        · exact ⟨0, fun h => absurd h hj⟩
      obtain ⟨t, ht⟩ := tup_ints k.ls hk.all (fun j => (h1 j).choose)
      obtain ⟨y, rfl⟩ := hk.sur t
      refine ⟨y, fun j v hv => ?_⟩
      have hj : j < k.ls.length := by have := lt_of_get hv; rw [k.cells_length] at this; exact this
      have h2 : (k.cells y)[j]? = _ := ht j hj
      rw [h2] at hv
      simp only [Option.some.injEq] at hv
      rw [← hv]
      exact (h1 j).choose_spec hj)
    refine ⟨ys, hyl, by rw [hyl]; exact h.1, by rw [flat_length, hyl, h.1], .inr ⟨g, cap, cur', hv, hB, hg', hnc, hcm, by omega, take_flat' hk.pos (by rw [hyl]; exact h.1) fun i x hx j v hv => by simpa using hy i x hx j v hv⟩⟩
theorem heap_setRow {w : World} {g : Nat} {cur vs : Array Value} {t : TypeId} (h : w.heap[g]? = some (.cells cur t (0, 0))) : (w.setRow g vs).heap[g]? = some (.cells vs t (0, 0)) := by
  simp [World.setRow, Array.getElem?_modify, h]
theorem heap_setRow_ne {w : World} {g j : Nat} {vs : Array Value} (h : j ≠ g) : (w.setRow g vs).heap[j]? = w.heap[j]? := by
  simp [World.setRow, Array.getElem?_modify, Ne.symm h]
theorem RunT.and {r : Rs} {P : Program} {sm : Sem Value} {K : r.T → World → Prop} {I : World → Prop} (h : RunT r P sm w K) (hI : ∀ v w', sm.run P w = .ok v w' → I w') : RunT r P sm w (fun x w' => K x w' ∧ I w') := by
  obtain ⟨x, w', hr, hk⟩ := h
  exact ⟨x, w', hr, hk, hI _ _ hr⟩
/-- What an append leaves of numbers. -/
theorem ap_ip {P : Program} {tS tR : TypeId} {bytes : Nat} (hE : El P tS t k bytes) (hk : KN k) {H : Nat} (h : OwnS k t B w s xs) {x : Sl} {ys : List α} (hx : SlR k w x ys) (hb : (xs.length + ys.length) * bytes ≤ 140737488355328) (hm : xs.length + ys.length ≤ 140737488355328) :
    ∀ v w', (Builtin.append_ #[tS, tS] tR #[.slice s.a s.n s.c, .slice x.a x.n x.c]).run P w = .ok v w' → Ip H w w' := by
  intro v w' hr
  obtain ⟨i, z, hi, hz, hsz, hby, hzs⟩ := hE.info
  by_cases hne : ys = []
  · subst hne
    have hxn : x.n = 0 := by rw [hx.1]; rfl
    have hr' : (Builtin.append_ #[tS, tS] tR #[.slice s.a s.n s.c, .slice x.a x.n x.c]).run P w = .ok (.slice s.a s.n s.c) w := by
      rw [hxn]
      have hc := h.cap
      cases hxa : x.a <;> cases hsa : s.a <;> simp [Builtin.append_, run_underlying hE.elem, sizeOf, typeInfo, hi, Builtin.lenOf, Builtin.firstCells, hc.1, storeCells, loadCells, loadCellsFrom]
    rw [hr'] at hr
    simp only [Result.ok.injEq] at hr
    rw [← hr.2]; exact Ip.refl _ _
  · rcases hx.2.2.2 with h0 | ⟨b, o, ha, hat⟩
    · exact absurd h0 hne
    · have hnews : ∀ j u, (ys.flatMap k.cells)[j]? = some u → w.cell? ((⟨b, o, none⟩ : Addr).add j) = some u := by
        intro j u hu
        have hjl : j < ys.length * k.ls.length := by
          rcases Nat.lt_or_ge j (ys.length * k.ls.length) with h | h
          · exact h
          · rw [List.getElem?_eq_none (by rw [flat_length]; exact h)] at hu; simp at hu
        have hq : j / k.ls.length < ys.length := Nat.div_lt_of_lt_mul (by rw [Nat.mul_comm]; exact hjl)
        have hr : j % k.ls.length < k.ls.length := Nat.mod_lt _ hE.pos
        have hy : ys[j / k.ls.length]? = some ys[j / k.ls.length] := List.getElem?_eq_getElem hq
        have hv : (k.cells ys[j / k.ls.length])[j % k.ls.length]? = some ((k.cells ys[j / k.ls.length])[j % k.ls.length]'(by rw [k.cells_length]; exact hr)) := List.getElem?_eq_getElem _
        have h1 := flat_get k ys _ _ hy _ _ hv
        have hj : j / k.ls.length * k.ls.length + j % k.ls.length = j := by rw [Nat.mul_comm]; exact Nat.div_add_mod _ _
        rw [hj, hu] at h1
        simp only [Option.some.injEq] at h1
        have h2 := hat _ _ hy _ _ hv
        rw [← h1, Nat.add_assoc, hj] at h2
        rw [add_mk]
        exact h2
      have h1 : ∀ u ∈ ys.flatMap k.cells, u.oneCell' = true := by
        intro u hu
        obtain ⟨y, _, hy⟩ := List.mem_flatMap.1 hu
        exact oneCell_cells k hE.one y u hy
      have hint : ∀ (j : Nat) u, (ys.flatMap k.cells)[j]? = some u → ∃ n : Int, u = .int .i64 n := by
        intro j u hu
        obtain ⟨y, _, hy⟩ := List.mem_flatMap.1 (List.mem_of_getElem? hu)
        obtain ⟨q, hq⟩ := List.getElem?_of_mem hy
        exact cells_ints k.ls hk.all (k.t y) q u hq
      have hxn : 0 < x.n := by rw [hx.1]; exact List.length_pos_iff.2 hne
      have hlen : (ys.flatMap k.cells).length = x.n * i.size := by rw [flat_length, hx.1, hsz]
      rw [ha] at hr
      rcases h.2.2 with ⟨hv, hn⟩ | ⟨g, cap, cur, hv, hBg, hg, hnc, hcm, hcs, htake⟩
      · rw [hv, run_append_nil (P := P) w tS tR t i z hE.elem hi hz ⟨b, o, none⟩ x.n x.c _ hlen hnews hxn (by rw [hx.1]; omega) (by
          rw [hx.1, hby]
          have : ys.length * bytes ≤ (xs.length + ys.length) * bytes := Nat.mul_le_mul_right _ (by omega)
          omega)] at hr
        simp only [Result.ok.injEq] at hr
        rw [← hr.2]
        exact Ip.of_same fun j _ hj => (((Below.refl w.heap.size w).drew).alloc (Nat.le_refl _) _).block j hj
      · rw [hv] at hr
        by_cases hroom : s.n + x.n ≤ cap
        · have hfit : s.n * i.size + (ys.flatMap k.cells).length ≤ cur.size := by rw [hlen, hcs, ← Nat.add_mul, hsz]; exact Nat.mul_le_mul_right _ hroom
          rw [run_append_room (P := P) w tS tR t i hE.elem hi g s.n cap cur hg ⟨b, o, none⟩ x.n x.c _ hlen hnews h1 hroom hfit] at hr
          simp only [Result.ok.injEq] at hr
          rw [← hr.2]
          intro q _ cq tq hq
          by_cases hqg : q = g
          · subst hqg
            rw [hg] at hq
            simp only [Option.some.injEq, Obj.cells.injEq] at hq
            obtain ⟨rfl, rfl, _⟩ := hq
            have e0 : (cur.toList.take (s.n * i.size)).length = s.n * i.size := by rw [List.length_take, Array.length_toList]; omega
            refine ⟨_, heap_setRow hg, ?_, fun p n hp => ?_⟩
            · simp only [List.size_toArray, List.length_append, List.length_drop, e0, Array.length_toList]; omega
            rw [List.getElem?_toArray]
            rcases Nat.lt_or_ge p (s.n * i.size) with h2 | h2
            · refine ⟨n, ?_⟩
              rw [List.append_assoc, List.getElem?_append_left (by omega), List.getElem?_take, if_pos h2]
              simpa using hp
            · rw [List.append_assoc, List.getElem?_append_right (by omega), e0]
              rcases Nat.lt_or_ge (p - s.n * i.size) (ys.flatMap k.cells).length with h3 | h3
              · rw [List.getElem?_append_left h3]
                obtain ⟨n', hn'⟩ := hint _ _ (List.getElem?_eq_getElem h3)
                exact ⟨n', by rw [List.getElem?_eq_getElem h3, hn']⟩
              · refine ⟨n, ?_⟩
                rw [List.getElem?_append_right h3, List.getElem?_drop, show s.n * i.size + (ys.flatMap k.cells).length + (p - s.n * i.size - (ys.flatMap k.cells).length) = p by omega]
                simpa using hp
          · exact ⟨cq, by rw [heap_setRow_ne hqg]; exact hq, rfl, fun i n hi => ⟨n, hi⟩⟩
        · have holds : ∀ j u, (xs.flatMap k.cells)[j]? = some u → w.cell? ((⟨g, 0, none⟩ : Addr).add j) = some u := h.2.cells (g := g) (by rw [hv]; rfl)
          rw [run_append_grow (P := P) w tS tR t i z hE.elem hi hz ⟨g, 0, none⟩ s.n cap (xs.flatMap k.cells) (by rw [flat_length, h.1, hsz]) holds ⟨b, o, none⟩ x.n x.c _ hlen hnews (by omega) (by rw [h.1, hx.1]; omega) (growslice_fits (by omega) (by rw [h.1, hx.1, hby]; exact hb))] at hr
          simp only [Result.ok.injEq] at hr
          rw [← hr.2]
          exact Ip.of_same fun j _ hj => (((Below.refl w.heap.size w).drew).alloc (Nat.le_refl _) _).block j hj
/-- Write a field of an element of what is owned. -/
theorem ixOwF (h : OwnS k t B w s xs) (hi : 0 ≤ i) {x : α} (hx : xs[i.toNat]? = some x) (hsz : sz = k.ls.length) {j : Nat} (hj : j < k.ls.length) {v : Value} (hv : v.oneCell' = true) (y : α) (hy : k.cells y = (k.cells x).set j v) {K : World → Prop}
    (hK : ∀ w', OwnS k t B w' s (xs.set i.toNat y) → w.grownBy w' s.bk → w'.heap.size = w.heap.size → K w') : Ix s.a s.n i sz w (fun a w1 => St (Addr.add a j) v w1 K) := by
  have hl := lt_of_get hx
  rcases h.2.2 with ⟨_, hn⟩ | ⟨g, cap, cur, hvv, hB, hg, hnc, hcm, hcs, ht⟩
  · rw [h.1] at hn; omega
  simp only [Value.slice.injEq] at hvv
  have hc : ∀ i x, xs[i]? = some x → ∀ j v, (k.cells x)[j]? = some v → cur[0 + i * k.ls.length + j]? = some v := fun i x hi j v hm => by
    have hm := flat_get k xs i x hi j v hm
    rw [← ht, List.getElem?_take] at hm
    split at hm
    · simpa using hm
    · simp at hm
  have hcap : (i.toNat + 1) * k.ls.length ≤ cap * k.ls.length := Nat.mul_le_mul_right _ (by rw [h.1] at hnc; omega)
  rw [Nat.succ_mul] at hcap
  subst hsz
  refine ⟨_, hvv.1, hi, by rw [h.1]; omega, hv, ⟨cur[i.toNat * k.ls.length + j]'(by omega), ?_⟩, ?_, ?_⟩
  · rw [add_mk, add_mk, cell_of hg, Nat.zero_add]; exact Array.getElem?_eq_getElem _
  · simp [add_mk, World.frozen?, hg]
  · rw [add_mk, add_mk]
    have hu := upd (cur' := cur.setIfInBounds (0 + i.toNat * k.ls.length + j) v) (y := y) hc (i := i.toNat) ?_ ?_
    · refine hK _ ⟨by simpa using h.1, by rw [flat_length]; simp [h.1], .inr ⟨g, cap, _, by simp [hvv], hB, setCell_heap hg v, hnc, hcm, by simpa using hcs, take_flat' (by omega) (by simpa using h.1) fun i x hx j v hv => by have h2 := hu i x hx j v hv; rw [Nat.zero_add (i * _)] at h2; rw [Array.getElem?_toList]; exact h2⟩⟩ (by simpa [Sl.bk, hvv.1] using grown_setCell w g _ v) (by simp)
    · intro j' u hu
      rw [hy] at hu
      by_cases he : j' = j
      · subst he
        rw [List.getElem?_set_self (by rw [k.cells_length]; exact hj)] at hu
        rw [Array.getElem?_setIfInBounds_self_of_lt (by omega)]; exact hu
      · rw [List.getElem?_set_ne (by omega)] at hu
        rw [Array.getElem?_setIfInBounds_ne (by omega)]
        exact hc _ _ hx _ _ hu
    · intro p hp
      exact Array.getElem?_setIfInBounds_ne (by omega)
end
theorem knIns : KN kIns := ⟨by intro l hl; simp [kIns] at hl; exact hl, by decide, fun t => ⟨insOf t, rfl⟩⟩
end Go.Proofs.YteggdoigliddkaaGreatDoor.V

/- Contracts: the draws of programs. -/
namespace Go.Proofs.YteggdoigliddkaaGreatDoor.V
open Go Go.RowKit
set_option linter.unusedVariables false
set_option linter.unusedSimpArgs false
theorem grown_newO {w w1 w2 : World} {row row2 : Option Nat} (h : w.grownBy w1 row) (h2 : w1.grownBy w2 row2) (hb : ∀ b, row2 = some b → w.heap.size ≤ b) : w.grownBy w2 row :=
  ⟨h2.os.trans h.os, h2.tape.trans h.tape, h2.output.trans h.output, Nat.le_trans h.size h2.size, fun k hk hne => (h2.block k (Nat.lt_of_lt_of_le hk h.size) (fun e => by have := hb k e.symm; omega)).trans (h.block k hk hne)⟩
section
variable {B br m : Nat} {w : World}
theorem OwnS.keptBr {α : Type} {k : Kd α} {t : TypeId} {B' : Nat} {w1 w2 : World} {s : Sl} {xs : List α} (ho : OwnS k t B' w1 s xs) (hg : w1.grownBy w2 (some br)) (h : br < B') : OwnS k t B' w2 s xs :=
  ho.kept hg (fun b hb e => by simp only [Option.some.injEq] at hb; have := (ho.blk e).1; omega)
theorem RdS.keptO {α : Type} {k : Kd α} {t : TypeId} {B' : Nat} {w1 w2 : World} {s : Sl} {xs : List α} (h : RdS B br m w1) (ho : OwnS k t B' w1 s xs) (hg : w1.grownBy w2 (Value.slice s.a s.n s.c).ownBlock) (hb : br < B') : RdS B br m w2 :=
  h.kept hg (fun b e => by have := (ho.blk e).1; omega)
def MkI (B br m : Nat) (w : World) (t : Int) (out : Sl) (w' : World) : Prop :=
  ∃ ys, OwnS kIns 39 w.heap.size w' out ys ∧ 4 ≤ ys.length ∧ (ys.length : Int) ≤ t + 8 ∧ RdS B br (m + 1 + 8 * (ys.length - 4)) w' ∧ w.grownBy w' (some br)
set_option maxHeartbeats 1000000 in
theorem spec.l20Make.c {K : Sl → World → Prop} (h : RdS B br m w) (hm : m ≤ 800000000) (hk : ∀ r w' ys, w.grownBy w' (some br) → RdS B br (m + 200) w' → OwnS kIns 39 w.heap.size w' r ys → 1 ≤ ys.length → ys.length ≤ 40 → K r w') :
    CallT (.o (.lf .sl)) P0 74 [.pointer (some ⟨br, 0, none⟩)] w K := by
  have hlt := h.lt
  refine spec.l20Make.ok (nw fun w1 b1 s1 c1 => ?_)
  have hl : OwnS kS 9 w.heap.size w1 ⟨some ⟨w.heap.size, 0, none⟩, 4, 4⟩ [_, _, _, _] := OwnS.lit (Nat.le_refl _) c1 rfl rfl (by simp [maxLen])
  refine spec.l20Read.c (l := ⟨some ⟨w.heap.size, 0, none⟩, 4, 4⟩) hl.read (by simp) (by decide) fun r0 w2 ys0 b2 ho2 hl2 => ?_
  have g2 : w.grownBy w2 (some br) := grown_trans (grown_any b1) (grown_any b2)
  refine spec.l20Rd.pick.c ((h.below b1).below b2) (by omega) (by omega) fun t10 w3 p0 p1 g3 r3 => ?_
  have hN : IntKind.wrap .i64 (IntKind.wrap .i64 (4 + t10) + 4) = t10 + 8 := by rw [i64_of (n := 4 + t10) (by omega) (by omega), i64_of (by omega) (by omega)]; omega
  simp only [List.length_cons, List.length_nil] at hl2
  refine ⟨MkI B br m w t10, fun out _ => 40 - out.n, ⟨ys0, (ho2.low b1.size).keptBr g3 hlt, by omega, by omega, r3.more (by omega), grown_trans g2 g3⟩, ?_⟩
  rintro out w4 ⟨ys, ho, hl4, hln, hr, hg⟩ _
  have hn := ho.len
  rw [hN]
  have app : ∀ {w5 : World} {K' : Sl → World → Prop} (y : Ins) (p : Nat), w4.grownBy w5 (some br) → RdS B br p w5 →
      (∀ o' w7, OwnS kIns 39 w.heap.size w7 o' (ys ++ [y]) → RdS B br p w7 → w.grownBy w7 (some br) → K' o' w7) →
      Nw y.cs 39 w5 fun a w6 => RunT (.o (.lf .sl)) P0 (Builtin.append_ #[22, 22] 22 #[.slice out.a out.n out.c, .slice (some a) 1 1]) w6 K' := by
    intro w5 K' y p g5 r5 hk'
    have o5 := ho.keptBr g5 hlt
    have G5 := grown_trans hg g5
    refine ap1 elIns o5 y rfl (by omega) (by omega) G5.size fun o' w6 o6 g6 _ => ?_
    exact hk' o' w6 o6 (r5.keptO o5 g6 hlt) (grown_newO G5 g6 (fun b hb => (o5.blk hb).1))
  refine And.intro (fun hlt' => ?_) (fun hge => ?_)
  · simp only [decide_eq_true_eq] at hlt'
    have fin : ∀ {w5 : World} (y : Ins), w4.grownBy w5 (some br) → RdS B br (m + 1 + 8 * (ys.length - 4) + 8) w5 →
        Nw y.cs 39 w5 fun a w6 => RunT (.o (.lf .sl)) P0 (Builtin.append_ #[22, 22] 22 #[.slice out.a out.n out.c, .slice (some a) 1 1]) w6 fun o' w7 => MkI B br m w t10 o' w7 ∧ 40 - o'.n < 40 - out.n := by
      intro w5 y g5 r5
      refine app y _ g5 r5 fun o' w7 o7 r7 g7 => ?_
      have hl7 := o7.len
      simp only [List.length_append, List.length_cons, List.length_nil] at hl7
      exact ⟨⟨ys ++ [y], o7, by simp; omega, by simp; omega, r7.more (by simp; omega), g7⟩, by omega⟩
    refine spec.l20Rd.pick.c hr (by omega) (by omega) fun t23 w5 q0 q1 g5 r5 => ?_
    refine ⟨fun _ w' => w' = w5, And.intro (fun _ => rfl) (fun _ => rfl), ?_⟩
    rintro t29 w6 rfl _
    refine And.intro (fun _ => ?_) (fun _ => ?_)
    · refine spec.l20Rd.pick.c r5 (by omega) (by omega) fun t33 w7 _ _ g7 r7 => ?_
      refine oneLit (xs := [0, 6, 7, 8]) r7 (by omega) rfl rfl (by decide) fun t37 w8 _ g8 r8 => ?_
      refine spec.l20Imm.c r8 (by omega) fun t39 w9 g9 r9 => ?_
      rw [i64_of (n := t10 + 8 - ((out.n : Nat) : Int)) (by omega) (by omega)]
      refine spec.l20Rd.pick.c r9 (by omega) (by omega) fun t42 w10 _ _ g10 r10 => ?_
      have g410 : w4.grownBy w10 (some br) := grown_trans (grown_trans (grown_trans (grown_trans g5 g7) g8) g9) g10
      refine nwStIns (x := ⟨IntKind.wrap .i64 (12 + t33), t37, -1, t42, t39, 0⟩) fun w11 b11 s11 c11 => ?_
      refine spec.l20Rd.pick.c (r10.below b11) (by omega) (by omega) fun t45 w12 _ _ g12 r12 => ?_
      have c12 := keepB c11 g12 (by have := g410.size; have := hr.lt; omega)
      have g412 : w4.grownBy w12 (some br) := grown_trans (grown_trans g410 (grown_any b11)) g12
      have hs10 := g410.size
      have hbr4 := hr.lt
      refine And.intro (fun _ => ?_) (fun _ => ?_)
      · refine oneLit (xs := [0, 6, 7, 8]) r12 (by omega) rfl rfl (by decide) fun t49 w13 _ g13 r13 => ?_
        have c13 := keepB c12 g13 (by omega)
        refine stB c13 rfl (by simp [Ins.cs]) fun w14 g14 s14 c14 => ?_
        refine stB c14 rfl (by simp [Ins.cs]) fun w15 g15 s15 c15 => ?_
        have G15 : w4.grownBy w15 (some br) := grown_new (grown_new (grown_trans g412 g13) g14 (by omega)) g15 (by omega)
        have r15 := (r13.kept g14 (fun b hb => by simp only [Option.some.injEq] at hb; omega)).kept g15 (fun b hb => by simp only [Option.some.injEq] at hb; omega)
        have c15' : w15.heap[w10.heap.size]? = some (.cells (Ins.cs ⟨IntKind.wrap .i64 (12 + t33), t37, t49, t42, 0, 0⟩) 39 (0, 0)) := c15
        refine ldAB (x := Ins.t ⟨IntKind.wrap .i64 (12 + t33), t37, t49, t42, 0, 0⟩) c15' rfl ?_
        exact fin ⟨IntKind.wrap .i64 (12 + t33), t37, t49, t42, 0, 0⟩ G15 (r15.more (by omega))
      · refine ldAB (x := Ins.t ⟨IntKind.wrap .i64 (12 + t33), t37, -1, t42, t39, 0⟩) c12 rfl ?_
        exact fin ⟨IntKind.wrap .i64 (12 + t33), t37, -1, t42, t39, 0⟩ g412 (r12.more (by omega))
    · refine And.intro (fun _ => ?_) (fun _ => And.intro (fun _ => ?_) (fun _ => ?_))
      · refine oneLit (xs := [0, 6, 7, 8]) r5 (by omega) rfl rfl (by decide) fun t61 w7 _ g7 r7 => ?_
        refine oneLit (xs := [-4, -8, -2]) r7 (by omega) rfl rfl (by decide) fun t64 w8 _ g8 r8 => ?_
        refine oneLit (xs := [1, 2]) r8 (by omega) rfl rfl (by decide) fun t67 w9 _ g9 r9 => ?_
        exact fin ⟨18, 10, t61, t64, 0, t67⟩ (grown_trans (grown_trans (grown_trans g5 g7) g8) g9) (r9.more (by omega))
      · refine oneLit (xs := [0, 6, 8]) r5 (by omega) rfl rfl (by decide) fun t76 w7 _ g7 r7 => ?_
        refine oneLit (xs := [1, 10, 1]) r7 (by omega) rfl rfl (by decide) fun t79 w8 _ g8 r8 => ?_
        refine oneLit (xs := [0, 3, 8]) r8 (by omega) rfl rfl (by decide) fun t82 w9 _ g9 r9 => ?_
        refine oneLit (xs := [1, 2, 4]) r9 (by omega) rfl rfl (by decide) fun t85 w10 _ g10 r10 => ?_
        exact fin ⟨17, t76, t79, t82, 0, t85⟩ (grown_trans (grown_trans (grown_trans (grown_trans g5 g7) g8) g9) g10) (r10.more (by omega))
      · refine spec.l20Alu.c r5 (by omega) fun x w7 g7 r7 => ?_
        exact fin x (grown_trans g5 g7) (r7.more (by omega))
  · refine app ⟨20, 0, -1, 0, 0, 0⟩ _ (grown_refl _ _) hr fun o' w7 o7 r7 g7 => ?_
    exact hk o' w7 _ g7 (r7.more (by omega)) o7 (by simp) (by simp; omega)
/-- A part of a row. -/
theorem slcR {α : Type} {k : Kd α} {P : Program} {tS e : TypeId} (hu : P.underlying tS = some (.slice e)) (hs : szOf P e = some k.ls.length) {w : World} {s : Sl} {xs : List α} (h : SlR k w s xs) {lo hi mx : Option Int} {l h' m : Nat}
    (hlo : lo.getD 0 = l) (hhi : hi.getD s.n = h') (hmx : mx.getD s.c = m) (hm2 : mx.isSome = true → hi.isSome = true) (h1 : l ≤ h') (h2 : h' ≤ m) (h3 : m ≤ s.c) (h4 : h' ≤ s.n) {K : Sl → World → Prop}
    (hk : ∀ r : Sl, r.n = h' - l → r.c = m - l → SlR k w r ((xs.take h').drop l) → (∀ b, r.bk = some b → s.bk = some b) → K r w) :
    RunT (.o (.lf .sl)) P (Instr.sliceAt tS s.v (lo.map (.int .i64)) (hi.map (.int .i64)) (mx.map (.int .i64))) w K := by
  have hrun : (Instr.sliceAt tS s.v (lo.map (.int .i64)) (hi.map (.int .i64)) (mx.map (.int .i64))).run P w = .ok (.slice (if m = l then s.a else s.a.map (·.add (l * k.ls.length))) (h' - l) (m - l)) w := by
    have ho : ∀ (x : Option Int) (d a : Nat), x.getD (d : Int) = (a : Int) → (x = none ∧ a = d) ∨ x = some (a : Int) := by
      intro x d a hx
      cases x with
      | none => left; simp only [Option.getD_none] at hx; exact ⟨rfl, by omega⟩
      | some y => right; simp only [Option.getD_some] at hx; rw [hx]
    rcases ho lo 0 l hlo with ⟨rfl, rfl⟩ | rfl <;> rcases ho hi s.n h' hhi with ⟨rfl, rfl⟩ | rfl <;> rcases ho mx s.c m hmx with ⟨rfl, rfl⟩ | rfl <;>
      first
      | (have hx := hm2 rfl; simp at hx; done)
      | simp [Instr.sliceAt, Instr.slice, Sl.v, underlying, hu, Instr.sliceBounds, Instr.sliceBound, asIntOf, run_sizeOf hs, h1, h2, h3, h4]
  refine ⟨⟨if m = l then s.a else s.a.map (·.add (l * k.ls.length)), h' - l, m - l⟩, w, hrun, hk _ rfl rfl ?_ ?_⟩
  · have hn := h.1
    refine ⟨by rw [List.length_drop, List.length_take]; simp only; omega, by simp only; omega, by have := h.2.2.1; simp only; omega, ?_⟩
    rcases h.2.2.2 with h0 | ⟨b, o, ha, hat⟩
    · left; rw [h0]; simp
    · by_cases hml : m = l
      · left
        apply List.eq_nil_of_length_eq_zero
        rw [List.length_drop, List.length_take]; omega
      · refine .inr ⟨b, o + l * k.ls.length, ?_, fun i x hx => ?_⟩
        · simp only
          rw [if_neg hml, ha, Option.map_some, add_mk]
        · rw [List.getElem?_drop, List.getElem?_take] at hx
          split at hx
          · have := hat _ _ hx
            rw [Nat.add_mul, ← Nat.add_assoc] at this
            exact this
          · simp at hx
  · intro b hb
    simp only [Sl.bk] at hb ⊢
    split at hb
    · exact hb
    · cases hsa : s.a with
      | none => rw [hsa] at hb; simp at hb
      | some a =>
        rw [hsa] at hb
        simp only [Option.map_some, Option.some.injEq] at hb ⊢
        rw [← hb]
        unfold Addr.add
        split <;> rfl
theorem spec.l20Open.c {code : Sl} {bs : List Int} {K : Option Addr → World → Prop} (h : SlR kU8 w code bs) (hb : ∀ x ∈ bs, 0 ≤ x ∧ x ≤ 255) (hk : ∀ w', Below w.heap.size w w' → RdS w.heap.size w.heap.size 0 w' → K (some ⟨w.heap.size, 0, none⟩) w') :
    CallT (.o (.lf .p)) P0 37 [code.v] w K := by
  have hn := h.len
  have blk : ∀ {s : Sl} {xs : List Int}, SlR kU8 w s xs → xs ≠ [] → ∀ b o, s.a = some ⟨b, o, none⟩ → b < w.heap.size := by
    intro s xs hs hne b o ha
    rcases hs.2.2.2 with h0 | ⟨b', o', ha', hat⟩
    · exact absurd h0 hne
    · rw [ha] at ha'
      simp only [Option.some.injEq, Addr.mk.injEq] at ha'
      obtain ⟨x, hx⟩ := get_some (l := xs) (k := 0) (List.length_pos_iff.2 hne)
      have := hat 0 x hx 0 (.int .u8 x) rfl
      have := World.block_lt_of_cell? w _ this
      simp only at this; omega
  have fin : ∀ {s : Sl} {xs : List Int}, SlR kU8 w s xs → (∀ x ∈ xs, 0 ≤ x ∧ x ≤ 255) → Nw #[s.v, .int .i64 0] 100 w fun a w1 => K (some a) w1 := by
    intro s xs hs hx
    exact nw fun w1 b1 s1 c1 => hk w1 b1 ⟨s, xs, 0, c1, hs.below b1, blk hs, Nat.le_refl _, hx, by omega⟩
  refine spec.l20Open.ok (And.intro (fun hgt => ?_) (fun _ => fin h hb))
  simp only [decide_eq_true_eq] at hgt
  refine slcR (k := kU8) (e := 5) (by kernel_rfl) (by kernel_rfl) h (lo := none) (hi := some 2000) (mx := none) (l := 0) (h' := 2000) (m := code.c) rfl rfl rfl (by simp) (by omega) (by have := h.2.1; omega) (by omega) (by omega) fun r _ _ hr _ => ?_
  refine fin hr fun x hx => hb x (List.mem_of_mem_take (by simpa using hx))
end
end Go.Proofs.YteggdoigliddkaaGreatDoor.V

/- Contracts: a drawn program, and the draws of the flow's laws. -/
namespace Go.Proofs.YteggdoigliddkaaGreatDoor.V
open Go Go.RowKit
set_option linter.unusedVariables false
set_option linter.unusedSimpArgs false
/-- What may become of the world in a region that appends to rows of its own beside a draw. -/
structure SpD (H br : Nat) (R : World → Prop) (a b : World) : Prop where
  os : b.os = a.os
  tape : b.tape = a.tape
  output : b.output = a.output
  size : a.heap.size ≤ b.heap.size
  low : ∀ k, k < H → k ≠ br → b.heap[k]? = a.heap[k]?
  ip : Ip H a b
  rd : R a → R b
theorem SpD.refl (H br : Nat) (R : World → Prop) (a : World) : SpD H br R a a := ⟨rfl, rfl, rfl, Nat.le_refl _, fun _ _ _ => rfl, Ip.refl _ _, id⟩
theorem SpD.trans {H br : Nat} {R : World → Prop} {a b c : World} (h1 : SpD H br R a b) (h2 : SpD H br R b c) : SpD H br R a c :=
  ⟨h2.os.trans h1.os, h2.tape.trans h1.tape, h2.output.trans h1.output, Nat.le_trans h1.size h2.size, fun k hk hne => (h2.low k hk hne).trans (h1.low k hk hne), h1.ip.trans h2.ip, fun h => h2.rd (h1.rd h)⟩
theorem SpD.grown {H br : Nat} {R : World → Prop} {a b : World} (h : SpD H br R a b) (hH : H = a.heap.size) : a.grownBy b (some br) :=
  ⟨h.os, h.tape, h.output, h.size, fun k hk hne => h.low k (by omega) (fun e => hne (by rw [e]))⟩
section
variable {B br m : Nat} {w : World}
theorem spD_ok (w : World) : SpOk (SpD w.heap.size br (RdS B br m)) w := by
  refine ⟨fun a => SpD.refl _ _ _ a, fun a b c h1 h2 => h1.trans h2, ?_⟩
  have hb : Below w.heap.size w w.drew := (Below.refl _ _).drew
  exact ⟨rfl, rfl, rfl, Nat.le_refl _, fun k _ _ => rfl, Ip.of_same fun g _ _ => rfl, fun h => h.below hb⟩
/-- A step beside the draw. -/
theorem sk_step {H : Nat} {a b : World} {row : Option Nat} {m1 m2 : Nat} (hg : a.grownBy b row) (hH : H ≤ a.heap.size) (hr : ∀ g, row = some g → H ≤ g) (hi : Ip H a b) (hbr : br < H) : Sk (SpD H br (RdS B br m1)) (RdS B br m2) a b := by
  refine ⟨⟨hg.os, hg.tape, hg.output, hg.size, fun k hk hne => hg.block k (by omega) (fun e => by have := hr k e.symm; omega), hi, fun h => h.kept hg (fun b hb => by have := hr b hb; omega)⟩, fun h => h.kept hg (fun b hb => by have := hr b hb; omega)⟩
theorem sk_below {H : Nat} {a b : World} {m1 m2 : Nat} (hb : Below a.heap.size a b) (hH : H ≤ a.heap.size) (hbr : br < H) : Sk (SpD H br (RdS B br m1)) (RdS B br m2) a b :=
  sk_step (row := none) (grown_of_below hb) hH (by simp) (Ip.of_same fun g _ hg => hb.block g hg) hbr
end
section
variable {α : Type} {k : Kd α} {t : TypeId} {H br n : Nat} {R : World → Prop} {w : World}
/-- Some row of so many elements, owned. -/
def IO (k : Kd α) (t : TypeId) (H n : Nat) (x : Sl) (w : World) : Prop := ∃ zs, zs.length = n ∧ OwnS k t H w x zs
/-- Some row of so many elements, of old memory. -/
def RO (k : Kd α) (H br n : Nat) (x : Sl) (w : World) : Prop := ∃ zs, zs.length = n ∧ SlR k w x zs ∧ ∀ b, x.bk = some b → b < H ∧ b ≠ br
theorem kept_IO (hk : KN k) : Kept (SpD H br R) (IO k t H n) := by
  rintro x a b ⟨zs, hl, ho⟩ hab
  obtain ⟨ys, hyl, hy⟩ := ho.ip hk hab.ip
  exact ⟨ys, by omega, hy⟩
theorem kept_RO : Kept (SpD H br R) (RO k H br n) := by
  rintro x a b ⟨zs, hl, ho, hx⟩ hab
  refine ⟨zs, hl, ⟨ho.1, ho.2.1, ho.2.2.1, ?_⟩, hx⟩
  rcases ho.2.2.2 with h0 | ⟨g, o, ha, hat⟩
  · exact .inl h0
  · refine .inr ⟨g, o, ha, fun i x hi j v hj => ?_⟩
    have h1 := hat i x hi j v hj
    have h2 := hx g (by simp [Sl.bk, ha])
    unfold World.cell? at h1 ⊢
    simp only at h1 ⊢
    rw [hab.low g h2.1 h2.2]; exact h1
end
section
variable {B br m : Nat} {w : World}
def PgJ (B br m : Nat) (w : World) (out : Sl) (w' : World) : Prop := ∃ ys, w.grownBy w' (some br) ∧ RdS B br (m + 210) w' ∧ OwnS kIns 39 w.heap.size w' out ys ∧ 1 ≤ ys.length ∧ ys.length ≤ 40
set_option maxHeartbeats 2000000 in
theorem spec.l20Prog.c {K : Sl → World → Prop} (h : RdS B br m w) (hm : m ≤ 700000000) (hk : ∀ r w' ys, w.grownBy w' (some br) → RdS B br (m + 300) w' → OwnS kIns 39 w.heap.size w' r ys → 1 ≤ ys.length → ys.length ≤ 41 → K r w') :
    CallT (.o (.lf .sl)) P0 38 [.pointer (some ⟨br, 0, none⟩)] w K := by
  have hlt := h.lt
  refine spec.l20Prog.ok (spec.l20Make.c h (by omega) fun r0 w1 ys0 g1 r1 o1 n1 n1' => ?_)
  refine ⟨PgJ B br m w, ?_, ?_⟩
  · refine spec.l20Rd.pick.c r1 (by omega) (by omega) fun t9 w2 _ _ g2 r2 => ?_
    have G2 := grown_trans g1 g2
    refine And.intro (fun _ => ?_) (fun _ => ⟨ys0, G2, r2.more (by omega), o1.keptBr g2 hlt, n1, n1'⟩)
    refine spec.l20Lines.c fun r w3 rows b3 hrows hlen hgood hbk => ?_
    have hrn := hrows.len
    have hH2 := r2.lt
    refine spec.l20Rd.pick.c (r2.below b3) (by omega) (by omega) fun t16 w4 k0 k1 g4 r4 => ?_
    have hsz3 := b3.size
    have hsz2 := G2.size
    obtain ⟨row, hrow⟩ := get_some (l := rows) (k := t16.toNat) (by omega)
    obtain ⟨⟨txt, ht1, ht2, ht3, ht4⟩, hbt⟩ := hgood row (List.mem_of_getElem? hrow)
    have G4 : w.grownBy w4 (some br) := grown_trans (grown_trans G2 (grown_any b3)) g4
    refine ixL (hrows.kept2 g4 (fun b o ha e => by have := hbk b (by simp [Sl.bk, ha]); simp only [Option.some.injEq] at e; omega)) k0 hrow rfl (l := .sl) (v := row) rfl ?_
    refine spec.l20Read.c (ht1.kept2 g4 (fun b o ha e => by have := hbt b (by simp [Sl.bk, ha]); simp only [Option.some.injEq] at e; omega)) (by omega) ht4 fun o' w5 zs b5 o5 hl5 => ?_
    have hsz4 := G4.size
    exact ⟨zs, grown_trans G4 (grown_any b5), (r4.below b5).more (by omega), o5.low hsz4, by omega, by omega⟩
  · rintro out w7 ⟨ys, g7, r7, o7, ny, ny'⟩ _
    have hon := o7.len
    have hoc := o7.cap
    refine spec.l20Rd.pick.c r7 (by omega) (by omega) fun t21 w8 _ _ g8 r8 => ?_
    have G8 := grown_trans g7 g8
    have o8 := o7.keptBr g8 hlt
    refine And.intro (fun _ => ?_) (fun _ => hk _ _ ys G8 (r8.more (by omega)) o8 ny (by omega))
    refine spec.l20Rd.pick.c r8 (by omega) (by omega) fun t26 w9 k0 k1 g9 r9 => ?_
    refine spec.l20Rd.pick.c r9 (by omega) (by omega) fun t28 w10 _ _ g10 r10 => ?_
    have G10 := grown_trans (grown_trans G8 g9) g10
    have o10 := (o8.keptBr g9 hlt).keptBr g10 hlt
    obtain ⟨x, hx⟩ := get_some (l := ys) (k := t26.toNat) (by omega)
    have stf : ∀ {w11 : World} (j : Nat) (v : Int) (y : Ins), w10.grownBy w11 (some br) → RdS B br (m + 250) w11 → j < 6 → kIns.cells y = (kIns.cells x).set j (.int .i64 v) → Ix out.a out.n t26 6 w11 fun a w12 => St (Addr.add a j) (.int .i64 v) w12 fun w13 => K out w13 := by
      intro w11 j v y g11 r11 hj hy
      have o11 := o10.keptBr g11 hlt
      refine ixOwF o11 k0 hx rfl hj rfl y hy fun w12 o12 g12 _ => ?_
      rw [← ob_bk] at g12
      exact hk out w12 _ (grown_newO (grown_trans G10 g11) g12 (fun b hb => (o11.blk hb).1)) ((r11.keptO o11 g12 hlt).more (by omega)) o12 (by simpa using ny) (by simp; omega)
    refine And.intro (fun _ => ?_) (fun _ => And.intro (fun _ => ?_) (fun _ => And.intro (fun _ => ?_) (fun _ => And.intro (fun _ => ?_) (fun _ => And.intro (fun _ => ?_) (fun _ => ?_)))))
    · exact spec.l20Imm.c r10 (by omega) fun v w11 g11 r11 => stf 4 v { x with imm := v } g11 (r11.more (by omega)) (by omega) rfl
    · exact oneLit (xs := [-1, 0, 1, 2, -2, 12, 200]) r10 (by omega) rfl rfl (by decide) fun v w11 _ g11 r11 => stf 3 v { x with off := v } g11 (r11.more (by omega)) (by omega) rfl
    · exact spec.l20Rd.pick.c r10 (by omega) (by omega) fun v w11 _ _ g11 r11 => stf 1 v { x with dst := v } g11 (r11.more (by omega)) (by omega) rfl
    · exact spec.l20Rd.pick.c r10 (by omega) (by omega) fun v w11 _ _ g11 r11 => stf 0 v { x with op := v } g11 (r11.more (by omega)) (by omega) rfl
    · exact spec.l20Rd.pick.c r10 (by omega) (by omega) fun v w11 _ _ g11 r11 => stf 2 (IntKind.wrap .i64 (v - 1)) { x with src := IntKind.wrap .i64 (v - 1) } g11 (r11.more (by omega)) (by omega) rfl
    · have hbr : br < w10.heap.size := r10.lt
      have hoR := o10.read
      have hobk : ∀ b, out.bk = some b → b < w10.heap.size ∧ b ≠ br := fun b hb => by have := o10.blk ((ob_bk _).trans hb); exact ⟨this.2, by omega⟩
      have hkn : t26.toNat ≤ ys.length := by omega
      refine ⟨SpD w10.heap.size br (RdS B br (m + 260)), spD_ok w10, RdS B br (m + 255), (r10.below (Below.refl _ _).drew).more (by omega),
        IO kIns 39 w10.heap.size 0, kept_IO knIns, RO kIns w10.heap.size br t26.toNat, kept_RO, IO kIns 39 w10.heap.size t26.toNat, kept_IO knIns, fun _ _ => True, keptT, IO kIns 39 w10.heap.size 1, kept_IO knIns,
        IO kIns 39 w10.heap.size (t26.toNat + 1), kept_IO knIns, RO kIns w10.heap.size br (ys.length - t26.toNat), kept_RO, IO kIns 39 w10.heap.size (ys.length + 1), kept_IO knIns, ?_⟩
      have app : ∀ {w11 : World} {s x : Sl} {n1 n2 : Nat}, SpD w10.heap.size br (RdS B br (m + 260)) w10 w11 → IO kIns 39 w10.heap.size n1 s w11 → (∃ zs, zs.length = n2 ∧ SlR kIns w11 x zs) → n1 + n2 ≤ 100 →
          RunT (.o (.lf .sl)) P0 (Builtin.append_ #[22, 22] 22 #[.slice s.a s.n s.c, .slice x.a x.n x.c]) w11 fun t w12 => GK (.o (.lf .sl)) (Sk (SpD w10.heap.size br (RdS B br (m + 260))) (RdS B br (m + 255))) w11 (IO kIns 39 w10.heap.size (n1 + n2)) t.v w12 := by
        rintro w11 s x n1 n2 hsp ⟨zs, hz, ho⟩ ⟨us, hu, hx⟩ hle
        have h1 := apS (tR := 22) elIns ho hx (by omega) (by omega) hsp.size (K := fun s' w' => OwnS kIns 39 w10.heap.size w' s' (zs ++ us) ∧ w11.grownBy w' (Value.slice s.a s.n s.c).ownBlock) (fun s' w' h1 h2 _ _ => ⟨h1, h2⟩)
        obtain ⟨t, w12, hr, ⟨h2, h3⟩, h4⟩ := h1.and (I := Ip w10.heap.size w11) (ap_ip elIns knIns ho hx (by omega) (by omega))
        exact ⟨t, w12, hr, t, rfl, sk_step h3 hsp.size (fun g hg => (ho.blk hg).1) h4 hbr, _, by simp [hz, hu], h2⟩
      have hRO : ∀ {w11 : World} {r : Sl} {n : Nat}, (∃ zs, zs.length = n ∧ SlR kIns w11 r zs) → (∀ b, r.bk = some b → out.bk = some b) → RO kIns w10.heap.size br n r w11 := by
        rintro w11 r n ⟨zs, hz, hr⟩ hb
        exact ⟨zs, hz, hr, fun b h => hobk b (hb b h)⟩
      have outR : ∀ {w11 : World}, SpD w10.heap.size br (RdS B br (m + 260)) w10 w11 → ∃ zs, zs.length = ys.length ∧ SlR kIns w11 out zs := fun hsp => by
        obtain ⟨zs, hz, hr, _⟩ := kept_RO (k := kIns) (H := w10.heap.size) (br := br) (n := ys.length) (R := RdS B br (m + 260)) out w10 _ ⟨ys, rfl, hoR, hobk⟩ hsp
        exact ⟨zs, hz, hr⟩
      have hsz10 := G10.size
      refine ⟨fun w11 hsp => ?_, fun t29 => ⟨fun w11 hsp => ?_, fun t32 => ⟨fun w11 hsp f29 f32 => ?_, fun t33 => ⟨fun w11 hsp hN => ?_, fun t35 => ⟨fun w11 hsp f35 => ?_, fun t36 => ⟨fun w11 hsp f33 f36 => ?_, fun t37 => ⟨fun w11 hsp => ?_, fun t40 => ⟨fun w11 hsp f37 f40 => ?_, fun t41 w11 hsp _ _ _ _ _ _ _ f41 => ?_⟩⟩⟩⟩⟩⟩⟩⟩
      · exact nw fun w12 b12 s12 c12 => ⟨⟨some ⟨w11.heap.size, 0, none⟩, 0, 0⟩, rfl, sk_below b12 hsp.size hbr, [], rfl, OwnS.lit hsp.size c12 rfl rfl (by simp)⟩
      · obtain ⟨zs, hz, hr⟩ := outR hsp
        refine slcR (k := kIns) (e := 39) (by kernel_rfl) (by kernel_rfl) hr (lo := none) (hi := some t26) (mx := none) (l := 0) (h' := t26.toNat) (m := out.c) rfl (by simp; omega) rfl (by simp) (by omega) (by omega) (by omega) (by omega) fun r _ _ hr2 hb2 => ?_
        exact ⟨r, rfl, sk_below (Below.refl _ _) hsp.size hbr, hRO ⟨_, by simp; omega, hr2⟩ hb2⟩
      · obtain ⟨zs, hz, hr, _⟩ := f32
        have := app (x := t32) (n2 := t26.toNat) hsp f29 ⟨zs, hz, hr⟩ (by omega)
        rw [Nat.zero_add] at this
        exact this
      · refine spec.l20Alu.c hN (by omega) fun x w12 g12 r12 => ?_
        have hbb : Ip w10.heap.size w11 w12 := Ip.of_same fun g hg hg2 => g12.block g hg2 (fun e => by simp only [Option.some.injEq] at e; omega)
        exact ⟨x.t, rfl, ⟨g12.os, g12.tape, g12.output, g12.size, fun k hk hne => g12.block k (by have := hsp.size; omega) (fun e => hne (by simpa using e)), hbb, fun _ => r12.more (by omega)⟩, trivial⟩
      · exact nw fun w12 b12 s12 c12 => ⟨⟨some ⟨w11.heap.size, 0, none⟩, 1, 1⟩, rfl, sk_below b12 hsp.size hbr, [insOf t35], rfl, OwnS.lit hsp.size c12 rfl rfl (by simp [maxLen])⟩
      · obtain ⟨zs, hz, ho⟩ := f36
        exact app (x := t36) (n2 := 1) hsp f33 ⟨zs, hz, ho.read⟩ (by omega)
      · obtain ⟨zs, hz, hr⟩ := outR hsp
        refine slcR (k := kIns) (e := 39) (by kernel_rfl) (by kernel_rfl) hr (lo := some t26) (hi := none) (mx := none) (l := t26.toNat) (h' := out.n) (m := out.c) (by simp; omega) rfl rfl (by simp) (by omega) (by omega) (by omega) (by omega) fun r _ _ hr2 hb2 => ?_
        exact ⟨r, rfl, sk_below (Below.refl _ _) hsp.size hbr, hRO ⟨_, by simp; omega, hr2⟩ hb2⟩
      · obtain ⟨zs, hz, hr, _⟩ := f40
        have := app (x := t40) (n2 := ys.length - t26.toNat) hsp f37 ⟨zs, hz, hr⟩ (by omega)
        rw [show t26.toNat + 1 + (ys.length - t26.toNat) = ys.length + 1 by omega] at this
        exact this
      · obtain ⟨zs, hz, ho⟩ := f41
        exact hk t41 w11 zs (grown_trans G10 (hsp.grown rfl)) ((hsp.rd (r10.more (by omega))).more (by omega)) (ho.low hsz10) (by omega) (by omega)
end
end Go.Proofs.YteggdoigliddkaaGreatDoor.V

/- Contracts: the draws of rules. -/
namespace Go.Proofs.YteggdoigliddkaaGreatDoor.V
open Go Go.RowKit
set_option linter.unusedVariables false
set_option linter.unusedSimpArgs false
section
variable {B br m : Nat} {w : World}
theorem knRule : KN kRule := ⟨by intro l hl; simp [kRule, List.mem_replicate] at hl; exact hl, by decide, fun t => ⟨⟨t.1, t.2.1, t.2.2.1, t.2.2.2.1, t.2.2.2.2.1⟩, rfl⟩⟩
end
section
variable {w : World} {code : Sl} {bs : List Int}
end
end Go.Proofs.YteggdoigliddkaaGreatDoor.V

/- Contracts: figures, cuts and words, in the reference and in the program. -/
namespace Go.Proofs.YteggdoigliddkaaGreatDoor.V
open Go Go.RowKit
set_option linter.unusedVariables false
set_option linter.unusedSimpArgs false
/-- All old memory stays. -/
def StR (a b : World) : Prop := Below a.heap.size a b
theorem stOk (w : World) : SpOk StR w := ⟨fun a => Below.refl _ _, fun a b c h1 h2 => h1.trans (h2.mono h1.size), (Below.refl _ _).drew⟩
/-- An address that holds this. -/
def AtW (vs : List Value) (a : Addr) (w : World) : Prop := ∃ b o, a = ⟨b, o, none⟩ ∧ b < w.heap.size ∧ At w b o vs
theorem keptAw {vs : List Value} : Kept StR (AtW vs) := by
  rintro a x z ⟨b, o, h1, h2, h3⟩ hxz
  have hxz : Below x.heap.size x z := hxz
  refine ⟨b, o, h1, Nat.lt_of_lt_of_le h2 hxz.size, fun m v hv => ?_⟩
  rw [← h3 m v hv]
  unfold World.cell?
  simp only
  rw [hxz.block b h2]
theorem keptOw {α : Type} {k : Kd α} {t : TypeId} {B : Nat} {xs : List α} : Kept StR (fun s w' => OwnS k t B w' s xs) := fun s a b h hs => h.below hs
theorem keptSl {α : Type} {k : Kd α} {xs : List α} : Kept StR (fun s w' => SlR k w' s xs) := fun s a b h hs => h.below hs
theorem szB {a b : By} (h : a.length + b.length ≤ 4611686018427387904) : (((bs a).size + (bs b).size : Nat) : Int) ≤ IntKind.i64.max := by
  rw [bs_size, bs_size, show IntKind.i64.max = 9223372036854775807 from rfl]; omega
theorem convE {t : TypeId} {B : Nat} {w : World} {s : Sl} {xs : List Int} (h : OwnS kU8 t B w s xs) {K : ByteArray → World → Prop} (hk : K (strOfNums xs) w) : RunT (.o (.lf .s)) P0 (convert 28 9 s.v) w K := by
  have hn := h.1
  rcases h.2.2 with ⟨hv, h0⟩ | ⟨g, cap, cur, hv, hBg, hg, hnc, hcm, hcs, htake⟩
  · have hx : xs = [] := by
      cases xs with
      | nil => rfl
      | cons x xs => rw [h0] at hn; simp at hn
    have hr := run_convert_bytes_nil (P := P0) w 28 5 (by kernel_rfl) (by kernel_rfl) 0 0 9 (by kernel_rfl)
    subst hx
    exact ⟨_, w, by unfold Sl.v; rw [hv]; exact hr, hk⟩
  · have holds : ∀ j u, (xs.flatMap kU8.cells)[j]? = some u → w.cell? ((⟨g, 0, none⟩ : Addr).add j) = some u := h.2.cells (g := g) (by rw [hv]; rfl)
    have hr := run_convert_bytes_arg (P := P0) w 28 5 (by kernel_rfl) (by kernel_rfl) g 0 s.n cap xs hn.symm (fun i hi => by
      obtain ⟨x, hx⟩ := get_some (l := xs) (k := i) (by omega)
      have hf := flat_get kU8 xs i x hx 0 (.int .u8 x) rfl
      have := holds _ _ hf
      rw [add_mk] at this
      rw [List.getD_eq_getElem?_getD, hx]
      have e : i * kU8.ls.length + 0 = i := by show i * 1 + 0 = i; omega
      rw [e] at this
      exact this) 9 (by kernel_rfl)
    exact ⟨_, w, by unfold Sl.v; rw [hv]; exact hr, hk⟩
theorem extB (l : By) (f k : Nat) : (bs l).extract f k = bs ((l.drop f).take (k - f)) := by
  apply ByteArray.ext
  apply Array.ext'
  simp [bs, ByteArray.data_extract, List.extract_eq_take_drop]
section
variable {w : World}
theorem slS {l : By} {lo hi : Option Int} {f k : Nat} (hlo : lo.getD 0 = f) (hhi : hi.getD l.length = k) (h1 : f ≤ k) (h2 : k ≤ l.length) {K : ByteArray → World → Prop} (hk : K (bs ((l.drop f).take (k - f))) w) :
    RunT (.o (.lf .s)) P0 (Instr.sliceAt 9 (.string (bs l)) (lo.map (.int .i64)) (hi.map (.int .i64)) none) w K := by
  have hu : P0.underlying 9 = some .string := by kernel_rfl
  have hz := bs_size l
  refine ⟨_, w, ?_, hk⟩
  rw [← extB]
  have ho : ∀ (x : Option Int) (d a : Nat), x.getD (d : Int) = (a : Int) → (x = none ∧ a = d) ∨ x = some (a : Int) := by
    intro x d a hx
    cases x with
    | none => left; simp only [Option.getD_none] at hx; exact ⟨rfl, by omega⟩
    | some y => right; simp only [Option.getD_some] at hx; rw [hx]
  rcases ho lo 0 f hlo with ⟨rfl, rfl⟩ | rfl <;> rcases ho hi l.length k hhi with ⟨rfl, rfl⟩ | rfl <;>
    simp [Instr.sliceAt, Instr.slice, underlying, hu, Instr.sliceBounds, Instr.sliceBound, asIntOf, hz, h1, h2, Rs.emb, Ty.emb, Lf.emb] <;> (rw [extB]; simp)
theorem dec_of (n : Int) (h : 0 ≤ n) (h2 : n < 10) : strOfNums [IntKind.wrap .u8 (IntKind.wrap .i64 (48 + n))] = bs (Lib.itoa n) := by
  have e1 : IntKind.wrap .i64 (48 + n) = 48 + n := by rw [i64_of (by omega) (by omega)]
  have e2 : IntKind.wrap .u8 (48 + n) = 48 + n := by simp only [IntKind.wrap, IntKind.bits, IntKind.signed]; simp; omega
  rw [e1, e2]
  unfold Lib.itoa
  rw [if_neg (by omega), dec_small (by omega)]
  show bs [UInt8.ofNat (48 + n).toNat] = _
  congr 3; omega
theorem itoa_step {n : Int} (h : 10 ≤ n) : Lib.itoa n = Lib.itoa (n / 10) ++ Lib.itoa (n % 10) := by
  unfold Lib.itoa
  rw [if_neg (by omega), if_neg (by omega), if_neg (by omega), dec_big (u := n.toNat) (by omega), dec_small (u := (n % 10).toNat) (by omega)]
  have e1 : (n / 10).toNat = n.toNat / 10 := by omega
  have e2 : (n % 10).toNat = n.toNat % 10 := by omega
  rw [e1, e2]
theorem itoa_len {n : Int} (h0 : -9223372036854775808 ≤ n) (h1 : n ≤ 9223372036854775807) : (Lib.itoa n).length ≤ 21 := Lib.itoa_length_le n h0 h1
set_option maxHeartbeats 1000000 in
theorem spec.l1Dec.t' : ∀ (m : Nat) {w : World} {n : Int} {K : ByteArray → World → Prop}, n.natAbs ≤ m → -9223372036854775807 ≤ n → n ≤ 9223372036854775807 → (∀ w', Below w.heap.size w w' → K (bs (Lib.itoa n)) w') → 0 ≤ n → CallT (.o (.lf .s)) P0 43 [.int .i64 n] w K := by
  intro m
  induction m using Nat.strongRecOn with
  | _ m ih =>
    intro w n K hm h0 h1 hk hn
    refine spec.l1Dec.ok ?_
    unfold spec.l1Dec.vc
    refine And.intro (fun hc => by simp only [decide_eq_true_eq] at hc; omega) (fun _ => And.intro (fun hc => by simp only [decide_eq_true_eq] at hc; omega) (fun _ => And.intro (fun h10 => ?_) (fun h10 => ?_)))
    · simp only [decide_eq_true_eq] at h10
      refine nw fun w1 b1 s1 c1 => ?_
      have o1 : OwnS kU8 5 w.heap.size w1 ⟨some ⟨w.heap.size, 0, none⟩, 1, 1⟩ [IntKind.wrap .u8 (IntKind.wrap .i64 (48 + n))] := OwnS.lit (k := kU8) (B := w.heap.size) (n := 1) (Nat.le_refl _) c1 rfl rfl (by simp [maxLen])
      refine convE o1 ?_
      rw [dec_of n hn h10]
      exact hk w1 b1
    · simp only [decide_eq_false_iff_not] at h10
      have ed : Int.tdiv n 10 = n / 10 := Int.tdiv_eq_ediv_of_nonneg hn
      have em : Int.tmod n 10 = n % 10 := Int.tmod_eq_emod_of_nonneg hn
      have ew : IntKind.wrap .i64 (n / 10) = n / 10 := by rw [i64_of (by omega) (by omega)]
      refine ⟨StR, stOk w, eqG (bs (Lib.itoa (n / 10))), keptE, fun s w' => OwnS kU8 5 0 w' s [IntKind.wrap .u8 (IntKind.wrap .i64 (48 + n % 10))], keptOw, eqG (bs (Lib.itoa (n % 10))), keptE, eqG (bs (Lib.itoa n)), keptE, by omega, ?_⟩
      refine ⟨fun w' hs => ?_, fun t20 => ⟨by omega, fun w' hs => ?_, fun t25 => ⟨fun w' hs f25 => ?_, fun t26 => ⟨fun w' hs f20 f26 => ?_, fun t27 w' hs _ _ _ f27 => ?_⟩⟩⟩⟩
      · rw [ed, ew]
        exact ih (n / 10).natAbs (by omega) (Nat.le_refl _) (by omega) (by omega) (fun w'' hb => gkE rfl hb) (by omega)
      · rw [em]
        refine nw fun w1 b1 s1 c1 => ⟨⟨some ⟨w'.heap.size, 0, none⟩, 1, 1⟩, rfl, b1, OwnS.lit (k := kU8) (n := 1) (Nat.zero_le _) c1 rfl rfl (by simp [maxLen])⟩
      · refine convE f25 ?_
        rw [dec_of (n % 10) (by omega) (by omega)]
        exact gkE rfl (Below.refl _ _)
      · cases f20; cases f26
        have l1 := itoa_len (n := n / 10) (by omega) (by omega)
        have l2 := itoa_len (n := n % 10) (by omega) (by omega)
        refine ⟨szB (by omega), ?_⟩
        rw [bs_app, ← itoa_step (by omega)]
        exact gkE rfl (Below.refl _ _)
      · cases f27
        exact hk w' hs
theorem spec.l1Dec.t {n : Int} {K : ByteArray → World → Prop} (h0 : -9223372036854775807 ≤ n) (h1 : n ≤ 9223372036854775807) (hk : ∀ w', Below w.heap.size w w' → K (bs (Lib.itoa n)) w') : CallT (.o (.lf .s)) P0 43 [.int .i64 n] w K := by
  by_cases hn : 0 ≤ n
  · exact spec.l1Dec.t' n.natAbs (Nat.le_refl _) h0 h1 hk hn
  · refine spec.l1Dec.ok ?_
    unfold spec.l1Dec.vc
    refine And.intro (fun hc => by simp only [decide_eq_true_eq] at hc; omega) (fun _ => And.intro (fun _ => ?_) (fun hc => by simp only [decide_eq_false_iff_not] at hc; omega))
    have ew : IntKind.wrap .i64 (0 - n) = -n := by rw [i64_of (by omega) (by omega)]; omega
    rw [ew]
    refine spec.l1Dec.t' (-n).natAbs (Nat.le_refl _) (by omega) (by omega) (fun w' hb => ?_) (by omega)
    have l1 := itoa_len (n := -n) (by omega) (by omega)
    refine ⟨szB (a := [45]) (by simp; omega), ?_⟩
    have e : (⟨#[45]⟩ : ByteArray) ++ bs (Lib.itoa (-n)) = bs (Lib.itoa n) := by
      rw [show (⟨#[45]⟩ : ByteArray) = bs [45] from rfl, bs_app]
      congr 1
      unfold Lib.itoa
      rw [if_neg (by omega), if_pos (by omega)]
      have : (-n).toNat = n.natAbs := by omega
      rw [this]; rfl
    rw [e]; exact hk w' hb
end
end Go.Proofs.YteggdoigliddkaaGreatDoor.V

/- Contracts: numbers of words, cuts, words in lists. -/
namespace Go.Proofs.YteggdoigliddkaaGreatDoor.V
open Go Go.RowKit
set_option linter.unusedVariables false
set_option linter.unusedSimpArgs false
theorem getB (l : By) (i : Nat) : (bs l)[i]? = l[i]? := by
  by_cases h : i < l.length
  · rw [getElem?_pos (bs l) i (by rw [bs_size]; exact h), List.getElem?_eq_getElem h]; rfl
  · rw [getElem?_neg (bs l) i (by rw [bs_size]; exact h), List.getElem?_eq_none (by omega)]
theorem sxB {l : By} {i : Int} {b : UInt8} {w : World} {K : Int → World → Prop} (hi : 0 ≤ i) (h : l[i.toNat]? = some b) (hk : K (b.toNat : Int) w) : Sx (bs l) i w K := ⟨hi, b, by rw [getB]; exact h, hk⟩
theorem figN_lt : ∀ l : By, Fig l → figN l < 10 ^ l.length := by
  intro l
  suffices h : ∀ (m : Nat) (l : By), l.length = m → Fig l → figN l < 10 ^ m from fun hf => h _ l rfl hf
  intro m
  induction m with
  | zero => intro l hl _; rw [List.eq_nil_of_length_eq_zero hl]; simp [figN]
  | succ m ih =>
    intro l hl hf
    have hne : l ≠ [] := fun e => by rw [e] at hl; simp at hl
    have he := (List.dropLast_concat_getLast hne).symm
    rw [he, figN_app]
    have h1 := ih l.dropLast (by simp; omega) (fun c hc => hf c (List.dropLast_subset _ hc))
    have h2 := hf _ (List.getLast_mem hne)
    rw [Nat.pow_succ]; omega
section
variable {w : World}
theorem spec.l1Num.t {l : By} {K : Int → World → Prop} (hl : l.length ≤ 281474976710656) (hk : ∀ r : Int, (∀ u : Nat, u < 10000000000 → l = Lib.decDigits u → r = u) → K r w) : CallT (.o (.lf (.i .i64))) P0 49 [.string (bs l)] w K := by
  refine spec.l1Num.ok ?_
  unfold spec.l1Num.vc
  rw [bs_size]
  refine ⟨fun n i w' => ∃ k : Nat, i = k ∧ k ≤ l.length ∧ w' = w ∧ ∀ u : Nat, u < 10000000000 → l = Lib.decDigits u → n = figN (l.take k), fun _ i _ => l.length - i.toNat, ⟨0, rfl, by omega, rfl, fun _ _ _ => by simp [figN]⟩, ?_⟩
  rintro n i w' ⟨k, rfl, hk1, rfl, hn⟩ _
  have hlen : ∀ u : Nat, u < 10000000000 → l = Lib.decDigits u → l.length ≤ 10 := fun u hu he => by rw [he]; exact dec_len u 9 (by omega)
  refine And.intro (fun hlt => ?_) (fun hge => ?_)
  · simp only [decide_eq_true_eq] at hlt
    obtain ⟨c, hc⟩ := get_some (l := l) (k := k) (by omega)
    have hfig : ∀ u : Nat, u < 10000000000 → l = Lib.decDigits u → 48 ≤ c.toNat ∧ c.toNat ≤ 57 := fun u _ he => dec_fig u c (he ▸ List.mem_of_getElem? hc)
    have hcn := c.toNat_lt
    refine ⟨fun w'' => w'' = w', ?_, ?_⟩
    · refine sxB (by omega) (by simpa using hc) (And.intro (fun h => hk _ fun u hu he => ?_) (fun _ => sxB (by omega) (by simpa using hc) (And.intro (fun h => hk _ fun u hu he => ?_) (fun _ => And.intro (fun h => hk _ fun u hu he => ?_) (fun _ => rfl)))))
      · have := hfig u hu he; simp only [decide_eq_true_eq] at h; omega
      · have := hfig u hu he; simp only [decide_eq_true_eq] at h; omega
      · have := hlen u hu he; simp only [decide_eq_true_eq] at h; omega
    · rintro w'' rfl _
      refine sxB (by omega) (by simpa using hc) ?_
      have ei : IntKind.wrap .i64 ((k : Int) + 1) = ((k + 1 : Nat) : Int) := by rw [i64_of (by omega) (by omega)]; omega
      rw [ei]
      refine ⟨⟨k + 1, rfl, by omega, rfl, fun u hu he => ?_⟩, by simp only [Int.toNat_natCast]; omega⟩
      have hf := hfig u hu he
      have e0 := hn u hu he
      have hlt2 := figN_lt (l.take k) (fun x hx => dec_fig u x (he ▸ List.mem_of_mem_take hx))
      have hkl : (l.take k).length = k := by rw [List.length_take]; omega
      have hp : 10 ^ k ≤ 10 ^ 10 := Nat.pow_le_pow_right (by omega) (by have := hlen u hu he; omega)
      rw [hkl] at hlt2
      have e1 : l.take (k + 1) = l.take k ++ [c] := by rw [List.take_add_one, hc]; rfl
      rw [e1, figN_app, e0]
      have e2 : IntKind.wrap .u8 ((c.toNat : Int) - 48) = (c.toNat : Int) - 48 := by simp only [IntKind.wrap, IntKind.bits, IntKind.signed]; simp; omega
      rw [e2, i64_of (n := (figN (l.take k) : Int) * 10) (by omega) (by omega), i64_of (n := (c.toNat : Int) - 48) (by omega) (by omega), i64_of (by omega) (by omega)]
      omega
  · simp only [decide_eq_false_iff_not] at hge
    have hkk : k = l.length := by omega
    subst hkk
    rw [List.take_length] at hn
    have hfin : ∀ u : Nat, u < 10000000000 → l = Lib.decDigits u → n = u := fun u hu he => by rw [hn u hu he, he, figN_dec]
    refine And.intro (fun h => hk _ fun u hu he => ?_) (fun h0 => And.intro (fun h1 => ?_) (fun _ => hk _ hfin))
    · exfalso
      have h' : l.length = 0 := by simp at h; simp [h]
      exact dec_ne u (by rw [← he]; exact List.eq_nil_of_length_eq_zero h')
    · simp only [decide_eq_true_eq] at h1
      obtain ⟨c, hc⟩ := get_some (l := l) (k := 0) (by omega)
      refine sxB (by omega) (by simpa using hc) (And.intro (fun h => hk _ fun u hu he => ?_) (fun _ => hk _ hfin))
      exfalso
      obtain ⟨c', r, hd⟩ := List.exists_cons_of_ne_nil (dec_ne u)
      have hcc : c' = c := by rw [he, hd] at hc; simpa using hc
      have h48 : c' = 48 := by rw [hcc]; apply UInt8.toNat_inj.1; simp at h; show c.toNat = 48; omega
      have := dec_head u c' r hd h48
      rw [he, hd, this] at h1
      simp at h1
set_option maxHeartbeats 1000000 in
theorem spec.l1Cut.t {l : By} {c : UInt8} {most : Nat} {K : Sl → World → Prop} (hl : l.length ≤ 1099511627776) (hm : most ≤ 1099511627776) (hk : ∀ s w', Below w.heap.size w w' → OwnS kS 9 w.heap.size w' s ((cutN c most l).map bs) → K s w') :
    CallT (.o (.lf .sl)) P0 42 [.string (bs l), .int .u8 (c.toNat : Int), .int .i64 (most : Int)] w K := by
  refine spec.l1Cut.ok (nw fun w1 b1 s1 c1 => ?_)
  rw [bs_size]
  have ho1 : OwnS kS 9 w.heap.size w1 ⟨some ⟨w.heap.size, 0, none⟩, 0, 0⟩ [] := OwnS.lit (k := kS) (B := w.heap.size) (xs := []) (n := 0) (Nat.le_refl _) c1 rfl rfl (by simp)
  refine ⟨fun out fr i w' => ∃ (f k : Nat) (zs : List By), fr = f ∧ i = k ∧ f ≤ k ∧ k ≤ l.length ∧ zs.length ≤ most ∧ zs.length ≤ f ∧ c ∉ (l.drop f).take (k - f) ∧ zs ++ cutN c (most - zs.length) (l.drop f) = cutN c most l ∧ OwnS kS 9 w.heap.size w' out (zs.map bs) ∧ Below w.heap.size w w',
    fun _ _ i _ => l.length - i.toNat, ⟨0, 0, [], rfl, rfl, by omega, by omega, by simp, by simp, by simp, by simp, ho1, b1⟩, ?_⟩
  rintro out fr i w2 ⟨f, k, zs, rfl, rfl, hfk, hkl, hzm, hzf, hno, hcut, o2, b2⟩ _
  have hn := o2.len
  rw [List.length_map] at hn
  have last : zs ++ [l.drop f] = cutN c most l → RunT (.o (.lf .s)) P0 (Instr.sliceAt 9 (.string (bs l)) (some (.int .i64 (f : Int))) none none) w2 fun (t40 : ByteArray) w3 =>
      Nw #[(.string t40)] 9 w3 fun a w4 => RunT (.o (.lf .sl)) P0 (Builtin.append_ #[35, 35] 35 #[out.v, (.slice (some a) 1 1)]) w4 fun (t42 : Sl) w5 => K t42 w5 := by
    intro hz
    refine slS (lo := some (f : Int)) (hi := none) (f := f) (k := l.length) rfl rfl (by omega) (Nat.le_refl _) ?_
    have e : (l.drop f).take (l.length - f) = l.drop f := List.take_of_length_le (by simp)
    rw [e]
    refine ap1 elS o2 (bs (l.drop f)) rfl (by rw [List.length_map]; omega) (by rw [List.length_map]; omega) b2.size fun s w3 o3 g3 _ => ?_
    refine hk s w3 (b2.grown g3 b2.size (fun b hb => (o2.blk hb).1)) ?_
    rw [← hz, List.map_append]; exact o3
  refine ⟨fun w' => w' = w2 ∧ k < l.length ∧ zs.length < most, ?_, ?_⟩
  · refine And.intro (fun hlt => And.intro (fun h2 => ⟨rfl, ?_, ?_⟩) (fun h2 => last ?_)) (fun hge => last ?_)
    · simp only [decide_eq_true_eq] at hlt; omega
    · simp only [decide_eq_true_eq] at h2; omega
    · simp only [decide_eq_false_iff_not] at h2
      have : most - zs.length = 0 := by omega
      rw [this] at hcut; exact hcut
    · simp only [decide_eq_false_iff_not] at hge
      have e : (l.drop f).take (k - f) = l.drop f := List.take_of_length_le (by simp; omega)
      rw [e] at hno
      rw [cutN_no _ hno] at hcut; exact hcut
  · rintro w3 ⟨rfl, hk2, hz2⟩ _
    obtain ⟨b, hb⟩ := get_some (l := l) (k := k) (by omega)
    refine sxB (by omega) (by simpa using hb) ?_
    have hd : l.drop f = (l.drop f).take (k - f) ++ b :: l.drop (k + 1) := by
      conv => lhs; rw [← List.take_append_drop (k - f) (l.drop f)]
      congr 1
      rw [List.drop_drop, show f + (k - f) = k by omega]
      exact (getElem?_drop_cons hb)
    have ei : IntKind.wrap .i64 ((k : Int) + 1) = ((k + 1 : Nat) : Int) := by rw [i64_of (by omega) (by omega)]; omega
    rw [ei]
    refine And.intro (fun he => ?_) (fun he => ?_)
    · have hbc : b = c := by simp only [beq_iff_eq] at he; exact UInt8.toNat_inj.1 (by omega)
      subst hbc
      refine slS (lo := some (f : Int)) (hi := some (k : Int)) (f := f) (k := k) rfl rfl hfk (by omega) ?_
      refine ap1 elS o2 (bs ((l.drop f).take (k - f))) rfl (by rw [List.length_map]; omega) (by rw [List.length_map]; omega) b2.size fun s w3 o3 g3 _ => ?_
      refine ⟨⟨k + 1, k + 1, zs ++ [(l.drop f).take (k - f)], rfl, rfl, Nat.le_refl _, by omega, by simp; omega, by simp; omega, by simp, ?_, by rw [List.map_append]; exact o3, b2.grown g3 b2.size (fun b hb => (o2.blk hb).1)⟩, by simp only [Int.toNat_natCast]; omega⟩
      rw [← hcut]
      have hm1 : most - zs.length = (most - (zs.length + 1)) + 1 := by omega
      rw [hm1]
      conv => rhs; rw [hd]
      rw [cutN_app _ _ hno]
      simp [List.append_assoc]
    · have hbc : b ≠ c := fun e => by rw [e] at he; simp at he
      refine ⟨⟨f, k + 1, zs, rfl, rfl, by omega, by omega, hzm, hzf, ?_, hcut, o2, b2⟩, by simp only [Int.toNat_natCast]; omega⟩
      have e : (l.drop f).take (k + 1 - f) = (l.drop f).take (k - f) ++ [b] := by
        rw [show k + 1 - f = (k - f) + 1 by omega, List.take_add_one]
        congr 1
        rw [List.getElem?_drop, show f + (k - f) = k by omega, hb]; rfl
      rw [e]
      simp only [List.mem_append, List.mem_singleton, not_or]
      exact ⟨hno, fun e => hbc e.symm⟩
theorem idx_at {zs : List ByteArray} {x : ByteArray} {k : Nat} {z : ByteArray} (h : zs[k]? = some z) : Lib.idxFromS (zs.drop k) x k = if z = x then (k : Int) else Lib.idxFromS (zs.drop (k + 1)) x (k + 1) := by
  rw [getElem?_drop_cons h, Lib.idxFromS]
theorem spec.l1Find.t {s : Sl} {zs : List ByteArray} {x : ByteArray} {K : Int → World → Prop} (h : SlR kS w s zs) (hk : K (Lib.idxOfS zs x) w) : CallT (.o (.lf (.i .i64))) P0 44 [s.v, .string x] w K := by
  have hn := h.len; have hm := h.max
  refine spec.l1Find.ok ⟨fun i w' => ∃ k : Nat, i = k ∧ k ≤ zs.length ∧ w' = w ∧ Lib.idxFromS (zs.drop k) x k = Lib.idxOfS zs x, fun i _ => zs.length - i.toNat, ⟨0, rfl, by omega, rfl, rfl⟩, ?_⟩
  rintro i w1 ⟨k, rfl, hk1, rfl, he⟩ _
  refine And.intro (fun hlt => ?_) (fun hge => ?_)
  · simp only [decide_eq_true_eq] at hlt
    obtain ⟨z, hz⟩ := get_some (l := zs) (k := k) (by omega)
    have ha := idx_at (x := x) hz
    refine ixL h (i := (k : Int)) (by omega) (x := z) (by simpa using hz) rfl (l := .s) (v := z) rfl ?_
    refine And.intro (fun hq => ?_) (fun hq => ?_)
    · have e : z = x := by
        have : z.toList = x.toList := by simpa using hq
        rw [ByteArray.toList_eq, ByteArray.toList_eq] at this
        rw [← bs_of z, ← bs_of x, this]
      rw [if_pos e] at ha
      rw [← ha, he]; exact hk
    · have e : z ≠ x := fun e => by rw [e] at hq; simp at hq
      rw [if_neg e] at ha
      have ei : IntKind.wrap .i64 ((k : Int) + 1) = ((k + 1 : Nat) : Int) := by rw [i64_of (by omega) (by omega)]; omega
      rw [ei]
      exact ⟨⟨k + 1, rfl, by omega, rfl, by rw [← ha, he]⟩, by simp only [Int.toNat_natCast]; omega⟩
  · simp only [decide_eq_false_iff_not] at hge
    rw [List.drop_eq_nil_of_le (by omega)] at he
    have : (-1 : Int) = Lib.idxOfS zs x := he
    rw [this]; exact hk
theorem index.c {s : Sl} {zs : List ByteArray} {x : ByteArray} {K : Int → World → Prop} (h : SlR kS w s zs) (hk : K (Lib.idxOfS zs x) w) : CallT (.o (.lf (.i .i64))) P0 88 [s.v, .string x] w K := by
  have hn := h.len; have hm := h.max
  rcases h.2.2.2 with h0 | ⟨b, o, ha, hat⟩
  · subst h0
    have e : s.v = .slice s.a 0 s.c := by unfold Sl.v; rw [hn]; rfl
    rw [e]
    exact (Tryz.slices_Index_string_empty s.a s.c x w).mono fun e w' ⟨he, hw⟩ => ⟨_, he, by rw [hw]; exact hk⟩
  · have e : s.v = .slice (some ⟨b, o, none⟩) zs.length s.c := by unfold Sl.v; rw [hn, ha]
    rw [e]
    have := Tryz.slices_Index_string b o zs.length s.c zs x w (Nat.le_refl _) (by omega) (fun j hj => by
      obtain ⟨z, hz⟩ := get_some (l := zs) (k := j) hj
      have h1 := hat j z hz 0 (.string z) rfl
      rw [List.getD_eq_getElem?_getD, hz]
      have e : o + j * kS.ls.length + 0 = o + j := by show o + j * 1 + 0 = o + j; omega
      rw [e] at h1
      exact h1)
    refine this.mono fun e w' ⟨he, hw⟩ => ⟨_, he, ?_⟩
    rw [hw, List.take_length]; exact hk
end
end Go.Proofs.YteggdoigliddkaaGreatDoor.V

/- Contracts: the line of a rule, in the reference and in the program. -/
namespace Go.Proofs.YteggdoigliddkaaGreatDoor.V
open Go Go.RowKit
set_option linter.unusedVariables false
set_option linter.unusedSimpArgs false
def opW : List By := [[], [109, 111, 118], [97, 100, 100], [115, 117, 98], [109, 117, 108], [97, 110, 100], [111, 114], [120, 111, 114], [115, 104, 108], [115, 104, 114], [100, 105, 118], [109, 111, 100], [115, 97, 109, 101], [111, 116, 104, 101, 114], [108, 101, 115, 115], [109, 111, 114, 101], [103, 111], [108, 111, 97, 100], [115, 116, 111, 114, 101], [99, 97, 108, 108], [101, 120, 105, 116]]
def vW : List By := [[100, 114, 111, 112], [107, 101, 101, 112], [115, 101, 110, 100]]
/-- The word of an op; of a verdict. -/
def opA (n : Int) : By := opW.getD n.toNat []
def vA (n : Int) : By := vW.getD n.toNat []
/-- The words of a rule's line. -/
def wordsR (r : Rule) : List By := [98, 121, 116, 101] :: Lib.itoa r.at_ :: opA r.op :: Lib.itoa r.num :: vA r.verdict :: (if r.verdict = 2 then [Lib.itoa r.key] else [])
def lineL (r : Rule) : By := joinW 32 (wordsR r)
def textL (L : List Rule) : By := L.flatMap fun r => lineL r ++ [10]
theorem itoa_fig {n : Int} (h : 0 ≤ n) : Lib.itoa n = Lib.decDigits n.toNat := by unfold Lib.itoa; rw [if_neg (by omega)]
theorem fig_no {l : By} (h : Fig l) {c : UInt8} (hc : c.toNat < 48) : c ∉ l := fun hm => by have := h c hm; omega
theorem op_no {n : Int} (h : 12 ≤ n ∧ n ≤ 15) {c : UInt8} (hc : c.toNat < 48) : c ∉ opA n := by
  have hx : ∀ k : Nat, 12 ≤ k → k ≤ 15 → ∀ x ∈ opW.getD k [], 97 ≤ x.toNat := by
    intro k h1 h2
    obtain rfl | rfl | rfl | rfl : k = 12 ∨ k = 13 ∨ k = 14 ∨ k = 15 := by omega
    all_goals decide
  intro hm
  have := hx n.toNat (by omega) (by omega) c hm
  omega
theorem v_no {n : Int} (h : 0 ≤ n ∧ n ≤ 2) {c : UInt8} (hc : c.toNat < 48) : c ∉ vA n := by
  have hx : ∀ k : Nat, k ≤ 2 → ∀ x ∈ vW.getD k [], 97 ≤ x.toNat := by
    intro k h2
    obtain rfl | rfl | rfl : k = 0 ∨ k = 1 ∨ k = 2 := by omega
    all_goals decide
  intro hm
  have := hx n.toNat (by omega) c hm
  omega
theorem words_no {r : Rule} (h : RuleP r) {c : UInt8} (hc : c.toNat < 48) : ∀ w ∈ wordsR r, c ∉ w := by
  intro w hw
  simp only [wordsR, List.mem_cons] at hw
  have hd : ∀ n : Int, 0 ≤ n → c ∉ Lib.itoa n := fun n hn => by rw [itoa_fig hn]; exact fig_no (dec_fig _) hc
  rcases hw with rfl | rfl | rfl | rfl | rfl | hw
  · intro hm
    have hx : ∀ x ∈ ([98, 121, 116, 101] : By), 97 ≤ x.toNat := by decide
    have := hx c hm; omega
  · exact hd _ h.1.1
  · exact op_no h.2.1 hc
  · exact hd _ h.2.2.1.1
  · exact v_no h.2.2.2.1 hc
  · split at hw
    · simp only [List.mem_singleton] at hw
      subst hw; exact hd _ h.2.2.2.2.1.1
    · simp at hw
theorem join_no {c d : UInt8} (hcd : c ≠ d) : ∀ {ws : List By}, (∀ w ∈ ws, c ∉ w) → c ∉ joinW d ws
  | [], _ => by simp [joinW]
  | [w], h => h w List.mem_cons_self
  | w :: x :: xs, h => by
    rw [joinW_cons (by simp)]
    simp only [List.mem_append, List.mem_cons, not_or]
    exact ⟨h w List.mem_cons_self, hcd, join_no hcd (fun y hy => h y (List.mem_cons_of_mem _ hy))⟩
theorem line_no {r : Rule} (h : RuleP r) : (10 : UInt8) ∉ lineL r := join_no (by decide) (words_no h (by decide))
theorem op_len (k : Nat) : (opW.getD k []).length ≤ 5 := by
  by_cases h : k < 21
  · have hx : ∀ j < 21, (opW.getD j []).length ≤ 5 := by decide
    exact hx k h
  · rw [List.getD_eq_getElem?_getD, List.getElem?_eq_none (by simp [opW]; omega)]; simp
theorem v_len (k : Nat) : (vW.getD k []).length ≤ 4 := by
  by_cases h : k < 3
  · have hx : ∀ j < 3, (vW.getD j []).length ≤ 4 := by decide
    exact hx k h
  · rw [List.getD_eq_getElem?_getD, List.getElem?_eq_none (by simp [vW]; omega)]; simp
theorem op_lenA (n : Int) : (opA n).length ≤ 5 := op_len _
theorem v_lenA (n : Int) : (vA n).length ≤ 4 := v_len _
theorem line_len {r : Rule} (h : RuleP r) : (lineL r).length ≤ 100 := by
  have h1 := itoa_len (n := r.at_) (by have := h.1; omega) (by have := h.1; omega)
  have h2 := itoa_len (n := r.num) (by have := h.2.2.1; omega) (by have := h.2.2.1; omega)
  have h3 := itoa_len (n := r.key) (by have := h.2.2.2.2.1; omega) (by have := h.2.2.2.2.1; omega)
  have h4 := op_lenA r.op
  have h5 := v_lenA r.verdict
  unfold lineL wordsR
  split
  · simp [joinW]; omega
  · simp [joinW]; omega
/-- What a line begins with. -/
def headL (r : Rule) : By := (((([98, 121, 116, 101, 32] ++ Lib.itoa r.at_) ++ [32]) ++ opA r.op) ++ [32]) ++ Lib.itoa r.num ++ [32] ++ vA r.verdict
theorem line_head (r : Rule) : lineL r = headL r ++ (if r.verdict = 2 then 32 :: Lib.itoa r.key else []) := by
  unfold lineL wordsR headL
  split <;> simp [joinW]
section
variable {w : World}
theorem spec.l1Words.t {K : Sl → World → Prop} (hk : ∀ r w', Below w.heap.size w w' → OwnS kS 9 w.heap.size w' r (opW.map bs) → K r w') : CallT (.o (.lf .sl)) P0 45 [] w K :=
  spec.l1Words.ok (nw fun w1 b1 s1 c1 => hk _ w1 b1 (OwnS.lit (k := kS) (xs := opW.map bs) (n := 21) (Nat.le_refl _) c1 rfl rfl (by simp [maxLen])))
/-- A word of a row of words. -/
theorem wordAt {s : Sl} {ws : List By} {B : Nat} {i : Int} {sz : Nat} {K : Addr → World → Prop} (h : OwnS kS 9 B w s (ws.map bs)) (h0 : 0 ≤ i) (h1 : i.toNat < ws.length) (hsz : sz = 1) (hk : ∀ a, AtW [.string (bs (ws.getD i.toNat []))] a w → K a w) : Ix s.a s.n i sz w K := by
  obtain ⟨x, hx⟩ := get_some (l := ws) (k := i.toNat) h1
  have hm : (ws.map bs)[i.toNat]? = some (bs x) := by rw [List.getElem?_map, hx]; rfl
  have hg : ws.getD i.toNat [] = x := by rw [List.getD_eq_getElem?_getD, hx]; rfl
  refine ixRb h.read h0 hm hsz fun b o hb hA => hk _ ⟨b, o, rfl, bk_lt h.read hm (v := .string (bs x)) rfl hb, ?_⟩
  rw [hg]; exact hA
theorem wordLd {x : ByteArray} {a : Addr} {K : ByteArray → World → Prop} (h : AtW [.string x] a w) (hk : K x w) : Ld .s a w K := by
  obtain ⟨b, o, rfl, _, hA⟩ := h
  exact ⟨x, hA 0 (.string x) rfl, hk⟩
end
end Go.Proofs.YteggdoigliddkaaGreatDoor.V

/- Contracts: rules are written, in the reference and in the program. -/
namespace Go.Proofs.YteggdoigliddkaaGreatDoor.V
open Go Go.RowKit
set_option linter.unusedVariables false
set_option linter.unusedSimpArgs false
/-- Words as a tuple. -/
def tupS : (l : List By) → Tup (R l.length .s)
  | [] => ()
  | x :: xs => (bs x, tupS xs)
theorem tupS_cells : ∀ l : List By, Tup.cells (R l.length .s) (tupS l) = l.map fun x => Value.string (bs x)
  | [] => rfl
  | x :: xs => by
    show Lf.emb .s (bs x) :: Tup.cells (R xs.length .s) (tupS xs) = _
    rw [tupS_cells xs]; rfl
def opT : Tup (R 21 .s) := tupS opW
def op0 : Tup (R 21 .s) := tupS (List.replicate 21 [])
theorem opT_cells : Tup.cells (R 21 .s) opT = opW.map fun x => Value.string (bs x) := tupS_cells opW
theorem zOps : zc P0 94 = (Tup.cells (R 21 .s) op0).toArray := by kernel_rfl
section
variable {w : World}
theorem impl.opWords.t {K : Tup (R 21 .s) → World → Prop} (hk : ∀ w', Below w.heap.size w w' → K opT w') : CallT (.o (.ag (R 21 .s))) P0 65 [] w K := by
  refine impl.opWords.ok ?_
  unfold impl.opWords.vc
  rw [zOps]
  refine nw fun w1 b1 s1 c1 => ?_
  obtain ⟨w2, hr, hg, hsz, hh⟩ := run_storeCells_at' P0 (b := w.heap.size) (t := 94) (Tup.cells (R 21 .s) opT) 0 [] (Tup.cells (R 21 .s) op0) w1 (by rw [opT_cells]; intro v hv; simp only [List.mem_map] at hv; obtain ⟨x, _, rfl⟩ := hv; rfl) rfl rfl (by simpa using c1)
  refine ⟨w2, hr, ldAB (by simpa using hh) rfl (hk w2 (b1.grown hg b1.size (fun g hg => by simp only [Option.some.injEq] at hg; omega)))⟩
theorem ixAgg {t e : TypeId} {n : Nat} {cs : Array Value} {i : Int} {v : ByteArray} (hu : P0.underlying t = some (.array n e)) (hs : szOf P0 e = some 1) (ha : aggT P0 e = some false) (h0 : 0 ≤ i) (h1 : i.toNat < n) (hv : cs[i.toNat]? = some (.string v)) {K : ByteArray → World → Prop} (hk : K v w) :
    RunT (.o (.lf .s)) P0 (Instr.index t (.agg cs) (.int .i64 i)) w K := by
  refine ⟨v, w, ?_, hk⟩
  have hlt : i < n := by omega
  simp [Instr.index, asIntOf, underlying, hu, h0, hlt, run_sizeOf hs, part, run_isAgg ha, hv, Rs.emb, Ty.emb, Lf.emb]
theorem uOps : P0.underlying 94 = some (.array 21 9) := by kernel_rfl
theorem opIx {i : Int} (h0 : 0 ≤ i) (h1 : i ≤ 20) {K : ByteArray → World → Prop} (hk : K (bs (opA i)) w) : RunT (.o (.lf .s)) P0 (Instr.index 94 (.agg (Tup.cells (R 21 .s) opT).toArray) (.int .i64 i)) w K := by
  refine ixAgg (n := 21) (e := 9) uOps (by kernel_rfl) (by kernel_rfl) h0 (by omega) ?_ hk
  rw [opT_cells]
  obtain ⟨x, hx⟩ := get_some (l := opW) (k := i.toNat) (by simp [opW]; omega)
  have : opA i = x := by unfold opA; rw [List.getD_eq_getElem?_getD, hx]; rfl
  rw [this]
  simp [hx]
end
/-- What is written of rules. -/
def putL (L : List Rule) : By := if RulesP L then textL L else []
theorem text_len : ∀ {L : List Rule}, (∀ x ∈ L, RuleP x) → (textL L).length ≤ 101 * L.length
  | [], _ => by simp [textL]
  | x :: xs, h => by
    have h1 := line_len (h x List.mem_cons_self)
    have h2 := text_len (L := xs) (fun y hy => h y (List.mem_cons_of_mem _ hy))
    have e : textL (x :: xs) = (lineL x ++ [10]) ++ textL xs := rfl
    rw [e]; simp; omega
theorem text_take {L : List Rule} {k : Nat} {x : Rule} (h : L[k]? = some x) : textL (L.take (k + 1)) = textL (L.take k) ++ (lineL x ++ [10]) := by
  rw [List.take_add_one, h]; simp [textL]
section
variable {w : World} {s : Sl} {L : List Rule}
end
end Go.Proofs.YteggdoigliddkaaGreatDoor.V

/- Verification conditions, printed by this session's own program (wip/vc.py) and checked by the kernel. -/
namespace Go.Proofs.YteggdoigliddkaaGreatDoor.V
open Go Go.RowKit
set_option linter.unusedVariables false
/- impl.marks -/
def impl.marks.pl : Pl := (.s (.r (D 1)) (.s (.r [(.t (.o (.lf .m))), .d]) (.s (.s (.r (D 3)) (.b (.l [(9, (.i .i64))] (.s (.r (D 1)) (.s (.c .z .z) (.s (.b (.s (.r [.d, .d, (.l (.ag (R 6 (.i .i64)))), .d, .d, .d]) (.s (.r [.d, (.l (.lf (.i .i64))), (.c (.o (.lf .b)))]) (.c (.r [.d, .d, .d, (.c (.o (.lf (.i .i64)))), .u]) .z)))) (.r (D 2)))))))) (.s (.r [.d, (.c (.o (.lf .sl))), .d]) .z))))
def impl.marks.vc (list : Sl) (w : World) (K : Sl → World → Prop) : Prop :=
RunT (.o (.lf .m)) P0 (Instr.makeMap 90 none) w fun (t6 : Option Nat) w_ =>
∃ (I : Int → World → Prop) (M : Int → World → Nat),
I 0 w_ ∧
(∀ (t9 : Int) w__1, I t9 w__1 → ∀ _ : Nat → Value,
((decide ((t9 : Int) < ((list.n : Nat) : Int))) = true → Ix list.a list.n t9 6 w__1 fun a_t12 w__2 =>
LdA (R 6 (.i .i64)) a_t12 w__2 fun (t13 : Tup (R 6 (.i .i64))) w__3 =>
Nw (zc P0 39) 39 w__3 fun a_x w__4 =>
StA P0 a_x (Tup.cells (R 6 (.i .i64)) t13) w__4 fun w__5 =>
Ld (.i .i64) (Addr.add a_x 0) w__5 fun (t15 : Int) w__6 =>
CallT (.o (.lf .b)) P0 31 [(.int .i64 t15)] w__6 fun (t16 : Bool) w__7 =>
(t16 = true → CallT (.o (.lf (.i .i64))) P0 32 [list.v, (.int .i64 t9)] w__7 fun (t20 : Int) w__8 =>
RunU P0 (Instr.mapUpdate 90 (.map t6) (.int .i64 t20) (.bool true)) w__8 fun w__9 =>
(I (IntKind.wrap .i64 (t9 + 1)) w__9 ∧ M (IntKind.wrap .i64 (t9 + 1)) w__9 < M t9 w__1)) ∧
(t16 = false → (I (IntKind.wrap .i64 (t9 + 1)) w__7 ∧ M (IntKind.wrap .i64 (t9 + 1)) w__7 < M t9 w__1))) ∧
((decide ((t9 : Int) < ((list.n : Nat) : Int))) = false → CallT (.o (.lf .sl)) P0 60 [(.map t6)] w__1 fun (t23 : Sl) w__10 =>
K t23 w__10))
theorem impl.marks.ok {list : Sl} {w : World} {K : Sl → World → Prop} (h : impl.marks.vc list w K) : CallT (.o (.lf .sl)) P0 26 [list.v] w K :=
  call_of Tryz.func26 rfl rfl (pl := impl.marks.pl) (show VC P0 Tryz.f26 impl.marks.pl (.o (.lf .sl)) [list.v] w K noP from Eq.mp (by kernel_rfl) h)
/- impl.mark -/
def impl.mark.pl : Pl := (.s (.r (D 1)) (.s (.r [.d, (.c (.o (.lf .s))), .d, .d]) .z))
def impl.mark.vc (n : Int) (w : World) (K : ByteArray → World → Prop) : Prop :=
CallT (.o (.lf .s)) P0 30 [(.int .i64 n)] w fun (t4 : ByteArray) w_ =>
(((ByteArray.size (⟨#[109]⟩ : ByteArray) + ByteArray.size t4 : Nat) : Int) ≤ IntKind.i64.max) ∧ K ((⟨#[109]⟩ : ByteArray) ++ t4) w_
theorem impl.mark.ok {n : Int} {w : World} {K : ByteArray → World → Prop} (h : impl.mark.vc n w K) : CallT (.o (.lf .s)) P0 29 [(.int .i64 n)] w K :=
  call_of Tryz.func29 rfl rfl (pl := impl.mark.pl) (show VC P0 Tryz.f29 impl.mark.pl (.o (.lf .s)) [(.int .i64 n)] w K noP from Eq.mp (by kernel_rfl) h)
/- impl.reg -/
def impl.reg.pl : Pl := (.s (.r (D 1)) (.s (.r [.d, (.c (.o (.lf .s))), .d, .d]) .z))
def impl.reg.vc (n : Int) (w : World) (K : ByteArray → World → Prop) : Prop :=
CallT (.o (.lf .s)) P0 30 [(.int .i64 n)] w fun (t4 : ByteArray) w_ =>
(((ByteArray.size (⟨#[114]⟩ : ByteArray) + ByteArray.size t4 : Nat) : Int) ≤ IntKind.i64.max) ∧ K ((⟨#[114]⟩ : ByteArray) ++ t4) w_
theorem impl.reg.ok {n : Int} {w : World} {K : ByteArray → World → Prop} (h : impl.reg.vc n w K) : CallT (.o (.lf .s)) P0 67 [(.int .i64 n)] w K :=
  call_of Tryz.func67 rfl rfl (pl := impl.reg.pl) (show VC P0 Tryz.f67 impl.reg.pl (.o (.lf .s)) [(.int .i64 n)] w K noP from Eq.mp (by kernel_rfl) h)
/- (impl.Ins).value -/
def impl.Ins.value.pl : Pl := (.s (.r (D 2)) (.s (.s (.r [.d, (.l (.lf (.i .i64))), .d]) (.c (.s (.r [.d, (.l (.lf (.i .i64))), (.c (.o (.lf .s))), .d]) .z) .z)) (.s (.r [.d, (.l (.lf (.i .i64))), (.c (.o (.lf .s))), .d]) .z)))
def impl.Ins.value.vc (x : Tup (R 6 (.i .i64))) (w : World) (K : ByteArray → World → Prop) : Prop :=
Nw (Tup.cells (R 6 (.i .i64)) x).toArray 39 w fun a_x w_ =>
Ld (.i .i64) (Addr.add a_x 2) w_ fun (t4 : Int) w__1 =>
(((t4 : Int) == (-1)) = true → Ld (.i .i64) (Addr.add a_x 4) w__1 fun (t7 : Int) w__2 =>
CallT (.o (.lf .s)) P0 30 [(.int .i64 t7)] w__2 fun (t8 : ByteArray) w__3 =>
K t8 w__3) ∧
(((t4 : Int) == (-1)) = false → Ld (.i .i64) (Addr.add a_x 2) w__1 fun (t10 : Int) w__4 =>
CallT (.o (.lf .s)) P0 67 [(.int .i64 t10)] w__4 fun (t11 : ByteArray) w__5 =>
K t11 w__5)
theorem impl.Ins.value.ok {x : Tup (R 6 (.i .i64))} {w : World} {K : ByteArray → World → Prop} (h : impl.Ins.value.vc x w K) : CallT (.o (.lf .s)) P0 68 [(.agg (Tup.cells (R 6 (.i .i64)) x).toArray)] w K :=
  call_of Tryz.func68 rfl rfl (pl := impl.Ins.value.pl) (show VC P0 Tryz.f68 impl.Ins.value.pl (.o (.lf .s)) [(.agg (Tup.cells (R 6 (.i .i64)) x).toArray)] w K noP from Eq.mp (by kernel_rfl) h)
/- impl.callWords -/
def impl.callWords.pl : Pl := (.s (.r (D 1)) (.s (.r (D 2)) .z))
def impl.callWords.vc  (w : World) (K : Tup (R 7 .s) → World → Prop) : Prop :=
Nw (zc P0 96) 96 w fun a_t0 w_ =>
StA P0 a_t0 [(.string ⟨#[]⟩), (.string ⟨#[108, 111, 111, 107]⟩), (.string ⟨#[112, 117, 116]⟩), (.string ⟨#[102, 105, 110, 100]⟩), (.string ⟨#[100, 114, 111, 112]⟩), (.string ⟨#[114, 97, 110, 100]⟩), (.string ⟨#[115, 101, 110, 100]⟩)] w_ fun w__1 =>
LdA (R 7 .s) a_t0 w__1 fun r w__2 =>
K r w__1
theorem impl.callWords.ok  {w : World} {K : Tup (R 7 .s) → World → Prop} (h : impl.callWords.vc  w K) : CallT (.o (.ag (R 7 .s))) P0 70 [] w K :=
  call_of Tryz.func70 rfl rfl (pl := impl.callWords.pl) (show VC P0 Tryz.f70 impl.callWords.pl (.o (.ag (R 7 .s))) [] w K noP from Eq.mp (by kernel_rfl) h)
/- (impl.Ins).line -/
def impl.Ins.line.pl : Pl := (.s (.r (D 2)) (.s (.g [((.g (.o (.ag (R 21 .s))) (.c (.o (.ag (R 21 .s))))), []), (.q, []), ((.g (.o (.lf (.i .i64))) (.l (.lf (.i .i64)))), []), ((.g (.o (.lf .s)) (.t (.o (.lf .s)))), [0, 2]), (.q, [3])] []) (.s (.r [.d, (.l (.lf (.i .i64))), .d]) (.s (.b (.s (.r [.d, (.c (.o (.lf .b))), .d]) (.c (.s (.r [.d, .d, .d, (.l (.lf (.i .i64))), (.c (.o (.lf .s))), .d, .d, (.l (.ag (R 6 (.i .i64)))), (.c (.o (.lf .s))), .d, .d]) .z) (.s (.r [.d, (.c (.o (.lf .b))), .d]) (.c (.s (.r [.d, .d, .d, (.l (.lf (.i .i64))), (.c (.o (.lf .s))), .d, .d, (.l (.ag (R 6 (.i .i64)))), (.c (.o (.lf .s))), .d, .d, .d, .d, .d]) .z) (.s (.r [.d, (.l (.lf (.i .i64))), .d, .d]) (.c (.s (.r (D 5)) .z) (.s (.r [.d, (.l (.lf (.i .i64))), .d, .d]) (.c (.s (.r [.d, .d, (.l (.lf (.i .i64))), (.c (.o (.lf .s))), .d, .d, .d, (.l (.lf (.i .i64))), (.c (.o (.lf .s))), .d, .d, .d, (.l (.lf (.i .i64))), (.c (.o (.lf .s))), .d, .d, .d, .d, .d]) .z) (.s (.r [.d, (.l (.lf (.i .i64))), .d, .d]) (.c (.s (.r [.d, .d, (.l (.lf (.i .i64))), (.c (.o (.lf .s))), .d, .d, .d, (.l (.lf (.i .i64))), (.c (.o (.lf .s))), .d, .d, .d, .d, .d, (.l (.ag (R 6 (.i .i64)))), (.c (.o (.lf .s))), .d, .d]) .z) (.s (.r [.d, (.l (.lf (.i .i64))), .d, .d]) (.c (.s (.g [(.q, []), ((.g (.o (.lf .s)) .d), []), ((.g (.o (.ag (R 7 .s))) (.c (.o (.ag (R 7 .s))))), []), (.q, []), ((.g (.o (.lf (.i .i64))) (.l (.lf (.i .i64)))), []), ((.g (.o (.lf .s)) (.t (.o (.lf .s)))), [2, 4]), ((.g (.o (.lf .s)) .d), [1, 5]), (.q, [6])] []) .z) .z))))))))))))) (.s (.r (D 2)) .z)))))
def impl.Ins.line.vc (x : Tup (R 6 (.i .i64))) (off : ByteArray) (w : World) (K : ByteArray → World → Prop) : Prop :=
Nw (Tup.cells (R 6 (.i .i64)) x).toArray 39 w fun a_x w_ =>
∃ Sp : World → World → Prop, SpOk Sp w_ ∧
∃ G_t7 : Tup (R 21 .s) → World → Prop, Kept Sp G_t7 ∧
∃ G_t9 : Int → World → Prop, Kept Sp G_t9 ∧
∃ G_t10 : ByteArray → World → Prop, Kept Sp G_t10 ∧
(∀ w__1, Sp w_ w__1 → CallT (.o (.ag (R 21 .s))) P0 65 [] w__1 fun (t7 : Tup (R 21 .s)) w__2 =>
GK (.o (.ag (R 21 .s))) Sp w__1 G_t7 (.agg (Tup.cells (R 21 .s) t7).toArray) w__2) ∧
∀ (t7_1 : Tup (R 21 .s)), (∀ w__3, Sp w_ w__3 → Ld (.i .i64) (Addr.add a_x 0) w__3 fun (t9 : Int) w__4 =>
GK (.o (.lf (.i .i64))) Sp w__3 G_t9 (.int .i64 t9) w__4) ∧
∀ (t9_1 : Int), (∀ w__5, Sp w_ w__5 → G_t7 t7_1 w__5 → G_t9 t9_1 w__5 → RunT (.o (.lf .s)) P0 (Instr.index 94 (.agg (Tup.cells (R 21 .s) t7_1).toArray) (.int .i64 t9_1)) w__5 fun (t10 : ByteArray) w__6 =>
GK (.o (.lf .s)) Sp w__5 G_t10 (.string t10) w__6) ∧
∀ (t10_1 : ByteArray), ∀ w__7, Sp w_ w__7 → G_t7 t7_1 w__7 → G_t9 t9_1 w__7 → G_t10 t10_1 w__7 → 
Ld (.i .i64) (Addr.add a_x 0) w__7 fun (t12 : Int) w__8 =>
CallT (.o (.lf .b)) P0 66 [(.int .i64 t12)] w__8 fun (t15 : Bool) w__9 =>
(t15 = true → (((ByteArray.size t10_1 + ByteArray.size (⟨#[32]⟩ : ByteArray) : Nat) : Int) ≤ IntKind.i64.max) ∧ QLd (.i .i64) (Addr.add a_x 1) (fun w' => Below (World.heap w__9).size w__9 w') fun (t19 : Int) =>
QCl (.o (.lf .s)) P0 67 [(.int .i64 t19)] (fun w' => Below (World.heap w__9).size w__9 w') fun (t20 : ByteArray) =>
(((ByteArray.size (t10_1 ++ (⟨#[32]⟩ : ByteArray)) + ByteArray.size t20 : Nat) : Int) ≤ IntKind.i64.max) ∧ (((ByteArray.size ((t10_1 ++ (⟨#[32]⟩ : ByteArray)) ++ t20) + ByteArray.size (⟨#[32]⟩ : ByteArray) : Nat) : Int) ≤ IntKind.i64.max) ∧ QLdA (R 6 (.i .i64)) a_x (fun w' => Below (World.heap w__9).size w__9 w') fun (t23 : Tup (R 6 (.i .i64))) =>
QCl (.o (.lf .s)) P0 68 [(.agg (Tup.cells (R 6 (.i .i64)) t23).toArray)] (fun w' => Below (World.heap w__9).size w__9 w') fun (t24 : ByteArray) =>
(((ByteArray.size (((t10_1 ++ (⟨#[32]⟩ : ByteArray)) ++ t20) ++ (⟨#[32]⟩ : ByteArray)) + ByteArray.size t24 : Nat) : Int) ≤ IntKind.i64.max) ∧ ∀ w__10, Below (World.heap w__9).size w__9 w__10 →
K ((((t10_1 ++ (⟨#[32]⟩ : ByteArray)) ++ t20) ++ (⟨#[32]⟩ : ByteArray)) ++ t24) w__10) ∧
(t15 = false → CallT (.o (.lf .b)) P0 69 [(.int .i64 t12)] w__9 fun (t28 : Bool) w__11 =>
(t28 = true → (((ByteArray.size t10_1 + ByteArray.size (⟨#[32]⟩ : ByteArray) : Nat) : Int) ≤ IntKind.i64.max) ∧ QLd (.i .i64) (Addr.add a_x 1) (fun w' => Below (World.heap w__11).size w__11 w') fun (t32 : Int) =>
QCl (.o (.lf .s)) P0 67 [(.int .i64 t32)] (fun w' => Below (World.heap w__11).size w__11 w') fun (t33 : ByteArray) =>
(((ByteArray.size (t10_1 ++ (⟨#[32]⟩ : ByteArray)) + ByteArray.size t33 : Nat) : Int) ≤ IntKind.i64.max) ∧ (((ByteArray.size ((t10_1 ++ (⟨#[32]⟩ : ByteArray)) ++ t33) + ByteArray.size (⟨#[32]⟩ : ByteArray) : Nat) : Int) ≤ IntKind.i64.max) ∧ QLdA (R 6 (.i .i64)) a_x (fun w' => Below (World.heap w__11).size w__11 w') fun (t36 : Tup (R 6 (.i .i64))) =>
QCl (.o (.lf .s)) P0 68 [(.agg (Tup.cells (R 6 (.i .i64)) t36).toArray)] (fun w' => Below (World.heap w__11).size w__11 w') fun (t37 : ByteArray) =>
(((ByteArray.size (((t10_1 ++ (⟨#[32]⟩ : ByteArray)) ++ t33) ++ (⟨#[32]⟩ : ByteArray)) + ByteArray.size t37 : Nat) : Int) ≤ IntKind.i64.max) ∧ (((ByteArray.size ((((t10_1 ++ (⟨#[32]⟩ : ByteArray)) ++ t33) ++ (⟨#[32]⟩ : ByteArray)) ++ t37) + ByteArray.size (⟨#[32]⟩ : ByteArray) : Nat) : Int) ≤ IntKind.i64.max) ∧ (((ByteArray.size (((((t10_1 ++ (⟨#[32]⟩ : ByteArray)) ++ t33) ++ (⟨#[32]⟩ : ByteArray)) ++ t37) ++ (⟨#[32]⟩ : ByteArray)) + ByteArray.size off : Nat) : Int) ≤ IntKind.i64.max) ∧ ∀ w__12, Below (World.heap w__11).size w__11 w__12 →
K ((((((t10_1 ++ (⟨#[32]⟩ : ByteArray)) ++ t33) ++ (⟨#[32]⟩ : ByteArray)) ++ t37) ++ (⟨#[32]⟩ : ByteArray)) ++ off) w__12) ∧
(t28 = false → Ld (.i .i64) (Addr.add a_x 0) w__11 fun (t44 : Int) w__13 =>
(((t44 : Int) == 16) = true → (((ByteArray.size t10_1 + ByteArray.size (⟨#[32]⟩ : ByteArray) : Nat) : Int) ≤ IntKind.i64.max) ∧ (((ByteArray.size (t10_1 ++ (⟨#[32]⟩ : ByteArray)) + ByteArray.size off : Nat) : Int) ≤ IntKind.i64.max) ∧ K ((t10_1 ++ (⟨#[32]⟩ : ByteArray)) ++ off) w__13) ∧
(((t44 : Int) == 16) = false → Ld (.i .i64) (Addr.add a_x 0) w__13 fun (t52 : Int) w__14 =>
(((t52 : Int) == 17) = true → QLd (.i .i64) (Addr.add a_x 5) (fun w' => Below (World.heap w__14).size w__14 w') fun (t56 : Int) =>
QCl (.o (.lf .s)) P0 30 [(.int .i64 t56)] (fun w' => Below (World.heap w__14).size w__14 w') fun (t57 : ByteArray) =>
(((ByteArray.size t10_1 + ByteArray.size t57 : Nat) : Int) ≤ IntKind.i64.max) ∧ (((ByteArray.size (t10_1 ++ t57) + ByteArray.size (⟨#[32]⟩ : ByteArray) : Nat) : Int) ≤ IntKind.i64.max) ∧ QLd (.i .i64) (Addr.add a_x 1) (fun w' => Below (World.heap w__14).size w__14 w') fun (t61 : Int) =>
QCl (.o (.lf .s)) P0 67 [(.int .i64 t61)] (fun w' => Below (World.heap w__14).size w__14 w') fun (t62 : ByteArray) =>
(((ByteArray.size ((t10_1 ++ t57) ++ (⟨#[32]⟩ : ByteArray)) + ByteArray.size t62 : Nat) : Int) ≤ IntKind.i64.max) ∧ (((ByteArray.size (((t10_1 ++ t57) ++ (⟨#[32]⟩ : ByteArray)) ++ t62) + ByteArray.size (⟨#[32]⟩ : ByteArray) : Nat) : Int) ≤ IntKind.i64.max) ∧ QLd (.i .i64) (Addr.add a_x 2) (fun w' => Below (World.heap w__14).size w__14 w') fun (t66 : Int) =>
QCl (.o (.lf .s)) P0 67 [(.int .i64 t66)] (fun w' => Below (World.heap w__14).size w__14 w') fun (t67 : ByteArray) =>
(((ByteArray.size ((((t10_1 ++ t57) ++ (⟨#[32]⟩ : ByteArray)) ++ t62) ++ (⟨#[32]⟩ : ByteArray)) + ByteArray.size t67 : Nat) : Int) ≤ IntKind.i64.max) ∧ (((ByteArray.size (((((t10_1 ++ t57) ++ (⟨#[32]⟩ : ByteArray)) ++ t62) ++ (⟨#[32]⟩ : ByteArray)) ++ t67) + ByteArray.size (⟨#[32]⟩ : ByteArray) : Nat) : Int) ≤ IntKind.i64.max) ∧ (((ByteArray.size ((((((t10_1 ++ t57) ++ (⟨#[32]⟩ : ByteArray)) ++ t62) ++ (⟨#[32]⟩ : ByteArray)) ++ t67) ++ (⟨#[32]⟩ : ByteArray)) + ByteArray.size off : Nat) : Int) ≤ IntKind.i64.max) ∧ ∀ w__15, Below (World.heap w__14).size w__14 w__15 →
K (((((((t10_1 ++ t57) ++ (⟨#[32]⟩ : ByteArray)) ++ t62) ++ (⟨#[32]⟩ : ByteArray)) ++ t67) ++ (⟨#[32]⟩ : ByteArray)) ++ off) w__15) ∧
(((t52 : Int) == 17) = false → Ld (.i .i64) (Addr.add a_x 0) w__14 fun (t74 : Int) w__16 =>
(((t74 : Int) == 18) = true → QLd (.i .i64) (Addr.add a_x 5) (fun w' => Below (World.heap w__16).size w__16 w') fun (t78 : Int) =>
QCl (.o (.lf .s)) P0 30 [(.int .i64 t78)] (fun w' => Below (World.heap w__16).size w__16 w') fun (t79 : ByteArray) =>
(((ByteArray.size t10_1 + ByteArray.size t79 : Nat) : Int) ≤ IntKind.i64.max) ∧ (((ByteArray.size (t10_1 ++ t79) + ByteArray.size (⟨#[32]⟩ : ByteArray) : Nat) : Int) ≤ IntKind.i64.max) ∧ QLd (.i .i64) (Addr.add a_x 1) (fun w' => Below (World.heap w__16).size w__16 w') fun (t83 : Int) =>
QCl (.o (.lf .s)) P0 67 [(.int .i64 t83)] (fun w' => Below (World.heap w__16).size w__16 w') fun (t84 : ByteArray) =>
(((ByteArray.size ((t10_1 ++ t79) ++ (⟨#[32]⟩ : ByteArray)) + ByteArray.size t84 : Nat) : Int) ≤ IntKind.i64.max) ∧ (((ByteArray.size (((t10_1 ++ t79) ++ (⟨#[32]⟩ : ByteArray)) ++ t84) + ByteArray.size (⟨#[32]⟩ : ByteArray) : Nat) : Int) ≤ IntKind.i64.max) ∧ (((ByteArray.size ((((t10_1 ++ t79) ++ (⟨#[32]⟩ : ByteArray)) ++ t84) ++ (⟨#[32]⟩ : ByteArray)) + ByteArray.size off : Nat) : Int) ≤ IntKind.i64.max) ∧ (((ByteArray.size (((((t10_1 ++ t79) ++ (⟨#[32]⟩ : ByteArray)) ++ t84) ++ (⟨#[32]⟩ : ByteArray)) ++ off) + ByteArray.size (⟨#[32]⟩ : ByteArray) : Nat) : Int) ≤ IntKind.i64.max) ∧ QLdA (R 6 (.i .i64)) a_x (fun w' => Below (World.heap w__16).size w__16 w') fun (t90 : Tup (R 6 (.i .i64))) =>
QCl (.o (.lf .s)) P0 68 [(.agg (Tup.cells (R 6 (.i .i64)) t90).toArray)] (fun w' => Below (World.heap w__16).size w__16 w') fun (t91 : ByteArray) =>
(((ByteArray.size ((((((t10_1 ++ t79) ++ (⟨#[32]⟩ : ByteArray)) ++ t84) ++ (⟨#[32]⟩ : ByteArray)) ++ off) ++ (⟨#[32]⟩ : ByteArray)) + ByteArray.size t91 : Nat) : Int) ≤ IntKind.i64.max) ∧ ∀ w__17, Below (World.heap w__16).size w__16 w__17 →
K (((((((t10_1 ++ t79) ++ (⟨#[32]⟩ : ByteArray)) ++ t84) ++ (⟨#[32]⟩ : ByteArray)) ++ off) ++ (⟨#[32]⟩ : ByteArray)) ++ t91) w__17) ∧
(((t74 : Int) == 18) = false → Ld (.i .i64) (Addr.add a_x 0) w__16 fun (t95 : Int) w__18 =>
(((t95 : Int) == 19) = true → ∃ Sp_1 : World → World → Prop, SpOk Sp_1 w__18 ∧
∃ G_t98 : ByteArray → World → Prop, Kept Sp_1 G_t98 ∧
∃ G_t99 : Tup (R 7 .s) → World → Prop, Kept Sp_1 G_t99 ∧
∃ G_t101 : Int → World → Prop, Kept Sp_1 G_t101 ∧
∃ G_t102 : ByteArray → World → Prop, Kept Sp_1 G_t102 ∧
∃ G_t103 : ByteArray → World → Prop, Kept Sp_1 G_t103 ∧
(∀ w__19, Sp_1 w__18 w__19 → (((ByteArray.size t10_1 + ByteArray.size (⟨#[32]⟩ : ByteArray) : Nat) : Int) ≤ IntKind.i64.max) ∧ GK (.o (.lf .s)) Sp_1 w__19 G_t98 (.string (t10_1 ++ (⟨#[32]⟩ : ByteArray))) w__19) ∧
∀ (t98 : ByteArray), (∀ w__20, Sp_1 w__18 w__20 → CallT (.o (.ag (R 7 .s))) P0 70 [] w__20 fun (t99 : Tup (R 7 .s)) w__21 =>
GK (.o (.ag (R 7 .s))) Sp_1 w__20 G_t99 (.agg (Tup.cells (R 7 .s) t99).toArray) w__21) ∧
∀ (t99_1 : Tup (R 7 .s)), (∀ w__22, Sp_1 w__18 w__22 → Ld (.i .i64) (Addr.add a_x 4) w__22 fun (t101 : Int) w__23 =>
GK (.o (.lf (.i .i64))) Sp_1 w__22 G_t101 (.int .i64 t101) w__23) ∧
∀ (t101_1 : Int), (∀ w__24, Sp_1 w__18 w__24 → G_t99 t99_1 w__24 → G_t101 t101_1 w__24 → RunT (.o (.lf .s)) P0 (Instr.index 96 (.agg (Tup.cells (R 7 .s) t99_1).toArray) (.int .i64 t101_1)) w__24 fun (t102 : ByteArray) w__25 =>
GK (.o (.lf .s)) Sp_1 w__24 G_t102 (.string t102) w__25) ∧
∀ (t102_1 : ByteArray), (∀ w__26, Sp_1 w__18 w__26 → G_t98 t98 w__26 → G_t102 t102_1 w__26 → (((ByteArray.size t98 + ByteArray.size t102_1 : Nat) : Int) ≤ IntKind.i64.max) ∧ GK (.o (.lf .s)) Sp_1 w__26 G_t103 (.string (t98 ++ t102_1)) w__26) ∧
∀ (t103 : ByteArray), ∀ w__27, Sp_1 w__18 w__27 → G_t98 t98 w__27 → G_t99 t99_1 w__27 → G_t101 t101_1 w__27 → G_t102 t102_1 w__27 → G_t103 t103 w__27 → 
K t103 w__27) ∧
(((t95 : Int) == 19) = false → K t10_1 w__18))))))
theorem impl.Ins.line.ok {x : Tup (R 6 (.i .i64))} {off : ByteArray} {w : World} {K : ByteArray → World → Prop} (h : impl.Ins.line.vc x off w K) : CallT (.o (.lf .s)) P0 33 [(.agg (Tup.cells (R 6 (.i .i64)) x).toArray), (.string off)] w K :=
  call_of Tryz.func33 rfl rfl (pl := impl.Ins.line.pl) (show VC P0 Tryz.f33 impl.Ins.line.pl (.o (.lf .s)) [(.agg (Tup.cells (R 6 (.i .i64)) x).toArray), (.string off)] w K noP from Eq.mp (by kernel_rfl) h)
/- impl.AsmPut -/
def impl.AsmPut.pl : Pl := (.s (.r (D 1)) (.s (.s (.r [.d, (.c (.o (.lf (.i .i64)))), .d]) (.c (.s (.r (D 1)) .z) .z)) (.s (.r [.d, (.c (.o (.lf .sl))), .d]) (.s (.r (D 1)) (.s (.s (.r (D 3)) (.b (.l [(19, (.i .i64))] (.s (.r (D 1)) (.s (.c .z .z) (.s (.b (.s (.r [.d, .d, (.l (.ag (R 6 (.i .i64)))), .d, .d, .d]) (.j [] (.s (.r [.d, .d, (.c (.n [(.lf (.i .i64)), (.lf .b)])), .d, .d, .d, .d, .d]) (.s (.r (D 1)) (.c (.r [.d, (.c (.o (.lf .s))), .d, (.c (.n [(.lf (.i .i64)), (.lf .any)]))]) .z))) (.s (.r [.d, (.l (.lf (.i .i64))), (.c (.o (.lf .s))), .d]) (.s (.s (.r [.d, (.l (.lf (.i .i64))), (.c (.o (.lf .b)))]) (.c (.s (.r [.d, .d, .d, (.c (.o (.lf (.i .i64)))), (.c (.n [(.lf (.i .i64)), (.lf .b)])), .d, .d, .d, .d, .d]) (.r [.d, (.c (.o (.lf .s))), .d])) .z)) (.r [(.l (.ag (R 6 (.i .i64)))), .d, (.c (.o (.lf .s))), .d, .d, (.c (.n [(.lf (.i .i64)), (.lf .any)]))])))))) (.r (D 2)))))))) (.s (.r [(.c (.o (.lf .s))), .d]) .z))))))
def impl.AsmPut.vc (list : Sl) (w : World) (K : ByteArray → World → Prop) : Prop :=
CallT (.o (.lf (.i .i64))) P0 14 [list.v] w fun (t13 : Int) w_ =>
(((t13 : Int) != 0) = true → K ⟨#[]⟩ w_) ∧
(((t13 : Int) != 0) = false → CallT (.o (.lf .sl)) P0 26 [list.v] w_ fun (t16 : Sl) w__1 =>
Nw (zc P0 55) 55 w__1 fun a_out w__2 =>
∃ (I : Int → World → Prop) (M : Int → World → Nat),
I 0 w__2 ∧
(∀ (t19 : Int) w__3, I t19 w__3 → ∀ _ : Nat → Value,
((decide ((t19 : Int) < ((list.n : Nat) : Int))) = true → Ix list.a list.n t19 6 w__3 fun a_t22 w__4 =>
LdA (R 6 (.i .i64)) a_t22 w__4 fun (t23 : Tup (R 6 (.i .i64))) w__5 =>
Nw (zc P0 39) 39 w__5 fun a_x w__6 =>
StA P0 a_x (Tup.cells (R 6 (.i .i64)) t23) w__6 fun w__7 =>
∃ J : World → Prop,
(CallT (.n [(.lf (.i .i64)), (.lf .b)]) P0 27 [t16.v, (.int .i64 t19)] w__7 fun (t27 : (Int) × (Bool) × Unit) w__8 =>
(t27.2.1 = true → CallT (.o (.lf .s)) P0 29 [(.int .i64 t27.1)] w__8 fun (t32 : ByteArray) w__9 =>
(((ByteArray.size t32 + ByteArray.size (⟨#[58, 10]⟩ : ByteArray) : Nat) : Int) ≤ IntKind.i64.max) ∧ CallT (.n [(.lf (.i .i64)), (.lf .any)]) P0 28 [(.pointer (some a_out)), (.string (t32 ++ (⟨#[58, 10]⟩ : ByteArray)))] w__9 fun (t34 : (Int) × (Value) × Unit) w__10 =>
J w__10) ∧
(t27.2.1 = false → J w__8)) ∧
(∀  w__11, J w__11 → ∀ _ : Nat → Value,
Ld (.i .i64) (Addr.add a_x 3) w__11 fun (t36 : Int) w__12 =>
CallT (.o (.lf .s)) P0 30 [(.int .i64 t36)] w__12 fun (t37 : ByteArray) w__13 =>
Ld (.i .i64) (Addr.add a_x 0) w__13 fun (t39 : Int) w__14 =>
CallT (.o (.lf .b)) P0 31 [(.int .i64 t39)] w__14 fun (t40 : Bool) w__15 =>
(t40 = true → CallT (.o (.lf (.i .i64))) P0 32 [list.v, (.int .i64 t19)] w__15 fun (t45 : Int) w__16 =>
CallT (.n [(.lf (.i .i64)), (.lf .b)]) P0 27 [t16.v, (.int .i64 t45)] w__16 fun (t46 : (Int) × (Bool) × Unit) w__17 =>
CallT (.o (.lf .s)) P0 29 [(.int .i64 t46.1)] w__17 fun (t50 : ByteArray) w__18 =>
LdA (R 6 (.i .i64)) a_x w__18 fun (t51 : Tup (R 6 (.i .i64))) w__19 =>
CallT (.o (.lf .s)) P0 33 [(.agg (Tup.cells (R 6 (.i .i64)) t51).toArray), (.string t50)] w__19 fun (t53 : ByteArray) w__20 =>
(((ByteArray.size (⟨#[32]⟩ : ByteArray) + ByteArray.size t53 : Nat) : Int) ≤ IntKind.i64.max) ∧ (((ByteArray.size ((⟨#[32]⟩ : ByteArray) ++ t53) + ByteArray.size (⟨#[10]⟩ : ByteArray) : Nat) : Int) ≤ IntKind.i64.max) ∧ CallT (.n [(.lf (.i .i64)), (.lf .any)]) P0 28 [(.pointer (some a_out)), (.string (((⟨#[32]⟩ : ByteArray) ++ t53) ++ (⟨#[10]⟩ : ByteArray)))] w__20 fun (t56 : (Int) × (Value) × Unit) w__21 =>
(I (IntKind.wrap .i64 (t19 + 1)) w__21 ∧ M (IntKind.wrap .i64 (t19 + 1)) w__21 < M t19 w__3)) ∧
(t40 = false → LdA (R 6 (.i .i64)) a_x w__15 fun (t51_1 : Tup (R 6 (.i .i64))) w__22 =>
CallT (.o (.lf .s)) P0 33 [(.agg (Tup.cells (R 6 (.i .i64)) t51_1).toArray), (.string t37)] w__22 fun (t53_1 : ByteArray) w__23 =>
(((ByteArray.size (⟨#[32]⟩ : ByteArray) + ByteArray.size t53_1 : Nat) : Int) ≤ IntKind.i64.max) ∧ (((ByteArray.size ((⟨#[32]⟩ : ByteArray) ++ t53_1) + ByteArray.size (⟨#[10]⟩ : ByteArray) : Nat) : Int) ≤ IntKind.i64.max) ∧ CallT (.n [(.lf (.i .i64)), (.lf .any)]) P0 28 [(.pointer (some a_out)), (.string (((⟨#[32]⟩ : ByteArray) ++ t53_1) ++ (⟨#[10]⟩ : ByteArray)))] w__23 fun (t56_1 : (Int) × (Value) × Unit) w__24 =>
(I (IntKind.wrap .i64 (t19 + 1)) w__24 ∧ M (IntKind.wrap .i64 (t19 + 1)) w__24 < M t19 w__3)))) ∧
((decide ((t19 : Int) < ((list.n : Nat) : Int))) = false → CallT (.o (.lf .s)) P0 34 [(.pointer (some a_out))] w__3 fun (t58 : ByteArray) w__25 =>
K t58 w__25)))
theorem impl.AsmPut.ok {list : Sl} {w : World} {K : ByteArray → World → Prop} (h : impl.AsmPut.vc list w K) : CallT (.o (.lf .s)) P0 12 [list.v] w K :=
  call_of Tryz.func12 rfl rfl (pl := impl.AsmPut.pl) (show VC P0 Tryz.f12 impl.AsmPut.pl (.o (.lf .s)) [list.v] w K noP from Eq.mp (by kernel_rfl) h)
/- spec.l13Marks -/
def spec.l13Marks.pl : Pl := (.s (.r (D 1)) (.s (.r [.d, .d, (.t (.o (.lf .sl))), .d]) (.s (.s (.r (D 1)) (.b (.l [(4, (.i .i64))] (.s (.s (.r (D 4)) (.c .z .z)) (.s (.b (.s (.r [.d, .d, .d, .d, (.l (.lf (.i .i64))), (.c (.o (.lf .b))), (.sp .d), .d, .d, .d, .d, (.l (.lf (.i .i64))), .d, .d]) (.c (.r [.d, .d, .d, .d, .d, .d, .d, (.l (.lf (.i .i64))), .d, .d, .d]) .z))) (.r (D 3))))))) (.s (.r (D 2)) .z))))
def spec.l13Marks.vc (list : Sl) (w : World) (K : Sl → World → Prop) : Prop :=
RunT (.o (.lf .sl)) P0 (Instr.makeSlice 80 (.int .i64 ((list.n : Nat) : Int)) (.int .i64 ((list.n : Nat) : Int))) w fun (t7 : Sl) w_ =>
∃ (I : Int → World → Prop) (M : Int → World → Nat),
I 0 w_ ∧
(∀ (i : Int) w__1, I i w__1 → ∀ _ : Nat → Value,
((decide ((i : Int) < ((list.n : Nat) : Int))) = true → Ix list.a list.n i 6 w__1 fun a_t16 w__2 =>
Ld (.i .i64) (Addr.add a_t16 0) w__2 fun (t18 : Int) w__3 =>
CallT (.o (.lf .b)) P0 46 [(.int .i64 t18)] w__3 fun (t19 : Bool) w__4 =>
(t19 = true → Ix list.a list.n i 6 w__4 fun a_t33 w__5 =>
Ld (.i .i64) (Addr.add a_t33 3) w__5 fun (t35 : Int) w__6 =>
Ix t7.a t7.n (IntKind.wrap .i64 ((IntKind.wrap .i64 (i + 1)) + t35)) 1 w__6 fun a_t37 w__7 =>
St a_t37 (.bool true) w__7 fun w__8 =>
(I (IntKind.wrap .i64 (i + 1)) w__8 ∧ M (IntKind.wrap .i64 (i + 1)) w__8 < M i w__1)) ∧
(t19 = false → Ix list.a list.n i 6 w__4 fun a_t23 w__9 =>
Ld (.i .i64) (Addr.add a_t23 0) w__9 fun (t25 : Int) w__10 =>
(((t25 : Int) == 16) = true → Ix list.a list.n i 6 w__10 fun a_t33_1 w__11 =>
Ld (.i .i64) (Addr.add a_t33_1 3) w__11 fun (t35_1 : Int) w__12 =>
Ix t7.a t7.n (IntKind.wrap .i64 ((IntKind.wrap .i64 (i + 1)) + t35_1)) 1 w__12 fun a_t37_1 w__13 =>
St a_t37_1 (.bool true) w__13 fun w__14 =>
(I (IntKind.wrap .i64 (i + 1)) w__14 ∧ M (IntKind.wrap .i64 (i + 1)) w__14 < M i w__1)) ∧
(((t25 : Int) == 16) = false → (I (IntKind.wrap .i64 (i + 1)) w__10 ∧ M (IntKind.wrap .i64 (i + 1)) w__10 < M i w__1)))) ∧
((decide ((i : Int) < ((list.n : Nat) : Int))) = false → K t7 w__1))
theorem spec.l13Marks.ok {list : Sl} {w : World} {K : Sl → World → Prop} (h : spec.l13Marks.vc list w K) : CallT (.o (.lf .sl)) P0 51 [list.v] w K :=
  call_of Tryz.func51 rfl rfl (pl := spec.l13Marks.pl) (show VC P0 Tryz.f51 spec.l13Marks.pl (.o (.lf .sl)) [list.v] w K noP from Eq.mp (by kernel_rfl) h)
/- spec.l13Name -/
def spec.l13Name.pl : Pl := (.s (.r (D 1)) (.s (.r (D 1)) (.s (.s (.r (D 1)) (.b (.l [(5, (.i .i64)), (6, (.i .i64))] (.s (.s (.r (D 3)) (.c .z .z)) (.s (.b (.s (.r [.d, .d, .d, (.l (.lf .b))]) (.c (.r (D 3)) .z))) (.r (D 3))))))) (.s (.r [.d, (.c (.o (.lf .s))), .d, .d]) .z))))
def spec.l13Name.vc (marks : Sl) (at_ : Int) (w : World) (K : ByteArray → World → Prop) : Prop :=
∃ (I : Int → Int → World → Prop) (M : Int → Int → World → Nat),
I 0 0 w ∧
(∀ (n : Int) (i : Int) w_, I n i w_ → ∀ _ : Nat → Value,
((decide ((i : Int) < at_)) = true → Ix marks.a marks.n i 1 w_ fun a_t14 w__1 =>
Ld .b a_t14 w__1 fun (t15 : Bool) w__2 =>
(t15 = true → (I (IntKind.wrap .i64 (n + 1)) (IntKind.wrap .i64 (i + 1)) w__2 ∧ M (IntKind.wrap .i64 (n + 1)) (IntKind.wrap .i64 (i + 1)) w__2 < M n i w_)) ∧
(t15 = false → (I n (IntKind.wrap .i64 (i + 1)) w__2 ∧ M n (IntKind.wrap .i64 (i + 1)) w__2 < M n i w_))) ∧
((decide ((i : Int) < at_)) = false → CallT (.o (.lf .s)) P0 43 [(.int .i64 n)] w_ fun (t19 : ByteArray) w__3 =>
(((ByteArray.size (⟨#[109]⟩ : ByteArray) + ByteArray.size t19 : Nat) : Int) ≤ IntKind.i64.max) ∧ K ((⟨#[109]⟩ : ByteArray) ++ t19) w__3))
theorem spec.l13Name.ok {marks : Sl} {at_ : Int} {w : World} {K : ByteArray → World → Prop} (h : spec.l13Name.vc marks at_ w K) : CallT (.o (.lf .s)) P0 52 [marks.v, (.int .i64 at_)] w K :=
  call_of Tryz.func52 rfl rfl (pl := spec.l13Name.pl) (show VC P0 Tryz.f52 spec.l13Name.pl (.o (.lf .s)) [marks.v, (.int .i64 at_)] w K noP from Eq.mp (by kernel_rfl) h)
/- spec.l13Line -/
def spec.l13Line.pl : Pl := (.s (.r (D 1)) (.s (.r [.d, .d, .d, (.l (.ag (R 6 (.i .i64)))), .d, .d]) (.j [] (.s (.r [.d, (.l (.lf (.i .i64))), (.c (.o (.lf .b))), .d, (.sp .d), .d, (.l (.lf (.i .i64))), .d, .d]) (.c (.s (.r [(.l (.ag (R 6 (.i .i64)))), (.c (.o (.lf .s))), .d]) .z) .z)) (.s (.r [(.l (.ag (R 6 (.i .i64)))), (.c (.o (.lf .s))), .d]) (.s (.g [(.q, []), (.q, []), (.q, []), (.q, []), ((.g (.o (.lf (.i .i64))) (.l (.lf (.i .i64)))), []), ((.g (.o (.lf .s)) (.c (.o (.lf .s)))), [4]), (.q, [5]), (.q, [5]), ((.g (.o (.lf .s)) (.t (.o (.lf .s)))), [5]), (.q, []), (.q, []), (.q, []), (.q, []), ((.g (.o (.lf (.i .i64))) (.l (.lf (.i .i64)))), []), (.q, [13]), ((.g (.o (.lf .s)) (.c (.o (.lf .s)))), [13]), ((.g (.o (.lf .s)) .d), [8, 15]), (.q, [16])] []) .z)))))
def spec.l13Line.vc (list : Sl) (marks : Sl) (at_ : Int) (w : World) (K : ByteArray → World → Prop) : Prop :=
Ix list.a list.n at_ 6 w fun a_t11 w_ =>
LdA (R 6 (.i .i64)) a_t11 w_ fun (t12 : Tup (R 6 (.i .i64))) w__1 =>
Nw (zc P0 39) 39 w__1 fun a_x w__2 =>
StA P0 a_x (Tup.cells (R 6 (.i .i64)) t12) w__2 fun w__3 =>
∃ J : World → Prop,
(Ld (.i .i64) (Addr.add a_x 0) w__3 fun (t14 : Int) w__4 =>
CallT (.o (.lf .b)) P0 46 [(.int .i64 t14)] w__4 fun (t15 : Bool) w__5 =>
((!t15) = true → Ld (.i .i64) (Addr.add a_x 0) w__5 fun (t19 : Int) w__6 =>
(((t19 : Int) != 16) = true → LdA (R 6 (.i .i64)) a_x w__6 fun (t22 : Tup (R 6 (.i .i64))) w__7 =>
CallT (.o (.lf .s)) P0 81 [(.agg (Tup.cells (R 6 (.i .i64)) t22).toArray)] w__7 fun (t23 : ByteArray) w__8 =>
K t23 w__8) ∧
(((t19 : Int) != 16) = false → J w__6)) ∧
((!t15) = false → J w__5)) ∧
(∀  w__9, J w__9 → ∀ _ : Nat → Value,
LdA (R 6 (.i .i64)) a_x w__9 fun (t24 : Tup (R 6 (.i .i64))) w__10 =>
CallT (.o (.lf .s)) P0 81 [(.agg (Tup.cells (R 6 (.i .i64)) t24).toArray)] w__10 fun (t25 : ByteArray) w__11 =>
∃ Sp : World → World → Prop, SpOk Sp w__11 ∧
∃ G_t30 : Int → World → Prop, Kept Sp G_t30 ∧
∃ G_t31 : ByteArray → World → Prop, Kept Sp G_t31 ∧
∃ G_t34 : ByteArray → World → Prop, Kept Sp G_t34 ∧
∃ G_t39 : Int → World → Prop, Kept Sp G_t39 ∧
∃ G_t41 : ByteArray → World → Prop, Kept Sp G_t41 ∧
∃ G_t42 : ByteArray → World → Prop, Kept Sp G_t42 ∧
(∀ w__12, Sp w__11 w__12 → Ld (.i .i64) (Addr.add a_x 3) w__12 fun (t30 : Int) w__13 =>
GK (.o (.lf (.i .i64))) Sp w__12 G_t30 (.int .i64 t30) w__13) ∧
∀ (t30_1 : Int), (∀ w__14, Sp w__11 w__14 → G_t30 t30_1 w__14 → CallT (.o (.lf .s)) P0 43 [(.int .i64 t30_1)] w__14 fun (t31 : ByteArray) w__15 =>
GK (.o (.lf .s)) Sp w__14 G_t31 (.string t31) w__15) ∧
∀ (t31_1 : ByteArray), (∀ w__16, Sp w__11 w__16 → G_t31 t31_1 w__16 → RunT (.o (.lf .s)) P0 (Instr.sliceAt 9 (.string t25) none (some (.int .i64 (IntKind.wrap .i64 ((((ByteArray.size t25) : Nat) : Int) - (((ByteArray.size t31_1) : Nat) : Int))))) none) w__16 fun (t34 : ByteArray) w__17 =>
GK (.o (.lf .s)) Sp w__16 G_t34 (.string t34) w__17) ∧
∀ (t34_1 : ByteArray), (∀ w__18, Sp w__11 w__18 → Ld (.i .i64) (Addr.add a_x 3) w__18 fun (t39 : Int) w__19 =>
GK (.o (.lf (.i .i64))) Sp w__18 G_t39 (.int .i64 t39) w__19) ∧
∀ (t39_1 : Int), (∀ w__20, Sp w__11 w__20 → G_t39 t39_1 w__20 → CallT (.o (.lf .s)) P0 52 [marks.v, (.int .i64 (IntKind.wrap .i64 ((IntKind.wrap .i64 (at_ + 1)) + t39_1)))] w__20 fun (t41 : ByteArray) w__21 =>
GK (.o (.lf .s)) Sp w__20 G_t41 (.string t41) w__21) ∧
∀ (t41_1 : ByteArray), (∀ w__22, Sp w__11 w__22 → G_t34 t34_1 w__22 → G_t41 t41_1 w__22 → (((ByteArray.size t34_1 + ByteArray.size t41_1 : Nat) : Int) ≤ IntKind.i64.max) ∧ GK (.o (.lf .s)) Sp w__22 G_t42 (.string (t34_1 ++ t41_1)) w__22) ∧
∀ (t42 : ByteArray), ∀ w__23, Sp w__11 w__23 → G_t30 t30_1 w__23 → G_t31 t31_1 w__23 → G_t34 t34_1 w__23 → G_t39 t39_1 w__23 → G_t41 t41_1 w__23 → G_t42 t42 w__23 → 
K t42 w__23)
theorem spec.l13Line.ok {list : Sl} {marks : Sl} {at_ : Int} {w : World} {K : ByteArray → World → Prop} (h : spec.l13Line.vc list marks at_ w K) : CallT (.o (.lf .s)) P0 53 [list.v, marks.v, (.int .i64 at_)] w K :=
  call_of Tryz.func53 rfl rfl (pl := spec.l13Line.pl) (show VC P0 Tryz.f53 spec.l13Line.pl (.o (.lf .s)) [list.v, marks.v, (.int .i64 at_)] w K noP from Eq.mp (by kernel_rfl) h)
/- spec.l13Put -/
def spec.l13Put.pl : Pl := (.s (.r (D 1)) (.s (.r (D 1)) (.s (.r [.d, (.c (.o (.lf .sl))), .d]) (.s (.s (.r (D 1)) (.b (.l [(3, .s), (5, (.i .i64))] (.s (.s (.r (D 4)) (.c .z .z)) (.s (.b (.s (.s (.r [.d, .d, .d, (.l (.lf .b))]) (.c (.r [.d, .d, .d, (.c (.o (.lf .s))), .d, .d, .d]) .z)) (.r [.d, .d, .d, .d, .d, (.c (.o (.lf .s))), .d, .d, .d]))) (.r (D 3))))))) (.s (.r (D 2)) .z)))))
def spec.l13Put.vc (list : Sl) (w : World) (K : ByteArray → World → Prop) : Prop :=
CallT (.o (.lf .sl)) P0 51 [list.v] w fun (t7 : Sl) w_ =>
∃ (I : ByteArray → Int → World → Prop) (M : ByteArray → Int → World → Nat),
I ⟨#[]⟩ 0 w_ ∧
(∀ (out : ByteArray) (i : Int) w__1, I out i w__1 → ∀ _ : Nat → Value,
((decide ((i : Int) < ((list.n : Nat) : Int))) = true → Ix t7.a t7.n i 1 w__1 fun a_t16 w__2 =>
Ld .b a_t16 w__2 fun (t17 : Bool) w__3 =>
(t17 = true → CallT (.o (.lf .s)) P0 52 [t7.v, (.int .i64 i)] w__3 fun (t21 : ByteArray) w__4 =>
(((ByteArray.size out + ByteArray.size t21 : Nat) : Int) ≤ IntKind.i64.max) ∧ (((ByteArray.size (out ++ t21) + ByteArray.size (⟨#[58, 10]⟩ : ByteArray) : Nat) : Int) ≤ IntKind.i64.max) ∧ (((ByteArray.size ((out ++ t21) ++ (⟨#[58, 10]⟩ : ByteArray)) + ByteArray.size (⟨#[32]⟩ : ByteArray) : Nat) : Int) ≤ IntKind.i64.max) ∧ CallT (.o (.lf .s)) P0 53 [list.v, t7.v, (.int .i64 i)] w__4 fun (t29 : ByteArray) w__5 =>
(((ByteArray.size (((out ++ t21) ++ (⟨#[58, 10]⟩ : ByteArray)) ++ (⟨#[32]⟩ : ByteArray)) + ByteArray.size t29 : Nat) : Int) ≤ IntKind.i64.max) ∧ (((ByteArray.size ((((out ++ t21) ++ (⟨#[58, 10]⟩ : ByteArray)) ++ (⟨#[32]⟩ : ByteArray)) ++ t29) + ByteArray.size (⟨#[10]⟩ : ByteArray) : Nat) : Int) ≤ IntKind.i64.max) ∧ (I (((((out ++ t21) ++ (⟨#[58, 10]⟩ : ByteArray)) ++ (⟨#[32]⟩ : ByteArray)) ++ t29) ++ (⟨#[10]⟩ : ByteArray)) (IntKind.wrap .i64 (i + 1)) w__5 ∧ M (((((out ++ t21) ++ (⟨#[58, 10]⟩ : ByteArray)) ++ (⟨#[32]⟩ : ByteArray)) ++ t29) ++ (⟨#[10]⟩ : ByteArray)) (IntKind.wrap .i64 (i + 1)) w__5 < M out i w__1)) ∧
(t17 = false → (((ByteArray.size out + ByteArray.size (⟨#[32]⟩ : ByteArray) : Nat) : Int) ≤ IntKind.i64.max) ∧ CallT (.o (.lf .s)) P0 53 [list.v, t7.v, (.int .i64 i)] w__3 fun (t29_1 : ByteArray) w__6 =>
(((ByteArray.size (out ++ (⟨#[32]⟩ : ByteArray)) + ByteArray.size t29_1 : Nat) : Int) ≤ IntKind.i64.max) ∧ (((ByteArray.size ((out ++ (⟨#[32]⟩ : ByteArray)) ++ t29_1) + ByteArray.size (⟨#[10]⟩ : ByteArray) : Nat) : Int) ≤ IntKind.i64.max) ∧ (I (((out ++ (⟨#[32]⟩ : ByteArray)) ++ t29_1) ++ (⟨#[10]⟩ : ByteArray)) (IntKind.wrap .i64 (i + 1)) w__6 ∧ M (((out ++ (⟨#[32]⟩ : ByteArray)) ++ t29_1) ++ (⟨#[10]⟩ : ByteArray)) (IntKind.wrap .i64 (i + 1)) w__6 < M out i w__1))) ∧
((decide ((i : Int) < ((list.n : Nat) : Int))) = false → K out w__1))
theorem spec.l13Put.ok {list : Sl} {w : World} {K : ByteArray → World → Prop} (h : spec.l13Put.vc list w K) : CallT (.o (.lf .s)) P0 20 [list.v] w K :=
  call_of Tryz.func20 rfl rfl (pl := spec.l13Put.pl) (show VC P0 Tryz.f20 spec.l13Put.pl (.o (.lf .s)) [list.v] w K noP from Eq.mp (by kernel_rfl) h)
/- spec.AsmPut -/
def spec.AsmPut.pl : Pl := (.s (.r (D 1)) (.s (.s (.r [.d, (.c (.o (.lf (.i .i64)))), .d]) (.c (.s (.r (D 1)) .z) .z)) (.s (.r [.d, (.c (.o (.lf .s))), .d]) .z)))
def spec.AsmPut.vc (list : Sl) (w : World) (K : ByteArray → World → Prop) : Prop :=
CallT (.o (.lf (.i .i64))) P0 19 [list.v] w fun (t4 : Int) w_ =>
(((t4 : Int) != 0) = true → K ⟨#[]⟩ w_) ∧
(((t4 : Int) != 0) = false → CallT (.o (.lf .s)) P0 20 [list.v] w_ fun (t7 : ByteArray) w__1 =>
K t7 w__1)
theorem spec.AsmPut.ok {list : Sl} {w : World} {K : ByteArray → World → Prop} (h : spec.AsmPut.vc list w K) : CallT (.o (.lf .s)) P0 13 [list.v] w K :=
  call_of Tryz.func13 rfl rfl (pl := spec.AsmPut.pl) (show VC P0 Tryz.f13 spec.AsmPut.pl (.o (.lf .s)) [list.v] w K noP from Eq.mp (by kernel_rfl) h)
/- spec.DrawAsmPut -/
def spec.DrawAsmPut.pl : Pl := (.s (.r (D 1)) (.s (.r [.d, (.c (.o (.lf .sl))), .d]) .z))
def spec.DrawAsmPut.vc (code : Sl) (w : World) (K : Sl → World → Prop) : Prop :=
CallT (.o (.lf .sl)) P0 25 [code.v] w fun (t4 : Sl) w_ =>
K t4 w_
theorem spec.DrawAsmPut.ok {code : Sl} {w : World} {K : Sl → World → Prop} (h : spec.DrawAsmPut.vc code w K) : CallT (.o (.lf .sl)) P0 11 [code.v] w K :=
  call_of Tryz.func11 rfl rfl (pl := spec.DrawAsmPut.pl) (show VC P0 Tryz.f11 spec.DrawAsmPut.pl (.o (.lf .sl)) [code.v] w K noP from Eq.mp (by kernel_rfl) h)
end Go.Proofs.YteggdoigliddkaaGreatDoor.V

/- Contracts: the line of an op, in the reference and in the program. -/
namespace Go.Proofs.YteggdoigliddkaaGreatDoor.V
open Go Go.RowKit
set_option linter.unusedVariables false
set_option linter.unusedSimpArgs false
def callW : List By := [[], [108, 111, 111, 107], [112, 117, 116], [102, 105, 110, 100], [100, 114, 111, 112], [114, 97, 110, 100], [115, 101, 110, 100]]
def callA (n : Int) : By := callW.getD n.toNat []
/-- A register, or a number. -/
def regL (src imm : Int) : By := if src < 0 then Lib.itoa imm else 114 :: Lib.itoa src
/-- The line of an op, with a text for where it goes. -/
def lineO (x : Ins) (off : By) : By :=
  if 1 ≤ x.op ∧ x.op ≤ 11 then opA x.op ++ 32 :: 114 :: Lib.itoa x.dst ++ 32 :: regL x.src x.imm
  else if 12 ≤ x.op ∧ x.op ≤ 15 then opA x.op ++ 32 :: 114 :: Lib.itoa x.dst ++ 32 :: regL x.src x.imm ++ 32 :: off
  else if x.op = 16 then opA x.op ++ 32 :: off
  else if x.op = 17 then opA x.op ++ Lib.itoa x.size ++ 32 :: 114 :: Lib.itoa x.dst ++ 32 :: 114 :: Lib.itoa x.src ++ 32 :: off
  else if x.op = 18 then opA x.op ++ Lib.itoa x.size ++ 32 :: 114 :: Lib.itoa x.dst ++ 32 :: off ++ 32 :: regL x.src x.imm
  else if x.op = 19 then opA x.op ++ 32 :: callA x.imm
  else opA x.op
theorem z32 : (⟨#[32]⟩ : ByteArray).size = 1 := rfl
theorem z114 : (⟨#[114]⟩ : ByteArray).size = 1 := rfl
theorem z2 : (⟨#[32, 114]⟩ : ByteArray).size = 2 := rfl
theorem z10 : (⟨#[10]⟩ : ByteArray).size = 1 := rfl
theorem z109 : (⟨#[109]⟩ : ByteArray).size = 1 := rfl
theorem z58 : (⟨#[58, 10]⟩ : ByteArray).size = 2 := rfl
theorem e32 : (⟨#[32]⟩ : ByteArray) = bs [32] := rfl
theorem e114 : (⟨#[114]⟩ : ByteArray) = bs [114] := rfl
theorem e2 : (⟨#[32, 114]⟩ : ByteArray) = bs [32, 114] := rfl
theorem e10 : (⟨#[10]⟩ : ByteArray) = bs [10] := rfl
theorem e109 : (⟨#[109]⟩ : ByteArray) = bs [109] := rfl
theorem e58 : (⟨#[58, 10]⟩ : ByteArray) = bs [58, 10] := rfl
theorem call_len (n : Int) : (callA n).length ≤ 4 := by
  unfold callA
  by_cases h : n.toNat < 7
  · have hx : ∀ j < 7, (callW.getD j []).length ≤ 4 := by decide
    exact hx _ h
  · rw [List.getD_eq_getElem?_getD, List.getElem?_eq_none (by simp [callW]; omega)]; simp
theorem regL_len {src imm : Int} (h1 : -1 ≤ src ∧ src ≤ 1000) (h2 : 0 ≤ imm ∧ imm ≤ 4294967295) : (regL src imm).length ≤ 22 := by
  have a1 := itoa_len (n := src) (by omega) (by omega)
  have a2 := itoa_len (n := imm) (by omega) (by omega)
  unfold regL
  split
  · omega
  · simp; omega
theorem lineO_len {x : Ins} {off : By} (hp : InsP x) (ho : off.length ≤ 30) : (lineO x off).length ≤ 150 := by
  have a1 := itoa_len (n := x.dst) (by have := hp.1; omega) (by have := hp.1; omega)
  have a2 := itoa_len (n := x.src) (by have := hp.2.1; omega) (by have := hp.2.1; omega)
  have a4 := regL_len (src := x.src) (imm := x.imm) (by have := hp.2.1; omega) hp.2.2.2.1
  have a5 := op_lenA x.op
  have a6 := call_len x.imm
  have a3 : (x.op = 17 ∨ x.op = 18) → (Lib.itoa x.size).length ≤ 21 := by
    intro h
    have : 0 ≤ x.size ∧ x.size ≤ 4 := by have := hp.2.2.2.2; grind [BareP, szP]
    exact itoa_len (by omega) (by omega)
  unfold lineO
  split
  · simp; omega
  · split
    · simp; omega
    · split
      · simp; omega
      · split
        · have := a3 (.inl (by assumption)); simp; omega
        · split
          · have := a3 (.inr (by assumption)); simp; omega
          · split
            · simp; omega
            · omega
theorem qldAB {w : World} {b : Nat} {cs : Array Value} {t : TypeId} {f : Nat × Nat} (h : w.heap[b]? = some (.cells cs t f)) {ls : List Lf} {x : Tup ls} (hx : cs.toList = Tup.cells ls x) {K : Tup ls → Prop} (hk : K x) :
    QLdA ls ⟨b, 0, none⟩ (fun w' => Below w.heap.size w w') K := ⟨x, fun w' hw' j v hv => by
      have hb : b < w.heap.size := (Array.getElem?_eq_some_iff.1 h).1
      rw [add_mk, cell_of ((hw'.block b hb).trans h), Nat.zero_add, ← Array.getElem?_toList, hx]; exact hv, hk⟩
section
variable {w : World}
theorem spec.l1Reg.t {src imm : Int} {K : ByteArray → World → Prop} (h1 : -1 ≤ src ∧ src ≤ 1000) (h2 : 0 ≤ imm ∧ imm ≤ 4294967295) (hk : ∀ w', Below w.heap.size w w' → K (bs (regL src imm)) w') : CallT (.o (.lf .s)) P0 101 [.int .i64 src, .int .i64 imm] w K := by
  have a1 := itoa_len (n := src) (by omega) (by omega)
  refine spec.l1Reg.ok (And.intro (fun h => ?_) (fun h => ?_))
  · simp only [decide_eq_true_eq] at h
    refine spec.l1Dec.t (by omega) (by omega) fun w1 hb => ⟨(by show (_ : Int) ≤ 9223372036854775807; simp only [ByteArray.size_append, bs_size, z32, z114, z2, z10, z109, z58, List.length_cons, List.length_append, List.length_nil]; omega), ?_⟩
    have e : (⟨#[114]⟩ : ByteArray) ++ bs (Lib.itoa src) = bs (regL src imm) := by rw [e114, bs_app]; unfold regL; rw [if_neg (by omega)]; rfl
    rw [e]; exact hk w1 hb
  · simp only [decide_eq_false_iff_not] at h
    refine spec.l1Dec.t (by omega) (by omega) fun w1 hb => ?_
    have e : Lib.itoa imm = regL src imm := by unfold regL; rw [if_pos (by omega)]
    rw [e]; exact hk w1 hb
theorem spec.l1Calls.t {K : Sl → World → Prop} (hk : ∀ r w', Below w.heap.size w w' → OwnS kS 9 w.heap.size w' r (callW.map bs) → K r w') : CallT (.o (.lf .sl)) P0 100 [] w K :=
  spec.l1Calls.ok (nw fun w1 b1 s1 c1 => hk _ w1 b1 (OwnS.lit (k := kS) (xs := callW.map bs) (n := 7) (Nat.le_refl _) c1 rfl rfl (by simp [maxLen])))
theorem impl.reg.t {n : Int} {K : ByteArray → World → Prop} (ht : Tb w) (h : -1 ≤ n ∧ n ≤ 1000) (hk : ∀ w', Below w.heap.size w w' → K (bs (114 :: Lib.itoa n)) w') : CallT (.o (.lf .s)) P0 67 [.int .i64 n] w K := by
  have a1 := itoa_len (n := n) (by omega) (by omega)
  refine impl.reg.ok (itoa.c ht (by omega) (by omega) fun w1 hb => ⟨(by show (_ : Int) ≤ 9223372036854775807; simp only [ByteArray.size_append, bs_size, z32, z114, z2, z10, z109, z58, List.length_cons, List.length_append, List.length_nil]; omega), ?_⟩)
  rw [e114, bs_app]; exact hk w1 hb
theorem impl.mark.t {n : Int} {K : ByteArray → World → Prop} (ht : Tb w) (h : 0 ≤ n ∧ n ≤ 1000000) (hk : ∀ w', Below w.heap.size w w' → K (bs (109 :: Lib.itoa n)) w') : CallT (.o (.lf .s)) P0 29 [.int .i64 n] w K := by
  have a1 := itoa_len (n := n) (by omega) (by omega)
  refine impl.mark.ok (itoa.c ht (by omega) (by omega) fun w1 hb => ⟨(by show (_ : Int) ≤ 9223372036854775807; simp only [ByteArray.size_append, bs_size, z32, z114, z2, z10, z109, z58, List.length_cons, List.length_append, List.length_nil]; omega), ?_⟩)
  rw [e109, bs_app]; exact hk w1 hb
theorem impl.Ins.value.t {x : Ins} {K : ByteArray → World → Prop} (ht : Tb w) (hp : InsP x) (hk : ∀ w', Below w.heap.size w w' → K (bs (regL x.src x.imm)) w') : CallT (.o (.lf .s)) P0 68 [.agg (Tup.cells (R 6 (.i .i64)) x.t).toArray] w K := by
  have hs := hp.2.1
  have hi := hp.2.2.2.1
  refine impl.Ins.value.ok (nwIns fun w1 b1 s1 c1 => ldB c1 (j := 2) (x := x.src) rfl (And.intro (fun h => ?_) (fun h => ?_)))
  · have h : x.src = -1 := by simpa using h
    refine ldB c1 (j := 4) (x := x.imm) rfl (itoa.c (ht.below b1) (by omega) (by omega) fun w2 b2 => ?_)
    have e : Lib.itoa x.imm = regL x.src x.imm := by unfold regL; rw [if_pos (by omega)]
    rw [e]; exact hk w2 (b1.trans (b2.mono b1.size))
  · have h : ¬ x.src = -1 := by simpa using h
    refine ldB c1 (j := 2) (x := x.src) rfl (impl.reg.t (ht.below b1) (by omega) fun w2 b2 => ?_)
    have e : 114 :: Lib.itoa x.src = regL x.src x.imm := by unfold regL; rw [if_neg (by omega)]
    rw [e]; exact hk w2 (b1.trans (b2.mono b1.size))
def callT : Tup (R 7 .s) := tupS callW
def call0 : Tup (R 7 .s) := tupS (List.replicate 7 [])
theorem callT_cells : Tup.cells (R 7 .s) callT = callW.map fun x => Value.string (bs x) := tupS_cells callW
theorem zCalls : zc P0 96 = (Tup.cells (R 7 .s) call0).toArray := by kernel_rfl
theorem impl.callWords.t {K : Tup (R 7 .s) → World → Prop} (hk : ∀ w', Below w.heap.size w w' → K callT w') : CallT (.o (.ag (R 7 .s))) P0 70 [] w K := by
  refine impl.callWords.ok ?_
  unfold impl.callWords.vc
  rw [zCalls]
  refine nw fun w1 b1 s1 c1 => ?_
  obtain ⟨w2, hr, hg, hsz, hh⟩ := run_storeCells_at' P0 (b := w.heap.size) (t := 96) (Tup.cells (R 7 .s) callT) 0 [] (Tup.cells (R 7 .s) call0) w1 (by rw [callT_cells]; intro v hv; simp only [List.mem_map] at hv; obtain ⟨x, _, rfl⟩ := hv; rfl) rfl rfl (by simpa using c1)
  refine ⟨w2, hr, ldAB (by simpa using hh) rfl (hk w2 (b1.grown hg b1.size (fun g hg => by simp only [Option.some.injEq] at hg; omega)))⟩
theorem callIx {i : Int} (h0 : 0 ≤ i) (h1 : i ≤ 6) {K : ByteArray → World → Prop} (hk : K (bs (callA i)) w) : RunT (.o (.lf .s)) P0 (Instr.index 96 (.agg (Tup.cells (R 7 .s) callT).toArray) (.int .i64 i)) w K := by
  refine ixAgg (n := 7) (e := 9) (by kernel_rfl) (by kernel_rfl) (by kernel_rfl) h0 (by omega) ?_ hk
  rw [callT_cells]
  obtain ⟨x, hx⟩ := get_some (l := callW) (k := i.toNat) (by simp [callW]; omega)
  have : callA i = x := by unfold callA; rw [List.getD_eq_getElem?_getD, hx]; rfl
  rw [this]
  simp [hx]
set_option maxHeartbeats 4000000 in
theorem impl.Ins.line.t {x : Ins} {off : By} {K : ByteArray → World → Prop} (ht : Tb w) (hp : InsP x) (ho : off.length ≤ 30) (hk : ∀ w', Below w.heap.size w w' → K (bs (lineO x off)) w') : CallT (.o (.lf .s)) P0 33 [.agg (Tup.cells (R 6 (.i .i64)) x.t).toArray, .string (bs off)] w K := by
  have hop : 1 ≤ x.op ∧ x.op ≤ 20 := by have := hp.2.2.2.2; grind [BareP, szP]
  have hdst := hp.1
  have hsrc := hp.2.1
  have hoff := hp.2.2.1
  have himm := hp.2.2.2.1
  have hsize : (x.op = 17 ∨ x.op = 18) → 0 ≤ x.size ∧ x.size ≤ 4 := by have := hp.2.2.2.2; grind [BareP, szP]
  have hcall : x.op = 19 → 1 ≤ x.imm ∧ x.imm ≤ 6 := by have := hp.2.2.2.2; grind [BareP, szP]
  have a1 := itoa_len (n := x.dst) (by omega) (by omega)
  have a2 := itoa_len (n := x.src) (by omega) (by omega)
  have a4 := regL_len (src := x.src) (imm := x.imm) (by omega) himm
  have a5 := op_lenA x.op
  have a6 := call_len x.imm
  refine impl.Ins.line.ok (nwIns fun w1 b1 s1 c1 => ?_)
  have cc : ∀ {w' : World}, StR w1 w' → w'.heap[w.heap.size]? = _ := fun hs => (hs.block _ (by omega)).trans c1
  refine ⟨StR, stOk w1, eqG opT, keptE, eqG x.op, keptE, eqG (bs (opA x.op)), keptE, ?_⟩
  refine ⟨fun w' hs => impl.opWords.t fun w'' hb => gkE rfl hb, fun t7 => ⟨fun w' hs => ldB (cc hs) (x := x.op) rfl (gkE rfl (Below.refl _ _)), fun t9 => ⟨fun w' hs f7 f9 => ?_, fun t10 w2 hs _ _ f10 => ?_⟩⟩⟩
  · cases f7; cases f9; exact opIx (by omega) (by omega) (gkE rfl (Below.refl _ _))
  cases f10
  have hs : Below w1.heap.size w1 w2 := hs
  have b2 := b1.trans (hs.mono b1.size)
  have c2 := (hs.block _ (by omega)).trans c1
  have ht2 := ht.below b2
  have fin : ∀ {w' : World} {r : ByteArray}, Below w2.heap.size w2 w' → r = bs (lineO x off) → K r w' := fun hb e => by rw [e]; exact hk _ (b2.trans (hb.mono b2.size))
  have Q : ∀ {w9 w' : World}, Below w2.heap.size w2 w9 → Below w9.heap.size w9 w' → Tb w' := fun h1 h2 => (ht2.below h1).below h2
  have qreg : ∀ {w9 : World} {n : Int} {K : ByteArray → Prop}, Below w2.heap.size w2 w9 → -1 ≤ n ∧ n ≤ 1000 → K (bs (114 :: Lib.itoa n)) → QCl (.o (.lf .s)) P0 67 [.int .i64 n] (fun w' => Below w9.heap.size w9 w') K := fun h1 hn hK =>
    qcl _ (fun w' hb => impl.reg.t (Q h1 hb) hn fun w'' hb' => ⟨rfl, hb.trans (hb'.mono hb.size)⟩) hK
  have qito : ∀ {w9 : World} {n : Int} {K : ByteArray → Prop}, Below w2.heap.size w2 w9 → -1000000 ≤ n ∧ n ≤ 10000000000 → K (bs (Lib.itoa n)) → QCl (.o (.lf .s)) P0 30 [.int .i64 n] (fun w' => Below w9.heap.size w9 w') K := fun h1 hn hK =>
    qcl _ (fun w' hb => itoa.c (Q h1 hb) (by omega) (by omega) fun w'' hb' => ⟨rfl, hb.trans (hb'.mono hb.size)⟩) hK
  have qval : ∀ {w9 : World} {K : ByteArray → Prop}, Below w2.heap.size w2 w9 → K (bs (regL x.src x.imm)) → QCl (.o (.lf .s)) P0 68 [.agg (Tup.cells (R 6 (.i .i64)) x.t).toArray] (fun w' => Below w9.heap.size w9 w') K := fun h1 hK =>
    qcl _ (fun w' hb => impl.Ins.value.t (Q h1 hb) hp fun w'' hb' => ⟨rfl, hb.trans (hb'.mono hb.size)⟩) hK
  have r2 := Below.refl w2.heap.size w2
  refine ldB c2 (x := x.op) rfl (impl.kind.reckons.c (And.intro (fun h => ?_) (fun h => impl.kind.asks.c (And.intro (fun h3 => ?_) (fun h3 => ldB c2 (x := x.op) rfl (And.intro (fun h4 => ?_) (fun h4 => ldB c2 (x := x.op) rfl (And.intro (fun h5 => ?_) (fun h5 => ldB c2 (x := x.op) rfl (And.intro (fun h6 => ?_) (fun h6 => ldB c2 (x := x.op) rfl (And.intro (fun h7 => ?_) (fun h7 => ?_)))))))))))))
  · have h : 1 ≤ x.op ∧ x.op ≤ 11 := by simpa using h
    refine ⟨(by show (_ : Int) ≤ 9223372036854775807; simp only [ByteArray.size_append, bs_size, z32, z114, z2, z10, z109, z58, List.length_cons, List.length_append, List.length_nil]; omega), qldB c2 (j := 1) (x := x.dst) rfl (qreg r2 (by omega) ⟨(by show (_ : Int) ≤ 9223372036854775807; simp only [ByteArray.size_append, bs_size, z32, z114, z2, z10, z109, z58, List.length_cons, List.length_append, List.length_nil]; omega), (by show (_ : Int) ≤ 9223372036854775807; simp only [ByteArray.size_append, bs_size, z32, z114, z2, z10, z109, z58, List.length_cons, List.length_append, List.length_nil]; omega), qldAB c2 (x := x.t) rfl (qval r2 ⟨(by show (_ : Int) ≤ 9223372036854775807; simp only [ByteArray.size_append, bs_size, z32, z114, z2, z10, z109, z58, List.length_cons, List.length_append, List.length_nil]; omega), fun w3 hb => fin hb ?_⟩)⟩)⟩
    rw [e32]; simp only [bs_app]
    congr 1
    unfold lineO; rw [if_pos h]; simp
  · have h : ¬ (1 ≤ x.op ∧ x.op ≤ 11) := by simpa using h
    have h3 : 12 ≤ x.op ∧ x.op ≤ 15 := by simpa using h3
    refine ⟨(by show (_ : Int) ≤ 9223372036854775807; simp only [ByteArray.size_append, bs_size, z32, z114, z2, z10, z109, z58, List.length_cons, List.length_append, List.length_nil]; omega), qldB c2 (j := 1) (x := x.dst) rfl (qreg r2 (by omega) ⟨(by show (_ : Int) ≤ 9223372036854775807; simp only [ByteArray.size_append, bs_size, z32, z114, z2, z10, z109, z58, List.length_cons, List.length_append, List.length_nil]; omega), (by show (_ : Int) ≤ 9223372036854775807; simp only [ByteArray.size_append, bs_size, z32, z114, z2, z10, z109, z58, List.length_cons, List.length_append, List.length_nil]; omega), qldAB c2 (x := x.t) rfl (qval r2 ⟨(by show (_ : Int) ≤ 9223372036854775807; simp only [ByteArray.size_append, bs_size, z32, z114, z2, z10, z109, z58, List.length_cons, List.length_append, List.length_nil]; omega), (by show (_ : Int) ≤ 9223372036854775807; simp only [ByteArray.size_append, bs_size, z32, z114, z2, z10, z109, z58, List.length_cons, List.length_append, List.length_nil]; omega), (by show (_ : Int) ≤ 9223372036854775807; simp only [ByteArray.size_append, bs_size, z32, z114, z2, z10, z109, z58, List.length_cons, List.length_append, List.length_nil]; omega), fun w3 hb => fin hb ?_⟩)⟩)⟩
    rw [e32]; simp only [bs_app]
    congr 1
    unfold lineO; rw [if_neg h, if_pos h3]; simp
  · have h : ¬ (1 ≤ x.op ∧ x.op ≤ 11) := by simpa using h
    have h3 : ¬ (12 ≤ x.op ∧ x.op ≤ 15) := by simpa using h3
    have h4 : x.op = 16 := by simpa using h4
    refine ⟨(by show (_ : Int) ≤ 9223372036854775807; simp only [ByteArray.size_append, bs_size, z32, z114, z2, z10, z109, z58, List.length_cons, List.length_append, List.length_nil]; omega), (by show (_ : Int) ≤ 9223372036854775807; simp only [ByteArray.size_append, bs_size, z32, z114, z2, z10, z109, z58, List.length_cons, List.length_append, List.length_nil]; omega), fin r2 ?_⟩
    rw [e32]; simp only [bs_app]
    congr 1
    unfold lineO; rw [if_neg h, if_neg h3, if_pos h4]; simp
  · have h : ¬ (1 ≤ x.op ∧ x.op ≤ 11) := by simpa using h
    have h3 : ¬ (12 ≤ x.op ∧ x.op ≤ 15) := by simpa using h3
    have h4 : ¬ x.op = 16 := by simpa using h4
    have h5 : x.op = 17 := by simpa using h5
    have hz := hsize (.inl h5)
    have a3 := itoa_len (n := x.size) (by omega) (by omega)
    refine qldB c2 (j := 5) (x := x.size) rfl (qito r2 (by omega) ⟨(by show (_ : Int) ≤ 9223372036854775807; simp only [ByteArray.size_append, bs_size, z32, z114, z2, z10, z109, z58, List.length_cons, List.length_append, List.length_nil]; omega), (by show (_ : Int) ≤ 9223372036854775807; simp only [ByteArray.size_append, bs_size, z32, z114, z2, z10, z109, z58, List.length_cons, List.length_append, List.length_nil]; omega), qldB c2 (j := 1) (x := x.dst) rfl (qreg r2 (by omega) ⟨(by show (_ : Int) ≤ 9223372036854775807; simp only [ByteArray.size_append, bs_size, z32, z114, z2, z10, z109, z58, List.length_cons, List.length_append, List.length_nil]; omega), (by show (_ : Int) ≤ 9223372036854775807; simp only [ByteArray.size_append, bs_size, z32, z114, z2, z10, z109, z58, List.length_cons, List.length_append, List.length_nil]; omega), qldB c2 (j := 2) (x := x.src) rfl (qreg r2 (by omega) ⟨(by show (_ : Int) ≤ 9223372036854775807; simp only [ByteArray.size_append, bs_size, z32, z114, z2, z10, z109, z58, List.length_cons, List.length_append, List.length_nil]; omega), (by show (_ : Int) ≤ 9223372036854775807; simp only [ByteArray.size_append, bs_size, z32, z114, z2, z10, z109, z58, List.length_cons, List.length_append, List.length_nil]; omega), (by show (_ : Int) ≤ 9223372036854775807; simp only [ByteArray.size_append, bs_size, z32, z114, z2, z10, z109, z58, List.length_cons, List.length_append, List.length_nil]; omega), fun w3 hb => fin hb ?_⟩)⟩)⟩)
    rw [e32]; simp only [bs_app]
    congr 1
    unfold lineO; rw [if_neg h, if_neg h3, if_neg h4, if_pos h5]; simp
  · have h : ¬ (1 ≤ x.op ∧ x.op ≤ 11) := by simpa using h
    have h3 : ¬ (12 ≤ x.op ∧ x.op ≤ 15) := by simpa using h3
    have h4 : ¬ x.op = 16 := by simpa using h4
    have h5 : ¬ x.op = 17 := by simpa using h5
    have h6 : x.op = 18 := by simpa using h6
    have hz := hsize (.inr h6)
    have a3 := itoa_len (n := x.size) (by omega) (by omega)
    refine qldB c2 (j := 5) (x := x.size) rfl (qito r2 (by omega) ⟨(by show (_ : Int) ≤ 9223372036854775807; simp only [ByteArray.size_append, bs_size, z32, z114, z2, z10, z109, z58, List.length_cons, List.length_append, List.length_nil]; omega), (by show (_ : Int) ≤ 9223372036854775807; simp only [ByteArray.size_append, bs_size, z32, z114, z2, z10, z109, z58, List.length_cons, List.length_append, List.length_nil]; omega), qldB c2 (j := 1) (x := x.dst) rfl (qreg r2 (by omega) ⟨(by show (_ : Int) ≤ 9223372036854775807; simp only [ByteArray.size_append, bs_size, z32, z114, z2, z10, z109, z58, List.length_cons, List.length_append, List.length_nil]; omega), (by show (_ : Int) ≤ 9223372036854775807; simp only [ByteArray.size_append, bs_size, z32, z114, z2, z10, z109, z58, List.length_cons, List.length_append, List.length_nil]; omega), (by show (_ : Int) ≤ 9223372036854775807; simp only [ByteArray.size_append, bs_size, z32, z114, z2, z10, z109, z58, List.length_cons, List.length_append, List.length_nil]; omega), (by show (_ : Int) ≤ 9223372036854775807; simp only [ByteArray.size_append, bs_size, z32, z114, z2, z10, z109, z58, List.length_cons, List.length_append, List.length_nil]; omega), qldAB c2 (x := x.t) rfl (qval r2 ⟨(by show (_ : Int) ≤ 9223372036854775807; simp only [ByteArray.size_append, bs_size, z32, z114, z2, z10, z109, z58, List.length_cons, List.length_append, List.length_nil]; omega), fun w3 hb => fin hb ?_⟩)⟩)⟩)
    rw [e32]; simp only [bs_app]
    congr 1
    unfold lineO; rw [if_neg h, if_neg h3, if_neg h4, if_neg h5, if_pos h6]; simp
  · have h : ¬ (1 ≤ x.op ∧ x.op ≤ 11) := by simpa using h
    have h3 : ¬ (12 ≤ x.op ∧ x.op ≤ 15) := by simpa using h3
    have h4 : ¬ x.op = 16 := by simpa using h4
    have h5 : ¬ x.op = 17 := by simpa using h5
    have h6 : ¬ x.op = 18 := by simpa using h6
    have h7 : x.op = 19 := by simpa using h7
    have hc := hcall h7
    have c3 : ∀ {w' : World}, StR w2 w' → w'.heap[w.heap.size]? = _ := fun hs => (hs.block _ (Array.getElem?_eq_some_iff.1 c2).1).trans c2
    refine ⟨StR, stOk w2, eqG (bs (opA x.op ++ [32])), keptE, eqG callT, keptE, eqG x.imm, keptE, eqG (bs (callA x.imm)), keptE, eqG (bs ((opA x.op ++ [32]) ++ callA x.imm)), keptE, ?_⟩
    refine ⟨fun w' hs => ⟨(by show (_ : Int) ≤ 9223372036854775807; simp only [ByteArray.size_append, bs_size, z32, z114, z2, z10, z109, z58, List.length_cons, List.length_append, List.length_nil]; omega), gkE (congrArg Value.string (bs_app _ _)) (Below.refl _ _)⟩, fun t98 => ⟨fun w' hs => impl.callWords.t fun w'' hb => gkE rfl hb, fun t99 => ⟨fun w' hs => ldB (c3 hs) (j := 4) (x := x.imm) rfl (gkE rfl (Below.refl _ _)), fun t101 => ⟨fun w' hs f99 f101 => ?_, fun t102 => ⟨fun w' hs f98 f102 => ?_, fun t103 w3 hs _ _ _ _ f103 => ?_⟩⟩⟩⟩⟩
    · cases f99; cases f101; exact callIx (by omega) (by omega) (gkE rfl (Below.refl _ _))
    · cases f98; cases f102; exact ⟨(by show (_ : Int) ≤ 9223372036854775807; simp only [ByteArray.size_append, bs_size, z32, z114, z2, z10, z109, z58, List.length_cons, List.length_append, List.length_nil]; omega), gkE (congrArg Value.string (bs_app _ _)) (Below.refl _ _)⟩
    · cases f103
      refine fin hs ?_
      congr 1
      unfold lineO; rw [if_neg h, if_neg h3, if_neg h4, if_neg h5, if_neg h6, if_pos h7]; simp
  · have h : ¬ (1 ≤ x.op ∧ x.op ≤ 11) := by simpa using h
    have h3 : ¬ (12 ≤ x.op ∧ x.op ≤ 15) := by simpa using h3
    have h4 : ¬ x.op = 16 := by simpa using h4
    have h5 : ¬ x.op = 17 := by simpa using h5
    have h6 : ¬ x.op = 18 := by simpa using h6
    have h7 : ¬ x.op = 19 := by simpa using h7
    refine fin r2 ?_
    unfold lineO; rw [if_neg h, if_neg h3, if_neg h4, if_neg h5, if_neg h6, if_neg h7]
end
end Go.Proofs.YteggdoigliddkaaGreatDoor.V

/- Plain laws: programs as lines with marks. -/
namespace Go.Proofs.YteggdoigliddkaaGreatDoor.V
open Go Go.RowKit
set_option linter.unusedVariables false
set_option linter.unusedSimpArgs false
/-- One of the first n ops goes on here. -/
def jumps (l : List Ins) (n : Nat) (i : Int) : Prop := ∃ j x, j < n ∧ l[j]? = some x ∧ goesP x ∧ tgt j x = i
theorem jumps_zero {l : List Ins} {i : Int} : ¬ jumps l 0 i := fun ⟨_, _, h, _⟩ => by omega
theorem jumps_succ {l : List Ins} {n : Nat} {x : Ins} (hx : l[n]? = some x) (i : Int) : jumps l (n + 1) i ↔ jumps l n i ∨ (goesP x ∧ tgt n x = i) := by
  constructor
  · rintro ⟨j, y, hj, hy, h⟩
    by_cases e : j = n
    · subst e; rw [hx] at hy; simp only [Option.some.injEq] at hy; subst hy; exact .inr h
    · exact .inl ⟨j, y, by omega, hy, h⟩
  · rintro (⟨j, y, hj, hy, h⟩ | h)
    · exact ⟨j, y, by omega, hy, h⟩
    · exact ⟨n, x, by omega, hx, h⟩
open Classical in
noncomputable def jmp (l : List Ins) (i : Nat) : Bool := decide (jumps l l.length i)
open Classical in
theorem jmp_iff {l : List Ins} {i : Nat} : jmp l i = true ↔ jumps l l.length i := by unfold jmp; exact decide_eq_true_iff
theorem jumps_in {l : List Ins} (hq : formP l = 0) {n : Nat} {i : Int} (h : jumps l n i) : 0 ≤ i ∧ i < l.length := by
  obtain ⟨j, x, _, hx, hg, he⟩ := h
  have := formP_tgt hq hx hg
  omega
noncomputable def cntJ (l : List Ins) (n : Nat) : Nat := (picks n (jmp l)).length
theorem cntJ_le (l : List Ins) (n : Nat) : cntJ l n ≤ n := picks_le _ _
theorem cntJ_succ (l : List Ins) (n : Nat) : cntJ l (n + 1) = cntJ l n + if jmp l n = true then 1 else 0 := by
  unfold cntJ
  rw [picks_succ]
  split <;> simp
theorem picks_count {f : Nat → Bool} (i : Nat) : ∀ n, i ≤ n → (picks n f).countP (· < (i : Int)) = (picks i f).length := by
  intro n
  induction n with
  | zero => intro h; obtain rfl : i = 0 := by omega
            simp [picks]
  | succ n ih =>
    intro h
    by_cases e : i = n + 1
    · subst e
      refine List.countP_eq_length.2 fun x hx => ?_
      obtain ⟨k, rfl, hk, _⟩ := mem_picks.1 hx
      simp; omega
    · rw [picks_succ]
      split
      · rw [List.countP_append, ih (by omega)]; simp; omega
      · exact ih (by omega)
theorem picks_has {n i : Nat} {f : Nat → Bool} (h : i < n) : (picks n f).contains (i : Int) = f i := by
  rw [Bool.eq_iff_iff, List.contains_iff_mem, mem_picks]
  constructor
  · rintro ⟨k, e, _, hf⟩
    obtain rfl : i = k := by omega
    exact hf
  · intro hf; exact ⟨i, rfl, h, hf⟩
def markT (n : Nat) : By := 109 :: Lib.itoa n
theorem markT_len {n : Nat} (h : n ≤ 1000000) : (markT n).length ≤ 22 := by
  have := itoa_len (n := (n : Int)) (by omega) (by omega)
  simp [markT]; omega
noncomputable def offT (l : List Ins) (i : Nat) (x : Ins) : By := if goesP x then markT (cntJ l (tgt i x).toNat) else Lib.itoa x.off
noncomputable def piece (l : List Ins) (i : Nat) (x : Ins) : By := (if jmp l i = true then markT (cntJ l i) ++ [58, 10] else []) ++ (32 :: lineO x (offT l i x) ++ [10])
noncomputable def textA (l : List Ins) : Nat → By
  | 0 => []
  | n + 1 => textA l n ++ match l[n]? with | some x => piece l n x | none => []
theorem textA_succ {l : List Ins} {n : Nat} {x : Ins} (hx : l[n]? = some x) : textA l (n + 1) = textA l n ++ piece l n x := by
  rw [textA, hx]
open Classical in
noncomputable def putA (l : List Ins) : By := if formP l = 0 then textA l l.length else []
theorem putA_of {l : List Ins} (h : formP l = 0) : putA l = textA l l.length := by unfold putA; rw [if_pos h]
theorem putA_no {l : List Ins} (h : ¬ formP l = 0) : putA l = [] := by unfold putA; rw [if_neg h]
theorem offT_len {l : List Ins} (hq : formP l = 0) {i : Nat} {x : Ins} (hx : l[i]? = some x) : (offT l i x).length ≤ 22 := by
  have hp := formP_ins hq (List.mem_of_getElem? hx)
  have hz := formP_size hq
  unfold offT
  split
  · rename_i hg
    have := formP_tgt hq hx hg
    have := cntJ_le l (tgt i x).toNat
    exact markT_len (by omega)
  · have h := hp.2.2.1
    have := itoa_len (n := x.off) (by omega) (by omega)
    omega
theorem piece_len {l : List Ins} (hq : formP l = 0) {i : Nat} {x : Ins} (hx : l[i]? = some x) : (piece l i x).length ≤ 200 := by
  have hp := formP_ins hq (List.mem_of_getElem? hx)
  have hz := formP_size hq
  have h1 := offT_len hq hx
  have h2 := lineO_len (off := offT l i x) hp (by omega)
  have hi := (List.getElem?_eq_some_iff.1 hx).1
  have h3 := cntJ_le l i
  have h4 := markT_len (n := cntJ l i) (by omega)
  unfold piece
  split <;> simp <;> omega
theorem textA_len {l : List Ins} (hq : formP l = 0) : ∀ {n : Nat}, n ≤ l.length → (textA l n).length ≤ 200 * n := by
  intro n
  induction n with
  | zero => intro _; simp [textA]
  | succ n ih =>
    intro h
    obtain ⟨x, hx⟩ := get_some (l := l) (k := n) (by omega)
    have h1 := ih (by omega)
    have h2 := piece_len hq hx
    rw [textA_succ hx, List.length_append]; omega
theorem putA_len (l : List Ins) : (putA l).length ≤ 9600 := by
  by_cases h : formP l = 0
  · rw [putA_of h]
    have := textA_len h (Nat.le_refl _)
    have := formP_size h
    omega
  · rw [putA_no h]; simp
/-- An op that goes on ends with where to. -/
theorem lineO_goes {x : Ins} (h : goesP x) : ∃ base : By, ∀ off, lineO x off = base ++ off := by
  unfold goesP at h
  by_cases h1 : x.op = 16
  · exact ⟨opA x.op ++ [32], fun off => by unfold lineO; rw [if_neg (by omega), if_neg (by omega), if_pos h1]; simp⟩
  · exact ⟨opA x.op ++ 32 :: 114 :: Lib.itoa x.dst ++ 32 :: regL x.src x.imm ++ [32], fun off => by unfold lineO; rw [if_neg (by omega), if_pos (by omega)]; simp⟩
/-- The marks between words and lines. -/
def Gap (c : UInt8) : Prop := c = 10 ∨ c = 32 ∨ c = 58
theorem gap_fig {c : UInt8} (hc : Gap c) : ¬ (48 ≤ c.toNat ∧ c.toNat ≤ 57) ∧ c ≠ 45 ∧ c ≠ 114 ∧ c ≠ 109 := by
  rcases hc with rfl | rfl | rfl <;> decide
theorem itoa_no {c : UInt8} (hc : Gap c) (n : Int) : c ∉ Lib.itoa n := by
  obtain ⟨h1, h2, _⟩ := gap_fig hc
  unfold Lib.itoa
  split
  · intro h
    rcases List.mem_cons.1 h with h | h
    · exact h2 h
    · exact h1 (dec_fig _ _ h)
  · intro h
    exact h1 (dec_fig _ _ h)
theorem opA_no {c : UInt8} (hc : Gap c) (n : Int) : c ∉ opA n := by
  unfold opA
  by_cases h : n.toNat < 21
  · have hx : ∀ j < 21, (10 : UInt8) ∉ (opW.getD j []) ∧ (32 : UInt8) ∉ (opW.getD j []) ∧ (58 : UInt8) ∉ (opW.getD j []) := by decide
    have := hx _ h
    rcases hc with rfl | rfl | rfl
    · exact this.1
    · exact this.2.1
    · exact this.2.2
  · rw [List.getD_eq_getElem?_getD, List.getElem?_eq_none (by simp [opW]; omega)]; simp
theorem callA_no {c : UInt8} (hc : Gap c) (n : Int) : c ∉ callA n := by
  unfold callA
  by_cases h : n.toNat < 7
  · have hx : ∀ j < 7, (10 : UInt8) ∉ (callW.getD j []) ∧ (32 : UInt8) ∉ (callW.getD j []) ∧ (58 : UInt8) ∉ (callW.getD j []) := by decide
    have := hx _ h
    rcases hc with rfl | rfl | rfl
    · exact this.1
    · exact this.2.1
    · exact this.2.2
  · rw [List.getD_eq_getElem?_getD, List.getElem?_eq_none (by simp [callW]; omega)]; simp
theorem regW_no {c : UInt8} (hc : Gap c) (n : Int) : c ∉ 114 :: Lib.itoa n := by
  have := (gap_fig hc).2.2.1
  simp [this, itoa_no hc]
theorem regL_no {c : UInt8} (hc : Gap c) (a b : Int) : c ∉ regL a b := by
  unfold regL
  split
  · exact itoa_no hc _
  · exact regW_no hc _
theorem markT_no {c : UInt8} (hc : Gap c) (n : Nat) : c ∉ markT n := by
  have := (gap_fig hc).2.2.2
  simp [markT, itoa_no hc, this]
theorem offT_no {c : UInt8} (hc : Gap c) (l : List Ins) (i : Nat) (x : Ins) : c ∉ offT l i x := by
  unfold offT
  split
  · exact markT_no hc _
  · exact itoa_no hc _
/-- The words of an op's line. -/
def lineW (x : Ins) (off : By) : List By :=
  if 1 ≤ x.op ∧ x.op ≤ 11 then [opA x.op, 114 :: Lib.itoa x.dst, regL x.src x.imm]
  else if 12 ≤ x.op ∧ x.op ≤ 15 then [opA x.op, 114 :: Lib.itoa x.dst, regL x.src x.imm, off]
  else if x.op = 16 then [opA x.op, off]
  else if x.op = 17 then [opA x.op ++ Lib.itoa x.size, 114 :: Lib.itoa x.dst, 114 :: Lib.itoa x.src, off]
  else if x.op = 18 then [opA x.op ++ Lib.itoa x.size, 114 :: Lib.itoa x.dst, off, regL x.src x.imm]
  else if x.op = 19 then [opA x.op, callA x.imm]
  else [opA x.op]
theorem lineW_ne (x : Ins) (off : By) : lineW x off ≠ [] := by
  unfold lineW; split <;> (try split) <;> (try split) <;> (try split) <;> (try split) <;> (try split) <;> simp
theorem lineW_len (x : Ins) (off : By) : (lineW x off).length ≤ 4 := by
  unfold lineW; split <;> (try split) <;> (try split) <;> (try split) <;> (try split) <;> (try split) <;> simp
theorem lineO_words (x : Ins) (off : By) : lineO x off = joinW 32 (lineW x off) := by
  unfold lineO lineW
  split
  · simp [joinW]
  · split
    · simp [joinW]
    · split
      · simp [joinW]
      · split
        · simp [joinW]
        · split
          · simp [joinW]
          · split
            · simp [joinW]
            · simp [joinW]
theorem lineW_no {c : UInt8} (hc : Gap c) {x : Ins} {off : By} (h : c ∉ off) : ∀ w ∈ lineW x off, c ∉ w := by
  have h1 := opA_no hc x.op
  have h2 := regW_no hc x.dst
  have h3 := regW_no hc x.src
  have h4 := itoa_no hc x.size
  have h5 := regL_no hc x.src x.imm
  have h6 := callA_no hc x.imm
  have h7 : c ∉ opA x.op ++ Lib.itoa x.size := by simp [h1, h4]
  unfold lineW
  intro w hw
  split at hw
  · simp only [List.mem_cons, List.not_mem_nil, or_false] at hw
    rcases hw with rfl | rfl | rfl <;> assumption
  · split at hw
    · simp only [List.mem_cons, List.not_mem_nil, or_false] at hw
      rcases hw with rfl | rfl | rfl | rfl <;> assumption
    · split at hw
      · simp only [List.mem_cons, List.not_mem_nil, or_false] at hw
        rcases hw with rfl | rfl <;> assumption
      · split at hw
        · simp only [List.mem_cons, List.not_mem_nil, or_false] at hw
          rcases hw with rfl | rfl | rfl | rfl <;> assumption
        · split at hw
          · simp only [List.mem_cons, List.not_mem_nil, or_false] at hw
            rcases hw with rfl | rfl | rfl | rfl <;> assumption
          · split at hw
            · simp only [List.mem_cons, List.not_mem_nil, or_false] at hw
              rcases hw with rfl | rfl <;> assumption
            · simp only [List.mem_cons, List.not_mem_nil, or_false] at hw
              subst hw; assumption
theorem joinW_no {c d : UInt8} (hd : c ≠ d) : ∀ {ws : List By}, (∀ w ∈ ws, c ∉ w) → c ∉ joinW d ws
  | [], _ => by simp [joinW]
  | [w], h => h w List.mem_cons_self
  | w :: x :: xs, h => by
    rw [joinW_cons (by simp)]
    simp only [List.mem_append, List.mem_cons, not_or]
    exact ⟨h w List.mem_cons_self, hd, joinW_no hd (fun y hy => h y (List.mem_cons_of_mem _ hy))⟩
theorem lineO_no {c : UInt8} (hc : Gap c) (h2 : c ≠ 32) {x : Ins} {off : By} (h : c ∉ off) : c ∉ lineO x off := by
  rw [lineO_words]
  exact joinW_no h2 (lineW_no hc h)
theorem piece_count (l : List Ins) (i : Nat) (x : Ins) : (piece l i x).count 10 = 1 + if jmp l i = true then 1 else 0 := by
  have h1 : (lineO x (offT l i x)).count 10 = 0 := List.count_eq_zero.2 (lineO_no (.inl rfl) (by decide) (offT_no (.inl rfl) l i x))
  have h2 : (markT (cntJ l i)).count 10 = 0 := List.count_eq_zero.2 (markT_no (.inl rfl) _)
  unfold piece
  split
  · simp [List.count_append, List.count_cons, h1, h2]
  · simp [List.count_append, List.count_cons, h1]
theorem textA_count {l : List Ins} : ∀ {n : Nat}, n ≤ l.length → (textA l n).count 10 = n + cntJ l n := by
  intro n
  induction n with
  | zero => intro _; simp [textA, cntJ, picks]
  | succ n ih =>
    intro h
    obtain ⟨x, hx⟩ := get_some (l := l) (k := n) (by omega)
    rw [textA_succ hx, List.count_append, ih (by omega), piece_count, cntJ_succ]; omega
/-- The places where ops go on, however they were collected, are as many as marks. -/
theorem jumps_all {l : List Ins} (hq : formP l = 0) {S : List Int} (hn : S.Nodup) (hS : ∀ x, x ∈ S ↔ jumps l l.length x) : sorted S = picks l.length (jmp l) := by
  refine sorted_eq hn fun x => ?_
  rw [hS]
  constructor
  · intro h
    have hi := jumps_in hq h
    exact ⟨x.toNat, by omega, by omega, jmp_iff.2 (by rw [show ((x.toNat : Nat) : Int) = x by omega]; exact h)⟩
  · rintro ⟨i, rfl, _, h⟩
    exact jmp_iff.1 h
theorem textA_ne {l : List Ins} (hz : 0 < l.length) : textA l l.length ≠ [] := by
  obtain ⟨n, hn⟩ : ∃ n, l.length = n + 1 := ⟨l.length - 1, by omega⟩
  obtain ⟨x, hx⟩ := get_some (l := l) (k := n) (by omega)
  rw [hn, textA_succ hx]
  intro e
  have := (List.append_eq_nil_iff.1 e).2
  unfold piece at this
  simp at this
theorem putA_nil (l : List Ins) : putA l = [] ↔ ¬ formP l = 0 := by
  by_cases h : formP l = 0
  · rw [putA_of h]
    have := textA_ne (formP_size h).1
    simp [this, h]
  · rw [putA_no h]; simp [h]
end Go.Proofs.YteggdoigliddkaaGreatDoor.V

/- Plain laws: lines with marks are cut and read back. -/
namespace Go.Proofs.YteggdoigliddkaaGreatDoor.V
open Go Go.RowKit
set_option linter.unusedVariables false
set_option linter.unusedSimpArgs false
/-- What is written from the n-th op on. -/
noncomputable def restA (l : List Ins) : Nat → List Ins → By
  | _, [] => []
  | n, x :: xs => piece l n x ++ restA l (n + 1) xs
theorem restA_step {l : List Ins} {n : Nat} {x : Ins} (hx : l[n]? = some x) : restA l n (l.drop n) = piece l n x ++ restA l (n + 1) (l.drop (n + 1)) := by
  rw [getElem?_drop_cons hx]; rfl
theorem textA_rest {l : List Ins} : ∀ (xs : List Ins) (n : Nat), l.drop n = xs → n ≤ l.length → textA l n ++ restA l n xs = textA l l.length
  | [], n, h, hn => by
    have := List.drop_eq_nil_iff.1 h
    obtain rfl : n = l.length := by omega
    simp [restA]
  | x :: xs, n, h, hn => by
    have hx : l[n]? = some x := by rw [← List.head?_drop, h]; rfl
    have hlt := lt_of_get hx
    have h2 : l.drop (n + 1) = xs := by rw [← List.tail_drop, h]; rfl
    have := textA_rest xs (n + 1) h2 (by omega)
    rw [textA_succ hx, List.append_assoc] at this
    exact this
theorem textA_all (l : List Ins) : textA l l.length = restA l 0 l := by
  have := textA_rest (l := l) l 0 (by simp) (by omega)
  rw [← this]; simp [textA]
/-- A mark's line, an op's line. -/
def markL (k : Nat) : By := markT k ++ [58]
noncomputable def opL (l : List Ins) (n : Nat) (x : Ins) : By := 32 :: lineO x (offT l n x)
theorem piece_mark {l : List Ins} {n : Nat} {x : Ins} (h : jmp l n = true) : piece l n x = markL (cntJ l n) ++ 10 :: (opL l n x ++ [10]) := by
  unfold piece markL opL; rw [if_pos h]; simp
theorem piece_bare {l : List Ins} {n : Nat} {x : Ins} (h : ¬ jmp l n = true) : piece l n x = opL l n x ++ [10] := by
  unfold piece opL; rw [if_neg h]; simp
theorem markL_no (k : Nat) : (10 : UInt8) ∉ markL k := by simp [markL, markT_no (.inl rfl)]
theorem opL_no (l : List Ins) (n : Nat) (x : Ins) : (10 : UInt8) ∉ opL l n x := by simp [opL, lineO_no (.inl rfl) (by decide) (offT_no (.inl rfl) l n x)]
/-- The lines from the n-th op on. -/
noncomputable def linesR (l : List Ins) : Nat → List Ins → List By
  | _, [] => [[]]
  | n, x :: xs => if jmp l n = true then markL (cntJ l n) :: opL l n x :: linesR l (n + 1) xs else opL l n x :: linesR l (n + 1) xs
theorem linesR_ne (l : List Ins) (n : Nat) (xs : List Ins) : linesR l n xs ≠ [] := by
  cases xs with
  | nil => simp [linesR]
  | cons x xs => unfold linesR; split <;> simp
theorem linesR_step {l : List Ins} {n : Nat} {x : Ins} (hx : l[n]? = some x) : linesR l n (l.drop n) = if jmp l n = true then markL (cntJ l n) :: opL l n x :: linesR l (n + 1) (l.drop (n + 1)) else opL l n x :: linesR l (n + 1) (l.drop (n + 1)) := by
  rw [getElem?_drop_cons hx]; rfl
theorem linesR_no (l : List Ins) : ∀ (xs : List Ins) (n : Nat), ∀ z ∈ linesR l n xs, (10 : UInt8) ∉ z
  | [], n, z, hz => by simp [linesR] at hz; subst hz; simp
  | x :: xs, n, z, hz => by
    unfold linesR at hz
    split at hz
    · simp only [List.mem_cons] at hz
      rcases hz with rfl | rfl | hz
      · exact markL_no _
      · exact opL_no _ _ _
      · exact linesR_no l xs (n + 1) z hz
    · simp only [List.mem_cons] at hz
      rcases hz with rfl | hz
      · exact opL_no _ _ _
      · exact linesR_no l xs (n + 1) z hz
theorem linesR_join (l : List Ins) : ∀ (xs : List Ins) (n : Nat), joinW 10 (linesR l n xs) = restA l n xs
  | [], n => rfl
  | x :: xs, n => by
    have ih := linesR_join l xs (n + 1)
    unfold linesR
    split
    · rename_i h
      rw [joinW_cons (by simp), joinW_cons (linesR_ne _ _ _), ih, restA, piece_mark h]; simp
    · rename_i h
      rw [joinW_cons (linesR_ne _ _ _), ih, restA, piece_bare h]; simp
theorem linesR_len (l : List Ins) : ∀ (xs : List Ins) (n : Nat), (linesR l n xs).length ≤ (restA l n xs).length + 1
  | [], n => by simp [linesR]
  | x :: xs, n => by
    have ih := linesR_len l xs (n + 1)
    unfold linesR
    split
    · rename_i h
      rw [restA, piece_mark h]; simp; omega
    · rename_i h
      rw [restA, piece_bare h]; simp; omega
theorem cut_lines (l : List Ins) : cutN 10 (textA l l.length).length (textA l l.length) = linesR l 0 l := by
  have h := cutN_join (c := 10) (textA l l.length).length (linesR_ne l 0 l) (by rw [textA_all]; exact linesR_len l l 0) (linesR_no l l 0)
  rw [linesR_join, ← textA_all] at h
  exact h
/-- The mark of a place stands at its number. -/
theorem picks_nth {l : List Ins} {t : Nat} : ∀ n, t < n → jmp l t = true → (picks n (jmp l))[cntJ l t]? = some (t : Int)
  | 0, h, _ => by omega
  | n + 1, h, ht => by
    by_cases e : t = n
    · subst e
      rw [picks_succ, if_pos ht]
      unfold cntJ
      simp
    · have := picks_nth n (by omega) ht
      have hlt := lt_of_get this
      rw [picks_succ]
      split
      · rw [List.getElem?_append_left hlt]; exact this
      · exact this
theorem cntJ_mono {l : List Ins} {a : Nat} : ∀ {b : Nat}, a ≤ b → cntJ l a ≤ cntJ l b
  | 0, h => by obtain rfl : a = 0 := by omega
               exact Nat.le_refl _
  | b + 1, h => by
    by_cases e : a = b + 1
    · subst e; exact Nat.le_refl _
    · have := cntJ_mono (l := l) (a := a) (b := b) (by omega)
      rw [cntJ_succ]; omega
theorem cntJ_lt {l : List Ins} {a b : Nat} (h : a < b) (ha : jmp l a = true) : cntJ l a < cntJ l b := by
  have h1 := cntJ_succ l a
  rw [if_pos ha] at h1
  have h2 := cntJ_mono (l := l) (a := a + 1) (b := b) (by omega)
  omega
theorem cntJ_inj {l : List Ins} {a b : Nat} (ha : jmp l a = true) (hb : jmp l b = true) (h : cntJ l a = cntJ l b) : a = b := by
  rcases Nat.lt_trichotomy a b with h1 | h1 | h1
  · have := cntJ_lt h1 ha; omega
  · exact h1
  · have := cntJ_lt h1 hb; omega
theorem markT_inj {a b : Nat} (h : markT a = markT b) : a = b := by
  simp only [markT, List.cons.injEq, true_and] at h
  have h1 : ∀ n : Nat, Lib.itoa (n : Int) = Lib.decDigits n := fun n => by unfold Lib.itoa; rw [if_neg (by omega)]; rfl
  rw [h1, h1] at h
  have := congrArg figN h
  rwa [figN_dec, figN_dec] at this
theorem jmp_tgt {l : List Ins} (hq : formP l = 0) {i : Nat} {x : Ins} (hx : l[i]? = some x) (hg : goesP x) : jmp l (tgt i x).toNat = true := by
  have h := formP_tgt hq hx hg
  exact jmp_iff.2 ⟨i, x, lt_of_get hx, hx, hg, by omega⟩
/-- An op whose goal is not known yet. -/
def Ins.bare (x : Ins) : Ins := if goesP x then ⟨x.op, x.dst, x.src, 0, x.imm, x.size⟩ else x
end Go.Proofs.YteggdoigliddkaaGreatDoor.V

/- Plain laws: the words of an op's line are read back. -/
namespace Go.Proofs.YteggdoigliddkaaGreatDoor.V
open Go Go.RowKit
set_option linter.unusedVariables false
set_option linter.unusedSimpArgs false
set_option maxRecDepth 20000 in
theorem opIdxA {n : Int} (h : 0 ≤ n ∧ n ≤ 20) : Lib.idxOfS (opW.map bs) (bs (opA n)) = n := by
  obtain ⟨k, rfl⟩ : ∃ k : Nat, n = k := ⟨n.toNat, by omega⟩
  have : ∀ k < 21, Lib.idxOfS (opW.map bs) (bs (opA ((k : Nat) : Int))) = k := by decide
  exact this k (by omega)
set_option maxRecDepth 20000 in
theorem callIdx {n : Int} (h : 0 ≤ n ∧ n ≤ 6) : Lib.idxOfS (callW.map bs) (bs (callA n)) = n := by
  obtain ⟨k, rfl⟩ : ∃ k : Nat, n = k := ⟨n.toNat, by omega⟩
  have : ∀ k < 7, Lib.idxOfS (callW.map bs) (bs (callA ((k : Nat) : Int))) = k := by decide
  exact this k (by omega)
theorem itoa_one {n : Int} (h : 0 ≤ n ∧ n ≤ 9) : Lib.itoa n = [UInt8.ofNat (48 + n.toNat)] := by
  rw [itoa_fig h.1, dec_small (by omega)]
/-- A word without its last figure, and the figure. -/
def headS (z : By) : By × Int := match z.getLast? with
  | some c => if 1 < z.length ∧ 48 ≤ c.toNat ∧ c.toNat ≤ 57 then (z.dropLast, (c.toNat : Int) - 48) else (z, 0)
  | none => (z, 0)
set_option maxRecDepth 20000 in
theorem headS_op {n : Int} (h : 0 ≤ n ∧ n ≤ 20) : headS (opA n) = (opA n, 0) := by
  obtain ⟨k, rfl⟩ : ∃ k : Nat, n = k := ⟨n.toNat, by omega⟩
  have : ∀ k < 21, headS (opA ((k : Nat) : Int)) = (opA ((k : Nat) : Int), 0) := by decide
  exact this k (by omega)
theorem headS_size {n s : Int} (h : n = 17 ∨ n = 18) (hs : szP s) : headS (opA n ++ Lib.itoa s) = (opA n, s) := by
  have hs' : 0 ≤ s ∧ s ≤ 9 := by unfold szP at hs; omega
  rw [itoa_one hs']
  unfold szP at hs
  rcases h with rfl | rfl <;> rcases hs with rfl | rfl | rfl <;> decide
/-- The first word of an op's line. -/
def headW (x : Ins) : By := if x.op = 17 ∨ x.op = 18 then opA x.op ++ Lib.itoa x.size else opA x.op
theorem lineW_head {x : Ins} {off : By} : (lineW x off)[0]? = some (headW x) := by
  unfold lineW headW
  split
  · rw [if_neg (by omega)]; rfl
  · split
    · rw [if_neg (by omega)]; rfl
    · split
      · rw [if_neg (by omega)]; rfl
      · split
        · rw [if_pos (by omega)]; rfl
        · split
          · rw [if_pos (by omega)]; rfl
          · split
            · rw [if_neg (by omega)]; rfl
            · rw [if_neg (by omega)]; rfl
theorem insP_op {x : Ins} (hp : InsP x) : 1 ≤ x.op ∧ x.op ≤ 20 := by have := hp.2.2.2.2; grind [BareP, szP]
theorem headS_headW {x : Ins} (hp : InsP x) : headS (headW x) = (opA x.op, x.size) := by
  have hop := insP_op hp
  have h2 : ¬ (x.op = 17 ∨ x.op = 18) → x.size = 0 := by have := hp.2.2.2.2; grind [BareP, szP]
  have h3 : (x.op = 17 ∨ x.op = 18) → szP x.size := by have := hp.2.2.2.2; grind [BareP]
  unfold headW
  split
  · rename_i h
    exact headS_size h (h3 h)
  · rename_i h
    rw [headS_op (by omega), h2 h]
theorem atoi_neg (u : Nat) (h : u < 9223372036854775808) : Lib.atoiAll (45 :: Lib.decDigits u) = .ok (-(u : Int)) := by
  have hp := parse_dec u h
  have e : Lib.parseMag (Lib.decDigits u) = .ok u := by unfold Lib.parseMag; rw [if_neg (dec_ne u)]; exact hp
  unfold Lib.atoiAll
  have h45 : (45 : UInt8).toNat = 45 := rfl
  simp only [h45]
  rw [if_pos (.inr trivial), e]
  simp only [not_true, false_and, if_false, true_and, if_true]
  rw [if_neg (by omega)]
theorem numA_itoa {n : Int} (h0 : -1000000 ≤ n) (h1 : n ≤ 10000000000) : numA (Lib.itoa n) = n := by
  by_cases h : 0 ≤ n
  · rw [itoa_fig h, numA_dec (by omega)]; omega
  · have e : Lib.itoa n = 45 :: Lib.decDigits n.natAbs := by unfold Lib.itoa; rw [if_pos (by omega)]
    unfold numA
    rw [e, atoi_neg _ (by omega)]
    simp only
    omega
/-- A register that is read; a register or a number. -/
def regA (z : By) : Int := match z with
  | 114 :: r => numA r
  | _ => -2
def valA (z : By) : Int × Int := match z with
  | 114 :: r => (numA r, 0)
  | z => (-1, numA z)
theorem regA_reg {n : Int} (h0 : -1000000 ≤ n) (h1 : n ≤ 10000000000) : regA (114 :: Lib.itoa n) = n := numA_itoa h0 h1
theorem itoa_not_r {n : Int} : ∀ r, Lib.itoa n ≠ 114 :: r := by
  intro r h
  have h1 : (114 : UInt8) ∈ Lib.itoa n := by rw [h]; exact List.mem_cons_self
  unfold Lib.itoa at h1
  split at h1
  · rcases List.mem_cons.1 h1 with h2 | h2
    · exact absurd h2 (by decide)
    · have := dec_fig _ _ h2; simp at this
  · have := dec_fig _ _ h1; simp at this
theorem valA_itoa {n : Int} (h0 : -1000000 ≤ n) (h1 : n ≤ 10000000000) : valA (Lib.itoa n) = (-1, n) := by
  have e : valA (Lib.itoa n) = (-1, numA (Lib.itoa n)) := by
    unfold valA
    split
    · rename_i r h; exact absurd h (itoa_not_r r)
    · rfl
  rw [e, numA_itoa h0 h1]
theorem valA_reg {n : Int} (h0 : -1000000 ≤ n) (h1 : n ≤ 10000000000) : valA (114 :: Lib.itoa n) = (n, 0) := by
  show (numA (Lib.itoa n), (0 : Int)) = _
  rw [numA_itoa h0 h1]
theorem valA_regL {src imm : Int} (h1 : -1 ≤ src ∧ src ≤ 10) (h2 : 0 ≤ imm ∧ imm ≤ 4294967295) (h3 : src < 0 ∨ imm = 0) : valA (regL src imm) = (src, imm) := by
  unfold regL
  split
  · rw [valA_itoa (by omega) (by omega)]; congr 1; omega
  · rw [valA_reg (by omega) (by omega)]; congr 1; omega
/-- An op with another goal. -/
def Ins.go (x : Ins) (n : Int) : Ins := if 12 ≤ x.op ∧ x.op ≤ 18 then ⟨x.op, x.dst, x.src, n, x.imm, x.size⟩ else x
theorem go_self {x : Ins} (hp : InsP x) : x.go x.off = x := by unfold Ins.go; split <;> rfl
theorem go_bare {x : Ins} (hp : InsP x) : (if goesP x then x.go 0 else x.go x.off) = x.bare := by
  unfold Ins.bare
  split
  · rename_i h
    unfold goesP at h
    unfold Ins.go
    rw [if_pos (by omega)]
  · exact go_self hp
end Go.Proofs.YteggdoigliddkaaGreatDoor.V

/- Maps from texts to whole numbers, and from whole numbers to texts. -/
namespace Go.Proofs.YteggdoigliddkaaGreatDoor.V
open Go Go.RowKit Go.Maps
set_option linter.unusedSimpArgs false
set_option linter.unusedVariables false
abbrev uTS : P0.underlying 9 = some .string := by kernel_rfl
theorem keyS : Keyed P0 9 := string_keyed uTS
theorem keyOf_bs {l : By} (h : l.length ≤ maxLen) : keyOf P0 9 (.string (bs l)) = some (.string l) := by
  have := WideMaps.keyOf_string_mk (P := P0) uTS (s := bs l) (by simpa [bs, ByteArray.size] using h)
  rw [this]; rfl
theorem plainElem_bs {l : By} (h : l.length ≤ maxLen) : plainElem (H := Unit) P0 9 (.string (bs l)) = some (.lit (.string l), []) := by
  have := plainElem_string (H := Unit) (P := P0) uTS (s := bs l) (by simpa [bs, ByteArray.size] using h)
  rw [this]; rfl
theorem plainElem_bs_inv {v : Value} {z : DataW Unit × List MemPlace} (h : plainElem P0 9 v = some z) : ∃ l : By, v = .string (bs l) ∧ z = (.lit (.string l), []) := by
  unfold plainElem at h
  rw [uTS] at h
  cases v <;> simp at h
  rename_i s
  exact ⟨s.data.toList, by rw [bs_of], h.2.symm⟩
/-- A map of texts to whole numbers. -/
def MpS (B : Nat) (w : World) (m : Option Nat) (n : Nat) (f : By → Option Int) : Prop :=
  ∃ b D, m = some b ∧ B ≤ b ∧ w.ownsMap (H := Unit) P0 9 (plainElem P0 3) b n D ∧ ∀ x, (f x = none → has D (.string x) = false) ∧ ∀ v, f x = some v → ∀ z, D.atKey (.string x) z = .lit (.int .i64 v)
section
variable {B n : Nat} {w : World} {m : Option Nat} {f : By → Option Int}
theorem MpS.kept {w' : World} {row : Option Nat} (h : MpS B w m n f) (hg : w.grownBy w' row) (hne : m ≠ row) : MpS B w' m n f := by
  obtain ⟨b, D, rfl, hB, ho, hk⟩ := h
  exact ⟨b, D, rfl, hB, ho.kept hg hne, hk⟩
theorem MpS.below {w' : World} (h : MpS B w m n f) (hb : Below w.heap.size w w') : MpS B w' m n f := h.kept (grown_of_below hb) (by obtain ⟨b, D, rfl, _⟩ := h; simp)
theorem MpS.blk (h : MpS B w m n f) {b : Nat} (hb : m = some b) : B ≤ b ∧ b < w.heap.size := by
  obtain ⟨b', D, rfl, hB', ho, _⟩ := h
  simp only [Option.some.injEq] at hb; subst hb
  exact ⟨hB', ho.lt⟩
theorem MpS.cell (h : MpS B w m n f) {b : Nat} (hb : m = some b) : ∃ es clock, w.heap[b]? = some (.map es clock) := by
  obtain ⟨b', D, rfl, hB', ho, _⟩ := h
  simp only [Option.some.injEq] at hb; subst hb
  obtain ⟨es, clock, hb, _⟩ := ho
  exact ⟨es, clock, hb⟩
theorem mpsNew {t : TypeId} {K : Option Nat → World → Prop} (hk : ∀ m w', MpS w.heap.size w' m 0 (fun _ => none) → Below w.heap.size w w' → w'.heap.size = w.heap.size + 1 → m = some w.heap.size → K m w') : RunT (.o (.lf .m)) P0 (Instr.makeMap t none) w K :=
  ⟨some w.heap.size, _, run_makeMap _ w, hk _ _ ⟨_, .map [], rfl, Nat.le_refl _, World.ownsMap_made w P0 _ _, by simp [has]⟩ ((Below.refl _ _).alloc (Nat.le_refl _) _) (by simp) rfl⟩
theorem mpsPut {x : By} {v : Int} {t : TypeId} (ht : P0.underlying t = some (.map 9 3)) (h : MpS B w m n f) (hx : x.length ≤ maxLen) (hv : (Lit.int .i64 v).wf = true) (hn : n < maxLen) {K : World → Prop}
    (hk : ∀ w', MpS B w' m (n + 1) (fun y => if y = x then some v else f y) → w.grownBy w' m → K w') : RunU P0 (Instr.mapUpdate t (.map m) (.string (bs x)) (.int .i64 v)) w K := by
  obtain ⟨b, D, rfl, hB, ho, hK⟩ := h
  obtain ⟨w', hr, ho', hg⟩ := ho.update keyS ht hn (keyOf_bs hx) (plainElem_int uI hv)
  have hkey : WideAt.IsKeyLit (.string x) := keyS.key (keyOf_bs hx)
  refine ⟨w', hr, hk _ ⟨b, _, rfl, hB, ho', fun y => ?_⟩ hg⟩
  by_cases hy : y = x
  · subst hy
    refine ⟨fun h => by simp at h, fun u hu z => ?_⟩
    simp at hu
    subst hu
    exact atKey_put_same ho.isMap hkey _ _
  · simp only [if_neg hy]
    rw [has_put_other (by simpa using hy)]
    refine ⟨(hK y).1, fun u hu z => ?_⟩
    rw [atKey_put_other (by simpa using hy)]
    exact (hK y).2 u hu z
theorem zeroI (w : World) : (zeroValue 3).run P0 w = .ok (.int .i64 0) w := by kernel_rfl
theorem mpsGet {x : By} {t : TypeId} (ht : P0.underlying t = some (.map 9 3)) (h : MpS B w m n f) (hx : x.length ≤ maxLen) {K : Int × Bool × Unit → World → Prop} (h0 : f x = none → K (0, false, ()) w) (h1 : ∀ v, f x = some v → K (v, true, ()) w) :
    RunT (.n [(.lf (.i .i64)), (.lf .b)]) P0 (Instr.lookup t (.map m) (.string (bs x)) true) w K := by
  obtain ⟨b, D, rfl, hB, ho, hK⟩ := h
  obtain ⟨es, clock, hb, F, _, rfl⟩ := ho
  rcases Maps.fit_look true keyS ht (zeroI w) hb F (keyOf_bs hx) with ⟨hrun, _, hat⟩ | ⟨e0, y, _, _, hrun, hRv, hat, _⟩
  · have hf : f x = none := by
      cases e : f x with
      | none => rfl
      | some v =>
        have h2 := (hK x).2 v e (.lit (.bool true))
        rw [hat] at h2; simp at h2
    exact ⟨(0, false, ()), w, hrun, h0 hf⟩
  · obtain ⟨c, hc, hy, hwc⟩ := plainElem_int_inv uI hRv
    have hf : f x = some c := by
      cases e : f x with
      | none =>
        have h2 := (hK x).1 e
        rw [has_true_of_atKey hat] at h2; simp at h2
      | some v =>
        have h2 := (hK x).2 v e (.lit (.bool true))
        rw [hat, hy] at h2
        simp at h2
        rw [h2]
    refine ⟨(c, true, ()), w, ?_, h1 c hf⟩
    rw [hc] at hrun
    exact hrun
end
/-- A map of whole numbers to texts. -/
def MpI (B : Nat) (w : World) (m : Option Nat) (n : Nat) (f : Int → Option By) : Prop :=
  ∃ b D, m = some b ∧ B ≤ b ∧ w.ownsMap (H := Unit) P0 3 (plainElem P0 9) b n D ∧ ∀ x, (f x = none → has D (.int .i64 x) = false) ∧ ∀ v, f x = some v → ∀ z, D.atKey (.int .i64 x) z = .lit (.string v)
section
variable {B n : Nat} {w : World} {m : Option Nat} {f : Int → Option By}
theorem MpI.kept {w' : World} {row : Option Nat} (h : MpI B w m n f) (hg : w.grownBy w' row) (hne : m ≠ row) : MpI B w' m n f := by
  obtain ⟨b, D, rfl, hB, ho, hk⟩ := h
  exact ⟨b, D, rfl, hB, ho.kept hg hne, hk⟩
theorem MpI.below {w' : World} (h : MpI B w m n f) (hb : Below w.heap.size w w') : MpI B w' m n f := h.kept (grown_of_below hb) (by obtain ⟨b, D, rfl, _⟩ := h; simp)
theorem MpI.blk (h : MpI B w m n f) {b : Nat} (hb : m = some b) : B ≤ b ∧ b < w.heap.size := by
  obtain ⟨b', D, rfl, hB', ho, _⟩ := h
  simp only [Option.some.injEq] at hb; subst hb
  exact ⟨hB', ho.lt⟩
theorem MpI.cell (h : MpI B w m n f) {b : Nat} (hb : m = some b) : ∃ es clock, w.heap[b]? = some (.map es clock) := by
  obtain ⟨b', D, rfl, hB', ho, _⟩ := h
  simp only [Option.some.injEq] at hb; subst hb
  obtain ⟨es, clock, hb, _⟩ := ho
  exact ⟨es, clock, hb⟩
theorem mpiNew {t : TypeId} {K : Option Nat → World → Prop} (hk : ∀ m w', MpI w.heap.size w' m 0 (fun _ => none) → Below w.heap.size w w' → w'.heap.size = w.heap.size + 1 → m = some w.heap.size → K m w') : RunT (.o (.lf .m)) P0 (Instr.makeMap t none) w K :=
  ⟨some w.heap.size, _, run_makeMap _ w, hk _ _ ⟨_, .map [], rfl, Nat.le_refl _, World.ownsMap_made w P0 _ _, by simp [has]⟩ ((Below.refl _ _).alloc (Nat.le_refl _) _) (by simp) rfl⟩
theorem mpiPut {x : Int} {v : By} {t : TypeId} (ht : P0.underlying t = some (.map 3 9)) (h : MpI B w m n f) (hx : (Lit.int .i64 x).wf = true) (hv : v.length ≤ maxLen) (hn : n < maxLen) {K : World → Prop}
    (hk : ∀ w', MpI B w' m (n + 1) (fun y => if y = x then some v else f y) → w.grownBy w' m → K w') : RunU P0 (Instr.mapUpdate t (.map m) (.int .i64 x) (.string (bs v))) w K := by
  obtain ⟨b, D, rfl, hB, ho, hK⟩ := h
  obtain ⟨w', hr, ho', hg⟩ := ho.update keyI ht hn (keyOf_int_mk uI hx) (plainElem_bs hv)
  have hkey : WideAt.IsKeyLit (.int .i64 x) := keyI.key (keyOf_int_mk uI hx)
  refine ⟨w', hr, hk _ ⟨b, _, rfl, hB, ho', fun y => ?_⟩ hg⟩
  by_cases hy : y = x
  · subst hy
    refine ⟨fun h => by simp at h, fun u hu z => ?_⟩
    simp at hu
    subst hu
    exact atKey_put_same ho.isMap hkey _ _
  · simp only [if_neg hy]
    rw [has_put_other (by simpa using hy)]
    refine ⟨(hK y).1, fun u hu z => ?_⟩
    rw [atKey_put_other (by simpa using hy)]
    exact (hK y).2 u hu z
/-- A loop over such a map: the keys that have come. -/
def RgI (B Br : Nat) (w : World) (m : Option Nat) (a : Addr) (n : Nat) (f : Int → Option By) (ss : List Int) : Prop :=
  ∃ b r D left cnt, m = some b ∧ B ≤ b ∧ a = ⟨r, 0, none⟩ ∧ Br ≤ r ∧ w.ranges (H := Unit) P0 3 (plainElem P0 9) b r n D left cnt ∧ (∀ x, (f x = none → has D (.int .i64 x) = false) ∧ ∀ v, f x = some v → ∀ z, D.atKey (.int .i64 x) z = .lit (.string v)) ∧ CollectedI D left ss
theorem RgI.kept {Br : Nat} {a : Addr} {ss : List Int} {w' : World} {row : Option Nat} (h : RgI B Br w m a n f ss) (hg : w.grownBy w' row) (h1 : m ≠ row) (h2 : some a.block ≠ row) : RgI B Br w' m a n f ss ∧ rgl w' m a = rgl w m a := by
  obtain ⟨b, r, D, left, cnt, rfl, hB, rfl, hBr, hr, hK, hc⟩ := h
  have hr' := hr.kept hg h1 h2
  exact ⟨⟨b, r, D, left, cnt, rfl, hB, rfl, hBr, hr', hK, hc⟩, by show w'.rangeLeft b r = w.rangeLeft b r; rw [hr.left_eq, hr'.left_eq]⟩
theorem RgI.blk {Br : Nat} {a : Addr} {ss : List Int} (h : RgI B Br w m a n f ss) : Br ≤ a.block ∧ a.block < w.heap.size := by
  obtain ⟨b, r, D, left, cnt, rfl, hB, rfl, hBr, hr, hK, hc⟩ := h
  exact ⟨hBr, hr.lt⟩
theorem RgI.mblk {Br : Nat} {a : Addr} {ss : List Int} (h : RgI B Br w m a n f ss) {b : Nat} (hb : m = some b) : ∃ es clock, w.heap[b]? = some (.map es clock) := by
  obtain ⟨b', r, D, left, cnt, rfl, hB, rfl, hBr, hr, hK, hc⟩ := h
  simp only [Option.some.injEq] at hb; subst hb
  obtain ⟨es, clock, _, _, _, hb, _⟩ := hr
  exact ⟨es, clock, hb⟩
theorem RgI.ablk {Br : Nat} {a : Addr} {ss : List Int} (h : RgI B Br w m a n f ss) : ∃ x y z u, w.heap[a.block]? = some (.mapIter x y z u) := by
  obtain ⟨b', r, D, left, cnt, rfl, hB, rfl, hBr, hr, hK, hc⟩ := h
  obtain ⟨es, clock, _, _, _, hb, _, _, _, hr, _⟩ := hr
  exact ⟨_, _, _, _, hr⟩
theorem mpiRange {t : TypeId} (ht : P0.underlying t = some (.map 3 9)) (h : MpI B w m n f) {K : Addr → World → Prop} (hk : ∀ a w', RgI B w.heap.size w' m a n f [] → Below w.heap.size w w' → K a w') : RunT (.o (.lf .ad)) P0 (Instr.range t (.map m)) w K := by
  obtain ⟨b, D, rfl, hB, ho, hK⟩ := h
  obtain ⟨w', hr, hrg, hg, hs⟩ := ho.range keyI ht
  exact ⟨_, w', hr, hk _ _ ⟨b, _, D, _, _, rfl, hB, rfl, Nat.le_refl _, hrg, hK, CollectedI.start D⟩ ((Below.refl _ _).grown hg (Nat.le_refl _) (by simp))⟩
theorem mpiNext {Br : Nat} {a : Addr} {ss : List Int} (h : RgI B Br w m a n f ss) {t : TypeId} {Kt : (Int × ByteArray × Unit) → World → Prop} {Kf : World → Prop}
    (ht : ∀ x v w', f x = some v → x ∉ ss → (Lit.int .i64 x).wf = true → RgI B Br w' m a n f (ss ++ [x]) → w.grownBy w' (some a.block) → rgl w' m a < rgl w m a → Kt (x, bs v, ()) w') (hf : (∀ x v, f x = some v → x ∈ ss) → Kf w) :
    Nx P0 (.pointer (some a)) false t w (fun more rest w' => (more = true → RunT (.n [(.lf (.i .i64)), (.lf .s)]) P0 (Instr.entry (.pointer (some a))) w' Kt) ∧ (more = false → Kf w')) := by
  obtain ⟨b, r, D, left, cnt, rfl, hB, rfl, hBr, hr, hK, hc⟩ := h
  rcases hr.next keyI t with ⟨_, hl, hrun⟩ | ⟨key, v, kl, y, w', cnt', hkey, hlk, hv, hat, hrun, hr', hlt, hg, hs, hent⟩
  · refine ⟨false, [], w, hrun, by simp, fun _ => hf fun x v hx => ?_⟩
    exact (hc.2 x).2 ⟨has_true_of_atKey ((hK x).2 v hx), hl _⟩
  · obtain ⟨x, rfl, rfl, hw⟩ := keyOf_i64 uI hkey
    obtain ⟨u, rfl, hy⟩ := plainElem_bs_inv hv
    refine ⟨true, [.int .i64 x, .string (bs u)], w', hrun, fun _ => ⟨(x, bs u, ()), w', hent, ht x u w' ?_ ?_ hw ⟨b, r, D, _, cnt', rfl, hB, rfl, hBr, hr', hK, hc.step hlk hat⟩ hg ?_⟩, by simp⟩
    · cases e : f x with
      | none =>
        have h2 := (hK x).1 e
        rw [has_true_of_atKey hat] at h2; simp at h2
      | some v =>
        have h2 := (hK x).2 v e (.lit (.bool true))
        rw [hat, hy] at h2
        simp at h2
        rw [h2]
    · intro hx
      have := ((hc.2 x).1 hx).2
      rw [hlk] at this; simp at this
    · show w'.rangeLeft b r < w.rangeLeft b r
      rw [hr.left_eq, hr'.left_eq]; exact hlt
end
end Go.Proofs.YteggdoigliddkaaGreatDoor.V
