/- The row of FnFlowReach: it returns true and leaves its input as it was, whatever the input. PRINTED by row.py out of the law of the same name. -/
import Derived.Defers
import Derived.Recover
import Derived.Tactics
import Derived.Tactics2
import Derived.Laws.Pointers
import Derived.Test.YtihllippchgkgaaGreatRows
import Derived.Test.YtihllippchgkgaaGreatJ5
/- Contracts: sockets that may be held: slices that are cloned, and what is taken out of them. -/
namespace Go.Proofs.YtihllippchgkgaaGreat.V
open Go Go.RowKit
set_option linter.unusedVariables false
set_option linter.unusedSimpArgs false
section
variable {w : World} {B : Nat} {s : Sl} {xs : List Int}
theorem slices.Clone_int.q (h : OwnS kI 3 B w s xs) (hl : xs.length ≤ 100000) {K : Sl → World → Prop} (hK : ∀ r w', Below w.heap.size w w' → OwnS kI 3 w.heap.size w' r xs → K r w') :
    CallT (.o (.lf .sl)) P0 146 [s.v] w K := by
  rcases own_cases h with ⟨rfl, rfl⟩ | ⟨b, cur, ha, hg, ht⟩
  · refine (Tryz.slices_Clone_int_nil 0 0 w).mono ?_
    rintro e w' ⟨rfl, rfl⟩
    exact ⟨⟨none, 0, 0⟩, rfl, hK _ _ (Below.refl _ _) (OwnS.nil _ _ _ _)⟩
  · have hH := holds_of (xs := xs) hg (by rw [kI_flat] at ht; simpa [kI] using ht)
    have hc : ∀ j, j < xs.length → w.cell? ⟨b, 0 + j, none⟩ = some (.int .i64 (xs.getD j 0)) := fun j hj => by
      have := (hH j (by simpa using hj)).1
      rw [this, getElem!_pos _ _ (by simpa using hj)]
      simp [hj]
    have hc' := Tryz.slices_Clone_int b 0 s.n s.c xs w (by rw [h.1]; exact Nat.le_refl _) (by rw [h.1]; omega) hc
    have e : s.v = .slice (some ⟨b, 0, none⟩) s.n s.c := by rw [← ha]; rfl
    show Calls _ _ #[s.v] _ _
    rw [e]
    refine hc'.mono ?_
    rintro e w' ⟨v', rfl, hown, hne, hb⟩
    rw [h.1, List.take_of_length_le (Nat.le_refl _), ← kI_flat] at hown
    rcases hown.2 with ⟨h0, _⟩ | ⟨g, cap, cur', hv, hB, hg', r⟩
    · exact (hne h0).elim
    · refine ⟨⟨some ⟨g, 0, none⟩, xs.length, cap⟩, by rw [hv]; rfl, hK _ _ hb ⟨rfl, ?_⟩⟩
      rw [hv] at hown
      exact hown
theorem zInt (w : World) : ∃ v, (zeroValue 3).run P0 w = .ok v w ∧ v.cells = #[.int .i64 0] := by
  obtain ⟨v, h1, h2⟩ := run_zeroValue (P := P0) (w := w) (t := 3) (by kernel_rfl)
  exact ⟨v, h1, by rw [h2]; kernel_rfl⟩
theorem zeroCells1 (n : Nat) : (Builtin.zeroCells #[Value.int .i64 0] n).toList = List.replicate n (Value.int .i64 0) := by
  simp [Builtin.zeroCells]
  apply List.ext_getElem
  · simp
  · intro i h1 h2
    simp [Nat.mod_one]
/-- What lies behind is cleared. -/
theorem clearTail (h : OwnS kI 3 B w s xs) {i : Nat} (hi : i ≤ s.n) {K : World → Prop} (hK : ∀ w' ys, OwnS kI 3 B w' s ys → ys.length = xs.length → w.grownBy w' s.bk → w'.heap.size = w.heap.size → K w') :
    RunT (.o (.lf .sl)) P0 (Instr.sliceAt 25 s.v (some (.int .i64 (i : Int))) none none) w fun t38 w7 => RunT .z P0 (Builtin.clear_ #[25] 0 #[t38.v]) w7 fun u w8 => K w8 := by
  have hu : P0.underlying 25 = some (.slice 3) := by kernel_rfl
  have hs : szOf P0 3 = some 1 := by kernel_rfl
  have hcap := h.cap
  have h1 : i ≤ s.c := by omega
  have hrun : (Instr.sliceAt 25 s.v (some (.int .i64 (i : Int))) none none).run P0 w = .ok (.slice (if s.c = i then s.a else s.a.map (·.add (i * 1))) (s.n - i) (s.c - i)) w := by
    have h2 := hcap.1
    simp [Instr.sliceAt, Instr.slice, Sl.v, underlying, hu, Instr.sliceBounds, Instr.sliceBound, asIntOf, run_sizeOf hs, h1, h2, hi]
  refine ⟨⟨if s.c = i then s.a else s.a.map (·.add (i * 1)), s.n - i, s.c - i⟩, w, hrun, ?_⟩
  obtain ⟨z, hz1, hz2⟩ := zInt w
  have same : K w := hK w xs h rfl ⟨rfl, rfl, rfl, Nat.le_refl _, fun _ _ _ => rfl⟩ rfl
  by_cases h0 : s.n - i = 0
  · refine ⟨(), w, ?_, same⟩
    simp only [Sl.v, h0]
    cases hq : (if s.c = i then s.a else s.a.map (·.add (i * 1))) <;> simp [Builtin.clear_, underlying, hu, Rs.emb]
  · rcases h.2.2 with ⟨_, hn⟩ | ⟨g, cap, cur, hv, hB, hg, hnc, hcm, hcs, ht⟩
    · omega
    · simp only [Value.slice.injEq] at hv
      obtain ⟨ha, _, hc⟩ := hv
      have hlen : kI.ls.length = 1 := rfl
      rw [hlen, Nat.mul_one] at hcs ht
      have ea : (if s.c = i then s.a else s.a.map (·.add (i * 1))) = some ⟨g, i, none⟩ := by
        rw [if_neg (by omega), ha, Option.map_some, add_mk]; simp
      obtain ⟨w', cur', hst, hgr, hsz, hh, hin, hout⟩ := run_storeCells_in P0 (b := g) (t := 3) i (List.replicate (s.n - i) (Value.int .i64 0)) 0 cur w (by intro v hv; rw [List.eq_of_mem_replicate hv]; rfl) (by rw [List.length_replicate]; omega) hg
      obtain ⟨m, hm⟩ : ∃ m, s.n - i = m + 1 := ⟨s.n - i - 1, by omega⟩
      have hbk : s.bk = some g := by simp [Sl.bk, ha]
      refine ⟨(), w', ?_, hK w' (xs.take i ++ List.replicate (s.n - i) 0) ⟨?_, ?_, .inr ⟨g, cap, cur', by rw [ha, hc], hB, hh, hnc, hcm, ?_, ?_⟩⟩ ?_ (by rw [hbk]; exact hgr) hsz⟩
      · simp only [Sl.v, ea, hm]
        rw [hm] at hst
        simp [Builtin.clear_, underlying, hu, hz1, hz2, zeroCells1, hst, Rs.emb]
      · rw [List.length_append, List.length_take, List.length_replicate]; have := h.1; omega
      · rw [flat_length, List.length_append, List.length_take, List.length_replicate]; have := h.1; rw [hlen]; omega
      · rw [hlen, Nat.mul_one, ← hcs]
        have e := congrArg (fun p : Nat => p) (rfl : cur'.size = cur'.size)
        apply Nat.le_antisymm
        · rcases Nat.lt_or_ge cur.size cur'.size with hlt | hge
          · have h3 := hout cur.size (.inr (by rw [List.length_replicate]; omega))
            rw [Array.getElem?_eq_none (Nat.le_refl _), Array.getElem?_eq_getElem hlt] at h3
            simp at h3
          · exact hge
        · rcases Nat.lt_or_ge cur'.size cur.size with hlt | hge
          · exfalso
            by_cases hp : i + 0 ≤ cur'.size ∧ cur'.size < i + 0 + (s.n - i)
            · have h3 := hin (cur'.size - i) (.int .i64 0) (by rw [List.getElem?_replicate, if_pos (by omega)])
              rw [Array.getElem?_eq_none (by omega)] at h3
              simp at h3
            · have h3 := hout cur'.size (by rw [List.length_replicate]; omega)
              rw [Array.getElem?_eq_none (Nat.le_refl _), Array.getElem?_eq_getElem hlt] at h3
              simp at h3
          · exact hge
      · rw [hlen, Nat.mul_one, kI_flat]
        have hxs : cur.toList.take s.n = xs.map (.int .i64) := by rw [ht, kI_flat]
        apply List.ext_getElem?
        intro p
        rw [List.getElem?_take, List.map_append, List.map_take]
        by_cases hp : p < s.n
        · rw [if_pos hp, Array.getElem?_toList]
          by_cases hpi : p < i
          · rw [hout p (.inl (by omega)), List.getElem?_append_left (by rw [List.length_take, List.length_map]; have := h.1; omega), List.getElem?_take, if_pos hpi, ← hxs, List.getElem?_take, if_pos hp, Array.getElem?_toList]
          · have h3 := hin (p - i) (.int .i64 0) (by rw [List.getElem?_replicate, if_pos (by omega)])
            rw [show i + 0 + (p - i) = p by omega] at h3
            have e : (List.take i (xs.map (Value.int .i64))).length = i := by rw [List.length_take, List.length_map]; have := h.1; omega
            rw [h3, List.getElem?_append_right (by rw [e]; omega), e, List.map_replicate, List.getElem?_replicate, if_pos (by omega)]
        · rw [if_neg hp, List.getElem?_eq_none]
          rw [List.length_append, List.length_take, List.length_map, List.length_map, List.length_replicate]; have := h.1; omega
      · rw [List.length_append, List.length_take, List.length_replicate]; have := h.1; omega
theorem ixOwI {i : Int} {sz : Nat} (h : OwnS kI 3 B w s xs) (hi : 0 ≤ i) {x : Int} (hx : xs[i.toNat]? = some x) (hsz : sz = 1) (y : Int) {K : World → Prop}
    (hK : ∀ w', OwnS kI 3 B w' s (xs.set i.toNat y) → w.grownBy w' s.bk → w'.heap.size = w.heap.size → K w') : Ix s.a s.n i sz w (fun a w1 => St a (.int .i64 y) w1 K) := by
  have := ixOwF (j := 0) (k := kI) (v := .int .i64 y) h hi hx hsz (by decide) rfl y rfl hK
  simpa [Addr.add] using this
theorem slices.IndexFunc_int.q {g : Nat} {id : Int} (h : SlR kI w s xs) (hg : w.heap[g]? = some (.cells #[.int .i64 id] 3 (0, 0))) {K : Int → World → Prop} (hK : ∀ n : Int, -1 ≤ n → n < s.n → K n w) :
    CallT (.o (.lf (.i .i64))) P0 126 [s.v, .func (.func 211) #[] #[.pointer (some ⟨g, 0, none⟩)]] w K := by
  have hn := h.len
  have hx := h.max
  refine slices.IndexFunc_int.ok (f := (⟨g, 0, none⟩, ())) ⟨fun i w' => 0 ≤ i ∧ i ≤ s.n ∧ w' = w, fun i _ => (s.n - i).toNat, ⟨by omega, by omega, rfl⟩, ?_⟩
  rintro i w1 ⟨h0, h1, rfl⟩ _
  refine And.intro (fun hl => ?_) (fun _ => hK _ (by omega) (by omega))
  simp only [decide_eq_true_eq] at hl
  obtain ⟨y, hy⟩ : ∃ y, xs[i.toNat]? = some y := ⟨xs[i.toNat]'(by omega), List.getElem?_eq_getElem _⟩
  refine ixL h h0 hy rfl (l := .i .i64) (v := y) rfl (impl.known.free_1.ok (ldB0 hg rfl (And.intro (fun _ => hK _ (by omega) (by omega)) (fun _ => ?_))))
  rw [i64_of (by omega) (by omega)]
  exact ⟨⟨by omega, by omega, rfl⟩, by show (s.n - (i + 1)).toNat < (s.n - i).toNat; omega⟩
theorem slices.DeleteFunc_int.q {g : Nat} {id : Int} (h : OwnS kI 3 B w s xs) (hg : w.heap[g]? = some (.cells #[.int .i64 id] 3 (0, 0))) (hne : s.bk ≠ some g) {K : Sl → World → Prop}
    (hK : ∀ r ys w', OwnS kI 3 B w' r ys → ys.length ≤ xs.length → w.grownBy w' s.bk → K r w') :
    CallT (.o (.lf .sl)) P0 210 [s.v, .func (.func 211) #[] #[.pointer (some ⟨g, 0, none⟩)]] w K := by
  have hn := h.len
  have hx := h.read.max
  refine slices.DeleteFunc_int.ok (del := (⟨g, 0, none⟩, ())) (slices.IndexFunc_int.q h.read hg fun n hn0 hn1 => And.intro (fun _ => hK _ _ _ h (Nat.le_refl _) ⟨rfl, rfl, rfl, Nat.le_refl _, fun _ _ _ => rfl⟩) (fun hc => ?_))
  simp only [beq_eq_false_iff_ne, ne_eq] at hc
  rw [i64_of (by omega) (by omega)]
  refine ⟨fun i j w' => 0 ≤ i ∧ i < j ∧ j ≤ s.n ∧ w.grownBy w' s.bk ∧ ∃ ys, OwnS kI 3 B w' s ys ∧ ys.length = xs.length, fun i j _ => (s.n - j).toNat, ⟨by omega, by omega, by omega, ⟨rfl, rfl, rfl, Nat.le_refl _, fun _ _ _ => rfl⟩, xs, h, rfl⟩, ?_⟩
  rintro i j w1 ⟨hi0, hij, hj, hg1, ys, h1, hl1⟩ _
  have hgb : w1.heap[g]? = some (.cells #[.int .i64 id] 3 (0, 0)) := (hg1.block g (lt_blk hg) hne.symm).trans hg
  refine And.intro (fun hl => ?_) (fun _ => ?_)
  · simp only [decide_eq_true_eq] at hl
    obtain ⟨y, hy⟩ : ∃ y, ys[j.toNat]? = some y := ⟨ys[j.toNat]'(by omega), List.getElem?_eq_getElem _⟩
    obtain ⟨z, hz⟩ : ∃ z, ys[i.toNat]? = some z := ⟨ys[i.toNat]'(by omega), List.getElem?_eq_getElem _⟩
    refine ixL h1.read (by omega) hy rfl (l := .i .i64) (v := y) rfl (impl.known.free_1.ok (ldB0 hgb rfl (And.intro (fun _ => ?_) (fun _ => ?_))))
    · refine ixOwI h1 hi0 hz rfl y fun w2 h2 hg2 _ => ?_
      rw [i64_of (by omega) (by omega), i64_of (by omega) (by omega)]
      exact ⟨⟨by omega, by omega, by omega, grown_trans hg1 hg2, _, h2, by simpa using hl1⟩, by show (s.n - (j + 1)).toNat < (s.n - j).toNat; omega⟩
    · rw [i64_of (by omega) (by omega)]
      exact ⟨⟨by omega, by omega, by omega, hg1, ys, h1, hl1⟩, by show (s.n - (j + 1)).toNat < (s.n - j).toNat; omega⟩
  · obtain ⟨i, rfl⟩ := Int.eq_ofNat_of_zero_le hi0
    refine clearTail h1 (by omega) fun w2 zs h2 hl2 hg2 _ => ?_
    have hcap := h.cap
    have hu : P0.underlying 25 = some (.slice 3) := by kernel_rfl
    have hs : szOf P0 3 = some 1 := by kernel_rfl
    have hb : ∃ b, s.a = some ⟨b, 0, none⟩ := by
      rcases own_cases h with ⟨rfl, _⟩ | ⟨b, _, ha, _⟩
      · simp at hn1; try omega
      · exact ⟨b, ha⟩
    obtain ⟨b, ha⟩ := hb
    have hic : i ≤ s.c := by omega
    refine ⟨⟨s.a, i, s.c⟩, w2, ?_, ?_⟩
    · have hmap : s.a.map (fun x => x.add 0) = s.a := by rw [ha]; simp [Addr.add]
      by_cases hc0 : s.c = 0
      · simp [Instr.sliceAt, Instr.slice, Sl.v, underlying, hu, Instr.sliceBounds, Instr.sliceBound, asIntOf, run_sizeOf hs, hic, Rs.emb, Ty.emb, Lf.emb, hmap]
      · simp [Instr.sliceAt, Instr.slice, Sl.v, underlying, hu, Instr.sliceBounds, Instr.sliceBound, asIntOf, run_sizeOf hs, hic, Rs.emb, Ty.emb, Lf.emb, hmap, hc0]
    · have e : zs = zs.take i ++ zs.drop i := (List.take_append_drop i zs).symm
      rw [e] at h2
      have h3 := own_cut h2 ha
      rw [List.length_take, Nat.min_eq_left (by omega)] at h3
      exact hK _ _ _ h3 (by rw [List.length_take]; omega) (grown_trans hg1 hg2)
/-- Block g holds an int. -/
theorem impl.known.free.q {b : Nat} {k : Kn} {id : Int} (hb : KBx w b k) (hk : RK k) (h : OwnS kI 3 B w k.sk xs) (hl : xs.length ≤ 100000) (hB : B ≤ w.heap.size) {K : Unit → World → Prop}
    (hK : ∀ k' ys w', RK k' → KBx w' b k' → k'.regs = k.regs → OwnS kI 3 w.heap.size w' k'.sk ys → ys.length ≤ xs.length → Chg (bX b) w w' → K () w') :
    CallT .z P0 194 [.pointer (some ⟨b, 0, none⟩), .int .i64 id] w K := by
  refine impl.known.free.ok ?_
  unfold impl.known.free.vc
  refine nw fun w1 b1 s1 c1 => ⟨_, rfl, ?_⟩
  have hb1 := hb.below b1
  refine KAt.ld (l := .sl) (x := k.sk) (j := 115) ⟨hb1, hk.1⟩ (Kn.getK hk.1) ?_
  refine slices.Clone_int.q (h.below b1) hl fun t9 w2 b2 h2 => ?_
  have c2 : w2.heap[w.heap.size]? = some (.cells #[.int .i64 id] 3 (0, 0)) := (b2.block _ (by omega)).trans c1
  have hbk : ∀ g, t9.bk = some g → w1.heap.size ≤ g := fun g hg => (h2.blk (by rw [ob_bk]; exact hg)).1
  refine slices.DeleteFunc_int.q (g := w.heap.size) h2 c2 (fun e => by have := hbk _ e; omega) fun t11 ys w3 h3 hl3 hg3 => ⟨_, rfl, ?_⟩
  have hb2 := hb1.below b2
  have hlt := hb.lt
  have hb3 : KBx w3 b k := (hg3.block b hb2.lt fun e => by have := hbk _ e.symm; omega).trans hb2
  have hc : k.cells.toArray.size = 116 := by rw [List.size_toArray, Kn.len hk.1]
  refine stB hb3 (v := t11.v) rfl (by rw [hc]; omega) fun w4 hg4 hs4 hc4 => ?_
  rw [Kn.putK hk.1] at hc4
  have hbk3 : ∀ g, t11.bk = some g → w1.heap.size ≤ g := fun g hg => (h3.blk (by rw [ob_bk]; exact hg)).1
  have h4 : OwnS kI 3 w1.heap.size w4 t11 ys := h3.kept hg4 fun g hg e => by simp only [Option.some.injEq] at hg; subst hg; rw [ob_bk] at e; have := hbk3 _ e; omega
  refine hK ⟨k.regs, k.set, t11⟩ ys w4 ⟨hk.1, hk.2⟩ hc4 rfl (h4.low b1.size) hl3 ?_
  refine (((Chg.of_below (X := bX b) (b1.trans (b2.mono b1.size))).trans (Chg.of_grown' hg3) fun j hj hy => ?_).trans (Chg.of_grown (X := bX b) hg4 rfl) fun _ _ h => h)
  have := hbk j hy; omega
end
end Go.Proofs.YtihllippchgkgaaGreat.V

/- Contracts: what a proof does with tables, numbers of sockets, bytes that are stored; what is turned. -/
namespace Go.Proofs.YtihllippchgkgaaGreat.V
open Go Go.RowKit
set_option linter.unusedVariables false
set_option linter.unusedSimpArgs false
/-- A proof under way: its program, how much it has done, and where it notes. -/
structure PS where
  l : Sl
  work : Int
  ids : Int
  most : Int
  at_ : Int
  nt : Nat
def PS.cells (s : PS) : List Value := [s.l.v, Sl.v ⟨none, 0, 0⟩, .int .i64 s.work, .int .i64 s.ids, .int .i64 s.most, .int .i64 s.at_, .func (.func 52) #[] #[.pointer (some ⟨s.nt, 0, none⟩)]]
def PBx (w : World) (b : Nat) (s : PS) : Prop := w.heap[b]? = some (.cells s.cells.toArray 135 (0, 0))
theorem PBx.below {w w' : World} {b : Nat} {s : PS} (h : PBx w b s) (hb : Below w.heap.size w w') : PBx w' b s := (hb.block b (lt_blk h)).trans h
theorem PBx.lt {w : World} {b : Nat} {s : PS} (h : PBx w b s) : b < w.heap.size := lt_blk h
theorem PBx.ne {w : World} {b p : Nat} {s : PS} {k : Kn} (h : PBx w p s) (hb : KBx w b k) : b ≠ p := fun e => by
  subst e
  unfold KBx at hb; unfold PBx at h
  rw [h] at hb
  simp at hb
section
variable {w : World} {b pb : Nat} {k : Kn} {ps : PS}
theorem impl.proof.fresh.q (hP : PBx w pb ps) {K : Int → World → Prop} (hK : ∀ n w', PBx w' pb { ps with ids := n } → Chg (bX pb) w w' → w'.heap.size = w.heap.size → K n w') :
    CallT (.o (.lf (.i .i64))) P0 207 [.pointer (some ⟨pb, 0, none⟩)] w K := by
  refine impl.proof.fresh.ok ⟨_, rfl, ldB hP (j := 3) (l := .i .i64) (x := ps.ids) rfl ⟨_, rfl, ?_⟩⟩
  refine stB hP rfl (by simp [PS.cells]) fun w' hg hs hc => ⟨_, rfl, ?_⟩
  have h' : PBx w' pb { ps with ids := IntKind.wrap .i64 (ps.ids + 1) } := by
    unfold PBx
    rw [hc, List.setIfInBounds_toArray]; rfl
  exact ldB h' (j := 3) (l := .i .i64) (x := IntKind.wrap .i64 (ps.ids + 1)) rfl (hK _ _ h' (.of_grown hg rfl) hs)
theorem impl.proof.table.q (hP : PBx w pb ps) (hb : KBx w b k) (hk : RK k) {K : Int → World → Prop} {Kp : List PanicEntry → World → Prop} (hp : ∀ c w', Below w.heap.size w w' → Kp (trapCh c) w') :
    CallP (.o (.lf (.i .i64))) P0 206 [.pointer (some ⟨pb, 0, none⟩), .pointer (some ⟨b, 0, none⟩)] w K Kp := by
  refine impl.proof.table.ok ?_
  unfold impl.proof.table.vc
  refine impl.known.read.q hb hk (by omega) (by omega) (fun v w1 _ hv b1 => ?_) (fun c w1 b1 => hp _ _ b1)
  refine impl.Know.number.q hv (fun r w2 _ hr b2 => ?_) (fun c w2 b2 => hp _ _ (b1.trans (b2.mono b1.size)))
  have m2 := ((MG.start0 w).below b1).below b2
  refine nwRange m2 fun w3 br b3 m3 => stR (n := 4) m3 (by with_unfolding_all (repeat (first | exact UpG.head _ _ _ _ _ | apply UpG.tail))) fun w4 _ m4 => ?_
  have hP4 : PBx w4 pb ps := m4.keep hP hP.lt
  obtain ⟨a, b', c, d, rfl, h1, h2⟩ := hr.le
  clear m2 m3
  refine ⟨Grw, grwOk _, prG (fun n => 0 ≤ n), keptPr, prG (fun _ => True), keptPr, prG (fun n => 0 ≤ n), keptPr, prG (fun x => x = ⟨pb, 0, none⟩), keptPr, prG (fun s => s = ⟨none, 0, 0⟩), keptPr, prG (fun _ => False), keptPr, fun w5 h5 => ?_, fun t10 => ⟨fun w5 h5 => ?_, fun t12 => And.intro (fun _ => ⟨fun w5 h5 _ _ => ?_, fun t16 => ⟨fun w5 h5 _ _ => ⟨_, rfl, gkP rfl (Grw.refl _) rfl⟩, fun t18 => ⟨fun w5 h5 _ _ e => ?_, fun t20 => ⟨fun w5 h5 _ _ e1 e2 => ?_, fun t24 w5 h5 _ _ _ _ _ f => f.elim⟩⟩⟩⟩) (fun _ => ⟨fun w5 h5 _ _ _ _ => ?_, fun t24 w5 h5 _ _ _ _ _ f => f.elim⟩)⟩⟩
  · have m5 := m4.below h5
    repeat' (first | (with_reducible refine ldG (by assumption) (by with_unfolding_all (repeat (first | exact List.mem_cons_self | refine List.mem_cons_of_mem _ ?_))) (by with_unfolding_all rfl) ?_) | (with_reducible refine ldAG (by assumption) (by with_unfolding_all (repeat (first | exact List.mem_cons_self | refine List.mem_cons_of_mem _ ?_))) ?_) | (with_reducible refine qldG (by assumption) (by with_unfolding_all (repeat (first | exact List.mem_cons_self | refine List.mem_cons_of_mem _ ?_))) (by with_unfolding_all rfl) ?_) | (with_reducible refine nwKnow (by assumption) fun _ _ _ _ => ?_) | (with_reducible refine nwRange (by assumption) fun _ _ _ _ => ?_) | (with_reducible refine nwL (by assumption) fun _ _ _ _ => ?_) | (with_reducible refine stR (by assumption) (by with_unfolding_all (repeat (first | exact UpG.head _ _ _ _ _ | apply UpG.tail))) fun _ _ _ => ?_) | (with_reducible refine And.intro (fun _ => ?_) (fun _ => ?_)))
    exact gkP rfl (Grw.refl _) (by omega)
  · have m5 := m4.below h5
    repeat' (first | (with_reducible refine ldG (by assumption) (by with_unfolding_all (repeat (first | exact List.mem_cons_self | refine List.mem_cons_of_mem _ ?_))) (by with_unfolding_all rfl) ?_) | (with_reducible refine ldAG (by assumption) (by with_unfolding_all (repeat (first | exact List.mem_cons_self | refine List.mem_cons_of_mem _ ?_))) ?_) | (with_reducible refine qldG (by assumption) (by with_unfolding_all (repeat (first | exact List.mem_cons_self | refine List.mem_cons_of_mem _ ?_))) (by with_unfolding_all rfl) ?_) | (with_reducible refine nwKnow (by assumption) fun _ _ _ _ => ?_) | (with_reducible refine nwRange (by assumption) fun _ _ _ _ => ?_) | (with_reducible refine nwL (by assumption) fun _ _ _ _ => ?_) | (with_reducible refine stR (by assumption) (by with_unfolding_all (repeat (first | exact UpG.head _ _ _ _ _ | apply UpG.tail))) fun _ _ _ => ?_) | (with_reducible refine And.intro (fun _ => ?_) (fun _ => ?_)))
    exact gkP rfl (Grw.refl _) trivial
  · have m5 := m4.below h5
    repeat' (first | (with_reducible refine ldG (by assumption) (by with_unfolding_all (repeat (first | exact List.mem_cons_self | refine List.mem_cons_of_mem _ ?_))) (by with_unfolding_all rfl) ?_) | (with_reducible refine ldAG (by assumption) (by with_unfolding_all (repeat (first | exact List.mem_cons_self | refine List.mem_cons_of_mem _ ?_))) ?_) | (with_reducible refine qldG (by assumption) (by with_unfolding_all (repeat (first | exact List.mem_cons_self | refine List.mem_cons_of_mem _ ?_))) (by with_unfolding_all rfl) ?_) | (with_reducible refine nwKnow (by assumption) fun _ _ _ _ => ?_) | (with_reducible refine nwRange (by assumption) fun _ _ _ _ => ?_) | (with_reducible refine nwL (by assumption) fun _ _ _ _ => ?_) | (with_reducible refine stR (by assumption) (by with_unfolding_all (repeat (first | exact UpG.head _ _ _ _ _ | apply UpG.tail))) fun _ _ _ => ?_) | (with_reducible refine And.intro (fun _ => ?_) (fun _ => ?_)))
    exact gkP rfl (Grw.refl _) (by omega)
  · obtain rfl : t18 = _ := e
    exact ldB (hP4.below h5) (j := 1) (l := .sl) (x := ⟨none, 0, 0⟩) rfl (gkP rfl (Grw.refl _) rfl)
  · obtain rfl : t20 = _ := e2
    have e1 : 0 ≤ t16 := e1
    refine impl.need.q (fun h => ?_) (fun h _ => hp _ _ (m4.below h5).bl)
    simp only [decide_eq_true_eq] at h
    omega
  · exact impl.need.q (fun h => by simp at h) (fun h _ => hp _ _ (m4.below h5).bl)
theorem impl.proof.store.q {p : Option Addr} {x : Ins} (hb : KBx w b k) (hk : RK k) (hx : InsP x) (ho : x.op = 18) {K : Unit → World → Prop} {Kp : List PanicEntry → World → Prop}
    (hK : ∀ k' w', RK k' → k'.sk = k.sk → KBx w' b k' → Chg (bX b) w w' → K () w') (hp : ∀ c w', Chg (bX b) w w' → Kp (trapCh c) w') :
    CallP .z P0 178 [.pointer p, .pointer (some ⟨b, 0, none⟩), .agg (Tup.cells (R 6 (.i .i64)) x.t).toArray] w K Kp := by
  have hX := hx
  obtain ⟨hx1, hx2, hx3, hx4, hx5⟩ := hx
  have hz : szP x.size := by unfold BareP szP at hx5; unfold szP; omega
  have hs2 : 1 ≤ x.size ∧ x.size ≤ 4 := by rcases hz with h | h | h <;> omega
  refine impl.proof.store.ok ?_
  unfold impl.proof.store.vc
  refine nwL (MG.start (bX b) w fun j hj => by rw [hj]; exact hb.lt) fun w1 bx b1 m1 => ?_
  refine ldG m1 (by with_unfolding_all (repeat (first | exact List.mem_cons_self | refine List.mem_cons_of_mem _ ?_))) (by with_unfolding_all rfl) ?_
  have hb1 := hb.below b1
  refine impl.known.read.q hb1 hk hx1.1 hx1.2 (fun va w2 hva0 hva b2 => ?_) (fun c w4 b4 => hp _ _ (m1.below b4).low)
  refine nwKnow (m1.below b2) fun w3 ba b3 m3 => ?_
  refine stR (n := 9) m3 (by with_unfolding_all (repeat (first | exact UpG.head _ _ _ _ _ | apply UpG.tail))) fun w4 g4 m4 => ?_
  refine ldAG m4 (by with_unfolding_all (repeat (first | exact List.mem_cons_self | refine List.mem_cons_of_mem _ ?_))) ?_
  refine impl.known.operand.q (m4.keep hb hb.lt) hk hx2 hx4 (fun vb w5 hvb0 hvb b5 => ?_) (fun c w4 b4 => hp _ _ (m4.below b4).low)
  refine nwKnow (m4.below b5) fun w6 bb b6 m6 => ?_
  refine stR (n := 9) m6 (by with_unfolding_all (repeat (first | exact UpG.head _ _ _ _ _ | apply UpG.tail))) fun w7 g7 m7 => ?_
  clear m1 m3 m4 m6 hb1
  refine ⟨fun w' => MG (bX b) w w w' [(bb, 92, Tup.cells (R 9 (.i .i64)) vb), (ba, 92, Tup.cells (R 9 (.i .i64)) va), (bx, 82, Tup.cells (R 6 (.i .i64)) x.t)] ∧ (va.kd = 2 ∨ va.kd = 4), ?_, fun w8 ⟨m8, hq⟩ _ => ?_⟩
  · refine ldG m7 (by with_unfolding_all (repeat (first | exact List.mem_cons_self | refine List.mem_cons_of_mem _ ?_))) (by with_unfolding_all rfl) (And.intro (fun hc => ?_) (fun hc => ?_))
    · have hc : (va.kd == 2) = true := hc
      exact impl.need.q (fun h => ⟨m7, .inl (by simpa using hc)⟩) (fun h => hp _ _ m7.low)
    · refine ldG m7 (by with_unfolding_all (repeat (first | exact List.mem_cons_self | refine List.mem_cons_of_mem _ ?_))) (by with_unfolding_all rfl) (impl.need.q (fun h => ⟨m7, .inr ?_⟩) (fun h => hp _ _ m7.low))
      have h : (va.kd == 4) = true := h
      simpa using h
  have hpl := hva.place (by omega)
  refine ldAG m8 (by with_unfolding_all (repeat (first | exact List.mem_cons_self | refine List.mem_cons_of_mem _ ?_))) (impl.Know.number.q hvb (fun r w9 _ _ b9 => ?_) (fun c w9 b9 => hp _ _ (m8.below b9).low))
  have m9 := m8.below b9
  refine ldAG m9 (by with_unfolding_all (repeat (first | exact List.mem_cons_self | refine List.mem_cons_of_mem _ ?_))) (ldAG m9 (by with_unfolding_all (repeat (first | exact List.mem_cons_self | refine List.mem_cons_of_mem _ ?_))) ?_)
  refine impl.proof.place.q hpl hX hz (fun lo hi w10 h0 h1 h2 b10 => ?_) (fun c w6 b6 => hp _ _ (m9.below b6).low)
  have m10 := m9.below b10
  clear m7 m8 m9
  refine ⟨fun q w' => MG (bX b) w w w' [(bb, 92, Tup.cells (R 9 (.i .i64)) vb), (ba, 92, Tup.cells (R 9 (.i .i64)) va), (bx, 82, Tup.cells (R 6 (.i .i64)) x.t)], ?_, fun q w11 m11 _ => ?_⟩
  · exact ldG m10 (by with_unfolding_all (repeat (first | exact List.mem_cons_self | refine List.mem_cons_of_mem _ ?_))) (by with_unfolding_all rfl) (And.intro (fun hc => m10) (fun hc => m10))
  have hb11 : KBx w11 b k := m11.keep hb hb.lt
  refine And.intro (fun hq => ?_) (fun hq => hK _ _ hk rfl hb11 m11.low)
  refine ldG m11 (by with_unfolding_all (repeat (first | exact List.mem_cons_self | refine List.mem_cons_of_mem _ ?_))) (by with_unfolding_all rfl) ?_
  refine ⟨fun i w' => 0 ≤ i ∧ i ≤ x.size ∧ Chg (bX b) w w' ∧ ∃ k' : Kn, KBx w' b k' ∧ RK k' ∧ k'.sk = k.sk, fun i _ => (x.size - i).toNat, ⟨by omega, by omega, m11.low, k, hb11, hk, rfl⟩, ?_⟩
  rintro i w12 ⟨hi0, hi1, c12, k2, hb12, hk2, hs⟩ _
  refine And.intro (fun hl => ⟨_, rfl, ?_⟩) (fun _ => hK _ _ hk2 hs hb12 c12)
  have hl : decide (i < x.size) = true := hl
  simp only [decide_eq_true_eq] at hl
  rw [i64_of (n := lo + i) (by omega) (by omega), i64_of (n := i + 1) (by omega) (by omega)]
  obtain ⟨j, hj⟩ := Int.eq_ofNat_of_zero_le (a := lo + i) (by omega)
  rw [hj]
  refine ixArr (e := 4) (n := 16) (sz := 1) uSet sSet (by omega) (by omega) ?_
  have e : (Addr.add (Addr.add ⟨b, 0, none⟩ 99) ((j : Int).toNat * 1)) = Addr.add ⟨b, 0, none⟩ (99 + j) := by
    rw [add_mk, add_mk, add_mk]; congr 1; omega
  rw [e]
  refine stB hb12 rfl (by rw [List.size_toArray, Kn.len hk2.1]; omega) fun w13 hg hs13 hc13 => ?_
  rw [Kn.putS hk2.1 (by omega)] at hc13
  exact ⟨⟨by omega, by omega, c12.trans (Chg.of_grown (X := bX b) hg rfl) fun _ _ h => h, _, hc13, ⟨⟨hk2.1.1, by simpa using hk2.1.2⟩, hk2.2⟩, hs⟩, by show (x.size - (i + 1)).toNat < (x.size - i).toNat; omega⟩
theorem uRegs : P0.underlying 93 = some (.array 11 92) := by kernel_rfl
theorem sRegs : szOf P0 92 = some 9 := by kernel_rfl
theorem aRegs : aggT P0 92 = some true := by kernel_rfl
theorem ixKnow {regs : List T9} (hr : regs.length = 11) {i : Int} {v : T9} (h0 : 0 ≤ i) (hv : regs[i.toNat]? = some v) {t11 : Tup (R 99 (.i .i64))} (ht : Tup.cells (R 99 (.i .i64)) t11 = regs.flatMap kT9.cells) {K : T9 → World → Prop} (hk : K v w) :
    RunT (.o (.ag (R 9 (.i .i64)))) P0 (Instr.index 93 (.agg (Tup.cells (R 99 (.i .i64)) t11).toArray) (.int .i64 i)) w K := by
  have hlt0 := (List.getElem?_eq_some_iff.1 hv).1
  have hlt : i < 11 := by omega
  refine ⟨v, w, ?_, hk⟩
  have e : (Tup.cells (R 99 (.i .i64)) t11).toArray.extract (i.toNat * 9) (i.toNat * 9 + 9) = (Tup.cells (R 9 (.i .i64)) v).toArray := by
    have hl9 : (Tup.cells (R 9 (.i .i64)) v).length = 9 := V.cells_length _ _
    rw [ht]
    apply Array.ext_getElem?
    intro j
    rw [Array.getElem?_extract, List.getElem?_toArray, List.getElem?_toArray, List.size_toArray, flat_length, hr]
    by_cases hj : j < 9
    · rw [if_pos (by show j < min (i.toNat * 9 + 9) (11 * kT9.ls.length) - i.toNat * 9; have : kT9.ls.length = 9 := rfl; rw [this]; omega)]
      have hu := List.getElem?_eq_getElem (l := Tup.cells (R 9 (.i .i64)) v) (i := j) (by omega)
      rw [hu]
      exact flat_get kT9 regs i.toNat v hv j _ hu
    · rw [if_neg (by have : kT9.ls.length = 9 := rfl; rw [this]; omega), List.getElem?_eq_none (by omega)]
  simp [Instr.index, asIntOf, underlying, uRegs, h0, hlt, run_sizeOf sRegs, part, run_isAgg aRegs, Rs.emb, Ty.emb]
  simpa using congrArg Array.toList e
theorem ld99 (hb : KBx w b k) (hk : k.ok) {K : Tup (R 99 (.i .i64)) → World → Prop} (hK : ∀ t, Tup.cells (R 99 (.i .i64)) t = k.regs.flatMap kT9.cells → K t w) : LdA (R 99 (.i .i64)) (Addr.add ⟨b, 0, none⟩ 0) w K := by
  have e1 : Tup.cells (R 99 (.i .i64)) (tupR (.i .i64) 99 fun i => T9.get (k.regs.getD (i / 9) z9) (i % 9)) = k.regs.flatMap kT9.cells := by
    obtain ⟨regs, set, sk⟩ := k
    obtain ⟨a, b, c, d, e, f, g, i, j, k, m, rfl⟩ := len11 hk.1
    refine (tupR_cells (.i .i64) 99 _).trans ?_
    with_unfolding_all rfl
  refine ⟨_, fun j u hu => ?_, hK _ e1⟩
  rw [e1] at hu
  rw [add_mk, add_mk, cell_of hb]
  unfold Kn.cells
  rw [List.getElem?_toArray, Nat.zero_add, List.getElem?_append_left (List.getElem?_eq_some_iff.1 hu).1]
  exact hu
theorem MG.drop {X : Nat → Prop} {w0 w1 : World} {p : Bx1} {l : List Bx1} (h : MG X w0 w1 w (p :: l)) : MG X w0 w w l :=
  ⟨h.low, Chg.refl _ _, fun b t cs hm => h.box b t cs (List.mem_cons_of_mem _ hm), fun b hb => h.own b (List.mem_cons_of_mem _ hb), h.out, (List.nodup_cons.1 h.one).2⟩
end
end Go.Proofs.YtihllippchgkgaaGreat.V

/- Contracts: what may be the number 0 is turned. -/
namespace Go.Proofs.YtihllippchgkgaaGreat.V
open Go Go.RowKit
set_option linter.unusedVariables false
set_option linter.unusedSimpArgs false
theorem ownTy {α : Type} {k : Kd α} {t : TypeId} {B g : Nat} {w : World} {s : Sl} {xs : List α} (h : OwnS k t B w s xs) (hg : s.bk = some g) : ∃ cur, w.heap[g]? = some (.cells cur t (0, 0)) := by
  rw [← ob_bk] at hg
  rcases h.2.2 with ⟨hv, h0⟩ | ⟨g', cap, cur, hv, hB, hg', r⟩
  · rw [hv] at hg; simp [Value.ownBlock] at hg
  · rw [hv] at hg
    have : g' = g := by simpa [Value.ownBlock] using hg
    subst this
    exact ⟨cur, hg'⟩
/-- What is known stands in a box, with so many sockets at most. -/
def KS (w : World) (b n : Nat) : Prop := ∃ (k : Kn) (xs : List Int), KBx w b k ∧ RK k ∧ OwnS kI 3 0 w k.sk xs ∧ xs.length ≤ n
section
variable {w : World} {b pb : Nat} {k : Kn} {ps : PS} {xs : List Int}
theorem sockNe (hb : KBx w b k) {s : Sl} (h : OwnS kI 3 0 w s xs) : ∀ g, s.bk = some g → ¬ bX b g := fun g hg e => by
  obtain rfl : g = b := e
  obtain ⟨cur, hc⟩ := ownTy h hg
  unfold KBx at hb
  rw [hb] at hc
  simp at hc
theorem z6_ok (t : Int) : RegOk ((6, 0, 0, 0, 0, 0, 0, 0, t, ()) : T9) := .inr (.inr (.inr (.inl rfl)))
theorem impl.known.turned.q {v : T9} {nought : Bool} (hb : KBx w b k) (hk : RK k) (h : OwnS kI 3 0 w k.sk xs) (hl : xs.length ≤ 100000) (hv : v.kd = 7) {K : Unit → World → Prop}
    (hK : ∀ w', KS w' b xs.length → Chg (bX b) w w' → K () w') :
    CallT .z P0 174 [.pointer (some ⟨b, 0, none⟩), .agg (Tup.cells (R 9 (.i .i64)) v).toArray, .bool nought] w K := by
  refine impl.known.turned.ok ?_
  unfold impl.known.turned.vc
  refine nwL (MG.start (bX b) w fun j hj => by rw [hj]; exact hb.lt) fun w1 bv b1 m1 => ⟨_, rfl, ld99 (hb.below b1) hk.1 fun t11 ht => ?_⟩
  refine ⟨fun i w' => 0 ≤ i ∧ i ≤ 11 ∧ (∃ wr, MG (bX b) w wr w' [(bv, 92, Tup.cells (R 9 (.i .i64)) v)]) ∧ ∃ k' : Kn, KBx w' b k' ∧ RK k' ∧ k'.sk = k.sk, fun i _ => (11 - i).toNat, ⟨by omega, by omega, ⟨_, m1⟩, k, hb.below b1, hk, rfl⟩, ?_⟩
  rintro i w2 ⟨h0, h1, ⟨wr, m2'⟩, k2, hb2, hk2, hs2⟩ _
  have m2 := m2'.re
  clear m2' m1
  have done : ∀ {w' : World} {k' : Kn}, Chg (bX b) w w' → KBx w' b k' → RK k' → k'.sk = k.sk → K () w' := fun hc hb' hk' hs' => by
    have h2 := h.chg hc (sockNe hb h)
    rw [← hs'] at h2
    exact hK _ ⟨_, xs, hb', hk', h2, Nat.le_refl _⟩ hc
  refine And.intro (fun hl => ?_) (fun _ => ?_)
  · simp only [decide_eq_true_eq] at hl
    obtain ⟨j, rfl⟩ := Int.eq_ofNat_of_zero_le h0
    obtain ⟨vi, hvi, _⟩ := hk.reg (r := j) (by omega)
    have ew : IntKind.wrap .i64 ((j : Int) + 1) = (j : Int) + 1 := i64_of (by omega) (by omega)
    rw [ew]
    have next : ∀ {w' : World} {k' : Kn}, (∃ wr, MG (bX b) w wr w' [(bv, 92, Tup.cells (R 9 (.i .i64)) v)]) → KBx w' b k' → RK k' → k'.sk = k.sk → (0 ≤ (j : Int) + 1 ∧ (j : Int) + 1 ≤ 11 ∧ (∃ wr, MG (bX b) w wr w' [(bv, 92, Tup.cells (R 9 (.i .i64)) v)]) ∧ ∃ k' : Kn, KBx w' b k' ∧ RK k' ∧ k'.sk = k.sk) ∧ (11 - ((j : Int) + 1)).toNat < (11 - (j : Int)).toNat :=
      fun hm hb' hk' hs' => ⟨⟨by omega, by omega, hm, _, hb', hk', hs'⟩, by omega⟩
    refine ixKnow hk.1.1 h0 (by simpa using hvi) ht ?_
    refine nwKnow m2 fun w3 bw b3 m3 => stR (n := 9) m3 (by with_unfolding_all (repeat (first | exact UpG.head _ _ _ _ _ | apply UpG.tail))) fun w4 _ m4 => ?_
    have hb4 : KBx w4 b k2 := m4.keep hb2 hb.lt
    clear m3
    refine ⟨fun q w' => (∃ wr, MG (bX b) w wr w' [(bv, 92, Tup.cells (R 9 (.i .i64)) v)]) ∧ KBx w' b k2, ?_, fun q w5 ⟨⟨wr5, m5'⟩, hb5⟩ _ => ?_⟩
    · refine ldG m4 (by with_unfolding_all (repeat (first | exact List.mem_cons_self | refine List.mem_cons_of_mem _ ?_))) (by with_unfolding_all rfl) (ldG m4 (by with_unfolding_all (repeat (first | exact List.mem_cons_self | refine List.mem_cons_of_mem _ ?_))) (by with_unfolding_all rfl) (And.intro (fun _ => ⟨⟨_, m4.drop⟩, hb4⟩) (fun _ => ?_)))
      exact ldG m4 (by with_unfolding_all (repeat (first | exact List.mem_cons_self | refine List.mem_cons_of_mem _ ?_))) (by with_unfolding_all rfl) (ldG m4 (by with_unfolding_all (repeat (first | exact List.mem_cons_self | refine List.mem_cons_of_mem _ ?_))) (by with_unfolding_all rfl) ⟨⟨_, m4.drop⟩, hb4⟩)
    have m5 := m5'.re
    clear m5' m4 m2
    refine And.intro (fun _ => next ⟨_, m5⟩ hb5 hk2 hs2) (fun _ => And.intro (fun _ => ?_) (fun _ => ?_))
    · refine ⟨SpB b (KOk k.sk), spbOk _ _ _ hb5.lt, prG Gd, keptPr, prG RegOk, keptPr, prG (fun a => a = ⟨b, 0, none⟩), keptPr, prG (fun a => a = ⟨b, 9 * j, none⟩), keptPr, prG fun _ => True, keptPr, fun w6 hs => ?_, fun t41 => ⟨fun w6 hs e => ?_, fun t42 => ⟨fun w6 hs => ⟨_, rfl, gkP rfl (SpB.refl _ _ _) rfl⟩, fun t43 => ⟨fun w6 hs e => ?_, fun t45 => ⟨fun w6 hs e1 e2 => ?_, fun st w6 hs _ _ _ _ _ => ?_⟩⟩⟩⟩⟩
      · exact impl.RangeOne.q (by decide) (by decide) fun r w7 hr b7 => gkP rfl (SpB.of_below b7 (hs.lt hb5.lt)) hr
      · exact impl.knowNum.q e fun r w7 _ hr b7 => gkP rfl (SpB.of_below b7 (hs.lt hb5.lt)) hr
      · obtain rfl : t43 = _ := e
        exact ixReg (r := j) rfl (by omega) (gkP rfl (SpB.refl _ _ _) rfl)
      · obtain rfl : t45 = _ := e2
        obtain ⟨k3, hb3, hk3, h3⟩ := hs.kok hb5 hk2 hs2
        exact KAt.stR (k := k3) ⟨hb3, hk3.1⟩ (r := j) (by omega) rfl fun w7 hg _ h7 => ⟨(), rfl, SpB.of_kbx (.of_grown hg rfl) h7.1 (hk3.put e1) h3, trivial⟩
      · obtain ⟨k3, hb3, hk3, h3⟩ := hs.kok hb5 hk2 hs2
        exact next ⟨_, m5.wrote hs.chg fun _ h => h⟩ hb3 hk3 h3
    · refine ldG m5 (by with_unfolding_all (repeat (first | exact List.mem_cons_self | refine List.mem_cons_of_mem _ ?_))) (by with_unfolding_all rfl) (And.intro (fun hc => ?_) (fun hc => ?_))
      · have hc : (v.kd == 5) = true := hc
        rw [hv] at hc; simp at hc
      refine ⟨SpB b (KOk k.sk), spbOk _ _ _ hb5.lt, prG fun _ => True, keptPr, prG RegOk, keptPr, prG (fun a => a = ⟨b, 0, none⟩), keptPr, prG (fun a => a = ⟨b, 9 * j, none⟩), keptPr, prG fun _ => True, keptPr, fun w6 hs => ?_, fun t19 => ⟨fun w6 hs e => ?_, fun t20 => ⟨fun w6 hs => ⟨_, rfl, gkP rfl (SpB.refl _ _ _) rfl⟩, fun t21 => ⟨fun w6 hs e => ?_, fun t23 => ⟨fun w6 hs e1 e2 => ?_, fun st w6 hs _ _ _ _ _ => ?_⟩⟩⟩⟩⟩
      · have m6 := m5.wrote hs.chg fun _ h => h
        exact ldG m6 (by with_unfolding_all (repeat (first | exact List.mem_cons_self | refine List.mem_cons_of_mem _ ?_))) (by with_unfolding_all rfl) (gkP rfl (SpB.refl _ _ _) trivial)
      · exact ⟨((6, 0, 0, 0, 0, 0, 0, 0, t19, ()) : T9), rfl, SpB.refl _ _ _, z6_ok t19⟩
      · obtain rfl : t21 = _ := e
        exact ixReg (r := j) rfl (by omega) (gkP rfl (SpB.refl _ _ _) rfl)
      · obtain rfl : t23 = _ := e2
        obtain ⟨k3, hb3, hk3, h3⟩ := hs.kok hb5 hk2 hs2
        exact KAt.stR (k := k3) ⟨hb3, hk3.1⟩ (r := j) (by omega) rfl fun w7 hg _ h7 => ⟨(), rfl, SpB.of_kbx (.of_grown hg rfl) h7.1 (hk3.put e1) h3, trivial⟩
      · obtain ⟨k3, hb3, hk3, h3⟩ := hs.kok hb5 hk2 hs2
        exact next ⟨_, m5.wrote hs.chg fun _ h => h⟩ hb3 hk3 h3
  · refine And.intro (fun _ => ldG m2 (by with_unfolding_all (repeat (first | exact List.mem_cons_self | refine List.mem_cons_of_mem _ ?_))) (by with_unfolding_all rfl) (And.intro (fun _ => ?_) (fun _ => done m2.low hb2 hk2 hs2))) (fun _ => done m2.low hb2 hk2 hs2)
    refine ldG m2 (by with_unfolding_all (repeat (first | exact List.mem_cons_self | refine List.mem_cons_of_mem _ ?_))) (by with_unfolding_all rfl) ?_
    have h2 := h.chg m2.low (sockNe hb h)
    rw [← hs2] at h2
    exact impl.known.free.q hb2 hk2 h2 hl (Nat.zero_le _) fun k' ys w' hk' hb' _ ho hy hc => hK _ ⟨k', ys, hb', hk', ho.low (Nat.zero_le _), hy⟩ (m2.low.trans hc fun _ _ h => h)
end
end Go.Proofs.YtihllippchgkgaaGreat.V

/- Contracts: calls that a proof follows. -/
namespace Go.Proofs.YtihllippchgkgaaGreat.V
open Go Go.RowKit
set_option linter.unusedVariables false
set_option linter.unusedSimpArgs false
def X2 (b pb : Nat) : Nat → Prop := fun j => j = b ∨ j = pb
/-- A proof under way, whatever its numbers of sockets. -/
def PI (w : World) (pb : Nat) (ps : PS) : Prop := ∃ i, PBx w pb { ps with ids := i }
section
variable {X Y : Nat → Prop} {w0 w1 w w' : World} {l : List Bx1} {B b pb bx : Nat} {k : Kn} {ps : PS} {xs : List Int} {s : Sl}
theorem ownGrow {cs : List Value} {t : TypeId} (ho : OwnS kI 3 B w s xs) (hb : w.heap[bx]? = some (.cells cs.toArray t (0, 0))) (ht : t ≠ 3) (hg : w.grownBy w' (some bx)) : OwnS kI 3 B w' s xs :=
  ho.kept hg fun g hg e => by
    simp only [Option.some.injEq] at hg; subst hg
    rw [ob_bk] at e
    obtain ⟨cur, hc⟩ := ownTy ho e
    rw [hb] at hc
    simp only [Option.some.injEq, Obj.cells.injEq] at hc
    exact ht hc.2.1
theorem MG.new (h : MG X w0 w1 w l) (hc : Chg Y w w') (hY : ∀ j, Y j → w0.heap.size ≤ j ∧ j ∉ l.map (·.1)) : MG X w0 w' w' l :=
  ⟨h.low.trans hc fun j hj hy => by have := (hY j hy).1; omega, Chg.refl _ _, fun b t cs hm => hc.blk (h.box b t cs hm) fun hy => (hY b hy).2 (List.mem_map.2 ⟨_, hm, rfl⟩), h.own, h.out, h.one⟩
theorem sockNeP (hP : PBx w pb ps) (h : OwnS kI 3 B w s xs) : ∀ g, s.bk = some g → ¬ bX pb g := fun g hg e => by
  obtain rfl : g = pb := e
  obtain ⟨cur, hc⟩ := ownTy h hg
  unfold PBx at hP
  rw [hP] at hc
  simp at hc
theorem KS.below {n : Nat} (h : KS w b n) (hb : Below w.heap.size w w') : KS w' b n := by
  obtain ⟨k, xs, h1, h2, h3, h4⟩ := h
  exact ⟨k, xs, h1.below hb, h2, h3.below hb, h4⟩
theorem KS.lt {n : Nat} (h : KS w b n) : b < w.heap.size := by obtain ⟨k, xs, h1, _⟩ := h; exact h1.lt
theorem PI.below (h : PI w pb ps) (hb : Below w.heap.size w w') : PI w' pb ps := by obtain ⟨i, h⟩ := h; exact ⟨i, PBx.below h hb⟩
theorem PI.lt (h : PI w pb ps) : pb < w.heap.size := by obtain ⟨i, h⟩ := h; exact PBx.lt h
theorem PI.ne {n : Nat} (h : PI w pb ps) (hk : KS w b n) : b ≠ pb := by
  obtain ⟨i, h⟩ := h
  obtain ⟨k, xs, h1, _⟩ := hk
  exact PBx.ne h h1
theorem PI.chg (h : PI w pb ps) (hc : Chg X w w') (hX : ¬ X pb) : PI w' pb ps := by obtain ⟨i, h⟩ := h; exact ⟨i, hc.blk h hX⟩
/-- Other boxes are written. -/
theorem KS.grow {n : Nat} {cs : List Value} {t : TypeId} (h : KS w b n) (hb : w.heap[bx]? = some (.cells cs.toArray t (0, 0))) (ht : t ≠ 3) (hk : t ≠ 95 ∨ b ≠ bx) (hg : w.grownBy w' (some bx)) : KS w' b n := by
  obtain ⟨k, xs, h1, h2, h3, h4⟩ := h
  refine ⟨k, xs, (hg.block b h1.lt fun e => ?_).trans h1, h2, ownGrow h3 hb ht hg, h4⟩
  simp only [Option.some.injEq] at e
  rcases hk with hk | hk
  · subst e
    unfold KBx at h1
    rw [h1] at hb
    simp only [Option.some.injEq, Obj.cells.injEq] at hb
    exact hk hb.2.1.symm
  · exact hk e
theorem PI.grow {cs : List Value} {t : TypeId} (h : PI w pb ps) (hb : w.heap[bx]? = some (.cells cs.toArray t (0, 0))) (ht : t ≠ 135) (hg : w.grownBy w' (some bx)) : PI w' pb ps := by
  obtain ⟨i, h⟩ := h
  refine ⟨i, (hg.block pb (PBx.lt h) fun e => ?_).trans h⟩
  simp only [Option.some.injEq] at e
  subst e
  unfold PBx at h
  rw [h] at hb
  simp only [Option.some.injEq, Obj.cells.injEq] at hb
  exact ht hb.2.1.symm
end
section
variable {w : World} {b pb : Nat} {k : Kn} {ps : PS} {xs : List Int}
set_option maxHeartbeats 1000000 in
theorem impl.proof.call.q {n : Nat} {which : Int} (hb : KBx w b k) (hk : RK k) (ho : OwnS kI 3 0 w k.sk xs) (hn : xs.length ≤ n) (hn2 : n ≤ 2000) (hP : PBx w pb ps) {K : T9 → World → Prop} {Kp : List PanicEntry → World → Prop}
    (hK : ∀ v w', RegOk v → KS w' b (n + 1) → PI w' pb ps → Chg (X2 b pb) w w' → K v w') (hp : ∀ c w', PI w' pb ps → Chg (X2 b pb) w w' → Kp (trapCh c) w') :
    CallP (.o (.ag (R 9 (.i .i64)))) P0 179 [.pointer (some ⟨pb, 0, none⟩), .pointer (some ⟨b, 0, none⟩), .int .i64 which] w K Kp := by
  have hne : b ≠ pb := PBx.ne hP hb
  have hX : ∀ j, X2 b pb j → j < w.heap.size := fun j hj => by rcases hj with rfl | rfl; exact hb.lt; exact hP.lt
  refine impl.proof.call.ok ?_
  unfold impl.proof.call.vc
  refine nwKnow (MG.start (X2 b pb) w hX) fun w1 b6 b1 m1 => ?_
  have hbA : ∀ {w' l}, MG (X2 b pb) w w w' l → KBx w' b k := fun m => m.keep hb hb.lt
  have hPA : ∀ {w' l}, MG (X2 b pb) w w w' l → PBx w' pb ps := fun m => m.keep hP hP.lt
  have hoA : ∀ {w' l}, MG (X2 b pb) w w w' l → OwnS kI 3 0 w' k.sk xs := fun m => ho.chg m.ref fun g hg hm => by
    have := m.own g hm
    obtain ⟨cur, hc⟩ := ownTy ho hg
    have := lt_blk hc
    omega
  have hpA : ∀ {w' l} c, MG (X2 b pb) w w w' l → Kp (trapCh c) w' := fun c m => hp c _ ⟨ps.ids, hPA m⟩ m.low
  have hKA : ∀ {w' l} v, MG (X2 b pb) w w w' l → RegOk v → K v w' := fun v m hv => hK v _ hv ⟨k, xs, hbA m, hk, hoA m, by omega⟩ ⟨ps.ids, hPA m⟩ m.low
  refine And.intro (fun _ => ?_) (fun _ => And.intro (fun _ => ?_) (fun _ => And.intro (fun _ => ?_) (fun _ => And.intro (fun _ => ?_) (fun _ => And.intro (fun _ => ?_) (fun _ => ?_)))))
  · exact impl.proof.table.q (hPA m1) (hbA m1) hk fun c w' b' => hpA c (m1.below b')
  · exact impl.proof.table.q (hPA m1) (hbA m1) hk fun c w' b' => hpA c (m1.below b')
  · refine impl.known.read.q (hbA m1) hk (by decide) (by decide) (fun v w2 _ hv b2 => ?_) (fun c w' b' => hpA c (m1.below b'))
    have m2 := m1.below b2
    refine impl.Know.number.q hv (fun r w3 _ hr b3 => ?_) (fun c w' b' => hpA c (m2.below b'))
    have m3 := m2.below b3
    refine impl.proof.fresh.q (hPA m3) fun id w4 hP4 c4 z4 => ⟨_, rfl, ?_⟩
    have m4 := m3.wrote c4 fun j hj => .inr hj
    have hb4 : KBx w4 b k := c4.blk (hbA m3) hne
    have ho4 : OwnS kI 3 0 w4 k.sk xs := (hoA m3).chg c4 (sockNeP (hPA m3) (hoA m3))
    refine KAt.ld (l := .sl) (x := k.sk) (j := 115) ⟨hb4, hk.1⟩ (Kn.getK hk.1) ?_
    refine slices.Clone_int.q ho4 (by omega) fun r w5 b5 h5 => ?_
    have hs4 := m4.low.size
    refine ap1 elI h5 id rfl (by omega) (by omega) b5.size fun s' w6 h6 hg6 hbk6 => ⟨_, rfl, ?_⟩
    have hlo : ∀ g, (Value.slice r.a r.n r.c).ownBlock = some g → w4.heap.size ≤ g := fun g hg => (h5.blk hg).1
    have m6 : MG (X2 b pb) w w6 w6 [(b6, 92, Tup.cells (R 9 (.i .i64)) z9)] := (m4.below b5).new (Chg.of_grown' hg6) fun j hj => ⟨by have := hlo j hj; omega, fun hm => by have := m4.lt hm; have := hlo j hj; omega⟩
    have hb6 : KBx w6 b k := (hg6.block b (hb4.below b5).lt fun e => by have := hlo b e.symm; have := hb.lt; omega).trans (hb4.below b5)
    have hP6 : PBx w6 pb { ps with ids := id } := (hg6.block pb (hP4.below b5).lt fun e => by have := hlo pb e.symm; have := hP.lt; omega).trans (hP4.below b5)
    refine stB hb6 (v := s'.v) rfl (by rw [List.size_toArray, Kn.len hk.1]; omega) fun w7 hg7 hs7 hc7 => ?_
    rw [Kn.putK hk.1] at hc7
    have m7 := m6.wrote (Chg.of_grown (X := bX b) hg7 rfl) fun j hj => .inl hj
    have hP7 : PBx w7 pb { ps with ids := id } := (hg7.block pb hP6.lt fun e => by simp only [Option.some.injEq] at e; exact hne e.symm).trans hP6
    have ho7 : OwnS kI 3 w4.heap.size w7 s' (xs ++ [id]) := ownGrow h6 hb6 (by decide) hg7
    have ks7 : KS w7 b (n + 1) := ⟨⟨k.regs, k.set, s'⟩, xs ++ [id], hc7, ⟨hk.1, hk.2⟩, ho7.low (Nat.zero_le _), by rw [List.length_append]; simp; omega⟩
    have hx6 := m7.box _ _ _ List.mem_cons_self
    show StA P0 ⟨b6, 0, none⟩ (Tup.cells (R 9 (.i .i64)) ((7, 0, 0, 0, 0, 0, 0, 0, id, ()) : T9)) _ _
    refine stR (n := 9) m7 (by with_unfolding_all (repeat (first | exact UpG.head _ _ _ _ _ | apply UpG.tail))) fun w8 hg8 m8 => ldAG m8 (by with_unfolding_all (repeat (first | exact List.mem_cons_self | refine List.mem_cons_of_mem _ ?_))) ?_
    exact hK _ _ (.inr (.inr (.inr (.inr rfl)))) (ks7.grow hx6 (by decide) (.inl (by decide)) hg8) (PI.grow ⟨id, hP7⟩ hx6 (by decide) hg8) m8.low
  · refine impl.known.read.q (hbA m1) hk (by decide) (by decide) (fun va w2 _ hv b2 => ?_) (fun c w' b' => hpA c (m1.below b'))
    refine nwKnow (m1.below b2) fun w3 bv b3 m3 => stR (n := 9) m3 (by with_unfolding_all (repeat (first | exact UpG.head _ _ _ _ _ | apply UpG.tail))) fun w4 _ m4 => ldG m4 (by with_unfolding_all (repeat (first | exact List.mem_cons_self | refine List.mem_cons_of_mem _ ?_))) (by with_unfolding_all rfl) ?_
    clear m3
    refine impl.need.q (fun _ => ?_) (fun _ => hpA _ m4)
    refine ldG m4 (by with_unfolding_all (repeat (first | exact List.mem_cons_self | refine List.mem_cons_of_mem _ ?_))) (by with_unfolding_all rfl) ?_
    refine impl.known.free.q (hbA m4) hk (hoA m4) (by omega) (Nat.zero_le _) fun k' ys w5 hk' hb5 he ho5 hy c5 => ⟨_, rfl, ?_⟩
    have m5 := m4.wrote c5 fun j hj => .inl hj
    have hP5 : PBx w5 pb ps := c5.blk (hPA m4) (Ne.symm hne)
    refine ld99 hb5 hk'.1 fun t76 ht => ?_
    clear m1 m4
    refine ⟨fun i w' => 0 ≤ i ∧ i ≤ 11 ∧ (∃ wr, MG (X2 b pb) w wr w' [(bv, 92, Tup.cells (R 9 (.i .i64)) va), (b6, 92, Tup.cells (R 9 (.i .i64)) z9)]) ∧ KS w' b (n + 1) ∧ PI w' pb ps, fun i _ => (11 - i).toNat, ⟨by omega, by omega, ⟨_, m5⟩, ⟨k', ys, hb5, hk', ho5.low (Nat.zero_le _), by omega⟩, ⟨ps.ids, hP5⟩⟩, ?_⟩
    rintro i w6 ⟨h0, h1, ⟨wr, m6'⟩, ks6, pi6⟩ _
    have m6 := m6'.re
    clear m6' m5
    refine And.intro (fun hl => ?_) (fun _ => ?_)
    · simp only [decide_eq_true_eq] at hl
      obtain ⟨j, rfl⟩ := Int.eq_ofNat_of_zero_le h0
      obtain ⟨vi, hvi, _⟩ := hk'.reg (r := j) (by omega)
      have ew : IntKind.wrap .i64 ((j : Int) + 1) = (j : Int) + 1 := i64_of (by omega) (by omega)
      rw [ew]
      refine ixKnow hk'.1.1 h0 (by simpa using hvi) ht ?_
      refine nwKnow m6 fun w7 bw b7 m7 => ?_
      have hx7 := m7.box _ _ _ List.mem_cons_self
      refine stR (n := 9) m7 (by with_unfolding_all (repeat (first | exact UpG.head _ _ _ _ _ | apply UpG.tail))) fun w8 hg8 m8 => ?_
      have ks8 := (ks6.below b7).grow hx7 (by decide) (.inl (by decide)) hg8
      have pi8 := (pi6.below b7).grow hx7 (by decide) hg8
      have next : (0 ≤ (j : Int) + 1 ∧ (j : Int) + 1 ≤ 11 ∧ (∃ wr, MG (X2 b pb) w wr w8 [(bv, 92, Tup.cells (R 9 (.i .i64)) va), (b6, 92, Tup.cells (R 9 (.i .i64)) z9)]) ∧ KS w8 b (n + 1) ∧ PI w8 pb ps) ∧ (11 - ((j : Int) + 1)).toNat < (11 - (j : Int)).toNat := ⟨⟨by omega, by omega, ⟨_, m8.drop⟩, ks8, pi8⟩, by omega⟩
      clear m7
      refine ldG m8 (by with_unfolding_all (repeat (first | exact List.mem_cons_self | refine List.mem_cons_of_mem _ ?_))) (by with_unfolding_all rfl) (And.intro (fun _ => ?_) (fun _ => next))
      refine ldG m8 (by with_unfolding_all (repeat (first | exact List.mem_cons_self | refine List.mem_cons_of_mem _ ?_))) (by with_unfolding_all rfl) (ldG m8 (by with_unfolding_all (repeat (first | exact List.mem_cons_self | refine List.mem_cons_of_mem _ ?_))) (by with_unfolding_all rfl) (And.intro (fun _ => ⟨_, rfl, ?_⟩) (fun _ => next)))
      refine ixReg (r := j) rfl (by omega) ?_
      obtain ⟨k8, xs8, hb8, hk8, ho8, hn8⟩ := ks8
      show StA P0 ⟨b, 9 * j, none⟩ (Tup.cells (R 9 (.i .i64)) z9) _ _
      refine KAt.stR (k := k8) ⟨hb8, hk8.1⟩ (r := j) (by omega) rfl fun w9 hg9 _ h9 => ?_
      refine ⟨⟨by omega, by omega, ⟨_, (m8.drop).wrote (Chg.of_grown (X := bX b) hg9 rfl) fun j hj => .inl hj⟩, ⟨_, xs8, h9.1, hk8.put Gd.z, ownGrow ho8 hb8 (by decide) hg9, hn8⟩, pi8.grow hb8 (by decide) hg9⟩, next.2⟩
    · refine impl.RangeOne.q (by decide) (by decide) fun r w7 hr b7 => impl.knowNum.q hr fun v w8 _ hv b8 => ?_
      have m8 := (m6.below b7).below b8
      have hx8 : w8.heap[b6]? = some (.cells (Tup.cells (R 9 (.i .i64)) z9).toArray 92 (0, 0)) := m8.box _ _ _ (by simp)
      refine stR (n := 9) m8 (by with_unfolding_all (repeat (first | exact UpG.head _ _ _ _ _ | apply UpG.tail))) fun w9 hg9 m9 => ldAG m9 (by with_unfolding_all (repeat (first | exact List.mem_cons_self | refine List.mem_cons_of_mem _ ?_))) ?_
      exact hK _ _ hv (((ks6.below b7).below b8).grow hx8 (by decide) (.inl (by decide)) hg9) (((pi6.below b7).below b8).grow hx8 (by decide) hg9) m9.low
  · refine impl.rangeAll.q fun r w2 hr b2 => impl.knowNum.q hr fun v w3 _ hv b3 => ?_
    have m3 := (m1.below b2).below b3
    refine stR (n := 9) m3 (by with_unfolding_all (repeat (first | exact UpG.head _ _ _ _ _ | apply UpG.tail))) fun w4 hg4 m4 => ldAG m4 (by with_unfolding_all (repeat (first | exact List.mem_cons_self | refine List.mem_cons_of_mem _ ?_))) ?_
    exact hKA _ m4 hv
  · refine impl.known.read.q (hbA m1) hk (by decide) (by decide) (fun v w2 _ hv b2 => ?_) (fun c w' b' => hpA c (m1.below b'))
    have m2 := m1.below b2
    refine impl.Know.number.q hv (fun r w3 _ hr b3 => ?_) (fun c w' b' => hpA c (m2.below b'))
    have m3 := m2.below b3
    refine impl.RangeOne.q (by decide) (by decide) fun r w4 hr b4 => impl.knowNum.q hr fun v w5 _ hv b5 => ?_
    have m5 := (m3.below b4).below b5
    refine stR (n := 9) m5 (by with_unfolding_all (repeat (first | exact UpG.head _ _ _ _ _ | apply UpG.tail))) fun w4 hg4 m4 => ldAG m4 (by with_unfolding_all (repeat (first | exact List.mem_cons_self | refine List.mem_cons_of_mem _ ?_))) ?_
    exact hKA _ m4 hv
end
end Go.Proofs.YtihllippchgkgaaGreat.V

/- Contracts: the sides of an op that asks; ops that go on. -/
namespace Go.Proofs.YtihllippchgkgaaGreat.V
open Go Go.RowKit
set_option linter.unusedVariables false
set_option linter.unusedSimpArgs false
theorem t4inj {a b : T4} (h : (Value.agg (Tup.cells (R 4 (.i .i64)) a).toArray) = .agg (Tup.cells (R 4 (.i .i64)) b).toArray) : b = a := by
  obtain ⟨a1, a2, a3, a4, ⟨⟩⟩ := a
  obtain ⟨b1, b2, b3, b4, ⟨⟩⟩ := b
  have h1 := congrArg Array.toList (Value.agg.inj h)
  have e1 := congrArg (fun l => l[0]?) h1
  have e2 := congrArg (fun l => l[1]?) h1
  have e3 := congrArg (fun l => l[2]?) h1
  have e4 := congrArg (fun l => l[3]?) h1
  have f1 : some (Value.int .i64 a1) = some (Value.int .i64 b1) := e1
  have f2 : some (Value.int .i64 a2) = some (Value.int .i64 b2) := e2
  have f3 : some (Value.int .i64 a3) = some (Value.int .i64 b3) := e3
  have f4 : some (Value.int .i64 a4) = some (Value.int .i64 b4) := e4
  simp only [Option.some.injEq, Value.int.injEq, true_and] at f1 f2 f3 f4
  subst f1 f2 f3 f4
  rfl
/-- The same below block H. -/
def Bl (H : Nat) (a c : World) : Prop := Below H a c
theorem blOk (w : World) : SpOk (Bl w.heap.size) w := ⟨fun a => Below.refl _ _, fun _ _ _ h1 h2 => h1.trans h2, (Below.refl _ _).drew⟩
theorem sbR (H : Nat) (a : World) : Sb H (Bl H) a a := ⟨Below.refl _ _, Nat.le_refl _, fun _ _ _ => rfl⟩
theorem sbB {H : Nat} {a c : World} (h : Below a.heap.size a c) (hH : H ≤ a.heap.size) : Sb H (Bl H) a c := ⟨h.mono hH, h.size, fun b _ hb => h.block b hb⟩
theorem fillR {H m : Nat} {y : T4} {w : World} (hm : H ≤ m) (hc : w.heap[m]? = some (.cells (zc P0 90) 90 (0, 0))) :
    StA P0 ⟨m, 0, none⟩ (Tup.cells (R 4 (.i .i64)) y) w fun w' => GS (.o (.ag (R 4 (.i .i64)))) (Bl H) w (prG fun _ => True) m 90 (.agg (Tup.cells (R 4 (.i .i64)) y).toArray) w' := by
  rw [zcRange'] at hc
  obtain ⟨w', hr, hg, hsz, hh⟩ := run_storeCells_at' P0 (b := m) (t := 90) (Tup.cells (R 4 (.i .i64)) y) 0 [] (Tup.cells (R 4 (.i .i64)) ((0, 0, 0, 0, ()) : T4)) w (oneCellR (by intro h; cases h) y) rfl rfl (by simpa using hc)
  have hh' : w'.heap[m]? = some (.cells (Tup.cells (R 4 (.i .i64)) y).toArray 90 (0, 0)) := by simpa using hh
  refine ⟨w', hr, y, rfl, ⟨hg.os, hg.tape, hg.output, hg.size, fun k hk => ?_⟩, ⟨hg.size, fun k hk hne => hg.block k hk (by simpa using hne), hh'⟩, trivial⟩
  have := lt_blk hc
  exact hg.block k (by omega) (by simp only [ne_eq, Option.some.injEq]; omega)
/-- A register with another range. -/
def T9.wr (v : T9) (y : T4) : T9 := (v.1, y.1, y.2.1, y.2.2.1, y.2.2.2.1, v.2.2.2.2.2.1, v.2.2.2.2.2.2.1, v.2.2.2.2.2.2.2.1, v.2.2.2.2.2.2.2.2.1, ())
theorem RegOk.wr {v : T9} {y : T4} (h : RegOk v) (hy : Gd y) : RegOk (v.wr y) := by
  rcases h with h | h | h | h | h
  · exact .inl h
  · exact .inr (.inl ⟨h.1, hy⟩)
  · exact .inr (.inr (.inl h))
  · exact .inr (.inr (.inr (.inl h)))
  · exact .inr (.inr (.inr (.inr h)))
section
variable {P : Program} {t : TypeId} {w : World} {b pb : Nat} {k : Kn} {xs : List Int}
theorem KAt.stRng (h : KAt t w b k) {r : Nat} (hr : r < 11) {v : T9} (hv : k.regs[r]? = some v) {y : T4} {K : World → Prop}
    (hk : ∀ w', w.grownBy w' (some b) → KAt t w' b ⟨k.regs.set r (v.wr y), k.set, k.sk⟩ → K w') : StA P (Addr.add ⟨b, 9 * r, none⟩ 1) (Tup.cells (R 4 (.i .i64)) y) w K := by
  rw [add_mk]
  have hl4 : (Tup.cells (R 4 (.i .i64)) y).length = 4 := V.cells_length _ _
  obtain ⟨w', cur, hrun, hg, hsz, hh, hin, hout⟩ := run_storeCells_in P (b := b) (t := t) (9 * r + 1) (Tup.cells (R 4 (.i .i64)) y) 0 k.cells.toArray w (oneCellR (by intro h; cases h) y) (by rw [hl4, List.size_toArray, Kn.len h.2]; omega) h.1
  refine ⟨w', hrun, hk w' hg ⟨?_, by simpa using h.2.1, h.2.2⟩⟩
  have hput := Kn.put h.2 hr (v.wr y) (cur := cur) (fun j u hu => ?_) (fun p hp => hout p (by omega))
  · rw [hh, hput]
  · have hlt : j < 9 := by have := (List.getElem?_eq_some_iff.1 hu).1; rwa [V.cells_length] at this
    have old : ∀ {j : Nat} {u : Value}, (j = 0 ∨ 5 ≤ j) → (Tup.cells (R 9 (.i .i64)) v)[j]? = some u → cur[9 * r + j]? = some u := fun hj hu => by
      rw [hout _ (by rw [hl4]; omega), List.getElem?_toArray]
      exact Kn.get hv hu
    have new : ∀ {j : Nat} {u : Value}, (Tup.cells (R 4 (.i .i64)) y)[j]? = some u → cur[9 * r + (j + 1)]? = some u := fun {j u} hu => by
      have := hin j u hu
      rwa [show 9 * r + 1 + 0 + j = 9 * r + (j + 1) by omega] at this
    match j, hlt, hu with
    | 0, _, hu => exact old (.inl rfl) hu
    | 1, _, hu => exact new (j := 0) hu
    | 2, _, hu => exact new (j := 1) hu
    | 3, _, hu => exact new (j := 2) hu
    | 4, _, hu => exact new (j := 3) hu
    | 5, _, hu => exact old (.inr (by omega)) hu
    | 6, _, hu => exact old (.inr (by omega)) hu
    | 7, _, hu => exact old (.inr (by omega)) hu
    | 8, _, hu => exact old (.inr (by omega)) hu
set_option maxHeartbeats 1000000 in
theorem impl.known.side.q {n : Nat} {x : Ins} {is : Bool} (hb : KBx w b k) (hk : RK k) (ho : OwnS kI 3 0 w k.sk xs) (hn : xs.length ≤ n) (hn2 : n ≤ 2000) (hx : InsP x) {K : Bool → World → Prop} {Kp : List PanicEntry → World → Prop}
    (hK : ∀ ok w', KS w' b n → Chg (bX b) w w' → K ok w') (hp : ∀ c w', Chg (bX b) w w' → Kp (trapCh c) w') :
    CallP (.o (.lf .b)) P0 142 [.pointer (some ⟨b, 0, none⟩), .agg (Tup.cells (R 6 (.i .i64)) x.t).toArray, .bool is] w K Kp := by
  obtain ⟨hx1, hx2, hx3, hx4, hx5⟩ := hx
  refine impl.known.side.ok ?_
  unfold impl.known.side.vc
  refine nwL (MG.start (bX b) w fun j hj => by rw [hj]; exact hb.lt) fun w1 bx b1 m1 => ?_
  have done : ∀ {w' : World} {k' : Kn} (ok : Bool), Chg (bX b) w w' → KBx w' b k' → RK k' → k'.sk = k.sk → K ok w' := fun ok hc hb' hk' hs' => by
    have h2 := ho.chg hc (sockNe hb ho)
    rw [← hs'] at h2
    exact hK _ _ ⟨_, xs, hb', hk', h2, hn⟩ hc
  refine ldG m1 (by with_unfolding_all (repeat (first | exact List.mem_cons_self | refine List.mem_cons_of_mem _ ?_))) (by with_unfolding_all rfl) ?_
  refine impl.known.read.q (hb.below b1) hk hx1.1 hx1.2 (fun va w2 hva0 hva b2 => ?_) (fun c w4 b4 => hp _ _ (m1.below b4).low)
  refine nwKnow (m1.below b2) fun w3 ba b3 m3 => ?_
  refine stR (n := 9) m3 (by with_unfolding_all (repeat (first | exact UpG.head _ _ _ _ _ | apply UpG.tail))) fun w4 g4 m4 => ?_
  refine ldAG m4 (by with_unfolding_all (repeat (first | exact List.mem_cons_self | refine List.mem_cons_of_mem _ ?_))) ?_
  refine impl.known.operand.q (m4.keep hb hb.lt) hk hx2 hx4 (fun vb w5 hvb0 hvb b5 => ?_) (fun c w4 b4 => hp _ _ (m4.below b4).low)
  refine nwKnow (m4.below b5) fun w6 bb b6 m6 => ?_
  refine stR (n := 9) m6 (by with_unfolding_all (repeat (first | exact UpG.head _ _ _ _ _ | apply UpG.tail))) fun w7 g7 m7 => ?_
  clear m1 m3 m4 m6
  refine ⟨fun q w' => MG (bX b) w w w' [(bb, 92, Tup.cells (R 9 (.i .i64)) vb), (ba, 92, Tup.cells (R 9 (.i .i64)) va), (bx, 82, Tup.cells (R 6 (.i .i64)) x.t)], ?_, fun eq w8 m8 _ => ?_⟩
  · exact ldG m7 (by with_unfolding_all (repeat (first | exact List.mem_cons_self | refine List.mem_cons_of_mem _ ?_))) (by with_unfolding_all rfl) (And.intro (fun _ => m7) (fun _ => ldG m7 (by with_unfolding_all (repeat (first | exact List.mem_cons_self | refine List.mem_cons_of_mem _ ?_))) (by with_unfolding_all rfl) m7))
  refine ⟨fun q w' => MG (bX b) w w w' [(bb, 92, Tup.cells (R 9 (.i .i64)) vb), (ba, 92, Tup.cells (R 9 (.i .i64)) va), (bx, 82, Tup.cells (R 6 (.i .i64)) x.t)], ?_, fun q w9 m9 _ => ?_⟩
  · refine ldG m8 (by with_unfolding_all (repeat (first | exact List.mem_cons_self | refine List.mem_cons_of_mem _ ?_))) (by with_unfolding_all rfl) (And.intro (fun _ => ?_) (fun _ => m8))
    refine ldG m8 (by with_unfolding_all (repeat (first | exact List.mem_cons_self | refine List.mem_cons_of_mem _ ?_))) (by with_unfolding_all rfl) (And.intro (fun _ => ?_) (fun _ => m8))
    exact ldG m8 (by with_unfolding_all (repeat (first | exact List.mem_cons_self | refine List.mem_cons_of_mem _ ?_))) (by with_unfolding_all rfl) (And.intro (fun _ => m8) (fun _ => m8))
  clear m7 m8
  have hb9 : KBx w9 b k := m9.keep hb hb.lt
  refine And.intro (fun _ => ?_) (fun _ => ?_)
  · refine ldG m9 (by with_unfolding_all (repeat (first | exact List.mem_cons_self | refine List.mem_cons_of_mem _ ?_))) (by with_unfolding_all rfl) (ldAG m9 (by with_unfolding_all (repeat (first | exact List.mem_cons_self | refine List.mem_cons_of_mem _ ?_))) (impl.Know.isMaybe.q fun w10 b10 => ?_))
    have m10 := m9.below b10
    refine And.intro (fun _ => done _ m10.low (hb9.below b10) hk rfl) (fun hc => ?_)
    refine ldAG m10 (by with_unfolding_all (repeat (first | exact List.mem_cons_self | refine List.mem_cons_of_mem _ ?_))) ?_
    have h7 : va.kd = 7 := by
      have hc : (!decide (va.kd = 5 ∨ va.kd = 7)) = false := hc
      simp only [Bool.not_eq_false', decide_eq_true_eq] at hc
      rcases hva with h | h | h | h | h <;> omega
    have ho10 := ho.chg m10.low (sockNe hb ho)
    exact impl.known.turned.q (hb9.below b10) hk ho10 (by omega) h7 fun w11 ks c11 => by
      obtain ⟨k', ys, g1, g2, g3, g4⟩ := ks
      exact hK _ _ ⟨k', ys, g1, g2, g3, by omega⟩ (m10.low.trans c11 fun _ _ h => h)
  · refine ⟨Bl w9.heap.size, blOk _, prG (fun n => n = x.op), keptPr, prG (fun y => y = va), keptPr, prG Gd, keptPr, prG (fun y => y = vb), keptPr, prG Gd, keptPr, prG (fun y => y.2.2.1 = true → Gd y.1 ∧ Gd y.2.1), keptPr, prG fun _ => True, keptPr, prG fun _ => True, keptPr, fun w10 hs => ?_, fun t61 => ⟨fun w10 hs => ?_, fun t62 => ⟨fun w10 hs e => ?_, fun t63 => ⟨fun w10 hs => ?_, fun t64 => ⟨fun w10 hs e => ?_, fun t65 => ⟨fun w10 hs e1 e2 e3 => ?_, fun t67 => ⟨fun w10 hs => ?_, fun m => ⟨fun w10 hs => ?_, fun n' => ⟨fun w10 hs _ hm hc => fillR hm hc, ⟨_, rfl⟩, fun st hst => ⟨fun w10 hs _ hm hc => fillR hm hc, ⟨_, rfl⟩, fun st1 hst1 w10 hs _ _ _ _ _ e67 _ _ hbx => ?_⟩⟩⟩⟩⟩⟩⟩⟩⟩⟩
    · have m10 := m9.below hs
      exact ldG m10 (by with_unfolding_all (repeat (first | exact List.mem_cons_self | refine List.mem_cons_of_mem _ ?_))) (by with_unfolding_all rfl) (gkP rfl (sbR _ _) rfl)
    · have m10 := m9.below hs
      exact ldAG m10 (by with_unfolding_all (repeat (first | exact List.mem_cons_self | refine List.mem_cons_of_mem _ ?_))) (gkP rfl (sbR _ _) rfl)
    · obtain rfl : t62 = _ := e
      have m10 := m9.below hs
      exact impl.Know.number.q hva (fun r w11 _ hr b11 => gkP rfl (sbB b11 hs.size) hr) (fun c w11 b11 _ => hp _ _ (m10.below b11).low)
    · have m10 := m9.below hs
      exact ldAG m10 (by with_unfolding_all (repeat (first | exact List.mem_cons_self | refine List.mem_cons_of_mem _ ?_))) (gkP rfl (sbR _ _) rfl)
    · obtain rfl : t64 = _ := e
      have m10 := m9.below hs
      exact impl.Know.number.q hvb (fun r w11 _ hr b11 => gkP rfl (sbB b11 hs.size) hr) (fun c w11 b11 _ => hp _ _ (m10.below b11).low)
    · exact impl.branch.q e2 e3 fun x y ok w' hok hb' => ⟨(x, y, ok, ()), rfl, sbB hb' hs.size, hok⟩
    · exact nw fun w' hb' hsz hc => ⟨rfl, sbB hb' hs.size, by omega, hc⟩
    · exact nw fun w' hb' hsz hc => ⟨rfl, sbB hb' hs.size, by omega, hc⟩
    obtain rfl : st = t67.1 := t4inj hst
    obtain rfl : st1 = t67.2.1 := t4inj hst1
    have m10 := m9.below hs
    have xm := hbx.1 _ List.mem_cons_self
    have xn := hbx.1 _ (List.mem_cons_of_mem _ List.mem_cons_self)
    have hmn : m ≠ n' := by
      have := hbx.2
      simp only [List.map_cons, List.map_nil, List.nodup_cons, List.mem_cons, List.not_mem_nil, or_false] at this
      exact this.1
    have hs9 := m9.low.size
    have mA : MG (bX b) w w w10 [(m, 90, Tup.cells (R 4 (.i .i64)) t67.1), (bb, 92, Tup.cells (R 9 (.i .i64)) vb), (ba, 92, Tup.cells (R 9 (.i .i64)) va), (bx, 82, Tup.cells (R 6 (.i .i64)) x.t)] :=
      m10.ext xm.2.2 (by have := xm.1; show w.heap.size ≤ m; omega) fun h => by have := m9.lt h; have := xm.1; omega
    have mB : MG (bX b) w w w10 [(n', 90, Tup.cells (R 4 (.i .i64)) t67.2.1), (m, 90, Tup.cells (R 4 (.i .i64)) t67.1), (bb, 92, Tup.cells (R 9 (.i .i64)) vb), (ba, 92, Tup.cells (R 9 (.i .i64)) va), (bx, 82, Tup.cells (R 6 (.i .i64)) x.t)] :=
      mA.ext xn.2.2 (by have := xn.1; show w.heap.size ≤ n'; omega) fun h => by
        rcases List.mem_cons.1 h with h | h
        · exact hmn h.symm
        · have := m9.lt h; have := xn.1; omega
    clear m9 m10 mA
    refine ⟨fun q w' => MG (bX b) w w w' [(n', 90, Tup.cells (R 4 (.i .i64)) t67.2.1), (m, 90, Tup.cells (R 4 (.i .i64)) t67.1), (bb, 92, Tup.cells (R 9 (.i .i64)) vb), (ba, 92, Tup.cells (R 9 (.i .i64)) va), (bx, 82, Tup.cells (R 6 (.i .i64)) x.t)] ∧ (q = true → t67.2.2.1 = true), And.intro (fun h => ?_) (fun _ => ⟨mB, fun h => by simp at h⟩), fun q w11 ⟨m11, hq⟩ _ => ?_⟩
    · exact ldG mB (by with_unfolding_all (repeat (first | exact List.mem_cons_self | refine List.mem_cons_of_mem _ ?_))) (by with_unfolding_all rfl) (ldG mB (by with_unfolding_all (repeat (first | exact List.mem_cons_self | refine List.mem_cons_of_mem _ ?_))) (by with_unfolding_all rfl) ⟨mB, fun _ => h⟩)
    clear mB
    have hb11 : KBx w11 b k := m11.keep hb hb.lt
    refine And.intro (fun hq1 => ?_) (fun _ => done _ m11.low hb11 hk rfl)
    obtain ⟨hg1, hg2⟩ := e67 (hq hq1)
    obtain ⟨r, hr⟩ := Int.eq_ofNat_of_zero_le hx1.1
    have hr11 : r < 11 := by omega
    refine ⟨SpB b (KOk k.sk), spbOk _ _ _ hb11.lt, prG (fun n => n = x.dst), keptPr, prG (fun y => y = t67.1), keptPr, prG (fun a => a = ⟨b, 0, none⟩), keptPr, prG (fun a => a = ⟨b, 9 * r, none⟩), keptPr, prG fun _ => True, keptPr, fun w12 hs => ?_, fun t81 => ⟨fun w12 hs => ?_, fun t82 => ⟨fun w12 hs => ⟨_, rfl, gkP rfl (SpB.refl _ _ _) rfl⟩, fun t83 => ⟨fun w12 hs e1 e2 => ?_, fun t85 => ⟨fun w12 hs e1 e2 => ?_, fun st w12 hs _ _ _ _ _ => ?_⟩⟩⟩⟩⟩
    · have m12 := m11.wrote hs.chg fun _ h => h
      exact ldG m12 (by with_unfolding_all (repeat (first | exact List.mem_cons_self | refine List.mem_cons_of_mem _ ?_))) (by with_unfolding_all rfl) (gkP rfl (SpB.refl _ _ _) rfl)
    · have m12 := m11.wrote hs.chg fun _ h => h
      exact ldAG m12 (by with_unfolding_all (repeat (first | exact List.mem_cons_self | refine List.mem_cons_of_mem _ ?_))) (gkP rfl (SpB.refl _ _ _) rfl)
    · obtain rfl : t81 = _ := e1
      obtain rfl : t83 = _ := e2
      exact ixReg (r := r) hr hr11 (gkP rfl (SpB.refl _ _ _) rfl)
    · obtain rfl : t82 = _ := e1
      obtain rfl : t85 = _ := e2
      obtain ⟨k3, hb3, hk3, h3⟩ := hs.kok hb11 hk rfl
      obtain ⟨v3, hv3, ho3⟩ := hk3.reg hr11
      exact KAt.stRng ⟨hb3, hk3.1⟩ hr11 hv3 fun w13 hg h13 => ⟨(), rfl, SpB.of_kbx (.of_grown hg rfl) h13.1 (hk3.put (ho3.wr hg1)) h3, trivial⟩
    obtain ⟨k3, hb3, hk3, h3⟩ := hs.kok hb11 hk rfl
    have m12 := m11.wrote hs.chg fun _ h => h
    clear m11
    refine ldG m12 (by with_unfolding_all (repeat (first | exact List.mem_cons_self | refine List.mem_cons_of_mem _ ?_))) (by with_unfolding_all rfl) (And.intro (fun hc => ?_) (fun _ => done _ m12.low hb3 hk3 h3))
    have hc : (x.src != -1) = true := hc
    simp only [bne_iff_ne, ne_eq] at hc
    obtain ⟨r2, hr2⟩ := Int.eq_ofNat_of_zero_le (a := x.src) (by omega)
    have hr211 : r2 < 11 := by omega
    refine ⟨SpB b (KOk k.sk), spbOk _ _ _ hb3.lt, prG (fun n => n = x.src), keptPr, prG (fun y => y = t67.2.1), keptPr, prG (fun a => a = ⟨b, 0, none⟩), keptPr, prG (fun a => a = ⟨b, 9 * r2, none⟩), keptPr, prG fun _ => True, keptPr, fun w13 hs => ?_, fun t92 => ⟨fun w13 hs => ?_, fun t93 => ⟨fun w13 hs => ⟨_, rfl, gkP rfl (SpB.refl _ _ _) rfl⟩, fun t94 => ⟨fun w13 hs e1 e2 => ?_, fun t96 => ⟨fun w13 hs e1 e2 => ?_, fun st w13 hs _ _ _ _ _ => ?_⟩⟩⟩⟩⟩
    · have m13 := m12.wrote hs.chg fun _ h => h
      exact ldG m13 (by with_unfolding_all (repeat (first | exact List.mem_cons_self | refine List.mem_cons_of_mem _ ?_))) (by with_unfolding_all rfl) (gkP rfl (SpB.refl _ _ _) rfl)
    · have m13 := m12.wrote hs.chg fun _ h => h
      exact ldAG m13 (by with_unfolding_all (repeat (first | exact List.mem_cons_self | refine List.mem_cons_of_mem _ ?_))) (gkP rfl (SpB.refl _ _ _) rfl)
    · obtain rfl : t92 = _ := e1
      obtain rfl : t94 = _ := e2
      exact ixReg (r := r2) hr2 hr211 (gkP rfl (SpB.refl _ _ _) rfl)
    · obtain rfl : t93 = _ := e1
      obtain rfl : t96 = _ := e2
      obtain ⟨k4, hb4, hk4, h4⟩ := hs.kok hb3 hk3 h3
      obtain ⟨v4, hv4, ho4⟩ := hk4.reg hr211
      exact KAt.stRng ⟨hb4, hk4.1⟩ hr211 hv4 fun w14 hg h14 => ⟨(), rfl, SpB.of_kbx (.of_grown hg rfl) h14.1 (hk4.put (ho4.wr hg2)) h4, trivial⟩
    · obtain ⟨k4, hb4, hk4, h4⟩ := hs.kok hb3 hk3 h3
      exact done _ (m12.wrote hs.chg fun _ h => h).low hb4 hk4 h4
theorem impl.proof.step.q {n : Nat} {ps : PS} {x : Ins} (hb : KBx w b k) (hk : RK k) (ho : OwnS kI 3 0 w k.sk xs) (hn : xs.length ≤ n) (hn2 : n ≤ 2000) (hP : PBx w pb ps) (hx : InsP x) (hop : x.op ≤ 11 ∨ (17 ≤ x.op ∧ x.op ≤ 19)) {K : Unit → World → Prop} {Kp : List PanicEntry → World → Prop}
    (hK : ∀ w', KS w' b (n + 1) → PI w' pb ps → Chg (X2 b pb) w w' → K () w') (hp : ∀ c w', PI w' pb ps → Chg (X2 b pb) w w' → Kp (trapCh c) w') :
    CallP .z P0 143 [.pointer (some ⟨pb, 0, none⟩), .pointer (some ⟨b, 0, none⟩), .agg (Tup.cells (R 6 (.i .i64)) x.t).toArray] w K Kp := by
  have hne : b ≠ pb := PBx.ne hP hb
  refine impl.proof.step.ok ?_
  unfold impl.proof.step.vc
  refine nwL (MG.start (X2 b pb) w fun j hj => by rcases hj with rfl | rfl; exact hb.lt; exact hP.lt) fun w1 bx b1 m1 => ?_
  have hb1 := hb.below b1
  have hP1 := hP.below b1
  have ho1 := ho.below b1
  have fin : ∀ {w' : World} {k' : Kn}, RK k' → k'.sk = k.sk → KBx w' b k' → Chg (bX b) w1 w' → K () w' := fun {w' k'} hk' hs hb' hc => by
    have h2 := ho1.chg hc (sockNe hb1 ho1)
    rw [← hs] at h2
    exact hK _ ⟨k', xs, hb', hk', h2, by omega⟩ ⟨ps.ids, hc.blk hP1 (Ne.symm hne)⟩ (m1.wrote hc fun j hj => .inl hj).low
  have finP : ∀ {w' : World} (c : Int), Chg (bX b) w1 w' → Kp (trapCh c) w' := fun c hc => hp c _ ⟨ps.ids, hc.blk hP1 (Ne.symm hne)⟩ (m1.wrote hc fun j hj => .inl hj).low
  refine ldG m1 (by with_unfolding_all (repeat (first | exact List.mem_cons_self | refine List.mem_cons_of_mem _ ?_))) (by with_unfolding_all rfl) (impl.kind.reckons.c (And.intro (fun hc => ?_) (fun hc => ?_)))
  · simp only [decide_eq_true_eq] at hc
    exact ldAG m1 (by with_unfolding_all (repeat (first | exact List.mem_cons_self | refine List.mem_cons_of_mem _ ?_))) (impl.known.reckons.q hb1 hk hx hc (fun k' w' h1 h2 h3 h4 => fin h1 h2 h3 h4) fun c w' h => finP c h)
  refine ldG m1 (by with_unfolding_all (repeat (first | exact List.mem_cons_self | refine List.mem_cons_of_mem _ ?_))) (by with_unfolding_all rfl) (And.intro (fun hc2 => ?_) (fun hc2 => ?_))
  · have hc2 : (x.op == 17) = true := hc2
    exact ldAG m1 (by with_unfolding_all (repeat (first | exact List.mem_cons_self | refine List.mem_cons_of_mem _ ?_))) (impl.proof.load.q hb1 hk hx (by simpa using hc2) (fun k' w' h1 h2 h3 h4 => fin h1 h2 h3 h4) fun c w' h => finP c h)
  refine ldG m1 (by with_unfolding_all (repeat (first | exact List.mem_cons_self | refine List.mem_cons_of_mem _ ?_))) (by with_unfolding_all rfl) (And.intro (fun hc3 => ?_) (fun hc3 => ?_))
  · have hc3 : (x.op == 18) = true := hc3
    exact ldAG m1 (by with_unfolding_all (repeat (first | exact List.mem_cons_self | refine List.mem_cons_of_mem _ ?_))) (impl.proof.store.q hb1 hk hx (by simpa using hc3) (fun k' w' h1 h2 h3 h4 => fin h1 h2 h3 h4) fun c w' h => finP c h)
  refine ldG m1 (by with_unfolding_all (repeat (first | exact List.mem_cons_self | refine List.mem_cons_of_mem _ ?_))) (by with_unfolding_all rfl) ?_
  refine impl.proof.call.q hb1 hk ho1 hn hn2 hP1 (fun v w2 hv ks2 pi2 c2 => ?_) (fun c w2 pi2 c2 => hp c _ pi2 (m1.wrote c2 fun _ h => h).low)
  have m2 := m1.wrote c2 fun _ h => h
  refine nwKnow m2 fun w3 bv b3 m3 => ?_
  have hx3 := m3.box _ _ _ List.mem_cons_self
  refine stR (n := 9) m3 (by with_unfolding_all (repeat (first | exact UpG.head _ _ _ _ _ | apply UpG.tail))) fun w4 hg4 m4 => ?_
  have ks4 := (ks2.below b3).grow hx3 (by decide) (.inl (by decide)) hg4
  have pi4 := (pi2.below b3).grow hx3 (by decide) hg4
  clear m3 m2
  refine ⟨fun i w' => 1 ≤ i ∧ i ≤ 6 ∧ (∃ wr, MG (X2 b pb) w wr w' [(bv, 92, Tup.cells (R 9 (.i .i64)) v), (bx, 82, Tup.cells (R 6 (.i .i64)) x.t)]) ∧ KS w' b (n + 1) ∧ PI w' pb ps, fun i _ => (6 - i).toNat, ⟨by omega, by omega, ⟨_, m4⟩, ks4, pi4⟩, ?_⟩
  rintro i w5 ⟨h1, h6, ⟨wr, m5'⟩, ks5, pi5⟩ _
  have m5 := m5'.re
  clear m5' m4
  obtain ⟨k5, xs5, hb5, hk5, ho5, hn5⟩ := ks5
  refine And.intro (fun hl => ⟨_, rfl, ?_⟩) (fun _ => ?_)
  · simp only [decide_eq_true_eq] at hl
    obtain ⟨j, rfl⟩ := Int.eq_ofNat_of_zero_le (a := i) (by omega)
    refine ixReg (r := j) rfl (by omega) ?_
    show StA P0 ⟨b, 9 * j, none⟩ (Tup.cells (R 9 (.i .i64)) z9) _ _
    refine KAt.stR (k := k5) ⟨hb5, hk5.1⟩ (r := j) (by omega) rfl fun w9 hg9 _ h9 => ?_
    rw [i64_of (n := (j : Int) + 1) (by omega) (by omega)]
    exact ⟨⟨by omega, by omega, ⟨_, m5.wrote (Chg.of_grown (X := bX b) hg9 rfl) fun j hj => .inl hj⟩, ⟨_, xs5, h9.1, hk5.put Gd.z, ownGrow ho5 hb5 (by decide) hg9, hn5⟩, pi5.grow hb5 (by decide) hg9⟩, by show (6 - ((j : Int) + 1)).toNat < (6 - (j : Int)).toNat; omega⟩
  · refine ⟨SpB b (KOk k5.sk), spbOk _ _ _ hb5.lt, prG (fun y => y = v), keptPr, prG (fun a => a = ⟨b, 0, none⟩), keptPr, prG (fun a => a = ⟨b, 9 * 0, none⟩), keptPr, prG fun _ => True, keptPr, fun w6 hs => ?_, fun t24 => ⟨fun w6 hs => ⟨_, rfl, gkP rfl (SpB.refl _ _ _) rfl⟩, fun t25 => ⟨fun w6 hs e => ?_, fun t27 => ⟨fun w6 hs e1 e2 => ?_, fun st w6 hs _ _ _ _ => ?_⟩⟩⟩⟩
    · have m6 := m5.wrote hs.chg fun j hj => .inl hj
      exact ldAG m6 (by with_unfolding_all (repeat (first | exact List.mem_cons_self | refine List.mem_cons_of_mem _ ?_))) (gkP rfl (SpB.refl _ _ _) rfl)
    · obtain rfl : t25 = _ := e
      exact ixReg (r := 0) rfl (by omega) (gkP rfl (SpB.refl _ _ _) rfl)
    · obtain rfl : t24 = _ := e1
      obtain rfl : t27 = _ := e2
      obtain ⟨k3, hb3, hk3, h3⟩ := hs.kok hb5 hk5 rfl
      exact KAt.stR (k := k3) ⟨hb3, hk3.1⟩ (r := 0) (by omega) rfl fun w7 hg _ h7 => ⟨(), rfl, SpB.of_kbx (.of_grown hg rfl) h7.1 (hk3.put hv) h3, trivial⟩
    · obtain ⟨k3, hb3, hk3, h3⟩ := hs.kok hb5 hk5 rfl
      have m6 := m5.wrote hs.chg fun j hj => .inl hj
      have h2 := ho5.chg hs.chg (sockNe hb5 ho5)
      rw [← h3] at h2
      exact hK _ ⟨k3, xs5, hb3, hk3, h2, hn5⟩ (pi5.chg hs.chg (Ne.symm hne)) m6.low
end
end Go.Proofs.YtihllippchgkgaaGreat.V

/- Contracts: the draws of programs. -/
namespace Go.Proofs.YtihllippchgkgaaGreat.V
open Go Go.RowKit
set_option linter.unusedVariables false
set_option linter.unusedSimpArgs false
theorem grown_newO {w w1 w2 : World} {row row2 : Option Nat} (h : w.grownBy w1 row) (h2 : w1.grownBy w2 row2) (hb : ∀ b, row2 = some b → w.heap.size ≤ b) : w.grownBy w2 row :=
  ⟨h2.os.trans h.os, h2.tape.trans h.tape, h2.output.trans h.output, Nat.le_trans h.size h2.size, fun k hk hne => (h2.block k (Nat.lt_of_lt_of_le hk h.size) (fun e => by have := hb k e.symm; omega)).trans (h.block k hk hne)⟩
section
variable {B br m : Nat} {w : World}
theorem OwnS.keptBr {α : Type} {k : Kd α} {t : TypeId} {B' : Nat} {w1 w2 : World} {s : Sl} {xs : List α} (ho : OwnS k t B' w1 s xs) (hg : w1.grownBy w2 (some br)) (h : br < B') : OwnS k t B' w2 s xs :=
  ho.kept hg (fun b hb e => by simp only [Option.some.injEq] at hb; have := (ho.blk e).1; omega)
theorem RdS.keptO {α : Type} {k : Kd α} {t : TypeId} {B' : Nat} {w1 w2 : World} {s : Sl} {xs : List α} (h : RdS B br m w1) (ho : OwnS k t B' w1 s xs) (hg : w1.grownBy w2 (Value.slice s.a s.n s.c).ownBlock) (hb : br < B') : RdS B br m w2 :=
  h.kept hg (fun b e => by have := (ho.blk e).1; omega)
def MkI (B br m : Nat) (w : World) (t : Int) (out : Sl) (w' : World) : Prop :=
  ∃ ys, OwnS kIns 82 w.heap.size w' out ys ∧ 4 ≤ ys.length ∧ (ys.length : Int) ≤ t + 8 ∧ RdS B br (m + 1 + 8 * (ys.length - 4)) w' ∧ w.grownBy w' (some br)
set_option maxHeartbeats 1000000 in
theorem spec.l20Make.c {K : Sl → World → Prop} (h : RdS B br m w) (hm : m ≤ 800000000) (hk : ∀ r w' ys, w.grownBy w' (some br) → RdS B br (m + 200) w' → OwnS kIns 82 w.heap.size w' r ys → 1 ≤ ys.length → ys.length ≤ 40 → K r w') :
    CallT (.o (.lf .sl)) P0 78 [.pointer (some ⟨br, 0, none⟩)] w K := by
  have hlt := h.lt
  refine spec.l20Make.ok (nw fun w1 b1 s1 c1 => ?_)
  have hl : OwnS kS 9 w.heap.size w1 ⟨some ⟨w.heap.size, 0, none⟩, 4, 4⟩ [_, _, _, _] := OwnS.lit (Nat.le_refl _) c1 rfl rfl (by simp [maxLen])
  refine spec.l20Read.c (l := ⟨some ⟨w.heap.size, 0, none⟩, 4, 4⟩) hl.read (by simp) (by decide) fun r0 w2 ys0 b2 ho2 hl2 => ?_
  have g2 : w.grownBy w2 (some br) := grown_trans (grown_any b1) (grown_any b2)
  refine spec.l20Rd.pick.c ((h.below b1).below b2) (by omega) (by omega) fun t10 w3 p0 p1 g3 r3 => ?_
  have hN : IntKind.wrap .i64 (IntKind.wrap .i64 (4 + t10) + 4) = t10 + 8 := by rw [i64_of (n := 4 + t10) (by omega) (by omega), i64_of (by omega) (by omega)]; omega
  simp only [List.length_cons, List.length_nil] at hl2
  refine ⟨MkI B br m w t10, fun out _ => 40 - out.n, ⟨ys0, (ho2.low b1.size).keptBr g3 hlt, by omega, by omega, r3.more (by omega), grown_trans g2 g3⟩, ?_⟩
  rintro out w4 ⟨ys, ho, hl4, hln, hr, hg⟩ _
  have hn := ho.len
  rw [hN]
  have app : ∀ {w5 : World} {K' : Sl → World → Prop} (y : Ins) (p : Nat), w4.grownBy w5 (some br) → RdS B br p w5 →
      (∀ o' w7, OwnS kIns 82 w.heap.size w7 o' (ys ++ [y]) → RdS B br p w7 → w.grownBy w7 (some br) → K' o' w7) →
      Nw y.cs 82 w5 fun a w6 => RunT (.o (.lf .sl)) P0 (Builtin.append_ #[23, 23] 23 #[.slice out.a out.n out.c, .slice (some a) 1 1]) w6 K' := by
    intro w5 K' y p g5 r5 hk'
    have o5 := ho.keptBr g5 hlt
    have G5 := grown_trans hg g5
    refine ap1 elIns o5 y rfl (by omega) (by omega) G5.size fun o' w6 o6 g6 _ => ?_
    exact hk' o' w6 o6 (r5.keptO o5 g6 hlt) (grown_newO G5 g6 (fun b hb => (o5.blk hb).1))
  refine And.intro (fun hlt' => ?_) (fun hge => ?_)
  · simp only [decide_eq_true_eq] at hlt'
    have fin : ∀ {w5 : World} (y : Ins), w4.grownBy w5 (some br) → RdS B br (m + 1 + 8 * (ys.length - 4) + 8) w5 →
        Nw y.cs 82 w5 fun a w6 => RunT (.o (.lf .sl)) P0 (Builtin.append_ #[23, 23] 23 #[.slice out.a out.n out.c, .slice (some a) 1 1]) w6 fun o' w7 => MkI B br m w t10 o' w7 ∧ 40 - o'.n < 40 - out.n := by
      intro w5 y g5 r5
      refine app y _ g5 r5 fun o' w7 o7 r7 g7 => ?_
      have hl7 := o7.len
      simp only [List.length_append, List.length_cons, List.length_nil] at hl7
      exact ⟨⟨ys ++ [y], o7, by simp; omega, by simp; omega, r7.more (by simp; omega), g7⟩, by omega⟩
    refine spec.l20Rd.pick.c hr (by omega) (by omega) fun t23 w5 q0 q1 g5 r5 => ?_
    refine ⟨fun _ w' => w' = w5, And.intro (fun _ => rfl) (fun _ => rfl), ?_⟩
    rintro t29 w6 rfl _
    refine And.intro (fun _ => ?_) (fun _ => ?_)
    · refine spec.l20Rd.pick.c r5 (by omega) (by omega) fun t33 w7 _ _ g7 r7 => ?_
      refine oneLit (xs := [0, 6, 7, 8]) r7 (by omega) rfl rfl (by decide) fun t37 w8 _ g8 r8 => ?_
      refine spec.l20Imm.c r8 (by omega) fun t39 w9 g9 r9 => ?_
      rw [i64_of (n := t10 + 8 - ((out.n : Nat) : Int)) (by omega) (by omega)]
      refine spec.l20Rd.pick.c r9 (by omega) (by omega) fun t42 w10 _ _ g10 r10 => ?_
      have g410 : w4.grownBy w10 (some br) := grown_trans (grown_trans (grown_trans (grown_trans g5 g7) g8) g9) g10
      refine nwStIns (x := ⟨IntKind.wrap .i64 (12 + t33), t37, -1, t42, t39, 0⟩) fun w11 b11 s11 c11 => ?_
      refine spec.l20Rd.pick.c (r10.below b11) (by omega) (by omega) fun t45 w12 _ _ g12 r12 => ?_
      have c12 := keepB c11 g12 (by have := g410.size; have := hr.lt; omega)
      have g412 : w4.grownBy w12 (some br) := grown_trans (grown_trans g410 (grown_any b11)) g12
      have hs10 := g410.size
      have hbr4 := hr.lt
      refine And.intro (fun _ => ?_) (fun _ => ?_)
      · refine oneLit (xs := [0, 6, 7, 8]) r12 (by omega) rfl rfl (by decide) fun t49 w13 _ g13 r13 => ?_
        have c13 := keepB c12 g13 (by omega)
        refine stB c13 rfl (by simp [Ins.cs]) fun w14 g14 s14 c14 => ?_
        refine stB c14 rfl (by simp [Ins.cs]) fun w15 g15 s15 c15 => ?_
        have G15 : w4.grownBy w15 (some br) := grown_new (grown_new (grown_trans g412 g13) g14 (by omega)) g15 (by omega)
        have r15 := (r13.kept g14 (fun b hb => by simp only [Option.some.injEq] at hb; omega)).kept g15 (fun b hb => by simp only [Option.some.injEq] at hb; omega)
        have c15' : w15.heap[w10.heap.size]? = some (.cells (Ins.cs ⟨IntKind.wrap .i64 (12 + t33), t37, t49, t42, 0, 0⟩) 82 (0, 0)) := c15
        refine ldAB (x := Ins.t ⟨IntKind.wrap .i64 (12 + t33), t37, t49, t42, 0, 0⟩) c15' rfl ?_
        exact fin ⟨IntKind.wrap .i64 (12 + t33), t37, t49, t42, 0, 0⟩ G15 (r15.more (by omega))
      · refine ldAB (x := Ins.t ⟨IntKind.wrap .i64 (12 + t33), t37, -1, t42, t39, 0⟩) c12 rfl ?_
        exact fin ⟨IntKind.wrap .i64 (12 + t33), t37, -1, t42, t39, 0⟩ g412 (r12.more (by omega))
    · refine And.intro (fun _ => ?_) (fun _ => And.intro (fun _ => ?_) (fun _ => ?_))
      · refine oneLit (xs := [0, 6, 7, 8]) r5 (by omega) rfl rfl (by decide) fun t61 w7 _ g7 r7 => ?_
        refine oneLit (xs := [-4, -8, -2]) r7 (by omega) rfl rfl (by decide) fun t64 w8 _ g8 r8 => ?_
        refine oneLit (xs := [1, 2]) r8 (by omega) rfl rfl (by decide) fun t67 w9 _ g9 r9 => ?_
        exact fin ⟨18, 10, t61, t64, 0, t67⟩ (grown_trans (grown_trans (grown_trans g5 g7) g8) g9) (r9.more (by omega))
      · refine oneLit (xs := [0, 6, 8]) r5 (by omega) rfl rfl (by decide) fun t76 w7 _ g7 r7 => ?_
        refine oneLit (xs := [1, 10, 1]) r7 (by omega) rfl rfl (by decide) fun t79 w8 _ g8 r8 => ?_
        refine oneLit (xs := [0, 3, 8]) r8 (by omega) rfl rfl (by decide) fun t82 w9 _ g9 r9 => ?_
        refine oneLit (xs := [1, 2, 4]) r9 (by omega) rfl rfl (by decide) fun t85 w10 _ g10 r10 => ?_
        exact fin ⟨17, t76, t79, t82, 0, t85⟩ (grown_trans (grown_trans (grown_trans (grown_trans g5 g7) g8) g9) g10) (r10.more (by omega))
      · refine spec.l20Alu.c r5 (by omega) fun x w7 g7 r7 => ?_
        exact fin x (grown_trans g5 g7) (r7.more (by omega))
  · refine app ⟨20, 0, -1, 0, 0, 0⟩ _ (grown_refl _ _) hr fun o' w7 o7 r7 g7 => ?_
    exact hk o' w7 _ g7 (r7.more (by omega)) o7 (by simp) (by simp; omega)
/-- A part of a row. -/
theorem slcR {α : Type} {k : Kd α} {P : Program} {tS e : TypeId} (hu : P.underlying tS = some (.slice e)) (hs : szOf P e = some k.ls.length) {w : World} {s : Sl} {xs : List α} (h : SlR k w s xs) {lo hi mx : Option Int} {l h' m : Nat}
    (hlo : lo.getD 0 = l) (hhi : hi.getD s.n = h') (hmx : mx.getD s.c = m) (hm2 : mx.isSome = true → hi.isSome = true) (h1 : l ≤ h') (h2 : h' ≤ m) (h3 : m ≤ s.c) (h4 : h' ≤ s.n) {K : Sl → World → Prop}
    (hk : ∀ r : Sl, r.n = h' - l → r.c = m - l → SlR k w r ((xs.take h').drop l) → (∀ b, r.bk = some b → s.bk = some b) → K r w) :
    RunT (.o (.lf .sl)) P (Instr.sliceAt tS s.v (lo.map (.int .i64)) (hi.map (.int .i64)) (mx.map (.int .i64))) w K := by
  have hrun : (Instr.sliceAt tS s.v (lo.map (.int .i64)) (hi.map (.int .i64)) (mx.map (.int .i64))).run P w = .ok (.slice (if m = l then s.a else s.a.map (·.add (l * k.ls.length))) (h' - l) (m - l)) w := by
    have ho : ∀ (x : Option Int) (d a : Nat), x.getD (d : Int) = (a : Int) → (x = none ∧ a = d) ∨ x = some (a : Int) := by
      intro x d a hx
      cases x with
      | none => left; simp only [Option.getD_none] at hx; exact ⟨rfl, by omega⟩
      | some y => right; simp only [Option.getD_some] at hx; rw [hx]
    rcases ho lo 0 l hlo with ⟨rfl, rfl⟩ | rfl <;> rcases ho hi s.n h' hhi with ⟨rfl, rfl⟩ | rfl <;> rcases ho mx s.c m hmx with ⟨rfl, rfl⟩ | rfl <;>
      first
      | (have hx := hm2 rfl; simp at hx; done)
      | simp [Instr.sliceAt, Instr.slice, Sl.v, underlying, hu, Instr.sliceBounds, Instr.sliceBound, asIntOf, run_sizeOf hs, h1, h2, h3, h4]
  refine ⟨⟨if m = l then s.a else s.a.map (·.add (l * k.ls.length)), h' - l, m - l⟩, w, hrun, hk _ rfl rfl ?_ ?_⟩
  · have hn := h.1
    refine ⟨by rw [List.length_drop, List.length_take]; simp only; omega, by simp only; omega, by have := h.2.2.1; simp only; omega, ?_⟩
    rcases h.2.2.2 with h0 | ⟨b, o, ha, hat⟩
    · left; rw [h0]; simp
    · by_cases hml : m = l
      · left
        apply List.eq_nil_of_length_eq_zero
        rw [List.length_drop, List.length_take]; omega
      · refine .inr ⟨b, o + l * k.ls.length, ?_, fun i x hx => ?_⟩
        · simp only
          rw [if_neg hml, ha, Option.map_some, add_mk]
        · rw [List.getElem?_drop, List.getElem?_take] at hx
          split at hx
          · have := hat _ _ hx
            rw [Nat.add_mul, ← Nat.add_assoc] at this
            exact this
          · simp at hx
  · intro b hb
    simp only [Sl.bk] at hb ⊢
    split at hb
    · exact hb
    · cases hsa : s.a with
      | none => rw [hsa] at hb; simp at hb
      | some a =>
        rw [hsa] at hb
        simp only [Option.map_some, Option.some.injEq] at hb ⊢
        rw [← hb]
        unfold Addr.add
        split <;> rfl
theorem spec.l20Open.c {code : Sl} {bs : List Int} {K : Option Addr → World → Prop} (h : SlR kU8 w code bs) (hb : ∀ x ∈ bs, 0 ≤ x ∧ x ≤ 255) (hk : ∀ w', Below w.heap.size w w' → RdS w.heap.size w.heap.size 0 w' → K (some ⟨w.heap.size, 0, none⟩) w') :
    CallT (.o (.lf .p)) P0 31 [code.v] w K := by
  have hn := h.len
  have blk : ∀ {s : Sl} {xs : List Int}, SlR kU8 w s xs → xs ≠ [] → ∀ b o, s.a = some ⟨b, o, none⟩ → b < w.heap.size := by
    intro s xs hs hne b o ha
    rcases hs.2.2.2 with h0 | ⟨b', o', ha', hat⟩
    · exact absurd h0 hne
    · rw [ha] at ha'
      simp only [Option.some.injEq, Addr.mk.injEq] at ha'
      obtain ⟨x, hx⟩ := get_some (l := xs) (k := 0) (List.length_pos_iff.2 hne)
      have := hat 0 x hx 0 (.int .u8 x) rfl
      have := World.block_lt_of_cell? w _ this
      simp only at this; omega
  have fin : ∀ {s : Sl} {xs : List Int}, SlR kU8 w s xs → (∀ x ∈ xs, 0 ≤ x ∧ x ≤ 255) → Nw #[s.v, .int .i64 0] 103 w fun a w1 => K (some a) w1 := by
    intro s xs hs hx
    exact nw fun w1 b1 s1 c1 => hk w1 b1 ⟨s, xs, 0, c1, hs.below b1, blk hs, Nat.le_refl _, hx, by omega⟩
  refine spec.l20Open.ok (And.intro (fun hgt => ?_) (fun _ => fin h hb))
  simp only [decide_eq_true_eq] at hgt
  refine slcR (k := kU8) (e := 5) (by kernel_rfl) (by kernel_rfl) h (lo := none) (hi := some 2000) (mx := none) (l := 0) (h' := 2000) (m := code.c) rfl rfl rfl (by simp) (by omega) (by have := h.2.1; omega) (by omega) (by omega) fun r _ _ hr _ => ?_
  refine fin hr fun x hx => hb x (List.mem_of_mem_take (by simpa using hx))
end
end Go.Proofs.YtihllippchgkgaaGreat.V

/- Contracts: a drawn program, and the draws of the flow's laws. -/
namespace Go.Proofs.YtihllippchgkgaaGreat.V
open Go Go.RowKit
set_option linter.unusedVariables false
set_option linter.unusedSimpArgs false
/-- What may become of the world in a region that appends to rows of its own beside a draw. -/
structure SpD (H br : Nat) (R : World → Prop) (a b : World) : Prop where
  os : b.os = a.os
  tape : b.tape = a.tape
  output : b.output = a.output
  size : a.heap.size ≤ b.heap.size
  low : ∀ k, k < H → k ≠ br → b.heap[k]? = a.heap[k]?
  ip : Ip H a b
  rd : R a → R b
theorem SpD.refl (H br : Nat) (R : World → Prop) (a : World) : SpD H br R a a := ⟨rfl, rfl, rfl, Nat.le_refl _, fun _ _ _ => rfl, Ip.refl _ _, id⟩
theorem SpD.trans {H br : Nat} {R : World → Prop} {a b c : World} (h1 : SpD H br R a b) (h2 : SpD H br R b c) : SpD H br R a c :=
  ⟨h2.os.trans h1.os, h2.tape.trans h1.tape, h2.output.trans h1.output, Nat.le_trans h1.size h2.size, fun k hk hne => (h2.low k hk hne).trans (h1.low k hk hne), h1.ip.trans h2.ip, fun h => h2.rd (h1.rd h)⟩
theorem SpD.grown {H br : Nat} {R : World → Prop} {a b : World} (h : SpD H br R a b) (hH : H = a.heap.size) : a.grownBy b (some br) :=
  ⟨h.os, h.tape, h.output, h.size, fun k hk hne => h.low k (by omega) (fun e => hne (by rw [e]))⟩
section
variable {B br m : Nat} {w : World}
theorem spD_ok (w : World) : SpOk (SpD w.heap.size br (RdS B br m)) w := by
  refine ⟨fun a => SpD.refl _ _ _ a, fun a b c h1 h2 => h1.trans h2, ?_⟩
  have hb : Below w.heap.size w w.drew := (Below.refl _ _).drew
  exact ⟨rfl, rfl, rfl, Nat.le_refl _, fun k _ _ => rfl, Ip.of_same fun g _ _ => rfl, fun h => h.below hb⟩
/-- A step beside the draw. -/
theorem sk_step {H : Nat} {a b : World} {row : Option Nat} {m1 m2 : Nat} (hg : a.grownBy b row) (hH : H ≤ a.heap.size) (hr : ∀ g, row = some g → H ≤ g) (hi : Ip H a b) (hbr : br < H) : Sk (SpD H br (RdS B br m1)) (RdS B br m2) a b := by
  refine ⟨⟨hg.os, hg.tape, hg.output, hg.size, fun k hk hne => hg.block k (by omega) (fun e => by have := hr k e.symm; omega), hi, fun h => h.kept hg (fun b hb => by have := hr b hb; omega)⟩, fun h => h.kept hg (fun b hb => by have := hr b hb; omega)⟩
theorem sk_below {H : Nat} {a b : World} {m1 m2 : Nat} (hb : Below a.heap.size a b) (hH : H ≤ a.heap.size) (hbr : br < H) : Sk (SpD H br (RdS B br m1)) (RdS B br m2) a b :=
  sk_step (row := none) (grown_of_below hb) hH (by simp) (Ip.of_same fun g _ hg => hb.block g hg) hbr
end
section
variable {α : Type} {k : Kd α} {t : TypeId} {H br n : Nat} {R : World → Prop} {w : World}
/-- Some row of so many elements, owned. -/
def IO (k : Kd α) (t : TypeId) (H n : Nat) (x : Sl) (w : World) : Prop := ∃ zs, zs.length = n ∧ OwnS k t H w x zs
/-- Some row of so many elements, of old memory. -/
def RO (k : Kd α) (H br n : Nat) (x : Sl) (w : World) : Prop := ∃ zs, zs.length = n ∧ SlR k w x zs ∧ ∀ b, x.bk = some b → b < H ∧ b ≠ br
theorem kept_IO (hk : KN k) : Kept (SpD H br R) (IO k t H n) := by
  rintro x a b ⟨zs, hl, ho⟩ hab
  obtain ⟨ys, hyl, hy⟩ := ho.ip hk hab.ip
  exact ⟨ys, by omega, hy⟩
theorem kept_RO : Kept (SpD H br R) (RO k H br n) := by
  rintro x a b ⟨zs, hl, ho, hx⟩ hab
  refine ⟨zs, hl, ⟨ho.1, ho.2.1, ho.2.2.1, ?_⟩, hx⟩
  rcases ho.2.2.2 with h0 | ⟨g, o, ha, hat⟩
  · exact .inl h0
  · refine .inr ⟨g, o, ha, fun i x hi j v hj => ?_⟩
    have h1 := hat i x hi j v hj
    have h2 := hx g (by simp [Sl.bk, ha])
    unfold World.cell? at h1 ⊢
    simp only at h1 ⊢
    rw [hab.low g h2.1 h2.2]; exact h1
end
section
variable {B br m : Nat} {w : World}
def PgJ (B br m : Nat) (w : World) (out : Sl) (w' : World) : Prop := ∃ ys, w.grownBy w' (some br) ∧ RdS B br (m + 210) w' ∧ OwnS kIns 82 w.heap.size w' out ys ∧ 1 ≤ ys.length ∧ ys.length ≤ 40
set_option maxHeartbeats 2000000 in
theorem spec.l20Prog.c {K : Sl → World → Prop} (h : RdS B br m w) (hm : m ≤ 700000000) (hk : ∀ r w' ys, w.grownBy w' (some br) → RdS B br (m + 300) w' → OwnS kIns 82 w.heap.size w' r ys → 1 ≤ ys.length → ys.length ≤ 41 → K r w') :
    CallT (.o (.lf .sl)) P0 41 [.pointer (some ⟨br, 0, none⟩)] w K := by
  have hlt := h.lt
  refine spec.l20Prog.ok (spec.l20Make.c h (by omega) fun r0 w1 ys0 g1 r1 o1 n1 n1' => ?_)
  refine ⟨PgJ B br m w, ?_, ?_⟩
  · refine spec.l20Rd.pick.c r1 (by omega) (by omega) fun t9 w2 _ _ g2 r2 => ?_
    have G2 := grown_trans g1 g2
    refine And.intro (fun _ => ?_) (fun _ => ⟨ys0, G2, r2.more (by omega), o1.keptBr g2 hlt, n1, n1'⟩)
    refine spec.l20Lines.c fun r w3 rows b3 hrows hlen hgood hbk => ?_
    have hrn := hrows.len
    have hH2 := r2.lt
    refine spec.l20Rd.pick.c (r2.below b3) (by omega) (by omega) fun t16 w4 k0 k1 g4 r4 => ?_
    have hsz3 := b3.size
    have hsz2 := G2.size
    obtain ⟨row, hrow⟩ := get_some (l := rows) (k := t16.toNat) (by omega)
    obtain ⟨⟨txt, ht1, ht2, ht3, ht4⟩, hbt⟩ := hgood row (List.mem_of_getElem? hrow)
    have G4 : w.grownBy w4 (some br) := grown_trans (grown_trans G2 (grown_any b3)) g4
    refine ixL (hrows.kept2 g4 (fun b o ha e => by have := hbk b (by simp [Sl.bk, ha]); simp only [Option.some.injEq] at e; omega)) k0 hrow rfl (l := .sl) (v := row) rfl ?_
    refine spec.l20Read.c (ht1.kept2 g4 (fun b o ha e => by have := hbt b (by simp [Sl.bk, ha]); simp only [Option.some.injEq] at e; omega)) (by omega) ht4 fun o' w5 zs b5 o5 hl5 => ?_
    have hsz4 := G4.size
    exact ⟨zs, grown_trans G4 (grown_any b5), (r4.below b5).more (by omega), o5.low hsz4, by omega, by omega⟩
  · rintro out w7 ⟨ys, g7, r7, o7, ny, ny'⟩ _
    have hon := o7.len
    have hoc := o7.cap
    refine spec.l20Rd.pick.c r7 (by omega) (by omega) fun t21 w8 _ _ g8 r8 => ?_
    have G8 := grown_trans g7 g8
    have o8 := o7.keptBr g8 hlt
    refine And.intro (fun _ => ?_) (fun _ => hk _ _ ys G8 (r8.more (by omega)) o8 ny (by omega))
    refine spec.l20Rd.pick.c r8 (by omega) (by omega) fun t26 w9 k0 k1 g9 r9 => ?_
    refine spec.l20Rd.pick.c r9 (by omega) (by omega) fun t28 w10 _ _ g10 r10 => ?_
    have G10 := grown_trans (grown_trans G8 g9) g10
    have o10 := (o8.keptBr g9 hlt).keptBr g10 hlt
    obtain ⟨x, hx⟩ := get_some (l := ys) (k := t26.toNat) (by omega)
    have stf : ∀ {w11 : World} (j : Nat) (v : Int) (y : Ins), w10.grownBy w11 (some br) → RdS B br (m + 250) w11 → j < 6 → kIns.cells y = (kIns.cells x).set j (.int .i64 v) → Ix out.a out.n t26 6 w11 fun a w12 => St (Addr.add a j) (.int .i64 v) w12 fun w13 => K out w13 := by
      intro w11 j v y g11 r11 hj hy
      have o11 := o10.keptBr g11 hlt
      refine ixOwF o11 k0 hx rfl hj rfl y hy fun w12 o12 g12 _ => ?_
      rw [← ob_bk] at g12
      exact hk out w12 _ (grown_newO (grown_trans G10 g11) g12 (fun b hb => (o11.blk hb).1)) ((r11.keptO o11 g12 hlt).more (by omega)) o12 (by simpa using ny) (by simp; omega)
    refine And.intro (fun _ => ?_) (fun _ => And.intro (fun _ => ?_) (fun _ => And.intro (fun _ => ?_) (fun _ => And.intro (fun _ => ?_) (fun _ => And.intro (fun _ => ?_) (fun _ => ?_)))))
    · exact spec.l20Imm.c r10 (by omega) fun v w11 g11 r11 => stf 4 v { x with imm := v } g11 (r11.more (by omega)) (by omega) rfl
    · exact oneLit (xs := [-1, 0, 1, 2, -2, 12, 200]) r10 (by omega) rfl rfl (by decide) fun v w11 _ g11 r11 => stf 3 v { x with off := v } g11 (r11.more (by omega)) (by omega) rfl
    · exact spec.l20Rd.pick.c r10 (by omega) (by omega) fun v w11 _ _ g11 r11 => stf 1 v { x with dst := v } g11 (r11.more (by omega)) (by omega) rfl
    · exact spec.l20Rd.pick.c r10 (by omega) (by omega) fun v w11 _ _ g11 r11 => stf 0 v { x with op := v } g11 (r11.more (by omega)) (by omega) rfl
    · exact spec.l20Rd.pick.c r10 (by omega) (by omega) fun v w11 _ _ g11 r11 => stf 2 (IntKind.wrap .i64 (v - 1)) { x with src := IntKind.wrap .i64 (v - 1) } g11 (r11.more (by omega)) (by omega) rfl
    · have hbr : br < w10.heap.size := r10.lt
      have hoR := o10.read
      have hobk : ∀ b, out.bk = some b → b < w10.heap.size ∧ b ≠ br := fun b hb => by have := o10.blk ((ob_bk _).trans hb); exact ⟨this.2, by omega⟩
      have hkn : t26.toNat ≤ ys.length := by omega
      refine ⟨SpD w10.heap.size br (RdS B br (m + 260)), spD_ok w10, RdS B br (m + 255), (r10.below (Below.refl _ _).drew).more (by omega),
        IO kIns 82 w10.heap.size 0, kept_IO knIns, RO kIns w10.heap.size br t26.toNat, kept_RO, IO kIns 82 w10.heap.size t26.toNat, kept_IO knIns, fun _ _ => True, keptT, IO kIns 82 w10.heap.size 1, kept_IO knIns,
        IO kIns 82 w10.heap.size (t26.toNat + 1), kept_IO knIns, RO kIns w10.heap.size br (ys.length - t26.toNat), kept_RO, IO kIns 82 w10.heap.size (ys.length + 1), kept_IO knIns, ?_⟩
      have app : ∀ {w11 : World} {s x : Sl} {n1 n2 : Nat}, SpD w10.heap.size br (RdS B br (m + 260)) w10 w11 → IO kIns 82 w10.heap.size n1 s w11 → (∃ zs, zs.length = n2 ∧ SlR kIns w11 x zs) → n1 + n2 ≤ 100 →
          RunT (.o (.lf .sl)) P0 (Builtin.append_ #[23, 23] 23 #[.slice s.a s.n s.c, .slice x.a x.n x.c]) w11 fun t w12 => GK (.o (.lf .sl)) (Sk (SpD w10.heap.size br (RdS B br (m + 260))) (RdS B br (m + 255))) w11 (IO kIns 82 w10.heap.size (n1 + n2)) t.v w12 := by
        rintro w11 s x n1 n2 hsp ⟨zs, hz, ho⟩ ⟨us, hu, hx⟩ hle
        have h1 := apS (tR := 23) elIns ho hx (by omega) (by omega) hsp.size (K := fun s' w' => OwnS kIns 82 w10.heap.size w' s' (zs ++ us) ∧ w11.grownBy w' (Value.slice s.a s.n s.c).ownBlock) (fun s' w' h1 h2 _ _ => ⟨h1, h2⟩)
        obtain ⟨t, w12, hr, ⟨h2, h3⟩, h4⟩ := h1.and (I := Ip w10.heap.size w11) (ap_ip elIns knIns ho hx (by omega) (by omega))
        exact ⟨t, w12, hr, t, rfl, sk_step h3 hsp.size (fun g hg => (ho.blk hg).1) h4 hbr, _, by simp [hz, hu], h2⟩
      have hRO : ∀ {w11 : World} {r : Sl} {n : Nat}, (∃ zs, zs.length = n ∧ SlR kIns w11 r zs) → (∀ b, r.bk = some b → out.bk = some b) → RO kIns w10.heap.size br n r w11 := by
        rintro w11 r n ⟨zs, hz, hr⟩ hb
        exact ⟨zs, hz, hr, fun b h => hobk b (hb b h)⟩
      have outR : ∀ {w11 : World}, SpD w10.heap.size br (RdS B br (m + 260)) w10 w11 → ∃ zs, zs.length = ys.length ∧ SlR kIns w11 out zs := fun hsp => by
        obtain ⟨zs, hz, hr, _⟩ := kept_RO (k := kIns) (H := w10.heap.size) (br := br) (n := ys.length) (R := RdS B br (m + 260)) out w10 _ ⟨ys, rfl, hoR, hobk⟩ hsp
        exact ⟨zs, hz, hr⟩
      have hsz10 := G10.size
      refine ⟨fun w11 hsp => ?_, fun t29 => ⟨fun w11 hsp => ?_, fun t32 => ⟨fun w11 hsp f29 f32 => ?_, fun t33 => ⟨fun w11 hsp hN => ?_, fun t35 => ⟨fun w11 hsp f35 => ?_, fun t36 => ⟨fun w11 hsp f33 f36 => ?_, fun t37 => ⟨fun w11 hsp => ?_, fun t40 => ⟨fun w11 hsp f37 f40 => ?_, fun t41 w11 hsp _ _ _ _ _ _ _ f41 => ?_⟩⟩⟩⟩⟩⟩⟩⟩
      · exact nw fun w12 b12 s12 c12 => ⟨⟨some ⟨w11.heap.size, 0, none⟩, 0, 0⟩, rfl, sk_below b12 hsp.size hbr, [], rfl, OwnS.lit hsp.size c12 rfl rfl (by simp)⟩
      · obtain ⟨zs, hz, hr⟩ := outR hsp
        refine slcR (k := kIns) (e := 82) (by kernel_rfl) (by kernel_rfl) hr (lo := none) (hi := some t26) (mx := none) (l := 0) (h' := t26.toNat) (m := out.c) rfl (by simp; omega) rfl (by simp) (by omega) (by omega) (by omega) (by omega) fun r _ _ hr2 hb2 => ?_
        exact ⟨r, rfl, sk_below (Below.refl _ _) hsp.size hbr, hRO ⟨_, by simp; omega, hr2⟩ hb2⟩
      · obtain ⟨zs, hz, hr, _⟩ := f32
        have := app (x := t32) (n2 := t26.toNat) hsp f29 ⟨zs, hz, hr⟩ (by omega)
        rw [Nat.zero_add] at this
        exact this
      · refine spec.l20Alu.c hN (by omega) fun x w12 g12 r12 => ?_
        have hbb : Ip w10.heap.size w11 w12 := Ip.of_same fun g hg hg2 => g12.block g hg2 (fun e => by simp only [Option.some.injEq] at e; omega)
        exact ⟨x.t, rfl, ⟨g12.os, g12.tape, g12.output, g12.size, fun k hk hne => g12.block k (by have := hsp.size; omega) (fun e => hne (by simpa using e)), hbb, fun _ => r12.more (by omega)⟩, trivial⟩
      · exact nw fun w12 b12 s12 c12 => ⟨⟨some ⟨w11.heap.size, 0, none⟩, 1, 1⟩, rfl, sk_below b12 hsp.size hbr, [insOf t35], rfl, OwnS.lit hsp.size c12 rfl rfl (by simp [maxLen])⟩
      · obtain ⟨zs, hz, ho⟩ := f36
        exact app (x := t36) (n2 := 1) hsp f33 ⟨zs, hz, ho.read⟩ (by omega)
      · obtain ⟨zs, hz, hr⟩ := outR hsp
        refine slcR (k := kIns) (e := 82) (by kernel_rfl) (by kernel_rfl) hr (lo := some t26) (hi := none) (mx := none) (l := t26.toNat) (h' := out.n) (m := out.c) (by simp; omega) rfl rfl (by simp) (by omega) (by omega) (by omega) (by omega) fun r _ _ hr2 hb2 => ?_
        exact ⟨r, rfl, sk_below (Below.refl _ _) hsp.size hbr, hRO ⟨_, by simp; omega, hr2⟩ hb2⟩
      · obtain ⟨zs, hz, hr, _⟩ := f40
        have := app (x := t40) (n2 := ys.length - t26.toNat) hsp f37 ⟨zs, hz, hr⟩ (by omega)
        rw [show t26.toNat + 1 + (ys.length - t26.toNat) = ys.length + 1 by omega] at this
        exact this
      · obtain ⟨zs, hz, ho⟩ := f41
        exact hk t41 w11 zs (grown_trans G10 (hsp.grown rfl)) ((hsp.rd (r10.more (by omega))).more (by omega)) (ho.low hsz10) (by omega) (by omega)
end
end Go.Proofs.YtihllippchgkgaaGreat.V

/- Contracts: the draws of the flow's laws, and what the laws use. -/
namespace Go.Proofs.YtihllippchgkgaaGreat.V
open Go Go.RowKit
set_option linter.unusedVariables false
set_option linter.unusedSimpArgs false
section
variable {w : World} {a b : Sl} {xs ys : List Int}
theorem laws.sgInts.c {K : Bool → World → Prop} (ha : SlR kI w a xs) (hb : SlR kI w b ys) (hk : ∀ w', Below w.heap.size w w' → K (decide (xs = ys)) w') : CallT (.o (.lf .b)) P0 9 [a.v, b.v] w K := by
  have hna := ha.len; have hnb := hb.len; have hm := ha.max
  refine laws.sgInts.ok ?_
  unfold laws.sgInts.vc
  refine And.intro (fun h => kof (hk _ (Below.refl _ _)) ?_) (fun h => ?_)
  · rw [bne_len] at h
    simp only [decide_eq_false_iff_not]; rintro rfl; omega
  · have hle : xs.length = ys.length := by simp at h; omega
    refine ⟨fun i w' => ∃ n : Nat, i = n ∧ n ≤ xs.length ∧ (∀ j < n, xs[j]? = ys[j]?) ∧ Below w.heap.size w w', fun i _ => xs.length - i.toNat, ⟨0, rfl, by omega, by simp, Below.refl _ _⟩, ?_⟩
    rintro i w1 ⟨n, rfl, hn, hE, hb1⟩ _
    refine And.intro (fun hlt => ?_) (fun hge => ?_)
    · simp only [decide_eq_true_eq] at hlt
      obtain ⟨x, hx⟩ := get_some (l := xs) (k := n) (by omega)
      obtain ⟨y, hy⟩ := get_some (l := ys) (k := n) (by omega)
      refine qixL (ha.below hb1) (i := n) (by omega) (x := x) (by simpa using hx) rfl (l := .i .i64) (v := x) rfl ?_
      refine qixL (hb.below hb1) (i := n) (by omega) (x := y) (by simpa using hy) rfl (l := .i .i64) (v := y) rfl ?_
      intro w2 hb2
      have hbb := hb1.trans (hb2.mono hb1.size)
      refine And.intro (fun hne => kof (hk _ hbb) ?_) (fun he => ?_)
      · simp only [bne_iff_ne, ne_eq] at hne
        simp only [decide_eq_false_iff_not]; rintro rfl; rw [hx] at hy; simp at hy; exact hne hy
      · simp at he
        simp (disch := omega) only [i64_of]
        refine ⟨⟨n + 1, by omega, by omega, fun j hj => ?_, hbb⟩, by omega⟩
        rcases Nat.lt_or_ge j n with h1 | h1
        · exact hE j h1
        · obtain rfl : j = n := by omega
          rw [hx, hy, he]
    · simp only [decide_eq_false_iff_not] at hge
      refine kof (hk _ hb1) ?_
      simp only [decide_eq_true_eq]
      exact take_ext hle fun j x hx => by rw [← hE j (by have := lt_of_get hx; omega)]; exact hx
theorem laws.sgIn.c {n : Int} {K : Bool → World → Prop} (ha : SlR kI w a xs) (hk : ∀ w', w' = w → K (decide (n ∈ xs)) w') : CallT (.o (.lf .b)) P0 12 [a.v, .int .i64 n] w K := by
  have hna := ha.len; have hm := ha.max
  refine laws.sgIn.ok ⟨fun i w' => ∃ k : Nat, i = k ∧ k ≤ xs.length ∧ n ∉ xs.take k ∧ w' = w, fun i _ => xs.length - i.toNat, ⟨0, rfl, by omega, by simp, rfl⟩, ?_⟩
  rintro i w1 ⟨k, rfl, hk1, hno, rfl⟩ _
  refine And.intro (fun hlt => ?_) (fun hge => kof (hk _ rfl) ?_)
  · simp only [decide_eq_true_eq] at hlt
    obtain ⟨x, hx⟩ := get_some (l := xs) (k := k) (by omega)
    refine ixL ha (i := k) (by omega) (x := x) (by simpa using hx) rfl (l := .i .i64) (v := x) rfl ?_
    refine And.intro (fun he => kof (hk _ rfl) ?_) (fun he => ?_)
    · simp only [beq_iff_eq] at he
      subst he
      simp only [decide_eq_true_eq]; exact List.mem_of_getElem? hx
    · rw [i64_of (n := (k : Int) + 1) (by omega) (by omega)]
      refine ⟨⟨k + 1, by omega, by omega, ?_, rfl⟩, by simp only; omega⟩
      rw [List.take_add_one, hx]
      simp only [beq_eq_false_iff_ne, ne_eq] at he
      simp only [Option.toList_some, List.mem_append, List.mem_singleton, not_or]
      exact ⟨hno, fun e => he e.symm⟩
  · simp only [decide_eq_false_iff_not] at hge
    obtain rfl : k = xs.length := by omega
    rw [List.take_length] at hno
    simpa using hno
end
theorem u8_all {bs : List Int} (h : ∀ x ∈ bs, (Lit.int .u8 x).wf = true) : ∀ x ∈ bs, 0 ≤ x ∧ x ≤ 255 := fun x hx => by
  have := h x hx
  simp only [Lit.wf, Bool.and_eq_true, decide_eq_true_eq] at this
  exact this
section
variable {w : World} {code : Sl} {bs : List Int}
/-- What a draw of a program begins with. -/
theorem prog0 {Kp : Option Addr → World → Prop} (h : SlR kU8 w code bs) (hb : ∀ x ∈ bs, 0 ≤ x ∧ x ≤ 255)
    (hk : ∀ w1, Below w.heap.size w w1 → RdS w.heap.size w.heap.size 0 w1 → Kp (some ⟨w.heap.size, 0, none⟩) w1) : CallT (.o (.lf .p)) P0 31 [code.v] w Kp := spec.l20Open.c h hb hk
theorem spec.DrawProgForm.c {K : Sl → World → Prop} (h : SlR kU8 w code bs) (hb : ∀ x ∈ bs, 0 ≤ x ∧ x ≤ 255)
    (hk : ∀ r w' ys, Below w.heap.size w w' → SlR kIns w' r ys → ys.length ≤ 64 → K r w') : CallT (.o (.lf .sl)) P0 20 [code.v] w K := by
  refine spec.DrawProgForm.ok (spec.l20Open.c h hb fun w1 b1 r1 => ?_)
  have hbr := r1.lt
  refine spec.l20Prog.c r1 (by omega) fun r w2 ys g2 r2 o2 h1 h2 => ?_
  have b2 : Below w.heap.size w w2 := b1.grown g2 b1.size (fun b hb => by simp only [Option.some.injEq] at hb; omega)
  have hon := o2.len
  have hoc := o2.cap
  have o2' := o2.low (B' := w.heap.size) b1.size
  refine spec.l20Rd.pick.c r2 (by omega) (by omega) fun t10 w3 _ _ g3 r3 => ?_
  have b3 : Below w.heap.size w w3 := b2.grown g3 b2.size (fun b hb => by simp only [Option.some.injEq] at hb; omega)
  have o3 := o2.keptBr g3 hbr
  refine And.intro (fun _ => ?_) (fun _ => And.intro (fun _ => ?_) (fun _ => And.intro (fun _ => hk _ _ [] b3 (SlR.nil _ _) (by simp)) (fun _ => hk _ _ ys b3 o3.read (by omega))))
  · rw [i64_of (by omega) (by omega)]
    refine slcR (k := kIns) (e := 82) (by kernel_rfl) (by kernel_rfl) o3.read (lo := none) (hi := some ((r.n : Int) - 1)) (mx := none) (l := 0) (h' := r.n - 1) (m := r.c) rfl (by simp; omega) rfl (by simp) (by omega) (by omega) (by omega) (by omega) fun q hq _ hq2 _ => ?_
    exact hk _ _ _ b3 hq2 (by simp; omega)
  · refine ⟨fun list w' => ∃ zs, OwnS kIns 82 w1.heap.size w' list zs ∧ zs.length ≤ 49 ∧ RdS w.heap.size w.heap.size (400 + zs.length) w' ∧ Below w.heap.size w w' ∧ w1.heap.size ≤ w'.heap.size, fun list _ => 60 - list.n, ⟨ys, o3, by omega, r3.more (by omega), b3, by have := g2.size; have := g3.size; omega⟩, ?_⟩
    rintro list w4 ⟨zs, o4, hz, r4, b4, hs4⟩ _
    have hln := o4.len
    refine spec.l20Rd.pick.c r4 (by omega) (by omega) fun t23 w5 _ _ g5 r5 => ?_
    have b5 : Below w.heap.size w w5 := b4.grown g5 b4.size (fun b hb => by simp only [Option.some.injEq] at hb; omega)
    have o5 := o4.keptBr g5 hbr
    rw [i64_of (n := 48 + t23) (by omega) (by omega)]
    refine And.intro (fun hlt => ?_) (fun _ => hk _ _ zs b5 o5.read (by omega))
    simp only [decide_eq_true_eq] at hlt
    have hs5 := b5.size
    have hw15 : w1.heap.size ≤ w5.heap.size := by have := g5.size; omega
    refine ap1 elIns o5 ⟨20, 0, -1, 0, 0, 0⟩ rfl (by omega) (by omega) hw15 fun o' w6 o6 g6 _ => ?_
    have hl6 := o6.len
    simp only [List.length_append, List.length_cons, List.length_nil] at hl6
    exact ⟨⟨_, o6, by simp; omega, (r5.keptO o5 g6 hbr).more (by simp; omega), b5.grown g6 b5.size (fun b hb => by have := (o5.blk hb).1; have := b1.size; omega), by have := g6.size; omega⟩, by simp only; omega⟩
end
end Go.Proofs.YtihllippchgkgaaGreat.V

/- Contracts: places are noted: a row of what is known for each op. -/
namespace Go.Proofs.YtihllippchgkgaaGreat.V
open Go Go.RowKit
set_option linter.unusedVariables false
set_option linter.unusedSimpArgs false
def kKL : Kd (Tup KL) := ⟨KL, fun x => x⟩
theorem elK : El P0 96 95 kKL 832 := ⟨by kernel_rfl, ⟨_, _, Option.eq_some_of_isSome (by kernel_rfl), Option.eq_some_of_isSome (by kernel_rfl), by kernel_rfl, by kernel_rfl, by kernel_rfl⟩, by decide, by
  intro l hl e
  subst e
  have hl : Lf.any ∈ R 99 (.i .i64) ++ R 16 .b ++ [.sl] := hl
  simp [R] at hl⟩
/-- A ledger: a row for each op, of what was known each time. -/
structure Lg (w : World) (l : List Ins) (ob hb : Nat) (rows : List Sl) (n : Nat) : Prop where
  out : w.heap[ob]? = some (.cells #[Sl.v ⟨some ⟨hb, 0, none⟩, l.length, l.length⟩] 49 (0, 0))
  head : w.heap[hb]? = some (.cells (rows.map Sl.v).toArray 96 (0, 0))
  len : rows.length = l.length
  row : ∀ (i : Nat) r, rows[i]? = some r → ∃ ks, OwnS kKL 95 0 w r ks ∧ ks.length ≤ n ∧ (ks ≠ [] → Rch l i)
  one : ∀ (i j : Nat) r s g, rows[i]? = some r → rows[j]? = some s → r.bk = some g → s.bk = some g → i = j
/-- What notes may write. -/
def ZL (hb : Nat) (rows : List Sl) : Nat → Prop := fun j => j = hb ∨ ∃ r ∈ rows, r.bk = some j
section
variable {w w' : World} {l : List Ins} {ob hb n : Nat} {rows : List Sl} {X : Nat → Prop}
theorem SlR.chgN {α : Type} {k : Kd α} {s : Sl} {xs : List α} (h : SlR k w s xs) (hc : Chg X w w') (hn : ∀ b, s.bk = some b → ¬ X b) : SlR k w' s xs := by
  refine ⟨h.1, h.2.1, h.2.2.1, ?_⟩
  rcases h.2.2.2 with h0 | ⟨b, o, ha, hx⟩
  · exact .inl h0
  · refine .inr ⟨b, o, ha, fun i x hi m v hv => ?_⟩
    have h1 := hx i x hi m v hv
    have hlt := World.block_lt_of_cell? w _ h1
    have := hc.block b hlt (hn b (by simp [Sl.bk, ha]))
    rw [← h1]
    exact World.cell?_of_block this
theorem Lg.lt (h : Lg w l ob hb rows n) : ∀ j, ZL hb rows j → j < w.heap.size := by
  rintro j (rfl | ⟨r, hr, hj⟩)
  · exact lt_blk h.head
  · obtain ⟨i, hi⟩ := List.mem_iff_getElem?.1 hr
    obtain ⟨ks, ho, _⟩ := h.row i r hi
    obtain ⟨cur, hc⟩ := ownTy ho hj
    exact lt_blk hc
theorem Lg.chg (h : Lg w l ob hb rows n) (hc : Chg X w w') (h0 : ¬ X ob) (hX : ∀ j, ZL hb rows j → ¬ X j) : Lg w' l ob hb rows n :=
  ⟨hc.blk h.out h0, hc.blk h.head (hX hb (.inl rfl)), h.len, fun i r hi => by
    obtain ⟨ks, ho, hk⟩ := h.row i r hi
    exact ⟨ks, ho.chg hc fun b hb => hX b (.inr ⟨r, List.mem_of_getElem? hi, hb⟩), hk⟩, h.one⟩
theorem Lg.below (h : Lg w l ob hb rows n) (hb' : Below w.heap.size w w') : Lg w' l ob hb rows n := h.chg (X := noX) (.of_below hb') (fun h => h) fun _ _ h => h
theorem Lg.ty (h : Lg w l ob hb rows n) {j : Nat} (hj : ZL hb rows j) : ∃ cur t, w.heap[j]? = some (.cells cur t (0, 0)) ∧ (t = 96 ∨ t = 95) := by
  rcases hj with rfl | ⟨r, hr, hj⟩
  · exact ⟨_, _, h.head, .inl rfl⟩
  · obtain ⟨i, hi⟩ := List.mem_iff_getElem?.1 hr
    obtain ⟨ks, ho, _⟩ := h.row i r hi
    obtain ⟨cur, hc⟩ := ownTy ho hj
    exact ⟨cur, _, hc, .inr rfl⟩
theorem Lg.more {n' : Nat} (h : Lg w l ob hb rows n) (hn : n ≤ n') : Lg w l ob hb rows n' :=
  ⟨h.out, h.head, h.len, fun i r hi => by obtain ⟨ks, h1, h2, h3⟩ := h.row i r hi; exact ⟨ks, h1, by omega, h3⟩, h.one⟩
/-- A block of another type is no ledger's. -/
theorem Lg.out' (h : Lg w l ob hb rows n) {j : Nat} {cs : Array Value} {t : TypeId} (hj : w.heap[j]? = some (.cells cs t (0, 0))) (h1 : t ≠ 96) (h2 : t ≠ 95) : ¬ ZL hb rows j := fun hz => by
  obtain ⟨cur, t', hc, ht⟩ := h.ty hz
  rw [hj] at hc
  simp only [Option.some.injEq, Obj.cells.injEq] at hc
  rcases ht with ht | ht
  · exact h1 (hc.2.1.trans ht)
  · exact h2 (hc.2.1.trans ht)
set_option maxHeartbeats 1000000 in
theorem impl.visits_1.q {at_ : Int} {k : Tup KL} (hL : Lg w l ob hb rows n) (h0 : 0 ≤ at_) (h1 : at_ < l.length) (hr : Rch l at_) (hn : n ≤ 2000) (hl : l.length ≤ 1048576) {K : Unit → World → Prop}
    (hK : ∀ rows' w', Lg w' l ob hb rows' (n + 1) → Chg (ZL hb rows) w w' → (∀ j, ZL hb rows' j → ZL hb rows j ∨ w.heap.size ≤ j) → K () w') :
    CallT .z P0 52 [.int .i64 at_, .agg (Tup.cells KL k).toArray, .pointer (some ⟨ob, 0, none⟩)] w K := by
  obtain ⟨i, rfl⟩ := Int.eq_ofNat_of_zero_le h0
  have hil : i < l.length := by omega
  obtain ⟨r, hri⟩ : ∃ r, rows[i]? = some r := ⟨rows[i]'(by rw [hL.len]; exact hil), List.getElem?_eq_getElem _⟩
  obtain ⟨ks, ho, hks, hkr⟩ := hL.row i r hri
  have hrm : r ∈ rows := List.mem_of_getElem? hri
  refine impl.visits_1.ok ?_
  unfold impl.visits_1.vc
  refine nwL (MG.start noX w fun _ h => h.elim) fun w1 bk b1 m1 => ?_
  have L1 := hL.below b1
  have ho1 := ho.below b1
  have hkx := m1.box _ _ _ List.mem_cons_self
  -- the row's block
  have rX : ∀ g, r.bk = some g → g < w.heap.size ∧ g ≠ ob ∧ g ≠ hb := fun g hg => by
    obtain ⟨cur, hc⟩ := ownTy ho hg
    refine ⟨lt_blk hc, fun e => ?_, fun e => ?_⟩
    · subst e; rw [hL.out] at hc; simp at hc
    · subst e; rw [hL.head] at hc; simp at hc
  have hbk : w.heap.size ≤ bk := m1.own bk (by simp)
  refine ⟨fun a c => Chg (fun j => r.bk = some j) a c, ⟨fun a => Chg.refl _ _, fun _ _ _ h1 h2 => h1.trans h2 fun _ _ h => h, .of_below (Below.refl _ _).drew⟩, Grw, ⟨fun a => Grw.refl a, fun a b h => .of_below h⟩, fun w' => OwnS kKL 95 0 w' r ks, ho1.below (Below.refl _ _).drew, fun a b h hs => h.below hs,
    prG (fun s => s = ⟨some ⟨hb, 0, none⟩, l.length, l.length⟩), keptPr, prG (fun s => s = ⟨some ⟨hb, 0, none⟩, l.length, l.length⟩), keptPr, prG (fun a => a = Addr.add ⟨hb, 0, none⟩ i), keptPr, prG (fun s => s = r), keptPr, prG (fun y => y = k), keptPr,
    fun s w' => SlR kKL w' s [k] ∧ ∀ b, s.bk = some b → r.bk ≠ some b, fun s a c ⟨h, hn⟩ hs => ⟨h.chgN hs fun b hb => hn b hb, hn⟩,
    fun s w' => OwnS kKL 95 0 w' s (ks ++ [k]) ∧ ∀ b, s.bk = some b → r.bk = some b ∨ w.heap.size ≤ b, fun s a c ⟨h, hn⟩ hs => ⟨h.below hs, hn⟩,
    prG (fun a => a = Addr.add ⟨hb, 0, none⟩ i), keptPr, fun w2 hs => ?_, fun t5 => ⟨fun w2 hs => ?_, fun t7 => ⟨fun w2 hs e => ?_, fun t9 => ⟨fun w2 hs e => ?_, fun t10 => ⟨fun w2 hs => ?_, fun t11 => ⟨fun w2 hs e => ?_, fun t12 => ⟨fun w2 hs hN e12 e => ?_, fun t13 => ⟨fun w2 hs e => ?_, fun t14 w2 hs e5 e7 e9 e10 e11 e12 e13 e14 _ => ?_⟩⟩⟩⟩⟩⟩⟩⟩
  · have ho2 := hs.blk L1.out fun e => (rX ob e).2.1 rfl
    exact ldB0 ho2 rfl (gkP rfl ⟨Grw.refl _, Nat.le_refl _, fun _ _ _ => rfl⟩ rfl)
  · have ho2 := hs.blk L1.out fun e => (rX ob e).2.1 rfl
    exact ldB0 ho2 rfl (gkP rfl ⟨Grw.refl _, Nat.le_refl _, fun _ _ _ => rfl⟩ rfl)
  · obtain rfl : t7 = _ := e
    exact ⟨⟨hb, 0, none⟩, rfl, by omega, h1, gkP (by simp; rfl) ⟨Grw.refl _, Nat.le_refl _, fun _ _ _ => rfl⟩ rfl⟩
  · obtain rfl : t9 = _ := e
    have hh2 := hs.blk L1.head fun e => (rX hb e).2.2 rfl
    exact ldB hh2 (j := i) (l := .sl) (x := r) (by simp [hri]; rfl) (gkP rfl ⟨Grw.refl _, Nat.le_refl _, fun _ _ _ => rfl⟩ rfl)
  · have hk2 := hs.blk hkx fun e => by have := (rX bk e).1; omega
    exact ldAB hk2 (by simp) (gkP rfl ⟨Grw.refl _, Nat.le_refl _, fun _ _ _ => rfl⟩ rfl)
  · obtain rfl : t11 = _ := e
    have hsz := hs.size
    have hsz1 := b1.size
    refine nw fun w3 b3 s3 c3 => ⟨⟨some ⟨w2.heap.size, 0, none⟩, 1, 1⟩, rfl, ⟨b3, b3.size, fun b _ hb => b3.block b hb⟩, ?_, fun b hb e => ?_⟩
    · have hl2 : OwnS kKL 95 w2.heap.size w3 ⟨some ⟨w2.heap.size, 0, none⟩, 1, 1⟩ [t11] := OwnS.lit (Nat.le_refl _) c3 rfl (by simp [Kd.cells, kKL]) (by simp [maxLen])
      exact hl2.read
    · simp only [Sl.bk, Option.map_some, Option.some.injEq] at hb
      have := (rX b e).1
      omega
  · obtain rfl : t10 = _ := e12
    refine apS elK hN e.1 (by simp; omega) (by simp; omega) (Nat.zero_le _) fun s' w3 h3 hg3 _ hbk3 => ⟨s', rfl, ⟨?_, hg3.size, fun b hb hb2 => ?_⟩, h3, fun b hb => ?_⟩
    · rw [ob_bk] at hg3
      exact Chg.of_grown' hg3
    · refine hg3.block b hb2 fun e => ?_
      rw [ob_bk] at e
      have := (rX b e.symm).1
      have := b1.size
      omega
    · rcases hbk3 b (by rw [ob_bk]; exact hb) with h | h
      · rw [ob_bk] at h; exact .inl h
      · have := hs.size; have := b1.size; exact .inr (by omega)
  · obtain rfl : t5 = _ := e
    exact ⟨⟨hb, 0, none⟩, rfl, by omega, h1, gkP (by simp; rfl) ⟨Grw.refl _, Nat.le_refl _, fun _ _ _ => rfl⟩ rfl⟩
  · obtain rfl : t14 = _ := e14
    obtain ⟨ho13, hbk13⟩ := e13
    have hh2 := hs.blk L1.head fun e => (rX hb e).2.2 rfl
    have hir : i < rows.length := by rw [hL.len]; exact hil
    have hsz := hs.size
    have hsz1 := b1.size
    refine stB hh2 (v := t13.v) rfl (by simpa using hir) fun w3 hg3 hs3 hc3 => ?_
    rw [List.setIfInBounds_toArray, ← List.map_set] at hc3
    have hX : ∀ b, t13.bk = some b → b ≠ hb := fun b hb' e => by
      subst e
      rcases hbk13 _ hb' with h | h
      · exact (rX _ h).2.2 rfl
      · have := lt_blk hL.head; omega
    have c03 : Chg (ZL hb rows) w w3 := ((Chg.of_below (X := ZL hb rows) b1).trans hs fun j _ hj => .inr ⟨r, hrm, hj⟩).trans (Chg.of_grown (X := bX hb) hg3 rfl) fun j _ hj => .inl hj
    have hob : ¬ ZL hb rows ob := hL.out' hL.out (by decide) (by decide)
    refine hK (rows.set i t13) w3 ⟨c03.blk hL.out hob, hc3, by rw [List.length_set]; exact hL.len, fun j s hj => ?_, fun a c s s' g ha hc hg hg' => ?_⟩ c03 fun j hj => ?_
    · by_cases hji : j = i
      · subst hji
        rw [List.getElem?_set_self hir] at hj
        simp only [Option.some.injEq] at hj
        subst hj
        refine ⟨ks ++ [k], ho13.kept hg3 fun b hb' e => ?_, by simp; omega, fun _ => hr⟩
        simp only [Option.some.injEq] at hb'
        subst hb'
        rw [ob_bk] at e
        exact hX _ e rfl
      · rw [List.getElem?_set_ne (fun e => hji e.symm)] at hj
        obtain ⟨js, ho', hj1, hj2⟩ := hL.row j s hj
        have hsn : ∀ b, s.bk = some b → ¬ r.bk = some b := fun b hb' e => hji (hL.one j i s r b hj hri hb' e)
        have h2 := (ho'.below b1).chg hs hsn
        refine ⟨js, h2.chg (Chg.of_grown (X := bX hb) hg3 rfl) fun b hb' e => ?_, by omega, hj2⟩
        obtain rfl : b = hb := e
        obtain ⟨cur, hc⟩ := ownTy ho' hb'
        rw [hL.head] at hc
        simp at hc
    · have old : ∀ (j : Nat) (s : Sl) g, j ≠ i → (rows.set i t13)[j]? = some s → s.bk = some g → rows[j]? = some s ∧ g < w.heap.size ∧ r.bk ≠ some g := fun j s g hji hj hg => by
        rw [List.getElem?_set_ne (fun e => hji e.symm)] at hj
        obtain ⟨js, ho', _⟩ := hL.row j s hj
        obtain ⟨cur, hc⟩ := ownTy ho' hg
        exact ⟨hj, lt_blk hc, fun e => hji (hL.one j i s r g hj hri hg e)⟩
      have new : ∀ (s : Sl) g, (rows.set i t13)[i]? = some s → s.bk = some g → r.bk = some g ∨ w.heap.size ≤ g := fun s g hj hg => by
        rw [List.getElem?_set_self hir] at hj
        simp only [Option.some.injEq] at hj
        subst hj
        exact hbk13 g hg
      by_cases hai : a = i <;> by_cases hci : c = i
      · rw [hai, hci]
      · subst hai
        have h2 := old c s' g hci hc hg'
        rcases new s g ha hg with h | h
        · exact (h2.2.2 h).elim
        · omega
      · subst hci
        have h2 := old a s g hai ha hg
        rcases new s' g hc hg' with h | h
        · exact (h2.2.2 h).elim
        · omega
      · exact hL.one a c s s' g (old a s g hai ha hg).1 (old c s' g hci hc hg').1 hg hg'
    · rcases hj with rfl | ⟨s, hs', hj⟩
      · exact .inl (.inl rfl)
      · rcases List.mem_or_eq_of_mem_set hs' with h | h
        · exact .inl (.inr ⟨s, h, hj⟩)
        · subst h
          rcases hbk13 j hj with h | h
          · exact .inl (.inr ⟨r, hrm, h⟩)
          · exact .inr h
end
end Go.Proofs.YtihllippchgkgaaGreat.V

/- Contracts: all ways from an op on are followed. -/
namespace Go.Proofs.YtihllippchgkgaaGreat.V
open Go Go.RowKit
set_option linter.unusedVariables false
set_option linter.unusedSimpArgs false
theorem Rch.step {l : List Ins} {a y : Int} (h : Rch l a) (hs : Step l (-1) a y) : Rch l y := by
  rcases h with rfl | h
  · exact .inr (.one hs)
  · exact .inr (.more h hs)
/-- A proof under way: its program, its ledger, how much it has done. -/
structure FS (w : World) (l : List Ins) (pb ob hb : Nat) (rows : List Sl) (s : Sl) (work : Int) : Prop where
  prog : SlR kIns w s l
  sb : ∀ b, s.bk = some b → b < w.heap.size ∧ b ≠ pb ∧ ¬ ZL hb rows b
  box : ∃ ids most at_, PBx w pb ⟨s, work, ids, most, at_, ob⟩
  led : Lg w l ob hb rows work.toNat
  w0 : 0 ≤ work
  w1 : work ≤ 1200
/-- From one state of a proof to another. -/
structure FTo (l : List Ins) (pb ob hb : Nat) (s : Sl) (rows : List Sl) (work : Int) (w : World) (rows' : List Sl) (work' : Int) (w' : World) : Prop where
  fs : FS w' l pb ob hb rows' s work'
  le : work ≤ work'
  chg : Chg (fun j => j = pb ∨ ZL hb rows j) w w'
  grow : ∀ j, ZL hb rows' j → ZL hb rows j ∨ w.heap.size ≤ j
section
variable {l : List Ins} {pb ob hb : Nat} {s : Sl} {rows rows1 rows2 : List Sl} {work work1 work2 : Int} {w w1 w2 : World} {X Y : Nat → Prop}
theorem FTo.trans (h1 : FTo l pb ob hb s rows work w rows1 work1 w1) (h2 : FTo l pb ob hb s rows1 work1 w1 rows2 work2 w2) : FTo l pb ob hb s rows work w rows2 work2 w2 :=
  ⟨h2.fs, Int.le_trans h1.le h2.le, h1.chg.trans h2.chg fun j hj hy => by
    rcases hy with h | h
    · exact .inl h
    · rcases h1.grow j h with h | h
      · exact .inr h
      · omega, fun j hj => by
    rcases h2.grow j hj with h | h
    · exact h1.grow j h
    · have := h1.chg.size; exact .inr (by omega)⟩
theorem FS.pz (h : FS w l pb ob hb rows s work) : ¬ ZL hb rows pb := by
  obtain ⟨i, m, a, hP⟩ := h.box
  exact h.led.out' hP (by decide) (by decide)
theorem FS.op (h : FS w l pb ob hb rows s work) : ob ≠ pb := fun e => by
  obtain ⟨i, m, a, hP⟩ := h.box
  have h1 := h.led.out
  unfold PBx at hP
  rw [e, hP] at h1
  simp at h1
theorem FS.oz (h : FS w l pb ob hb rows s work) : ¬ ZL hb rows ob := h.led.out' h.led.out (by decide) (by decide)
theorem FS.to (h : FS w l pb ob hb rows s work) : FTo l pb ob hb s rows work w rows work w := ⟨h, Int.le_refl _, Chg.refl _ _, fun _ h => .inl h⟩
/-- Other blocks change. -/
theorem FS.chg (h : FS w l pb ob hb rows s work) (hc : Chg Y w w1) (hY : ∀ j, Y j → j ≠ pb ∧ j ≠ ob ∧ ¬ ZL hb rows j ∧ s.bk ≠ some j) : FS w1 l pb ob hb rows s work := by
  obtain ⟨i, m, a, hP⟩ := h.box
  exact ⟨h.prog.chgN hc fun b hb hy => (hY b hy).2.2.2 hb, fun b hb => by have g := h.sb b hb; have := hc.size; exact ⟨by omega, g.2⟩, ⟨i, m, a, hc.blk hP fun hy => (hY pb hy).1 rfl⟩, h.led.chg hc (fun hy => (hY ob hy).2.1 rfl) fun j hj hy => (hY j hy).2.2.1 hj, h.w0, h.w1⟩
theorem KS.chg {b n : Nat} (h : KS w b n) (hc : Chg X w w1) (hb : ¬ X b) (hs : ∀ g cur, w.heap[g]? = some (.cells cur 3 (0, 0)) → ¬ X g) : KS w1 b n := by
  obtain ⟨k, xs, h1, h2, h3, h4⟩ := h
  exact ⟨k, xs, hc.blk h1 hb, h2, h3.chg hc fun g hg => by obtain ⟨cur, hcur⟩ := ownTy h3 hg; exact hs g cur hcur, h4⟩
theorem KS.more {b n n' : Nat} (h : KS w b n) (hn : n ≤ n') : KS w b n' := by
  obtain ⟨k, xs, h1, h2, h3, h4⟩ := h
  exact ⟨k, xs, h1, h2, h3, by omega⟩
/-- What is known of a way, in a box of the call's own. -/
structure IT (w0 : World) (rows0 : List Sl) (work0 : Int) (ak : Nat) (l : List Ins) (pb ob hb : Nat) (s : Sl) (rows : List Sl) (work : Int) (n : Nat) (w : World) : Prop where
  to : FTo l pb ob hb s rows0 work0 w0 rows work w
  ks : KS w ak n
  own : w0.heap.size ≤ ak
  nz : ¬ ZL hb rows ak
  sb0 : ∀ b, s.bk = some b → b < w0.heap.size
  pb0 : pb < w0.heap.size
  ob0 : ob < w0.heap.size
variable {w0 : World} {rows0 : List Sl} {work0 : Int} {ak n : Nat}
theorem IT.below (h : IT w0 rows0 work0 ak l pb ob hb s rows work n w) (hb' : Below w.heap.size w w1) : IT w0 rows0 work0 ak l pb ob hb s rows work n w1 :=
  ⟨h.to.trans ⟨h.to.fs.chg (Y := noX) (.of_below hb') fun _ h => h.elim, Int.le_refl _, .of_below hb', fun _ h => .inl h⟩, h.ks.below hb', h.own, h.nz, h.sb0, h.pb0, h.ob0⟩
/-- A box of the call's own is written. -/
theorem IT.wr {c : Nat} {n' : Nat} (h : IT w0 rows0 work0 ak l pb ob hb s rows work n w) (hc : Chg (bX c) w w1) (hc0 : w0.heap.size ≤ c) (hz : ¬ ZL hb rows c) (hk : KS w1 ak n') : IT w0 rows0 work0 ak l pb ob hb s rows work n' w1 := by
  have f : FS w1 l pb ob hb rows s work := h.to.fs.chg hc fun j hj => by
    obtain rfl : j = c := hj
    exact ⟨by have := h.pb0; omega, by have := h.ob0; omega, hz, fun e => by have := h.sb0 _ e; omega⟩
  refine ⟨⟨f, h.to.le, h.to.chg.trans hc fun j hj hy => ?_, h.to.grow⟩, hk, h.own, h.nz, h.sb0, h.pb0, h.ob0⟩
  obtain rfl : j = c := hy
  omega
/-- The proof's own box is written. -/
theorem IT.pw {work' : Int} (h : IT w0 rows0 work0 ak l pb ob hb s rows work n w) (hc : Chg (bX pb) w w1) (hP : ∃ ids most at_, PBx w1 pb ⟨s, work', ids, most, at_, ob⟩) (hw : work ≤ work') (hw2 : work' ≤ 1200) : IT w0 rows0 work0 ak l pb ob hb s rows work' n w1 := by
  obtain ⟨i, m, a, hP0⟩ := h.to.fs.box
  have hz := h.to.fs.pz
  have hw0 := h.to.fs.w0
  have f : FS w1 l pb ob hb rows s work' := ⟨h.to.fs.prog.chgN hc fun b hb hy => (h.to.fs.sb b hb).2.1 hy, fun b hb => by have g := h.to.fs.sb b hb; have := hc.size; exact ⟨by omega, g.2⟩, hP,
    (h.to.fs.led.chg hc (fun hy => h.to.fs.op hy) fun j hj hy => by obtain rfl : j = pb := hy; exact hz hj).more (by omega), by omega, hw2⟩
  refine ⟨h.to.trans ⟨f, hw, hc.mono fun j _ hj => .inl hj, fun _ h => .inl h⟩, h.ks.chg hc (fun e => ?_) fun g cur hg hy => ?_, h.own, h.nz, h.sb0, h.pb0, h.ob0⟩
  · have := h.pb0; have := h.own; have e : ak = pb := e; omega
  · obtain rfl : g = pb := hy
    unfold PBx at hP0
    rw [hP0] at hg
    simp at hg
theorem zlInt (h : Lg w l ob hb rows n) : ∀ g cur, w.heap[g]? = some (.cells cur 3 (0, 0)) → ¬ ZL hb rows g := fun g cur hg => h.out' hg (by decide) (by decide)
/-- The state that another call leaves behind. -/
theorem IT.after (h : IT w0 rows0 work0 ak l pb ob hb s rows work n w) (ht : FTo l pb ob hb s rows work w rows1 work1 w1) : IT w0 rows0 work0 ak l pb ob hb s rows1 work1 n w1 := by
  obtain ⟨i, m, a, hP0⟩ := h.to.fs.box
  have hlt := h.ks.lt
  refine ⟨h.to.trans ht, h.ks.chg ht.chg (fun hx => ?_) (fun g cur hg hx => ?_), h.own, fun hz => ?_, h.sb0, h.pb0, h.ob0⟩
  · rcases hx with e | e
    · have := h.pb0; have := h.own; omega
    · exact h.nz e
  · rcases hx with rfl | e
    · unfold PBx at hP0
      rw [hP0] at hg
      simp at hg
    · exact zlInt h.to.fs.led g cur hg e
  · rcases ht.grow ak hz with e | e
    · exact h.nz e
    · omega
end
end Go.Proofs.YtihllippchgkgaaGreat.V

/- Contracts: all ways from an op on are followed; the walk. -/
namespace Go.Proofs.YtihllippchgkgaaGreat.V
open Go Go.RowKit
set_option linter.unusedVariables false
set_option linter.unusedSimpArgs false
section
variable {l : List Ins} {pb ob hb : Nat} {s : Sl} {rows rows0 rows1 rows2 : List Sl} {work work0 work1 work2 : Int} {w w0 w1 w2 : World} {X Y : Nat → Prop} {ak n n' : Nat}
/-- Boxes of the call's own, and the proof's, are written. -/
theorem IT.far (h : IT w0 rows0 work0 ak l pb ob hb s rows work n w) (hc : Chg Y w w1) (hY : ∀ j, Y j → j = pb ∨ (w0.heap.size ≤ j ∧ ¬ ZL hb rows j)) (hP : ∃ ids most at_, PBx w1 pb ⟨s, work, ids, most, at_, ob⟩) : FTo l pb ob hb s rows0 work0 w0 rows work w1 := by
  have f := h.to.fs
  refine ⟨⟨f.prog.chgN hc fun b hb hy => ?_, fun b hb => by have g := f.sb b hb; have := hc.size; exact ⟨by omega, g.2⟩, hP, f.led.chg hc (fun hy => ?_) fun j hj hy => ?_, f.w0, f.w1⟩, h.to.le, h.to.chg.trans hc fun j hj hy => ?_, h.to.grow⟩
  · rcases hY b hy with e | e
    · exact (f.sb b hb).2.1 e
    · have := h.sb0 b hb; omega
  · rcases hY ob hy with e | e
    · exact f.op e
    · have := h.ob0; omega
  · rcases hY j hy with e | e
    · subst e; exact f.pz hj
    · exact e.2 hj
  · rcases hY j hy with e | e
    · exact .inl e
    · omega
theorem IT.up (h : IT w0 rows0 work0 ak l pb ob hb s rows work n w) (ht : FTo l pb ob hb s rows0 work0 w0 rows work w1) (hk : KS w1 ak n') : IT w0 rows0 work0 ak l pb ob hb s rows work n' w1 := ⟨ht, hk, h.own, h.nz, h.sb0, h.pb0, h.ob0⟩
theorem IT.pbx (h : IT w0 rows0 work0 ak l pb ob hb s rows work n w) (hc : Chg Y w w1) (hY : ¬ Y pb) : ∃ ids most at_, PBx w1 pb ⟨s, work, ids, most, at_, ob⟩ := by
  obtain ⟨i, m, a, hP⟩ := h.to.fs.box
  exact ⟨i, m, a, hc.blk hP hY⟩
theorem stK {k k' : Kn} (hb : KBx w ak k) (hk : k.ok) (hk' : k'.ok) {K : World → Prop} (hK : ∀ w', KBx w' ak k' → w.grownBy w' (some ak) → K w') : StA P0 ⟨ak, 0, none⟩ (Tup.cells KL k'.t) w K := by
  obtain ⟨w', hr, hg, hsz, hh⟩ := run_storeCells_at' P0 (b := ak) (t := 95) (Tup.cells KL k'.t) 0 [] k.cells w (oneCell_cells kKL (by
    intro l hl e
    subst e
    have hl : Lf.any ∈ R 99 (.i .i64) ++ R 16 .b ++ [.sl] := hl
    simp [R] at hl) k'.t) rfl (by rw [Kn.t_cells hk', Kn.len hk, Kn.len hk']) (by unfold KBx at hb; simpa using hb)
  refine ⟨w', hr, hK w' ?_ hg⟩
  unfold KBx
  rw [← Kn.t_cells hk']
  simpa using hh
theorem nwStK {k : Kn} (hk : k.ok) {K : Addr → World → Prop} (hK : ∀ w', Below w.heap.size w w' → w'.heap.size = w.heap.size + 1 → KBx w' w.heap.size k → K ⟨w.heap.size, 0, none⟩ w') :
    Nw (zc P0 95) 95 w (fun a w' => StA P0 a (Tup.cells KL k.t) w' (K a)) :=
  nwSt (cs := Tup.cells KL k.t) (by rw [V.cells_length]; kernel_rfl) (oneCell_cells kKL (by
    intro l hl e
    subst e
    have hl : Lf.any ∈ R 99 (.i .i64) ++ R 16 .b ++ [.sl] := hl
    simp [R] at hl) k.t) (fun w' h1 h2 h3 => hK w' h1 h2 (by unfold KBx; rw [← Kn.t_cells hk]; exact h3)) rfl
theorem KS.ne {b c n m : Nat} (h : KS w b n) {g : Nat} {cur : Array Value} (hg : w.heap[g]? = some (.cells cur 3 (0, 0))) : ¬ bX b g := fun e => by
  obtain rfl : g = b := e
  obtain ⟨k, xs, h1, _⟩ := h
  unfold KBx at h1
  rw [h1] at hg
  simp at hg
/-- A place is noted. -/
def NQ (l : List Ins) (ob hb : Nat) (rows : List Sl) (n H : Nat) (w : World) : Prop := ∃ rows2, Lg w l ob hb rows2 (n + 1) ∧ ∀ j, ZL hb rows2 j → ZL hb rows j ∨ H ≤ j
end
set_option maxHeartbeats 4000000 in
theorem impl.proof.follow.q {l : List Ins} {pb ob hb : Nat} {s : Sl} (hq : formP l = 0) (hl : l.length ≤ 1048576) (m : Nat) : ∀ {w : World} {rows0 : List Sl} {work0 at_ many : Int} {k : Kn} {xs : List Int} {K : Unit → World → Prop} {Kp : List PanicEntry → World → Prop},
    (1200 - work0).toNat ≤ m → FS w l pb ob hb rows0 s work0 → RK k → OwnS kI 3 0 w k.sk xs → xs.length ≤ work0.toNat → 0 ≤ at_ → at_ < l.length → Rch l at_ → 0 ≤ many → many ≤ 300 →
    (∀ rows' work' w', FTo l pb ob hb s rows0 work0 w rows' work' w' → K () w') → (∀ c rows' work' w', FTo l pb ob hb s rows0 work0 w rows' work' w' → Kp (trapCh c) w') →
    CallP .z P0 92 [.pointer (some ⟨pb, 0, none⟩), .int .i64 at_, .agg (Tup.cells KL k.t).toArray, .int .i64 many] w K Kp := by
  induction m using Nat.strongRecOn with
  | ind m ih =>
  intro w rows0 work0 at_ many k xs K Kp hm h0 hk ho hn ha0 ha1 hr hm0 hm1 hK hp
  obtain ⟨i0, mo0, a0, hP0⟩ := h0.box
  refine impl.proof.follow.ok ?_
  unfold impl.proof.follow.vc
  refine nw fun w1 b1 s1 c1 => ?_
  have hka : KBx w1 w.heap.size k := by unfold KBx; rw [c1]; rw [Kn.t_cells hk.1]
  have it1 : IT w rows0 work0 w.heap.size l pb ob hb s rows0 work0 work0.toNat w1 := ⟨⟨h0.chg (Y := noX) (.of_below b1) fun _ h => h.elim, Int.le_refl _, .of_below b1, fun _ h => .inl h⟩, ⟨k, xs, hka, hk, ho.below b1, hn⟩, Nat.le_refl _, fun hz => by have := h0.led.lt _ hz; omega, fun b hb => (h0.sb b hb).1, PBx.lt hP0, lt_blk h0.led.out⟩
  refine ⟨fun at1 many1 w' => (0 ≤ at1 ∧ at1 < l.length ∧ Rch l at1 ∧ 0 ≤ many1 ∧ many1 ≤ 300) ∧ ∃ rows1 work1, IT w rows0 work0 w.heap.size l pb ob hb s rows1 work1 work1.toNat w', fun at1 many1 _ => (300 - many1).toNat, ⟨⟨ha0, ha1, hr, hm0, hm1⟩, rows0, work0, it1⟩, ?_⟩
  clear it1 hka c1 s1 ha0 ha1 hr hm0 hm1
  rintro at1 many1 w2 ⟨⟨ha0, ha1, hr, hm0, hm1⟩, rows1, work1, it2⟩ _
  obtain ⟨a, rfl⟩ := Int.eq_ofNat_of_zero_le ha0
  obtain ⟨x, hx⟩ : ∃ x, l[a]? = some x := ⟨l[a]'(by omega), List.getElem?_eq_getElem _⟩
  have hxP := formP_ins hq (List.mem_of_getElem? hx)
  have nextP : ∀ y, y ∈ nextX a x → 0 ≤ y ∧ y < l.length ∧ Rch l y := fun y hy => by
    have h1 := nextX_in hq hx hy
    exact ⟨h1.1, h1.2, hr.step ⟨x, ha0, by simpa using hx, hy, by omega⟩⟩
  -- where it is
  obtain ⟨ids, most, a_, hP2⟩ := it2.to.fs.box
  refine ⟨_, rfl, stB hP2 rfl (by simp [PS.cells]) fun w3 hg3 hs3 hc3 => ?_⟩
  have hP3 : PBx w3 pb ⟨s, work1, ids, most, a, ob⟩ := by unfold PBx; rw [hc3, List.setIfInBounds_toArray]; rfl
  have it3 := it2.pw (.of_grown hg3 rfl) ⟨_, _, _, hP3⟩ (Int.le_refl _) it2.to.fs.w1
  refine ⟨fun w' => IT w rows0 work0 w.heap.size l pb ob hb s rows1 work1 work1.toNat w' ∧ work1 < 1200 ∧ many1 < 300, ⟨_, rfl, ldB hP3 (j := 2) (l := .i .i64) (x := work1) rfl (And.intro (fun h => impl.need.q (fun h2 => ?_) (fun _ => hp _ _ _ _ it3.to)) (fun h => impl.need.q (fun h2 => by simp at h2) (fun _ => hp _ _ _ _ it3.to)))⟩, fun w4 ⟨it4, hw4, hm4⟩ _ => ?_⟩
  · have h : decide (work1 < 1200) = true := h
    simp only [decide_eq_true_eq] at h h2
    exact ⟨it3, h, h2⟩
  clear it2 it3 hP2 hP3
  have hw0 := it4.to.fs.w0
  have hle0 := it4.to.le
  obtain ⟨ids, most, a_, hP4⟩ := it4.to.fs.box
  refine ⟨_, rfl, ldB hP4 (j := 2) (l := .i .i64) (x := work1) rfl ⟨_, rfl, ?_⟩⟩
  refine stB hP4 rfl (by simp [PS.cells]) fun w5 hg5 hs5 hc5 => ?_
  have hP5 : PBx w5 pb ⟨s, work1 + 1, ids, most, a_, ob⟩ := by
    unfold PBx
    rw [hc5, List.setIfInBounds_toArray]
    have e : IntKind.wrap .i64 (work1 + 1) = work1 + 1 := i64_of (by omega) (by omega)
    show some (Obj.cells (List.toArray [s.v, Sl.v ⟨none, 0, 0⟩, .int .i64 (IntKind.wrap .i64 (work1 + 1)), _, _, _, _]) _ _) = _
    rw [e]; rfl
  have it5 := it4.pw (.of_grown hg5 rfl) ⟨_, _, _, hP5⟩ (show work1 ≤ work1 + 1 by omega) (by omega)
  have hpz := it5.to.fs.pz
  have L5 : Lg w5 l ob hb rows1 work1.toNat := it4.to.fs.led.chg (Chg.of_grown (X := bX pb) hg5 rfl) (fun hy => it4.to.fs.op hy) fun j hj hy => by obtain rfl : j = pb := hy; exact hpz hj
  have hks5 := it5.ks
  obtain ⟨k5, xs5, hb5, hk5, ho5, hn5⟩ := hks5
  have hmw : IntKind.wrap .i64 (many1 + 1) = many1 + 1 := i64_of (by omega) (by omega)
  have haw : IntKind.wrap .i64 ((a : Int) + 1) = (a : Int) + 1 := i64_of (by omega) (by omega)
  rw [hmw, haw]
  clear hg5 hc5 hs5
  refine ⟨fun u v => Chg (ZL hb rows1) u v ∧ (NQ l ob hb rows1 work1.toNat w5.heap.size u → NQ l ob hb rows1 work1.toNat w5.heap.size v), ⟨fun u => ⟨Chg.refl _ _, id⟩, fun _ _ _ h1 h2 => ⟨h1.1.trans h2.1 fun _ _ h => h, fun q => h2.2 (h1.2 q)⟩, ⟨.of_below (Below.refl _ _).drew, fun ⟨r2, L, g⟩ => ⟨r2, L.below (Below.refl _ _).drew, g⟩⟩⟩,
    fun w' => Lg w' l ob hb rows1 work1.toNat, L5.below (Below.refl _ _).drew, prG (fun p => p = ⟨pb, 0, none⟩), keptPr, prG (fun t => t = (⟨ob, 0, none⟩, ())), keptPr, prG (fun y => y = k5.t), keptPr, fun _ w' => NQ l ob hb rows1 work1.toNat w5.heap.size w', fun _ _ _ h hs => hs.2 h, fun w6 hs => ?_, fun t34 => ⟨fun w6 hs e => ?_, fun t36 => ⟨fun w6 hs => ?_, fun t38 => ⟨fun w6 hs hN e1 e2 => ?_, fun t39 w6 hs _ _ _ e => ?_⟩⟩⟩⟩
  · exact ⟨_, rfl, gkP rfl ⟨⟨Chg.refl _ _, id⟩, id⟩ rfl⟩
  · obtain rfl : t34 = _ := e
    exact ldB (hs.1.blk hP5 hpz) (j := 6) (l := .fn 52 1) (x := (⟨ob, 0, none⟩, ())) rfl (gkP rfl ⟨⟨Chg.refl _ _, id⟩, id⟩ rfl)
  · exact KAt.ldK ⟨hs.1.blk hb5 it5.nz, hk5.1⟩ (gkP rfl ⟨⟨Chg.refl _ _, id⟩, id⟩ rfl)
  · obtain rfl : t36 = _ := e1
    have hsz := hs.1.size
    refine impl.visits_1.q hN ha0 ha1 hr (by omega) hl fun rows2 w7 L7 c7 g7 => ?_
    have q7 : NQ l ob hb rows1 work1.toNat w5.heap.size w7 := ⟨rows2, L7, fun j hj => (g7 j hj).imp id fun h => by omega⟩
    exact ⟨(), rfl, ⟨c7, fun _ => q7⟩, q7⟩
  obtain ⟨rows2, L6, g6⟩ := e
  have hn6 : (work1 + 1).toNat = work1.toNat + 1 := by omega
  have f6 : FTo l pb ob hb s rows1 (work1 + 1) w5 rows2 (work1 + 1) w6 := ⟨⟨it5.to.fs.prog.chgN hs.1 fun b hb' => (it5.to.fs.sb b hb').2.2, fun b hb' => by
      have g := it5.to.fs.sb b hb'
      have hsz := hs.1.size
      refine ⟨by omega, g.2.1, fun hz => ?_⟩
      rcases g6 b hz with e | e
      · exact g.2.2 e
      · omega, ⟨_, _, _, hs.1.blk hP5 hpz⟩, by rw [hn6]; exact L6, by omega, by omega⟩, Int.le_refl _, hs.1.mono fun j _ hj => .inr hj, g6⟩
  have it6 := it5.after f6
  clear f6 g6 L6 hP5 hb5 hs L5 it5 hpz it4 hP4
  obtain ⟨ids, most, a_, hP6⟩ := it6.to.fs.box
  refine ⟨_, rfl, ldB hP6 (j := 0) (l := .sl) (x := s) rfl ?_⟩
  refine ixA it6.to.fs.prog ha0 (x := x) (by simpa using hx) rfl ?_
  refine nwStIns (x := x) fun w7 b7 s7 c7 => ?_
  have it7 := it6.below b7
  have hbx : w.heap.size ≤ w6.heap.size := it6.to.chg.size
  have hP7 : PBx w7 pb ⟨s, work1 + 1, ids, most, a_, ob⟩ := PBx.below hP6 b7
  clear it6 hP6
  have hks7 := it7.ks
  obtain ⟨k7, xs7, hb7, hk7, ho7, hn7⟩ := hks7
  refine ldB c7 (j := 0) (l := .i .i64) (x := x.op) rfl (And.intro (fun hc => ?_) (fun hc => ?_))
  · -- the end
    refine impl.known.read.q hb7 hk7 (by decide) (by decide) (fun v w8 _ hv b8 => ?_) (fun c w8 b8 => hp _ _ _ _ (it7.below b8).to)
    refine impl.Know.number.q hv (fun r w9 _ _ b9 => ?_) (fun c w9 b9 => hp _ _ _ _ ((it7.below b8).below b9).to)
    have it9 := (it7.below b8).below b9
    refine KAt.ld (l := .sl) (x := k7.sk) (j := 115) ⟨(hb7.below b8).below b9, hk7.1⟩ (Kn.getK hk7.1) ?_
    refine impl.need.q (fun _ => ?_) (fun _ => hp _ _ _ _ it9.to)
    have hP9 : PBx w9 pb ⟨s, work1 + 1, ids, most, a_, ob⟩ := PBx.below (PBx.below hP7 b8) b9
    refine ⟨_, rfl, ldB hP9 (j := 4) (l := .i .i64) (x := most) rfl ⟨_, rfl, stB hP9 rfl (by simp [PS.cells]) fun w10 hg hs hc10 => ?_⟩⟩
    have hP10 : PBx w10 pb ⟨s, work1 + 1, ids, if many1 + 1 > most then many1 + 1 else most, a_, ob⟩ := by unfold PBx; rw [hc10, List.setIfInBounds_toArray]; rfl
    exact hK _ _ _ (it9.pw (.of_grown hg rfl) ⟨_, _, _, hP10⟩ (Int.le_refl _) (by omega)).to
  have hc : (x.op == 20) = false := hc
  refine ldB c7 (j := 0) (l := .i .i64) (x := x.op) rfl (And.intro (fun hc2 => ?_) (fun hc2 => ?_))
  · -- elsewhere
    have hc2 : (x.op == 16) = true := hc2
    simp only [beq_iff_eq] at hc2
    have hy : tgt a x ∈ nextX a x := by unfold nextX; rw [if_neg (by omega), if_pos hc2]; simp
    refine ⟨_, rfl, ldB hP7 (j := 0) (l := .sl) (x := s) rfl (impl.target.c it7.to.fs.prog ha0 (by simpa using hx) hl hxP.2.2.1 ?_)⟩
    have h1 := nextP _ hy
    exact ⟨⟨⟨h1.1, h1.2.1, h1.2.2, by omega, by omega⟩, rows2, work1 + 1, it7.to, it7.ks.more (by omega), it7.own, it7.nz, it7.sb0, it7.pb0, it7.ob0⟩, by show (300 - (many1 + 1)).toNat < (300 - many1).toNat; omega⟩
  have hc2 : (x.op == 16) = false := hc2
  simp only [beq_eq_false_iff_ne, ne_eq] at hc hc2
  refine ldB c7 (j := 0) (l := .i .i64) (x := x.op) rfl (impl.kind.asks.c (And.intro (fun hc3 => ?_) (fun hc3 => ?_)))
  · -- both sides
    simp only [decide_eq_true_eq] at hc3
    refine KAt.ldK ⟨hb7, hk7.1⟩ (nwStK hk7.1 fun w8 b8 s8 hbo8 => ?_)
    have it8 := it7.below b8
    have hx8 : w8.heap[w6.heap.size]? = some (.cells x.cs 82 (0, 0)) := (b8.block _ (by omega)).trans c7
    have hb8 := hb7.below b8
    have hs7 := b7.size
    have hak : w.heap.size < w7.heap.size := it7.ks.lt
    have nzo : ¬ ZL hb rows2 w7.heap.size := fun hz => by have := it7.to.fs.led.lt _ hz; omega
    have hkso : KS w8 w7.heap.size work1.toNat := ⟨k7, xs7, hbo8, hk7, ho7.below b8, hn7⟩
    have akpb : w.heap.size ≠ pb := fun e => by have := it7.pb0; omega
    have far8 : ∀ {w' : World} {j : Nat}, Chg (bX j) w8 w' → w.heap.size ≤ j → ¬ ZL hb rows2 j → FTo l pb ob hb s rows0 work0 w rows2 (work1 + 1) w' := fun {w' j} hc' hj hz =>
      it8.far hc' (fun i hi => by obtain rfl : i = j := hi; exact .inr ⟨hj, hz⟩) (it8.pbx hc' fun e => by have := it7.pb0; have e : pb = j := e; omega)
    refine ⟨fun w' => ∃ rows3 work3, IT w rows0 work0 w.heap.size l pb ob hb s rows3 work3 work1.toNat w' ∧ KS w' w7.heap.size work1.toNat ∧ ¬ ZL hb rows3 w7.heap.size ∧ w'.heap[w6.heap.size]? = some (.cells x.cs 82 (0, 0)) ∧ work1 + 1 ≤ work3, ?_, fun w10 ⟨rows3, work3, it10, ksb, nzb, hx10, hwl⟩ _ => ?_⟩
    · refine ldAB hx8 (x := x.t) rfl ?_
      refine impl.known.side.q hb8 hk7 (ho7.below b8) hn7 (by omega) hxP (fun ok w9 ks9 c9 => ?_) (fun c w9 c9 => hp _ _ _ _ (far8 c9 (Nat.le_refl _) it8.nz))
      have it9 := it8.up (far8 c9 (Nat.le_refl _) it8.nz) ks9
      have kso9 : KS w9 w7.heap.size work1.toNat := hkso.chg c9 (fun e => by have e : w7.heap.size = w.heap.size := e; omega) fun g cur hg => it8.ks.ne (c := 0) (m := 0) hg
      have hx9 : w9.heap[w6.heap.size]? = some (.cells x.cs 82 (0, 0)) := c9.blk hx8 fun e => by
        have e : w6.heap.size = w.heap.size := e
        unfold KBx at hb8
        rw [← e, hx8] at hb8
        simp at hb8
      refine And.intro (fun _ => ?_) (fun _ => ⟨rows2, work1 + 1, it9, kso9, nzo, hx9, Int.le_refl _⟩)
      obtain ⟨k9, xs9, hb9, hk9, ho9, hn9⟩ := ks9
      refine KAt.ldK ⟨hb9, hk9.1⟩ ?_
      have hy : (a : Int) + 1 ∈ nextX a x := by
        unfold nextX
        rw [if_neg (by omega), if_neg (by omega), if_pos (by omega)]
        split
        · simp
        · split <;> simp
      have h1 := nextP _ hy
      refine ih ((1200 - (work1 + 1)).toNat) (by omega) (Nat.le_refl _) it9.to.fs hk9 ho9 (by omega) h1.1 h1.2.1 h1.2.2 (by omega) (by omega) (fun rows' work' w' ft => ?_) (fun c rows' work' w' ft => hp _ _ _ _ (it9.to.trans ft))
      have hsz9 : w8.heap.size ≤ w9.heap.size := c9.size
      refine ⟨rows', work', it9.after ft, kso9.chg ft.chg (fun e => ?_) (fun g cur hg e => ?_), fun hz => ?_, ft.chg.blk hx9 fun e => ?_, ft.le⟩
      · rcases e with e | e
        · have := it7.pb0; omega
        · exact nzo e
      · rcases e with e | e
        · obtain ⟨i, m, a, hP⟩ := it9.to.fs.box
          subst e
          unfold PBx at hP
          rw [hP] at hg
          simp at hg
        · exact zlInt it9.to.fs.led g cur hg e
      · rcases ft.grow _ hz with e | e
        · exact nzo e
        · omega
      · rcases e with e | e
        · have := it7.pb0; omega
        · exact it9.to.fs.led.out' hx9 (by decide) (by decide) e
    · obtain ⟨ids3, most3, a3, hP10⟩ := it10.to.fs.box
      refine ⟨_, rfl, stB hP10 rfl (by simp [PS.cells]) fun w11 hg11 hs11 hc11 => ?_⟩
      have hP11 : PBx w11 pb ⟨s, work3, ids3, most3, a, ob⟩ := by unfold PBx; rw [hc11, List.setIfInBounds_toArray]; rfl
      have it11 := it10.pw (.of_grown hg11 rfl) ⟨_, _, _, hP11⟩ (Int.le_refl _) it10.to.fs.w1
      have c11 : Chg (bX pb) w10 w11 := .of_grown hg11 rfl
      have ks11 : KS w11 w7.heap.size work1.toNat := ksb.chg c11 (fun e => by have e : w7.heap.size = pb := e; have := it7.pb0; omega) fun g cur hg e => by
        obtain rfl : g = pb := e
        unfold PBx at hP10
        rw [hP10] at hg
        simp at hg
      have hx11 : w11.heap[w6.heap.size]? = some (.cells x.cs 82 (0, 0)) := c11.blk hx10 fun e => by have e : w6.heap.size = pb := e; have := it7.pb0; omega
      obtain ⟨ko, xso, hbo, hko, hoo, hno⟩ := ks11
      have far11 : ∀ {w' : World} {j : Nat}, Chg (bX j) w11 w' → w.heap.size ≤ j → ¬ ZL hb rows3 j → FTo l pb ob hb s rows0 work0 w rows3 work3 w' := fun {w' j} hc' hj hz =>
        it11.far hc' (fun i hi => by obtain rfl : i = j := hi; exact .inr ⟨hj, hz⟩) (it11.pbx hc' fun e => by have := it7.pb0; have e : pb = j := e; omega)
      refine ldAB hx11 (x := x.t) rfl ?_
      refine impl.known.side.q hbo hko hoo hno (by omega) hxP (fun ok w12 ks12 c12 => ?_) (fun c w12 c12 => hp _ _ _ _ (far11 c12 (by omega) nzb))
      have ksa12 : KS w12 w.heap.size work1.toNat := it11.ks.chg c12 (fun e => by have e : w.heap.size = w7.heap.size := e; omega) fun g cur hg => KS.ne (c := 0) (m := 0) (show KS w11 w7.heap.size work1.toNat from ⟨ko, xso, hbo, hko, hoo, hno⟩) hg
      have it12 := it11.up (far11 c12 (by omega) nzb) ksa12
      refine And.intro (fun _ => hK _ _ _ it12.to) (fun _ => ?_)
      obtain ⟨k12, xs12, hb12, hk12, ho12, hn12⟩ := ks12
      obtain ⟨ka, xsa, hba, hka, hoa, hna⟩ := ksa12
      have hP12 : PBx w12 pb ⟨s, work3, ids3, most3, a, ob⟩ := c12.blk hP11 fun e => by have e : pb = w7.heap.size := e; have := it7.pb0; omega
      have far12 : ∀ {w' : World}, Chg (bX w.heap.size) w12 w' → FTo l pb ob hb s rows0 work0 w rows3 work3 w' := fun {w'} hc' =>
        it12.far hc' (fun i hi => by obtain rfl : i = w.heap.size := hi; exact .inr ⟨Nat.le_refl _, it12.nz⟩) (it12.pbx hc' fun e => akpb e.symm)
      refine ⟨SpB w.heap.size (fun o => o = .cells k12.cells.toArray 95 (0, 0)), spbOk _ _ _ hba.lt, prG (fun y => y = k12.t), keptPr, prG (fun p => p = ⟨pb, 0, none⟩), keptPr, prG (fun t => t = s), keptPr, prG (fun t => t = tgt a x), keptPr, _, keptB, fun w13 hs => ?_, fun t97 => ⟨fun w13 hs => ⟨_, rfl, gkP rfl (SpB.refl _ _ _) rfl⟩, fun t99 => ⟨fun w13 hs e => ?_, fun t101 => ⟨fun w13 hs e => ?_, fun t103 => ⟨fun w13 hs e => ?_, fun st w13 hs _ _ _ e103 e => ?_⟩⟩⟩⟩⟩
      · exact KAt.ldK ⟨hs.chg.blk hb12 fun e => by have e : w7.heap.size = w.heap.size := e; omega, hk12.1⟩ (gkP rfl (SpB.refl _ _ _) rfl)
      · obtain rfl : t99 = _ := e
        exact ldB (hs.chg.blk hP12 fun e => akpb e.symm) (j := 0) (l := .sl) (x := s) rfl (gkP rfl (SpB.refl _ _ _) rfl)
      · obtain rfl : t101 = _ := e
        exact impl.target.c (far12 hs.chg).fs.prog ha0 (by simpa using hx) hl hxP.2.2.1 (gkP rfl (SpB.refl _ _ _) rfl)
      · obtain rfl : t97 = _ := e
        rcases hs.kbx hba with h | ⟨o, h, rfl⟩
        · exact stK h hka.1 hk12.1 fun w14 hb14 hg14 => ⟨(), rfl, ⟨.of_grown hg14 rfl, .inr ⟨_, hb14, rfl⟩⟩, _, hb14, rfl⟩
        · exact stK (k := k12) h hk12.1 hk12.1 fun w14 hb14 hg14 => ⟨(), rfl, ⟨.of_grown hg14 rfl, .inr ⟨_, hb14, rfl⟩⟩, _, hb14, rfl⟩
      · obtain rfl : t103 = _ := e103
        obtain ⟨o, hb14, rfl⟩ := e
        have hy : tgt a x ∈ nextX a x := by
          unfold nextX
          rw [if_neg (by omega), if_neg (by omega), if_pos (by omega)]
          split
          · rename_i h; simp [tgt, h]
          · split <;> simp
        have h1 := nextP _ hy
        have ho14 := ho12.chg hs.chg (sockNe hba ho12)
        have hle := it12.to.fs.w0
        refine ⟨⟨⟨h1.1, h1.2.1, h1.2.2, by omega, by omega⟩, rows3, work3, far12 hs.chg, ⟨k12, xs12, hb14, hk12, ho14, by omega⟩, it12.own, it12.nz, it12.sb0, it12.pb0, it12.ob0⟩, by show (300 - (many1 + 1)).toNat < (300 - many1).toNat; omega⟩
  · -- on to the next one
    simp only [decide_eq_false_iff_not] at hc3
    have hop : x.op ≤ 11 ∨ (17 ≤ x.op ∧ x.op ≤ 19) := by
      have := hxP.2.2.2.2
      unfold BareP at this
      omega
    refine ldAB c7 (x := x.t) rfl ?_
    have far7 : ∀ {w' : World}, PI w' pb ⟨s, work1 + 1, ids, most, a_, ob⟩ → Chg (X2 w.heap.size pb) w7 w' → FTo l pb ob hb s rows0 work0 w rows2 (work1 + 1) w' := fun {w'} ⟨i, hP⟩ hc' =>
      it7.far hc' (fun j hj => by
        rcases hj with rfl | rfl
        · exact .inr ⟨Nat.le_refl _, it7.nz⟩
        · exact .inl rfl) ⟨i, most, a_, hP⟩
    refine impl.proof.step.q hb7 hk7 ho7 hn7 (by omega) hP7 hxP hop (fun w8 ks8 pi8 c8 => ?_) (fun c w8 pi8 c8 => hp _ _ _ _ (far7 pi8 c8))
    have hy : (a : Int) + 1 ∈ nextX a x := by
      unfold nextX
      rw [if_neg (by omega), if_neg (by omega), if_neg (by omega)]
      simp
    have h1 := nextP _ hy
    exact ⟨⟨⟨h1.1, h1.2.1, h1.2.2, by omega, by omega⟩, rows2, work1 + 1, far7 pi8 c8, ks8.more (by omega), it7.own, it7.nz, it7.sb0, it7.pb0, it7.ob0⟩, by show (300 - (many1 + 1)).toNat < (300 - many1).toNat; omega⟩
end Go.Proofs.YtihllippchgkgaaGreat.V

/- Contracts: what a proof does when it has gone wrong, or not. -/
namespace Go.Proofs.YtihllippchgkgaaGreat.V
open Go Go.RowKit
set_option linter.unusedVariables false
set_option linter.unusedSimpArgs false
noncomputable def p1R : Code := cR (code Tryz.f91)
def envP1 (p q : Addr) (v : Value) : Env := [.v (.pointer (some p)), .v (.pointer (some q)), u0, u0, u0, .v v, u0, u0, u0, u0, u0, u0, u0, u0, u0, u0, u0]
def KP1 (KR : World → Prop) : Exit → Env → World → Prop := fun e _ w => e = .normal ∧ KR w
theorem p1_idle {p q : Addr} {w : World} {KR : World → Prop} {Q : Exit → Act → World → Prop} (hQ : ∀ env' w', KR w' → Q .normal (act [] env') w') (h : KR w) : p1R.wp P0 Q (act [] (envP1 p q .nilIface)) w := by
  refine ev_sound (.b (.s (.r (D 1)) (.c (.r (D 1)) .z))) p1R (KP1 KR) Q (envP1 p q .nilIface) w (fun e env' w' hk _ => ?_) ?_
  · obtain ⟨rfl, hk⟩ := hk
    exact hQ env' w' hk
  have e : ev P0 (.b (.s (.r (D 1)) (.c (.r (D 1)) .z))) p1R (KP1 KR) (envP1 p q .nilIface) w = ((true = true → Exit.normal = Exit.normal ∧ KR w) ∧ (true = false → False)) := by kernel_rfl
  rw [e]
  exact ⟨fun _ => ⟨rfl, h⟩, fun h => by simp at h⟩
theorem runTrap (c : Int) (w : World) : (Instr.typeAssert (.iface 109 (.int .i64 c)) 20 109 true).run P0 w = .ok (.tuple #[.int .i64 c, .bool true]) w := by kernel_rfl
theorem p1_caught {p q : Addr} {c : Int} {w : World} {KR : World → Prop} {Q : Exit → Act → World → Prop} (hQ : ∀ env' w', KR w' → Q .normal (act [] env') w')
    (h : Ld .p p w fun t w1 => Nc t w1 fun a w2 => Ld (.i .i64) (Addr.add a 5) w2 fun t15 w3 => StA P0 q [.int .i64 c, .int .i64 t15, .int .i64 0] w3 fun w4 => Exit.normal = Exit.normal ∧ KR w4) :
    p1R.wp P0 Q (act [] (envP1 p q (.iface 109 (.int .i64 c)))) w := by
  refine ev_sound (.b (.s (.r (D 1)) (.c .z (.s (.r [(.t (.n [(.lf (.i .i64)), (.lf .b)])), .d, .d]) (.c (.s (.r (D 1)) (.r [.d, (.l (.lf .p)), .n, .d, (.l (.lf (.i .i64))), .d, .d])) .z))))) p1R (KP1 KR) Q (envP1 p q (.iface 109 (.int .i64 c))) w (fun e env' w' hk _ => ?_) ?_
  · obtain ⟨rfl, hk⟩ := hk
    exact hQ env' w' hk
  have e : ev P0 (.b (.s (.r (D 1)) (.c .z (.s (.r [(.t (.n [(.lf (.i .i64)), (.lf .b)])), .d, .d]) (.c (.s (.r (D 1)) (.r [.d, (.l (.lf .p)), .n, .d, (.l (.lf (.i .i64))), .d, .d])) .z))))) p1R (KP1 KR) (envP1 p q (.iface 109 (.int .i64 c))) w =
    ((false = true → False) ∧ (false = false → RunT (.n [(.lf (.i .i64)), (.lf .b)]) P0 (Instr.typeAssert (.iface 109 (.int .i64 c)) 20 109 true) w fun (t : Int × Bool × Unit) w0 =>
      (t.2.1 = true → Ld .p p w0 fun t' w1 => Nc t' w1 fun a w2 => Ld (.i .i64) (Addr.add a 5) w2 fun t15 w3 => StA P0 q [.int .i64 t.1, .int .i64 t15, .int .i64 0] w3 fun w4 => Exit.normal = Exit.normal ∧ KR w4) ∧ (t.2.1 = false → False))) := by kernel_rfl
  rw [e]
  exact ⟨fun h => by simp at h, fun _ => ⟨(c, true, ()), w, runTrap c w, fun _ => h, fun h => by simp at h⟩⟩
noncomputable def p1L : Code := cL (code Tryz.f91)
theorem p1L_eq : p1L = .region 0 #[{ dst := some 5, op := .call { callee := .builtin .recover, args := #[], argTypes := #[] }, type := 20, pos := "l5_proof.go:335", after := #[], guard := none }] false := by kernel_rfl
theorem p1_body : (Tryz.f91).body = some (.seq p1L p1R) := by kernel_rfl
theorem prove1_idle (p q : Addr) (w : World) :
    CallsD P0 91 #[.pointer (some p), .pointer (some q)] .returning w fun e u' w' => e = .returned (.tuple #[]) ∧ u' = .returning ∧ w' = w := by
  refine callsD_of_wpS Tryz.func91 p1_body fun c₀ cs hu => ?_
  apply wpS_seq
  rw [p1L_eq]
  apply wpS_region
  simp [wpOpsS, go_sem, recoverD, hu, Exit.thenS, Tryz.ntmps91]
  refine wpS_of_wp ?_
  have ha : ({ tmps := #[Value.pointer (some p), Value.pointer (some q)] ++ (Array.replicate 15 undef).setIfInBounds 3 Value.nilIface, defers := [] } : Act) = act [] (envP1 p q .nilIface) := by kernel_rfl
  rw [ha]
  refine p1_idle (KR := fun w' => w' = w) (fun env' w' hk => ?_) (show w = w from rfl)
  obtain rfl : w' = w := hk
  refine ⟨rfl, .returning, ?_, .tuple #[], ?_, rfl, rfl, rfl⟩
  · cases c₀; simp_all
  · simp [results, Tryz.results91]
theorem prove1_caught (p q : Addr) (c : Int) (w : World) {KR : World → Prop}
    (h : Ld .p p w fun t w1 => Nc t w1 fun a w2 => Ld (.i .i64) (Addr.add a 5) w2 fun t15 w3 => StA P0 q [.int .i64 c, .int .i64 t15, .int .i64 0] w3 fun w4 => Exit.normal = Exit.normal ∧ KR w4) :
    CallsD P0 91 #[.pointer (some p), .pointer (some q)] (.panicking (trapCh c)) w fun e u' w' => e = .returned (.tuple #[]) ∧ settle u' = .returning ∧ KR w' := by
  refine callsD_of_wpS Tryz.func91 p1_body fun c₀ cs hu => ?_
  apply wpS_seq
  rw [p1L_eq]
  apply wpS_region
  simp [wpOpsS, go_sem, recoverD, hu, Exit.thenS, Tryz.ntmps91, trapCh]
  refine wpS_of_wp ?_
  have ha : ({ tmps := #[Value.pointer (some p), Value.pointer (some q)] ++ (Array.replicate 15 undef).setIfInBounds 3 (Value.iface 109 (Value.int IntKind.i64 c)), defers := [] } : Act) = act [] (envP1 p q (.iface 109 (.int .i64 c))) := by kernel_rfl
  rw [ha]
  refine p1_caught (KR := KR) (fun env' w' hk => ?_) h
  refine ⟨rfl, _, rfl, .tuple #[], ?_, rfl, ?_, hk⟩
  · simp [results, Tryz.results91]
  · simp [settle]
end Go.Proofs.YtihllippchgkgaaGreat.V

/- The verification condition of a proof of a program: its text (wip/provevc.py) is checked by the kernel, piece by piece. -/
namespace Go.Proofs.YtihllippchgkgaaGreat.V
open Go Go.RowKit
set_option linter.unusedVariables false
set_option linter.unusedSimpArgs false
noncomputable def pR0 : Code := cL (code Tryz.f51)
noncomputable def pB : Code := cL (cR (code Tryz.f51))
noncomputable def pR3 : Code := cL (cR (cR (code Tryz.f51)))
noncomputable def pR4 : Code := cL (cR (cR (cR (code Tryz.f51))))
noncomputable def pZ : Code := cR (cR (cR (cR (code Tryz.f51))))
theorem p_body : (Tryz.f51).body = some (.seq pR0 (.seq pB (.seq pR3 (.seq pR4 pZ)))) := by kernel_rfl
theorem pR4_eq : pR4 = .region 4 #[{ dst := some 22, op := .makeFunc (.func 91) #[] #[.tmp 7, .tmp 6], type := 1, pos := "l5_proof.go:334", after := #[], guard := none },
    { dst := none, op := .defer { callee := .value (.tmp 22), args := #[], argTypes := #[] }, type := 0, pos := "l5_proof.go:334", after := #[{ on := 0, ground := .data }], guard := none }] false := by kernel_rfl
def plB : Pl := .s (.r [.d, (.c (.o (.lf (.i .i64)))), .d, (.sp .d), .d, (.c (.o (.lf .b))), .d, .d]) (.c (.s (.r (D 2)) .z) .z)
def plZ : Pl := .s (.g [((.g (.o (.lf .p)) (.l (.lf .p))), []), ((.g (.o (.ag (R 99 (.i .i64) ++ R 16 .b ++ [.sl]))) (.c (.o (.ag (R 99 (.i .i64) ++ R 16 .b ++ [.sl]))))), []), ((.g (.n []) (.cp .z)), [0, 1])] []) (.s (.r [(.l (.lf .p)), .n, .d, (.l (.lf (.i .i64))), .d, .d]) .z)
def envP (list tables : Sl) (ob : Nat) : Env := [.v list.v, .v tables.v, .v (.func (.func 52) #[] #[.pointer (some ⟨ob, 0, none⟩)])] ++ List.replicate 28 u0
def env4 (env : Env) : Env := put env (some 22) (.v (.func (.func 91) #[] #[rho env (.tmp 7), rho env (.tmp 6)]))
/-- What a piece of code asks, not to be unfolded. -/
@[irreducible] def EvI (pl : Pl) (c : Code) (K : Exit → Env → World → Prop) (env : Env) (w : World) : Prop := ev P0 pl c K env w
theorem evJ_sound {ds : List Deferred} {pl : Pl} {c : Code} {K : Exit → Env → World → Prop} {Q : Exit → Act → World → Prop} {env : Env} {w : World} (hK : ∀ e env' w', K e env' w' → Ag (writes c) env env' → Q e (act ds env') w') (h : EvI pl c K env w) : c.wp P0 Q (act ds env) w := by
  unfold EvI at h
  exact ev_sound pl c K Q env w hK h
section
variable (KR : Addr → World → Prop) (KE : Addr → Addr → World → Prop) (Kp : Addr → Addr → List PanicEntry → World → Prop)
def KZ (env4 : Env) : Exit → Env → World → Prop := fun e _ w => match env4.getD 6 u0, env4.getD 7 u0 with
  | .v (.pointer (some a6)), .v (.pointer (some a7)) => (match e with | .ret => KE a6 a7 w | .panic ch => Kp a6 a7 ch w | _ => False)
  | _, _ => False
def KB (env : Env) (w : World) : Prop := match env.getD 6 u0 with | .v (.pointer (some a6)) => KR a6 w | _ => False
def K3 : Exit → Env → World → Prop := fun e env w => match e with | .normal => EvI plZ pZ (KZ KE Kp (env4 env)) (env4 env) w | _ => False
def K2 : Exit → Env → World → Prop := fun e env w => match e with | .normal => EvI (.r (D 7)) pR3 (K3 KE Kp) env w | .ret => KB KR env w | _ => False
def K1 : Exit → Env → World → Prop := fun e env w => match e with | .normal => EvI plB pB (K2 KR KE Kp) env w | _ => False
end
/-- What a proof of a program asks. -/
def prove.vc (list tables : Sl) (ob : Nat) (w : World) (KR : Addr → World → Prop) (KE : Addr → Addr → World → Prop) (Kp : Addr → Addr → List PanicEntry → World → Prop) : Prop :=
  Nw (zc P0 51) 51 w fun a_out w_ =>
  CallT (.o (.lf (.i .i64))) P0 21 [list.v] w_ fun (t9 : Int) w__1 =>
  (((t9 : Int) != 0) = true → StA P0 a_out [(.int .i64 1), (.int .i64 0), (.int .i64 0)] w__1 fun w__2 => KR a_out w__2) ∧
  (((t9 : Int) != 0) = false → CallT (.o (.lf .b)) P0 39 [tables.v] w__1 fun (t13 : Bool) w__4 =>
  ((!t13) = true → StA P0 a_out [(.int .i64 1), (.int .i64 0), (.int .i64 0)] w__4 fun w__5 => KR a_out w__5) ∧
  ((!t13) = false → Nw #[list.v, tables.v, (.int .i64 0), (.int .i64 0), (.int .i64 0), (.int .i64 0), (.func (.func 52) #[] #[(.pointer (some ⟨ob, 0, none⟩))])] 135 w__4 fun a_t21 w__7 =>
  Nw (zc P0 133) 133 w__7 fun a_p w__8 =>
  St a_p (.pointer (some a_t21)) w__8 fun w__9 =>
  ∃ Sp : World → World → Prop, SpOk Sp w__9 ∧
  ∃ G_t23 : Option Addr → World → Prop, Kept Sp G_t23 ∧
  ∃ G_t24 : Tup (R 99 (.i .i64) ++ R 16 .b ++ [.sl]) → World → Prop, Kept Sp G_t24 ∧
  ∃ G_t25 : Unit → World → Prop, Kept Sp G_t25 ∧
  (∀ w__11, Sp w__9 w__11 → Ld .p a_p w__11 fun (t23 : Option Addr) w__12 =>
  GK (.o (.lf .p)) Sp w__11 G_t23 (.pointer t23) w__12) ∧
  ∀ (t23_1 : Option Addr), (∀ w__13, Sp w__9 w__13 → CallT (.o (.ag (R 99 (.i .i64) ++ R 16 .b ++ [.sl]))) P0 93 [] w__13 fun (t24 : Tup (R 99 (.i .i64) ++ R 16 .b ++ [.sl])) w__14 =>
  GK (.o (.ag (R 99 (.i .i64) ++ R 16 .b ++ [.sl]))) Sp w__13 G_t24 (.agg (Tup.cells (R 99 (.i .i64) ++ R 16 .b ++ [.sl]) t24).toArray) w__14) ∧
  ∀ (t24_1 : Tup (R 99 (.i .i64) ++ R 16 .b ++ [.sl])), (∀ w__15, Sp w__9 w__15 → G_t23 t23_1 w__15 → G_t24 t24_1 w__15 → CallP .z P0 92 [(.pointer t23_1), (.int .i64 0), (.agg (Tup.cells (R 99 (.i .i64) ++ R 16 .b ++ [.sl]) t24_1).toArray), (.int .i64 0)] w__15 (fun (u : Unit) w__16 =>
  GK (.n []) Sp w__15 G_t25 (.tuple #[]) w__16) (fun ch w' => ∀ _ : Env, Kp a_out a_p ch w')) ∧
  ∀ (t25 : Unit), ∀ w__18, Sp w__9 w__18 → G_t23 t23_1 w__18 → G_t24 t24_1 w__18 → G_t25 t25 w__18 →
  Ld .p a_p w__18 fun (t26 : Option Addr) w__19 =>
  Nc t26 w__19 fun a_t27 w__20 =>
  Ld (.i .i64) (Addr.add a_t27 4) w__20 fun (t29 : Int) w__21 =>
  StA P0 a_out [(.int .i64 0), (.int .i64 0), (.int .i64 t29)] w__21 fun w__22 => KE a_out a_p w__22))
theorem prove.ev (list tables : Sl) (ob : Nat) (w : World) (KR : Addr → World → Prop) (KE : Addr → Addr → World → Prop) (Kp : Addr → Addr → List PanicEntry → World → Prop) :
    EvI (.r (D 1)) pR0 (K1 KR KE Kp) (envP list tables ob) w = prove.vc list tables ob w KR KE Kp := by kernel_rfl
end Go.Proofs.YtihllippchgkgaaGreat.V

/- Contracts: a program is proved, whatever comes of it. -/
namespace Go.Proofs.YtihllippchgkgaaGreat.V
open Go Go.RowKit
set_option linter.unusedVariables false
set_option linter.unusedSimpArgs false
/-- The closure that is deferred. -/
def dfr (p q : Value) : Deferred := { target := .fn (.func 91) #[p, q], args := #[] }
theorem pR4_wp {Q : Exit → Act → World → Prop} {env : Env} {w : World} (hl : env.length = 31) (h : Q .normal (act [dfr (rho env (.tmp 7)) (rho env (.tmp 6))] (env4 env)) w) : pR4.wp P0 Q (act [] env) w := by
  rw [pR4_eq]
  refine wp_region_list ?_
  have h22 : (act [] (env4 env)).eval (.tmp 22) = .func (.func 91) #[] #[rho env (.tmp 7), rho env (.tmp 6)] := by
    rw [act_eval]
    unfold env4
    generalize rho env (.tmp 7) = p
    generalize rho env (.tmp 6) = q
    simp [rho, put, evO, hl, EV.val]
  have e1 : (act [] env).put (some 22) (.func (.func 91) #[] #[rho env (.tmp 7), rho env (.tmp 6)]) = act [] (env4 env) := act_put [] env (some 22) (.v _)
  simp only [wpList, Region.wanted, if_true]
  left
  have r1 : (execOp (act [] env).eval { dst := some 22, op := .makeFunc (.func 91) #[] #[.tmp 7, .tmp 6], type := 1, pos := "l5_proof.go:334", after := #[], guard := none }).run P0 w = .ok (.value (.func (.func 91) #[] #[rho env (.tmp 7), rho env (.tmp 6)])) w := by
    rw [act_eval]
    simp [execOp, Instr.makeFunc]
  unfold Oper.wp
  rw [r1]
  show _ ∨ _
  left
  rw [e1]
  have r2 : (execOp (act [] (env4 env)).eval { dst := none, op := .defer { callee := .value (.tmp 22), args := #[], argTypes := #[] }, type := 0, pos := "l5_proof.go:334", after := #[{ on := 0, ground := .data }], guard := none }).run P0 w = .ok (.defer (dfr (rho env (.tmp 7)) (rho env (.tmp 6)))) w := by
    simp [execOp, resolve, h22, dfr, Deferred.ofValue]
  rw [r2]
  exact h
theorem Ag.len {S : List Nat} {a b : Env} (h : Ag S a b) : b.length = a.length := h.1
theorem wZ : writes pZ = [23, 24, 25, 26, 27, 28, 29, 30] := by kernel_rfl
theorem rho_tmp (env : Env) (t : Nat) : rho env (.tmp t) = (env.getD t u0).val := rfl
theorem prove_wp {Q : Exit → Act → World → Prop} {list tables : Sl} {ob : Nat} {w : World} {KR : Addr → World → Prop} {KE : Addr → Addr → World → Prop} {Kp : Addr → Addr → List PanicEntry → World → Prop}
    (hR : ∀ env a6 w', rho env (.tmp 6) = .pointer (some a6) → KR a6 w' → Q .ret (act [] env) w')
    (hE : ∀ env a6 a7 w', rho env (.tmp 6) = .pointer (some a6) → KE a6 a7 w' → Q .ret (act [dfr (.pointer (some a7)) (.pointer (some a6))] env) w')
    (hP : ∀ env a6 a7 ch w', rho env (.tmp 6) = .pointer (some a6) → Kp a6 a7 ch w' → Q (.panic ch) (act [dfr (.pointer (some a7)) (.pointer (some a6))] env) w')
    (h : prove.vc list tables ob w KR KE Kp) : (Code.seq pR0 (.seq pB (.seq pR3 (.seq pR4 pZ)))).wp P0 Q (act [] (envP list tables ob)) w := by
  have h0 : EvI (.r (D 1)) pR0 (K1 KR KE Kp) (envP list tables ob) w := by rw [prove.ev]; exact h
  refine wp_seq (evJ_sound (K := K1 KR KE Kp) (fun e env1 w1 hk1 ag1 => ?_) h0)
  cases e with
  | normal =>
    refine wp_seq (evJ_sound (K := K2 KR KE Kp) (fun e env2 w2 hk2 ag2 => ?_) hk1)
    cases e with
    | normal =>
      refine wp_seq (evJ_sound (K := K3 KE Kp) (fun e env3 w3 hk3 ag3 => ?_) hk2)
      cases e with
      | normal =>
        have hl : env3.length = 31 := by rw [ag3.len, ag2.len, ag1.len]; rfl
        refine wp_seq (pR4_wp hl ?_)
        refine evJ_sound (K := KZ KE Kp (env4 env3)) (fun e env5 w5 hk5 ag5 => ?_) hk3
        unfold KZ at hk5
        split at hk5
        · rename_i a6 a7 h6 h7
          have e6 : rho env5 (.tmp 6) = .pointer (some a6) := by
            have := ag5.2 6 (by rw [wZ]; simp)
            rw [h6] at this
            exact this
          have f6 : rho env3 (.tmp 6) = .pointer (some a6) := by
            have e : (env4 env3).getD 6 u0 = env3.getD 6 u0 := by unfold env4 put; simp
            rw [rho_tmp, ← e, h6]; rfl
          have f7 : rho env3 (.tmp 7) = .pointer (some a7) := by
            have e : (env4 env3).getD 7 u0 = env3.getD 7 u0 := by unfold env4 put; simp
            rw [rho_tmp, ← e, h7]; rfl
          rw [f6, f7]
          cases e with
          | ret => exact hE env5 a6 a7 w5 e6 hk5
          | panic ch => exact hP env5 a6 a7 ch w5 e6 hk5
          | _ => exact hk5.elim
        · exact hk5.elim
      | _ => exact hk3.elim
    | ret =>
      have hk2 : KB KR env2 w2 := hk2
      unfold KB at hk2
      split at hk2
      · rename_i a6 h6
        exact hR env2 a6 w2 (by rw [rho_tmp, h6]; rfl) hk2
      · exact hk2.elim
    | _ => exact hk2.elim
  | _ => exact hk1.elim
theorem res_prove {ds : List Deferred} {env : Env} {b6 : Nat} {w : World} {y : Tup (R 3 (.i .i64))} (h6 : rho env (.tmp 6) = .pointer (some ⟨b6, 0, none⟩)) (hc : w.heap[b6]? = some (.cells (Tup.cells (R 3 (.i .i64)) y).toArray 51 (0, 0))) :
    (results Tryz.f51 (act ds env).tmps).run P0 w = .ok (.agg (Tup.cells (R 3 (.i .i64)) y).toArray) w := by
  obtain ⟨x, hx, h⟩ := results_run (ds := ds) (env := env) (w := w) (fn := Tryz.f51) (r := .o (.ag (R 3 (.i .i64)))) rfl (k := fun x w' => x = y) (by
    rw [Tryz.results51]
    show resK P0 [.cell 6 51] [.ag (R 3 (.i .i64))] env w _
    simp only [resK]
    have ha : aggT P0 51 = some true := by kernel_rfl
    have hs : szOf P0 51 = some 3 := by kernel_rfl
    have h6' : (env.getD 6 u0).val = .pointer (some ⟨b6, 0, none⟩) := h6
    rw [h6']
    show (if (decide (aggT P0 51 = some true) && decide (szOf P0 51 = some (R 3 (.i .i64)).length)) = true then _ else False)
    rw [if_pos (by rw [ha, hs]; rfl)]
    exact ldAB hc (x := y) (by simp) rfl)
  rw [h, hx]; rfl
end Go.Proofs.YtihllippchgkgaaGreat.V

/- Verification conditions, printed by this session's own program (wip/vc.py) and checked by the kernel. -/
namespace Go.Proofs.YtihllippchgkgaaGreat.V
open Go Go.RowKit
set_option linter.unusedVariables false
/- slices.ContainsFunc[[]impl.Table,impl.Table] -/
def slices.ContainsFunc_Table.pl : Pl := (.s (.r (D 1)) (.s (.r [.d, .d, (.c (.o (.lf (.i .i64)))), .d, .d]) .z))
def slices.ContainsFunc_Table.vc (s : Sl) (f : AdT 0) (w : World) (K : Bool → World → Prop) : Prop :=
CallT (.o (.lf (.i .i64))) P0 123 [s.v, (.func (.func 73) #[] #[])] w fun (t7 : Int) w_ =>
K (decide ((t7 : Int) ≥ 0)) w_
theorem slices.ContainsFunc_Table.ok {s : Sl} {f : AdT 0} {w : World} {K : Bool → World → Prop} (h : slices.ContainsFunc_Table.vc s f w K) : CallT (.o (.lf .b)) P0 72 [s.v, (.func (.func 73) #[] #[])] w K :=
  call_of Tryz.func72 rfl rfl (pl := slices.ContainsFunc_Table.pl) (show VC P0 Tryz.f72 slices.ContainsFunc_Table.pl (.o (.lf .b)) [s.v, (.func (.func 73) #[] #[])] w K noP from Eq.mp (by kernel_rfl) h)
/- slices.IndexFunc[[]impl.Table,impl.Table] -/
def slices.IndexFunc_Table.pl : Pl := (.s (.r (D 1)) (.s (.s (.r (D 3)) (.b (.l [(8, (.i .i64))] (.s (.r (D 1)) (.s (.c .z .z) (.s (.b (.s (.r (D 2)) (.s (.r [.d, .d, .d, .d, (.l (.ag [(.i .i64), (.i .i64), (.i .i64), .sl, .sl])), (.c (.o (.lf .b)))]) (.c (.s (.r (D 2)) .z) .z)))) (.r (D 2)))))))) (.s (.r (D 1)) .z)))
def slices.IndexFunc_Table.vc (s : Sl) (f : AdT 0) (w : World) (K : Int → World → Prop) : Prop :=
∃ (I : Int → World → Prop) (M : Int → World → Nat),
I 0 w ∧
(∀ (t8 : Int) w_, I t8 w_ → ∀ _ : Nat → Value,
((decide ((t8 : Int) < ((s.n : Nat) : Int))) = true → Ix s.a s.n t8 5 w_ fun a_t14 w__1 =>
LdA [(.i .i64), (.i .i64), (.i .i64), .sl, .sl] a_t14 w__1 fun (t15 : Tup [(.i .i64), (.i .i64), (.i .i64), .sl, .sl]) w__2 =>
CallT (.o (.lf .b)) P0 73 [(.agg (Tup.cells [(.i .i64), (.i .i64), (.i .i64), .sl, .sl] t15).toArray)] w__2 fun (t16 : Bool) w__3 =>
(t16 = true → K t8 w__3) ∧
(t16 = false → (I (IntKind.wrap .i64 (t8 + 1)) w__3 ∧ M (IntKind.wrap .i64 (t8 + 1)) w__3 < M t8 w_))) ∧
((decide ((t8 : Int) < ((s.n : Nat) : Int))) = false → K (-1) w_))
theorem slices.IndexFunc_Table.ok {s : Sl} {f : AdT 0} {w : World} {K : Int → World → Prop} (h : slices.IndexFunc_Table.vc s f w K) : CallT (.o (.lf (.i .i64))) P0 123 [s.v, (.func (.func 73) #[] #[])] w K :=
  call_of Tryz.func123 rfl rfl (pl := slices.IndexFunc_Table.pl) (show VC P0 Tryz.f123 slices.IndexFunc_Table.pl (.o (.lf (.i .i64))) [s.v, (.func (.func 73) #[] #[])] w K noP from Eq.mp (by kernel_rfl) h)
/- spec.DrawFlowReach -/
def spec.DrawFlowReach.pl : Pl := (.s (.r (D 1)) (.s (.r [.d, (.c (.o (.lf .sl))), .d]) .z))
def spec.DrawFlowReach.vc (code : Sl) (w : World) (K : Sl → World → Prop) : Prop :=
CallT (.o (.lf .sl)) P0 20 [code.v] w fun (t4 : Sl) w_ =>
K t4 w_
theorem spec.DrawFlowReach.ok {code : Sl} {w : World} {K : Sl → World → Prop} (h : spec.DrawFlowReach.vc code w K) : CallT (.o (.lf .sl)) P0 7 [code.v] w K :=
  call_of Tryz.func7 rfl rfl (pl := spec.DrawFlowReach.pl) (show VC P0 Tryz.f7 spec.DrawFlowReach.pl (.o (.lf .sl)) [code.v] w K noP from Eq.mp (by kernel_rfl) h)
end Go.Proofs.YtihllippchgkgaaGreat.V

/- Contracts: a program is proved: where one comes is noted. -/
namespace Go.Proofs.YtihllippchgkgaaGreat.V
open Go Go.RowKit
set_option linter.unusedVariables false
set_option linter.unusedSimpArgs false
def kz : Kn := ⟨List.replicate 11 z9, List.replicate 16 false, ⟨none, 0, 0⟩⟩
theorem kz_ok : kz.ok := ⟨by simp [kz], by simp [kz]⟩
theorem zcK : zc P0 95 = kz.cells.toArray := by kernel_rfl
theorem zcP : zc P0 51 = (Tup.cells (R 3 (.i .i64)) ((0, 0, 0, ()) : Tup (R 3 (.i .i64)))).toArray := by kernel_rfl
theorem zcPp : zc P0 133 = #[Value.pointer none] := by kernel_rfl
theorem RK.z : RK kz := ⟨kz_ok, fun v hv => by rw [List.eq_of_mem_replicate hv]; exact Gd.z⟩
theorem impl.tablesOk.q {w : World} {K : Bool → World → Prop} (hK : ∀ b, K b w) : CallT (.o (.lf .b)) P0 39 [Sl.v ⟨none, 0, 0⟩] w K := by
  refine impl.tablesOk.ok (list := ⟨none, 0, 0⟩) (And.intro (fun _ => ?_) (fun _ => hK _))
  refine slices.ContainsFunc_Table.ok (s := ⟨none, 0, 0⟩) (f := ()) (slices.IndexFunc_Table.ok (s := ⟨none, 0, 0⟩) (f := ()) ?_)
  refine ⟨fun i w' => i = 0 ∧ w' = w, fun _ _ => 0, ⟨rfl, rfl⟩, ?_⟩
  rintro i w' ⟨rfl, rfl⟩ _
  exact And.intro (fun h => by simp at h) (fun _ => hK _)
theorem impl.begun.q {w : World} {K : Tup KL → World → Prop} (hK : ∀ k w', RK k → k.sk = ⟨none, 0, 0⟩ → Below w.heap.size w w' → K k.t w') : CallT (.o (.ag KL)) P0 93 [] w K := by
  refine impl.begun.ok ?_
  unfold impl.begun.vc
  refine nw fun w1 b1 s1 c1 => nw fun w2 b2 s2 c2 => ?_
  have h2 : KBx w2 w1.heap.size kz := by unfold KBx; rw [c2, zcK]
  have h1 : KBx w2 w.heap.size kz := by unfold KBx; rw [b2.block _ (by omega), c1, zcK]
  show StA P0 ⟨w1.heap.size, 0, none⟩ (Tup.cells KL kz.t) w2 _
  refine stK h2 kz_ok kz_ok fun w3 h3 g3 => ?_
  refine ixReg (r := 1) rfl (by omega) ?_
  show StA P0 ⟨w1.heap.size, 9 * 1, none⟩ (Tup.cells (R 9 (.i .i64)) ((3, 0, 0, 0, 0, 0, 0, 0, 0, ()) : T9)) _ _
  refine KAt.stR (k := kz) ⟨h3, kz_ok⟩ (r := 1) (by omega) rfl fun w4 g4 _ h4 => ?_
  have r4 := RK.z.put (r := 1) (v := ((3, 0, 0, 0, 0, 0, 0, 0, 0, ()) : T9)) (.inr (.inr (.inl ⟨.inr rfl, by decide, by decide, by decide⟩)))
  refine ixReg (r := 10) rfl (by omega) ?_
  show StA P0 ⟨w1.heap.size, 9 * 10, none⟩ (Tup.cells (R 9 (.i .i64)) ((2, 0, 0, 0, 0, 16, 16, 0, 0, ()) : T9)) _ _
  refine KAt.stR h4 (r := 10) (by omega) rfl fun w5 g5 _ h5 => ?_
  have r5 := r4.put (r := 10) (v := ((2, 0, 0, 0, 0, 16, 16, 0, 0, ()) : T9)) (.inr (.inr (.inl ⟨.inl rfl, by decide, by decide, by decide⟩)))
  refine KAt.ldK h5 ?_
  have ne : ∀ b, some w1.heap.size = some b → b ≠ w.heap.size := fun b hb e => by simp only [Option.some.injEq] at hb; omega
  have keep : ∀ {a c : World}, a.grownBy c (some w1.heap.size) → KBx a w.heap.size kz → KBx c w.heap.size kz := fun {a c} hg h => (hg.block _ (lt_blk h) (by simp only [ne_eq, Option.some.injEq]; omega)).trans h
  have h1' := keep g5 (keep g4 (keep g3 h1))
  refine stK h1' kz_ok r5.1 fun w6 h6 g6 => KAt.ldK ⟨h6, r5.1⟩ ?_
  refine hK _ _ r5 rfl ?_
  have gb : ∀ {a c : World} {b : Nat}, Below w.heap.size w a → w.heap.size ≤ b → a.grownBy c (some b) → Below w.heap.size w c := fun {a c b} hb hle hg => hb.grown hg hb.size fun g hg => by simp only [Option.some.injEq] at hg; omega
  exact gb (gb (gb (gb (b1.trans (b2.mono b1.size)) (by omega) g3) (by omega) g4) (by omega) g5) (Nat.le_refl _) g6
section
variable {l : List Ins} {pb ob hb : Nat} {s : Sl} {rows rows' : List Sl} {work work' : Int} {w w' : World}
theorem slv_inj {a b : Sl} (h : a.v = b.v) : a = b := by
  cases a; cases b
  simp only [Sl.v, Value.slice.injEq] at h
  obtain ⟨h1, h2, h3⟩ := h
  subst h1 h2 h3; rfl
/-- The ledger and the work done are told by the heap. -/
theorem FS.uniq (h : FS w l pb ob hb rows s work) (h' : FS w l pb ob hb rows' s work') : rows = rows' ∧ work = work' := by
  constructor
  · have h1 := h.led.head
    rw [h'.led.head] at h1
    simp only [Option.some.injEq, Obj.cells.injEq, and_true] at h1
    have h2 := List.toArray_inj h1
    have inj : ∀ {x y : List Sl}, x.map Sl.v = y.map Sl.v → x = y := by
      intro x
      induction x with
      | nil => intro y hy; cases y with
        | nil => rfl
        | cons => simp at hy
      | cons a x ih => intro y hy; cases y with
        | nil => simp at hy
        | cons b y =>
          simp only [List.map_cons, List.cons.injEq] at hy
          rw [slv_inj hy.1, ih hy.2]
    exact (inj h2).symm
  · obtain ⟨i, m, a, hP⟩ := h.box
    obtain ⟨i', m', a', hP'⟩ := h'.box
    unfold PBx at hP hP'
    rw [hP] at hP'
    simp only [Option.some.injEq, Obj.cells.injEq, and_true] at hP'
    have h2 := congrArg (·[2]?) (List.toArray_inj hP')
    simpa [PS.cells] using h2
/-- Steps of a proof. -/
def SpF5 (l : List Ins) (pb ob hb : Nat) (s : Sl) (a c : World) : Prop := ∀ rows work, FS a l pb ob hb rows s work → ∃ rows' work', FTo l pb ob hb s rows work a rows' work' c
theorem SpF5.below (h : Below w.heap.size w w') : SpF5 l pb ob hb s w w' := fun rows work hf => ⟨rows, work, hf.chg (Y := noX) (.of_below h) fun _ h => h.elim, Int.le_refl _, .of_below h, fun _ h => .inl h⟩
theorem spf5Ok : SpOk (SpF5 l pb ob hb s) w := ⟨fun a rows work hf => ⟨rows, work, hf.to⟩, fun a b c h1 h2 rows work hf => by
  obtain ⟨r1, k1, t1⟩ := h1 rows work hf
  obtain ⟨r2, k2, t2⟩ := h2 r1 k1 t1.fs
  exact ⟨r2, k2, t1.trans t2⟩, SpF5.below (Below.refl _ _).drew⟩
theorem stProof {b6 : Nat} {x y : Tup (R 3 (.i .i64))} (h : w.heap[b6]? = some (.cells (Tup.cells (R 3 (.i .i64)) x).toArray 51 (0, 0))) {K : World → Prop} (hK : ∀ w', w.grownBy w' (some b6) → w'.heap[b6]? = some (.cells (Tup.cells (R 3 (.i .i64)) y).toArray 51 (0, 0)) → K w') :
    StA P0 ⟨b6, 0, none⟩ (Tup.cells (R 3 (.i .i64)) y) w K := by
  obtain ⟨w', hr, hg, hsz, hh⟩ := run_storeCells_at' P0 (b := b6) (t := 51) (Tup.cells (R 3 (.i .i64)) y) 0 [] (Tup.cells (R 3 (.i .i64)) x) w (oneCellR (by intro h; cases h) y) rfl (by rw [V.cells_length, V.cells_length]) (by simpa using h)
  exact ⟨w', hr, hK w' hg (by simpa using hh)⟩
/-- What a proof leaves behind. -/
def PPost (l : List Ins) (ob hb : Nat) (rows : List Sl) (w w' : World) : Prop := ∃ rows', Lg w' l ob hb rows' 1200 ∧ Chg (ZL hb rows) w w' ∧ ∀ j, ZL hb rows' j → ZL hb rows j ∨ w.heap.size ≤ j
theorem PPost.wr {w1 : World} {b6 : Nat} {cs : Array Value} (h : PPost l ob hb rows w w') (hc : w'.heap[b6]? = some (.cells cs 51 (0, 0))) (hb6 : w.heap.size ≤ b6) (hg : w'.grownBy w1 (some b6)) : PPost l ob hb rows w w1 := by
  obtain ⟨rows', hL, hc', hgr⟩ := h
  refine ⟨rows', hL.chg (Chg.of_grown (X := bX b6) hg rfl) (fun e => ?_) (fun j hj e => ?_), hc'.trans (Chg.of_grown (X := bX b6) hg rfl) fun j hj e => ?_, hgr⟩
  · obtain rfl : ob = b6 := e
    have := hL.out
    rw [hc] at this
    simp at this
  · obtain rfl : j = b6 := e
    exact hL.out' hc (by decide) (by decide) hj
  · obtain rfl : j = b6 := e
    omega
theorem FTo.post (h : FTo l pb ob hb s rows work w rows' work' w') (hn : ∀ {w0 : World}, True) : Lg w' l ob hb rows' 1200 := h.fs.led.more (by have := h.fs.w0; have := h.fs.w1; omega)
end
set_option maxHeartbeats 2000000 in
theorem impl.prove.q {l : List Ins} {ob hb : Nat} {list : Sl} {rows : List Sl} {w : World} (h : SlR kIns w list l) (hl : l.length ≤ 1048576) (hsb : ∀ b, list.bk = some b → b < w.heap.size ∧ ¬ ZL hb rows b) (hL : Lg w l ob hb rows 0) {K : Tup (R 3 (.i .i64)) → World → Prop}
    (hK : ∀ y w', PPost l ob hb rows w w' → K y w') : CallT (.o (.ag (R 3 (.i .i64)))) P0 51 [list.v, Sl.v ⟨none, 0, 0⟩, .func (.func 52) #[] #[.pointer (some ⟨ob, 0, none⟩)]] w K := by
  refine calls_of_wp_defers Tryz.func51 p_body ?_
  have he : ({ tmps := [list.v, Sl.v ⟨none, 0, 0⟩, Value.func (.func 52) #[] #[.pointer (some ⟨ob, 0, none⟩)]].toArray ++ Array.replicate ((Tryz.f51).ntmps - [list.v, Sl.v ⟨none, 0, 0⟩, Value.func (.func 52) #[] #[.pointer (some ⟨ob, 0, none⟩)]].toArray.size) undef, defers := [] } : Act) = act [] (envP list ⟨none, 0, 0⟩ ob) := by kernel_rfl
  rw [he]
  refine prove_wp (KR := fun a6 w' => ∃ b6 y, a6 = ⟨b6, 0, none⟩ ∧ w'.heap[b6]? = some (.cells (Tup.cells (R 3 (.i .i64)) y).toArray 51 (0, 0)) ∧ PPost l ob hb rows w w')
    (KE := fun a6 _ w' => ∃ b6 y, a6 = ⟨b6, 0, none⟩ ∧ w'.heap[b6]? = some (.cells (Tup.cells (R 3 (.i .i64)) y).toArray 51 (0, 0)) ∧ PPost l ob hb rows w w')
    (Kp := fun a6 a7 ch w' => ∃ b6 b7 pb c ps y, a6 = ⟨b6, 0, none⟩ ∧ a7 = ⟨b7, 0, none⟩ ∧ ch = trapCh c ∧ w.heap.size ≤ b6 ∧ w'.heap[b6]? = some (.cells (Tup.cells (R 3 (.i .i64)) y).toArray 51 (0, 0)) ∧ w'.heap[b7]? = some (.cells #[.pointer (some ⟨pb, 0, none⟩)] 133 (0, 0)) ∧ PBx w' pb ps ∧ PPost l ob hb rows w w')
    ?_ ?_ ?_ ?_
  · rintro env a6 w' h6 ⟨b6, y, rfl, hc, hp⟩
    exact ⟨_, res_prove h6 hc, y, rfl, hK y w' hp⟩
  · rintro env a6 a7 w' h6 ⟨b6, y, rfl, hc, hp⟩
    refine leaves_cons (fv := .func 91) (f := 91) (args := #[.pointer (some a7), .pointer (some ⟨b6, 0, none⟩)]) (by simp) (by simp [go_sem]) ((prove1_idle a7 ⟨b6, 0, none⟩ w').mono ?_)
    rintro e u' w'' ⟨rfl, rfl, rfl⟩
    exact ⟨_, res_prove h6 hc, y, rfl, hK y _ hp⟩
  · rintro env a6 a7 ch w' h6 ⟨b6, b7, pb, c, ps, y, rfl, rfl, rfl, hb6, hc, h7, hP, hp⟩
    refine leaves_cons (fv := .func 91) (f := 91) (args := #[.pointer (some ⟨b7, 0, none⟩), .pointer (some ⟨b6, 0, none⟩)]) (by simp) (by simp [go_sem]) ((prove1_caught ⟨b7, 0, none⟩ ⟨b6, 0, none⟩ c w' (KR := fun w'' => ∃ y', w''.heap[b6]? = some (.cells (Tup.cells (R 3 (.i .i64)) y').toArray 51 (0, 0)) ∧ PPost l ob hb rows w w'') ?_).mono ?_)
    · refine ldB0 h7 (l := .p) (x := some ⟨pb, 0, none⟩) rfl ⟨_, rfl, ldB hP (j := 5) (l := .i .i64) (x := ps.at_) rfl ?_⟩
      show StA P0 ⟨b6, 0, none⟩ (Tup.cells (R 3 (.i .i64)) ((c, ps.at_, 0, ()) : Tup (R 3 (.i .i64)))) w' _
      exact stProof hc fun w1 hg h1 => ⟨rfl, _, h1, hp.wr hc hb6 hg⟩
    · rintro e u' w'' ⟨rfl, hs, y', hc', hp'⟩
      show Leaves P0 _ _ _ [] (settle u') w''
      rw [hs]
      exact ⟨_, res_prove h6 hc', y', rfl, hK y' _ hp'⟩
  · unfold prove.vc
    have p0 : ∀ {w' : World}, Below w.heap.size w w' → PPost l ob hb rows w w' := fun {w'} hb' => ⟨rows, (hL.below hb').more (by omega), .of_below hb', fun _ h => .inl h⟩
    refine nw fun w1 b1 s1 c1 => ?_
    rw [zcP] at c1
    refine impl.ProgForm.c (h.below b1) hl fun w2 b2 => ?_
    have b12 := b1.trans (b2.mono b1.size)
    have c2 := (b2.block _ (by omega)).trans c1
    refine And.intro (fun _ => ?_) (fun hq => ?_)
    · show StA P0 ⟨w.heap.size, 0, none⟩ (Tup.cells (R 3 (.i .i64)) ((1, 0, 0, ()) : Tup (R 3 (.i .i64)))) w2 _
      exact stProof c2 fun w3 hg h3 => ⟨_, _, rfl, h3, (p0 b12).wr c2 (Nat.le_refl _) hg⟩
    have hq : formP l = 0 := by simpa using hq
    refine impl.tablesOk.q fun bt => And.intro (fun _ => ?_) (fun _ => ?_)
    · show StA P0 ⟨w.heap.size, 0, none⟩ (Tup.cells (R 3 (.i .i64)) ((1, 0, 0, ()) : Tup (R 3 (.i .i64)))) w2 _
      exact stProof c2 fun w3 hg h3 => ⟨_, _, rfl, h3, (p0 b12).wr c2 (Nat.le_refl _) hg⟩
    refine nw fun w3 b3 s3 c3 => nw fun w4 b4 s4 c4 => ?_
    rw [zcPp] at c4
    refine stB0 c4 rfl (by simp) fun w5 hg5 hs5 c5 => ?_
    have c5 : w5.heap[w3.heap.size]? = some (.cells #[.pointer (some ⟨w2.heap.size, 0, none⟩)] 133 (0, 0)) := c5
    have b45 : Below w3.heap.size w3 w5 := b4.grown hg5 b4.size fun g hg => by simp only [Option.some.injEq] at hg; omega
    have hs12 : w.heap.size < w2.heap.size := by have := b2.size; omega
    have hs13 : w.heap.size ≤ w3.heap.size := by have := b12.size; have := b3.size; omega
    have bT : Below w.heap.size w w5 := (b12.trans (b3.mono b12.size)).trans (b45.mono hs13)
    have hPP : PBx w5 w2.heap.size ⟨list, 0, 0, 0, 0, ob⟩ := (b45.block _ (by omega)).trans c3
    have h65 : w5.heap[w.heap.size]? = some (.cells (Tup.cells (R 3 (.i .i64)) ((0, 0, 0, ()) : Tup (R 3 (.i .i64)))).toArray 51 (0, 0)) := (b45.block _ (by omega)).trans ((b3.block _ (by have := b2.size; omega)).trans c2)
    have L5 := hL.below bT
    have hs2 := b12.size
    have fs5 : FS w5 l w2.heap.size ob hb rows list 0 := ⟨h.below bT, fun b hb' => ⟨by have := (hsb b hb').1; have := bT.size; omega, by have := (hsb b hb').1; omega, (hsb b hb').2⟩, ⟨_, _, _, hPP⟩, L5, by omega, by omega⟩
    have post : ∀ {w' : World} {rows' work'}, FTo l w2.heap.size ob hb list rows 0 w5 rows' work' w' → PPost l ob hb rows w w' ∧ w'.heap[w.heap.size]? = some (.cells (Tup.cells (R 3 (.i .i64)) ((0, 0, 0, ()) : Tup (R 3 (.i .i64)))).toArray 51 (0, 0)) ∧ w'.heap[w3.heap.size]? = some (.cells #[.pointer (some ⟨w2.heap.size, 0, none⟩)] 133 (0, 0)) := fun {w' rows' work'} ft => by
      refine ⟨⟨rows', ft.post (fun {_} => trivial), (Chg.of_below (X := ZL hb rows) bT).trans ft.chg fun j hj hx => ?_, fun j hj => ?_⟩, ft.chg.blk h65 fun hx => ?_, ft.chg.blk c5 fun hx => ?_⟩
      · rcases hx with e | e
        · omega
        · exact e
      · rcases ft.grow j hj with e | e
        · exact .inl e
        · have := bT.size; exact .inr (by omega)
      · rcases hx with e | e
        · omega
        · exact L5.out' h65 (by decide) (by decide) e
      · rcases hx with e | e
        · omega
        · exact L5.out' c5 (by decide) (by decide) e
    refine ⟨SpF5 l w2.heap.size ob hb list, spf5Ok, prG (fun p => p = some ⟨w2.heap.size, 0, none⟩), keptPr, prG (fun y => ∃ k, y = Kn.t k ∧ RK k ∧ k.sk = ⟨none, 0, 0⟩), keptPr, prG fun _ => True, keptPr, fun w6 hs => ?_, fun t23 => ⟨fun w6 hs => ?_, fun t24 => ⟨fun w6 hs e1 e2 => ?_, fun t25 w6 hs _ _ _ => ?_⟩⟩⟩
    · obtain ⟨r, k, ft⟩ := hs rows 0 fs5
      exact ldB0 (post ft).2.2 (l := .p) (x := some ⟨w2.heap.size, 0, none⟩) rfl (gkP rfl (SpF5.below (Below.refl _ _)) rfl)
    · exact impl.begun.q fun k w7 hk hsk b7 => ⟨k.t, rfl, SpF5.below b7, k, rfl, hk, hsk⟩
    · obtain rfl : t23 = _ := e1
      obtain ⟨k, rfl, hk, hsk⟩ := e2
      obtain ⟨r6, k6, ft6⟩ := hs rows 0 fs5
      refine impl.proof.follow.q hq hl _ (Nat.le_refl _) ft6.fs hk (xs := []) (by rw [hsk]; exact OwnS.nil _ _ _ _) (Nat.zero_le _) (by omega) (by have := (formP_size hq).1; omega) (.inl rfl) (by omega) (by omega) (fun r7 k7 w7 ft7 => ?_) (fun c r7 k7 w7 ft7 _ => ?_)
      · refine gkU fun r k hf => ?_
        obtain ⟨rfl, rfl⟩ := hf.uniq ft6.fs
        exact ⟨r7, k7, ft7⟩
      · have ft := ft6.trans ft7
        obtain ⟨i, m, a, hP⟩ := ft.fs.box
        exact ⟨_, _, _, c, _, _, rfl, rfl, rfl, Nat.le_refl _, (post ft).2.1, (post ft).2.2, hP, (post ft).1⟩
    · obtain ⟨r6, k6, ft6⟩ := hs rows 0 fs5
      obtain ⟨i, m, a, hP⟩ := ft6.fs.box
      refine ldB0 (post ft6).2.2 (l := .p) (x := some ⟨w2.heap.size, 0, none⟩) rfl ⟨_, rfl, ldB hP (j := 4) (l := .i .i64) (x := m) rfl ?_⟩
      show StA P0 ⟨w.heap.size, 0, none⟩ (Tup.cells (R 3 (.i .i64)) ((0, 0, m, ()) : Tup (R 3 (.i .i64)))) w6 _
      exact stProof (post ft6).2.1 fun w7 hg h7 => ⟨_, _, rfl, h7, (post ft6).1.wr (post ft6).2.1 (Nat.le_refl _) hg⟩
end Go.Proofs.YtihllippchgkgaaGreat.V

/- Contracts: what is known ahead of each op; the places to which a way comes. -/
namespace Go.Proofs.YtihllippchgkgaaGreat.V
open Go Go.RowKit
set_option linter.unusedVariables false
set_option linter.unusedSimpArgs false
theorem mkSl : Mk P0 49 96 kSl 24 ⟨none, 0, 0⟩ := ⟨by kernel_rfl, ⟨_, _, Option.eq_some_of_isSome (by kernel_rfl), Option.eq_some_of_isSome (by kernel_rfl), by kernel_rfl, by kernel_rfl, by kernel_rfl⟩⟩
section
variable {w : World}
theorem mkHead {n : Nat} (hn : n ≤ 1000) {K : Sl → World → Prop} (hK : ∀ w', Below w.heap.size w w' → w'.heap.size = w.heap.size + 1 → w'.heap[w.heap.size]? = some (.cells ((List.replicate n (⟨none, 0, 0⟩ : Sl)).map Sl.v).toArray 96 (0, 0)) → K ⟨some ⟨w.heap.size, 0, none⟩, n, n⟩ w') :
    RunT (.o (.lf .sl)) P0 (Instr.makeSlice 49 (.int .i64 (n : Int)) (.int .i64 (n : Int))) w K := by
  obtain ⟨i, z, hi, hz, hsz, hbs, hzc⟩ := mkSl.info
  have hr := run_make (P := P0) w 49 96 i z mkSl.elem hi hz .i64 .i64 n n (by omega) (Int.le_refl _) (by rw [hbs]; omega) (by omega)
  refine ⟨⟨some ⟨w.heap.size, 0, none⟩, n, n⟩, _, hr, hK _ ((Below.refl _ _).alloc (Nat.le_refl _) _) (by simp) ?_⟩
  rw [heap_alloc_new w _]
  simp only [Option.some.injEq, Obj.cells.injEq, and_true]
  have hl1 : kSl.ls.length = 1 := rfl
  have hz1 : z.cells = #[Sl.v ⟨none, 0, 0⟩] := by
    rw [← Array.toList_inj, hzc]; rfl
  rw [hl1] at hsz
  apply Array.ext_getElem?
  intro j
  simp only [madeCells, Nat.zero_add, Int.toNat_natCast, hsz, hz1]
  rw [Array.getElem?_map, Array.getElem?_range, List.getElem?_toArray, List.getElem?_map, List.getElem?_replicate]
  by_cases hj : j < n
  · rw [if_pos (by omega), if_pos hj]
    simp [Nat.mod_one]
  · rw [if_neg (by omega), if_neg hj]; rfl
theorem zcHead : zc P0 49 = #[Sl.v ⟨none, 0, 0⟩] := by kernel_rfl
theorem impl.visits.q {l : List Ins} {list : Sl} (hq : formP l = 0) (h : SlR kIns w list l) (hl : l.length ≤ 1048576) {K : Sl × Tup (R 3 (.i .i64)) × Unit → World → Prop}
    (hK : ∀ ob hb rows y w', Lg w' l ob hb rows 1200 → Below w.heap.size w w' → K (⟨some ⟨hb, 0, none⟩, l.length, l.length⟩, (y, ())) w') :
    CallT (.n [(.lf .sl), (.ag (R 3 (.i .i64)))]) P0 28 [list.v, Sl.v ⟨none, 0, 0⟩] w K := by
  have hz := formP_size hq
  have hsb : ∀ b, list.bk = some b → b < w.heap.size := fun b hb => by
    rcases h.2.2.2 with h0 | ⟨b', o, ha, hx⟩
    · rw [h0] at hz; simp at hz
    · obtain ⟨x, hx0⟩ : ∃ x, l[0]? = some x := ⟨l[0]'hz.1, List.getElem?_eq_getElem _⟩
      have := hx 0 x hx0 0 (.int .i64 x.op) rfl
      have hlt := World.block_lt_of_cell? w _ this
      simp only [Sl.bk, ha, Option.map_some, Option.some.injEq] at hb
      subst hb
      exact hlt
  refine impl.visits.ok (tables := ⟨none, 0, 0⟩) (nw fun w1 b1 s1 c1 => ?_)
  rw [zcP] at c1
  rw [h.len]
  refine mkHead (by omega) fun w2 b2 s2 c2 => nw fun w3 b3 s3 c3 => ?_
  rw [zcHead] at c3
  refine stB0 c3 rfl (by simp) fun w4 hg4 hs4 c4 => ?_
  have c4 : w4.heap[w2.heap.size]? = some (.cells #[Sl.v ⟨some ⟨w1.heap.size, 0, none⟩, l.length, l.length⟩] 49 (0, 0)) := c4
  have b24 : Below w2.heap.size w2 w4 := b3.grown hg4 b3.size fun g hg => by simp only [Option.some.injEq] at hg; omega
  have b14 := b2.trans (b24.mono b2.size)
  have b4 := b1.trans (b14.mono b1.size)
  have h14 : w4.heap[w.heap.size]? = some (.cells (Tup.cells (R 3 (.i .i64)) ((0, 0, 0, ()) : Tup (R 3 (.i .i64)))).toArray 51 (0, 0)) := (b14.block _ (by omega)).trans c1
  have L4 : Lg w4 l w2.heap.size w1.heap.size (List.replicate l.length (⟨none, 0, 0⟩ : Sl)) 0 := ⟨c4, (b24.block _ (by omega)).trans c2, by simp, fun i r hi => by
    rw [List.getElem?_replicate] at hi
    split at hi
    · simp only [Option.some.injEq] at hi
      subst hi
      exact ⟨[], OwnS.nil _ _ _ _, Nat.zero_le _, fun h => (h rfl).elim⟩
    · simp at hi, fun i j r s g hi hj hg _ => by
    rw [List.getElem?_replicate] at hi
    split at hi
    · simp only [Option.some.injEq] at hi
      subst hi
      simp [Sl.bk] at hg
    · simp at hi⟩
  have zl : ∀ j, ZL w1.heap.size (List.replicate l.length (⟨none, 0, 0⟩ : Sl)) j → j = w1.heap.size := fun j hj => by
    rcases hj with e | ⟨r, hr, hg⟩
    · exact e
    · rw [List.eq_of_mem_replicate hr] at hg
      simp [Sl.bk] at hg
  refine impl.prove.q (h.below b4) hl (fun b hb => ⟨by have := hsb b hb; have := b4.size; omega, fun hz => by have := zl b hz; have := hsb b hb; have := b1.size; omega⟩) L4 fun y w5 ⟨rows, L5, c5, g5⟩ => ?_
  have b5 : Below w.heap.size w w5 := by
    refine b4.trans (c5.below (fun j hj => ?_) b4.size)
    rw [zl j hj]; exact b1.size
  have hs4' := b14.size
  have hs24 := b24.size
  have h15 := c5.blk h14 fun hz => by have := zl _ hz; omega
  refine nwSt (vs := Tup.cells (R 3 (.i .i64)) y) (by rw [zcP, V.cells_length]; rfl) (oneCellR (by intro h; cases h) y) (fun w6 b6 s6 c6 => ?_) rfl
  have L6 := L5.below b6
  have h16 := (b6.block _ (lt_blk h15)).trans h15
  refine ⟨Grw, grwOk _, prG (fun s => s = ⟨some ⟨w1.heap.size, 0, none⟩, l.length, l.length⟩), keptPr, prG (fun z => z = y), keptPr, fun w7 h7 => ?_, fun t15 => ⟨fun w7 h7 => ?_, fun t16 w7 h7 e1 e2 => ?_⟩⟩
  · exact ldB0 (L6.below h7).out rfl (gkP rfl (Grw.refl _) rfl)
  · exact ldAB ((h7.block _ (lt_blk c6)).trans c6) (x := y) (by simp) (gkP rfl (Grw.refl _) rfl)
  · obtain rfl : t15 = _ := e1
    obtain rfl : t16 = _ := e2
    have h17 := (h7.block _ (lt_blk h16)).trans h16
    have L7 := L6.below h7
    refine stProof h17 fun w8 hg8 h8 => ldAB h8 (x := t16) (by simp) ?_
    have c8 : Chg (bX w.heap.size) w7 w8 := .of_grown hg8 rfl
    have ty : ∀ {j : Nat}, j = w.heap.size → ZL w1.heap.size rows j → False := fun {j} e hz => by
      subst e
      exact L7.out' h17 (by decide) (by decide) hz
    refine hK w2.heap.size w1.heap.size rows t16 w8 (L7.chg c8 (fun e => by have e : w2.heap.size = w.heap.size := e; have := b1.size; omega) fun j hj e => ty e hj) ?_
    exact (b5.trans ((b6.trans (h7.mono b6.size)).mono b5.size)).grown hg8 (by have := b5.size; have := b6.size; have := h7.size; omega) fun g hg => by simp only [Option.some.injEq] at hg; omega
theorem impl.live.q {l : List Ins} {ob hb : Nat} {rows : List Sl} (hL : Lg w l ob hb rows 1200) (hl : l.length ≤ 48) {K : Sl → World → Prop}
    (hK : ∀ r ss w', SlR kI w' r ss → ss.length ≤ 48 → (∀ x ∈ ss, Rch l x) → Below w.heap.size w w' → K r w') : CallT (.o (.lf .sl)) P0 29 [Sl.v ⟨some ⟨hb, 0, none⟩, l.length, l.length⟩] w K := by
  refine impl.live.ok (all := ⟨some ⟨hb, 0, none⟩, l.length, l.length⟩) (mkO (by show l.length ≤ 17592186044416; omega) fun o w1 ho1 b1 => ?_)
  refine ⟨fun out i w' => ∃ k : Nat, i = k ∧ k ≤ l.length ∧ ∃ ss, OwnS kI 3 w.heap.size w' out ss ∧ ss.length ≤ k ∧ (∀ x ∈ ss, Rch l x) ∧ Below w.heap.size w w', fun _ i _ => l.length - i.toNat, ⟨0, rfl, Nat.zero_le _, [], ho1, Nat.le_refl _, by simp, b1⟩, ?_⟩
  rintro out i w2 ⟨k, rfl, hk, ss, ho2, hs2, hr2, b2⟩ _
  have L2 := hL.below b2
  refine And.intro (fun hlt => ?_) (fun _ => ?_)
  · simp only [decide_eq_true_eq] at hlt
    have hkl : k < l.length := by omega
    obtain ⟨r, hri⟩ : ∃ r, rows[k]? = some r := ⟨rows[k]'(by rw [hL.len]; exact hkl), List.getElem?_eq_getElem _⟩
    obtain ⟨ks, hor, _, hkr⟩ := hL.row k r hri
    have ew : IntKind.wrap .i64 ((k : Int) + 1) = ((k + 1 : Nat) : Int) := by rw [i64_of (by omega) (by omega)]; omega
    rw [ew]
    refine ⟨⟨hb, 0, none⟩, rfl, by omega, hlt, ldB L2.head (j := (k : Int).toNat * 1) (l := .sl) (x := r) (by simp [hri]; rfl) ?_⟩
    refine And.intro (fun hp => ?_) (fun _ => ?_)
    · simp only [decide_eq_true_eq] at hp
      have hne : ks ≠ [] := fun e => by
        have := hor.len
        rw [e] at this
        simp at this
        omega
      refine ap1 elI ho2 (k : Int) rfl (by omega) (by omega) b2.size fun s' w3 ho3 hg3 _ => ?_
      exact ⟨⟨k + 1, rfl, by omega, _, ho3, by simp; omega, fun x hx => by
        rcases List.mem_append.1 hx with h | h
        · exact hr2 x h
        · simp only [List.mem_singleton] at h; rw [h]; exact hkr hne, b2.grown hg3 b2.size fun g hg => (ho2.blk hg).1⟩, by show l.length - ((k + 1 : Nat) : Int).toNat < l.length - (k : Int).toNat; omega⟩
    · exact ⟨⟨k + 1, rfl, by omega, ss, ho2, by omega, hr2, b2⟩, by show l.length - ((k + 1 : Nat) : Int).toNat < l.length - (k : Int).toNat; omega⟩
  · refine ⟨⟨out.a, out.n, out.n⟩, w2, run_clip (e := 3) (sz := 1) (by kernel_rfl) (by kernel_rfl) ho2.cap.1, ?_⟩
    exact hK _ ss w2 ho2.wr.clip.read (by omega) hr2 b2
theorem impl.SlimLive.q {l : List Ins} {list : Sl} (hq : formP l = 0) (h : SlR kIns w list l) (hl : l.length ≤ 1048576) {K : Sl → World → Prop}
    (hK : ∀ r ss w', SlR kI w' r ss → ss.length ≤ 48 → (∀ x ∈ ss, Rch l x) → Below w.heap.size w w' → K r w') : CallT (.o (.lf .sl)) P0 13 [list.v, Sl.v ⟨none, 0, 0⟩] w K := by
  have hz := formP_size hq
  refine impl.SlimLive.ok (tables := ⟨none, 0, 0⟩) (impl.visits.q hq h hl fun ob hb rows y w1 L1 b1 => ?_)
  refine nwSt (vs := Tup.cells (R 3 (.i .i64)) y) (by rw [zcP, V.cells_length]; rfl) (oneCellR (by intro h; cases h) y) (fun w2 b2 s2 c2 => ?_) rfl
  have b12 := b1.trans (b2.mono b1.size)
  refine ldB c2 (j := 0) (l := .i .i64) (x := y.1) rfl (And.intro (fun _ => ?_) (fun _ => ?_))
  · exact hK _ [] w2 (SlR.nil _ _) (by simp) (by simp) b12
  · exact impl.live.q (L1.below b2) hz.2 fun r ss w3 hr hs hR b3 => hK r ss w3 hr hs hR (b12.trans (b3.mono b12.size))
theorem spec.DrawFlowReach.q {code : Sl} {bs : List Int} {K : Sl → World → Prop} (h : SlR kU8 w code bs) (hb : ∀ x ∈ bs, 0 ≤ x ∧ x ≤ 255)
    (hk : ∀ r w' ys, Below w.heap.size w w' → SlR kIns w' r ys → ys.length ≤ 64 → K r w') : CallT (.o (.lf .sl)) P0 7 [code.v] w K :=
  spec.DrawFlowReach.ok (spec.DrawProgForm.c h hb hk)
end
end Go.Proofs.YtihllippchgkgaaGreat.V

/- The law FlowReach: what is led to leads on; each place to which a way comes is led to. No condition. -/
namespace Go.Proofs.YtihllippchgkgaaGreat.V
open Go Go.RowKit
set_option linter.unusedVariables false
open Classical in
theorem mem_flowReach' {l : List Ins} (hq : formP l = 0) {x : Int} : x ∈ flowReach l ↔ Rch l x := by
  unfold flowReach
  rw [if_neg (by simp [hq]), mem_picks]
  constructor
  · rintro ⟨i, rfl, _, hi⟩; simpa using hi
  · intro h1
    have := h1.rng hq
    exact ⟨x.toNat, by omega, by omega, by rw [decide_eq_true_eq, show ((x.toNat : Nat) : Int) = x by omega]; exact h1⟩
theorem picks_head {n : Nat} {f : Nat → Bool} (hn : 0 < n) (h : f 0 = true) : (picks n f)[0]? = some 0 := by
  obtain ⟨m, rfl⟩ : ∃ m, n = m + 1 := ⟨n - 1, by omega⟩
  unfold picks
  rw [List.range_succ_eq_map, List.filter_cons, h]
  simp
open Classical in
theorem flowReach_head {l : List Ins} (hq : formP l = 0) : (flowReach l)[0]? = some 0 := by
  unfold flowReach
  rw [if_neg (by simp [hq])]
  exact picks_head (formP_size hq).1 (by rw [decide_eq_true_eq]; exact .inl rfl)
theorem flowReach_next {l : List Ins} (hq : formP l = 0) {x y : Int} (hx : x ∈ flowReach l) (hy : y ∈ flowNext l x) : y ∈ flowReach l := by
  rw [mem_flowReach' hq] at hx ⊢
  have hr := hx.rng hq
  obtain ⟨i, hi⟩ : ∃ i, l[x.toNat]? = some i := ⟨l[x.toNat]'(by omega), List.getElem?_eq_getElem _⟩
  unfold flowNext at hy
  rw [if_neg (by simp [hq]; omega), hi] at hy
  have hn := nextX_in hq hi (y := y) (by rw [show ((x.toNat : Nat) : Int) = x by omega]; exact hy)
  exact hx.step ⟨i, hr.1, hi, hy, by omega⟩
theorem laws.FnFlowReach.pure {w : World} (s : Sl) (bs : List Int) (h : SlR kU8 w s bs ∧ ∀ x ∈ bs, (Lit.int .u8 x).wf = true) :
    CallT (.o (.lf .b)) P0 3 [s.v] w fun b w' => b = true ∧ Below w.heap.size w w' := by
  refine laws.FnFlowReach.ok (And.intro (fun _ => ⟨rfl, Below.refl _ _⟩) (fun _ => ?_))
  refine spec.DrawFlowReach.q h.1 (u8_all h.2) fun r w1 l b1 hr hl => ?_
  refine impl.FlowReach.c hr (by omega) fun p w2 b2' hp2 => ?_
  have b2 := b1.trans (b2'.mono b1.size)
  have hr2 := hr.below b2'
  have hpn := hp2.len
  have hlen := flowReach_length l
  refine ⟨fun w' => Below w.heap.size w w' ∧ Below w2.heap.size w2 w' ∧ flowReach l ≠ [], ?_, ?_⟩
  · refine spec.FlowReach.c hr2 (by omega) fun q w3 b3' hq3 => ?_
    refine laws.sgInts.c (hp2.below b3').read hq3.read fun w4 b4' => ?_
    have b24 := b3'.trans (b4'.mono b3'.size)
    have b4 := b2.trans (b24.mono b2.size)
    refine And.intro (fun hc => by simp at hc) (fun _ => And.intro (fun _ => ?_) (fun hc => ?_))
    · refine spec.FlowReach.c (hr2.below b24) (by omega) fun q w5 b5' hq5 => ?_
      refine laws.sgInts.c ((hp2.below b24).below b5').read hq5.read fun w6 b6' => ?_
      exact ⟨by simp, b4.trans ((b5'.trans (b6'.mono b5'.size)).mono b4.size)⟩
    · refine ⟨b4, b24, fun e => ?_⟩
      rw [e] at hpn
      simp [hpn] at hc
  rintro w3 ⟨b3, b23, hne⟩ _
  have hq : formP l = 0 := by
    refine Classical.byContradiction fun hn => hne ?_
    unfold flowReach
    rw [if_pos hn]
  have hr3 := hr2.below b23
  have hp3 := hp2.below b23
  refine ⟨fun i w' => ∃ n : Nat, i = n ∧ n ≤ (flowReach l).length ∧ Below w3.heap.size w3 w', fun i _ => (flowReach l).length - i.toNat, ⟨0, rfl, by omega, Below.refl _ _⟩, ?_⟩
  rintro i w4 ⟨n, rfl, hn, b4'⟩ _
  have b4 := b3.trans (b4'.mono b3.size)
  have hr4 := hr3.below b4'
  have hp4 := hp3.below b4'
  refine And.intro (fun hlt => ?_) (fun _ => ?_)
  · simp only [decide_eq_true_eq] at hlt
    obtain ⟨x, hx⟩ : ∃ x, (flowReach l)[n]? = some x := ⟨(flowReach l)[n]'(by omega), List.getElem?_eq_getElem _⟩
    refine ixL hp4.read (i := n) (by omega) (x := x) (by simpa using hx) rfl (l := .i .i64) (v := x) rfl ?_
    refine impl.FlowNext.c (i := x) hr4 (by omega) fun q w5 b5' hq5 => ?_
    have hqn := hq5.len
    have hql := flowNext_length l x
    have b5 := b4.trans (b5'.mono b4.size)
    have b35 := b4'.trans (b5'.mono b4'.size)
    refine ⟨fun k w' => ∃ m : Nat, k = m ∧ m ≤ (flowNext l x).length ∧ Below w5.heap.size w5 w', fun k _ => (flowNext l x).length - k.toNat, ⟨0, rfl, by omega, Below.refl _ _⟩, ?_⟩
    rintro k w6 ⟨m, rfl, hm, b6'⟩ _
    have b6 := b5.trans (b6'.mono b5.size)
    have b36 := b35.trans (b6'.mono b35.size)
    refine And.intro (fun hlt2 => ?_) (fun _ => ?_)
    · simp only [decide_eq_true_eq] at hlt2
      obtain ⟨y, hy⟩ : ∃ y, (flowNext l x)[m]? = some y := ⟨(flowNext l x)[m]'(by omega), List.getElem?_eq_getElem _⟩
      refine ixL (hq5.below b6').read (i := m) (by omega) (x := y) (by simpa using hy) rfl (l := .i .i64) (v := y) rfl ?_
      refine laws.sgIn.c (hp3.below b36).read ?_
      rintro w7 rfl
      refine And.intro (fun hc => ?_) (fun _ => ?_)
      · simp only [Bool.not_eq_true', decide_eq_false_iff_not] at hc
        exact absurd (flowReach_next hq (List.mem_of_getElem? hx) (List.mem_of_getElem? hy)) hc
      · have ew : IntKind.wrap .i64 ((m : Int) + 1) = ((m + 1 : Nat) : Int) := by rw [i64_of (by omega) (by omega)]; omega
        rw [ew]
        exact ⟨⟨m + 1, rfl, by omega, b6'⟩, by show (flowNext l x).length - ((m + 1 : Nat) : Int).toNat < (flowNext l x).length - (m : Int).toNat; omega⟩
    · have ew : IntKind.wrap .i64 ((n : Int) + 1) = ((n + 1 : Nat) : Int) := by rw [i64_of (by omega) (by omega)]; omega
      rw [ew]
      exact ⟨⟨n + 1, rfl, by omega, b36⟩, by show (flowReach l).length - ((n + 1 : Nat) : Int).toNat < (flowReach l).length - (n : Int).toNat; omega⟩
  · refine impl.SlimLive.q hq hr4 (by omega) fun q ss w5 hq5 hs5 hR b5' => ?_
    have hqn := hq5.len
    have b5 := b4.trans (b5'.mono b4.size)
    have b35 := b4'.trans (b5'.mono b4'.size)
    refine ⟨fun k w' => ∃ m : Nat, k = m ∧ m ≤ ss.length ∧ Below w5.heap.size w5 w', fun k _ => ss.length - k.toNat, ⟨0, rfl, by omega, Below.refl _ _⟩, ?_⟩
    rintro k w6 ⟨m, rfl, hm, b6'⟩ _
    have b6 := b5.trans (b6'.mono b5.size)
    have b36 := b35.trans (b6'.mono b35.size)
    refine And.intro (fun hlt2 => ?_) (fun _ => ?_)
    · simp only [decide_eq_true_eq] at hlt2
      obtain ⟨y, hy⟩ : ∃ y, ss[m]? = some y := ⟨ss[m]'(by omega), List.getElem?_eq_getElem _⟩
      refine ixL (hq5.below b6') (i := m) (by omega) (x := y) (by simpa using hy) rfl (l := .i .i64) (v := y) rfl ?_
      refine laws.sgIn.c (hp3.below b36).read ?_
      rintro w7 rfl
      refine And.intro (fun hc => ?_) (fun _ => ?_)
      · simp only [Bool.not_eq_true', decide_eq_false_iff_not] at hc
        exact absurd ((mem_flowReach' hq).2 (hR y (List.mem_of_getElem? hy))) hc
      · have ew : IntKind.wrap .i64 ((m : Int) + 1) = ((m + 1 : Nat) : Int) := by rw [i64_of (by omega) (by omega)]; omega
        rw [ew]
        exact ⟨⟨m + 1, rfl, by omega, b6'⟩, by show ss.length - ((m + 1 : Nat) : Int).toNat < ss.length - (m : Int).toNat; omega⟩
    · refine ixL (hp3.below b36).read (i := 0) (by omega) (x := 0) (by simpa using flowReach_head hq) rfl (l := .i .i64) (v := (0 : Int)) rfl ?_
      exact ⟨rfl, b6⟩
end Go.Proofs.YtihllippchgkgaaGreat.V

/- The row of FnFlowReach: it returns true and leaves its input as it was, whatever the input. PRINTED by row.py out of the law of the same name. -/
namespace Go.Proofs.YtihllippchgkgaaGreat.V
open Go Go.RowKit Go.ChangeShapes Go.WideShapes Go.ChangeAt
open Go.ChangeMaps (open_string shut_string)
set_option linter.unusedVariables false
set_option maxRecDepth 100000 in
theorem FnFlowReach.lifted (os : Os) (started : os.Started) (H : Type) (enc : TypeId × Value → H) :
    ReturnsInHanded {} Tryz.checked os 3 .any (Rows.fnFlowReachSpec.pre6 enc P0 Tryz.f3 Rows.fnFlowReachRow.domain false) (Rows.fnFlowReachSpec.post enc P0 Tryz.f3 false true false false) := by
  refine returnsInHanded_of_change_sized (C := Tryz.checked) own started (by kernel_rfl) Tryz.func3
    (ChangeSpec.witness6 (enc := enc) (C := Tryz.checked) false ⟨#[], #[.slice none 0 0], []⟩ 8 (by kernel_rfl) (by kernel_rfl) (by kernel_rfl) (by kernel_rfl)) ?_
  intro W base args ds gs before hval0 hW hcnd hsz0 _
  have hsz : (DataW.weightsEach P0 (Tryz.f3.params.toList ++ Rows.fnFlowReachSpec.plain.varTypes P0) (ds ++ gs)).all (· ≤ reachBytes) = true := hsz0
  have hval : ∀ (j : Nat) t v, Tryz.f3.params[j]? = some t → args[j]? = some v → Value.okWide P0 W .any base t v := hval0
  have hW' := hW
  obtain ⟨p, q, hA0, hV, rfl, hfz, hnd⟩ := hW
  have hA : DataW.TrodAll enc P0 W 0 (fun _ => true) true Tryz.f3.params.toList args.toList ds p := hA0
  rw [Tryz.params3] at hA hval hsz
  obtain ⟨v0, vs0, d0, ds0, p0, q0, hargs, rfl, rfl, h0, r0⟩ := trodAll_cons hA
  obtain ⟨rfl, rfl, rfl⟩ := trodAll_nil r0
  obtain rfl : args = #[v0] := by cases args; simp_all
  obtain ⟨rfl, rfl⟩ := trodVars_none hV
  obtain ⟨a0, len0, cap0, rfl⟩ := okWide_slice Tryz.underlying22 (hval 0 22 v0 rfl rfl)
  have k0 := h0
  have lt0 : ∀ x ∈ p0, x.block < W.heap.size := by obtain ⟨m, hm⟩ := k0; exact DataW.trod_lt m _ _ _ hm
  obtain ⟨l0, w0⟩ : ∃ l, SlR kU8 W ⟨a0, len0, cap0⟩ l ∧ ∀ x ∈ l, (Lit.int .u8 x).wf = true := by
    obtain ⟨fuel, hf⟩ := h0
    exact open_nums (e := 5) Tryz.underlying22 Tryz.underlying5 (by kernel_rfl) hf
  clear hA0 hval0 hsz0 hsz
  refine Calls.mono (laws.FnFlowReach.pure (w := W) ⟨a0, len0, cap0⟩ l0 w0) fun e W' he => ?_
  obtain ⟨x, he, hx, bel⟩ := he
  subst hx
  subst he
  exact ⟨_, rfl, _, _, _, [], _, [], hW', trodAll_mk1 (shut_bool Tryz.underlying4 _), (trodAll_cons_mk (Below.trod laidOut (by kernel_rfl) (of_decide_eq_true (by kernel_rfl)) k0 bel lt0) trodAll_mk0), rfl, bel.frame _, fun h => by cases h⟩
theorem FnFlowReach.over : Rows.fnFlowReachRow.holds Tryz.pinned (OpenSpec.ofChange Rows.fnFlowReachSpec) :=
  OpenClaim.holds_of_wide 3 Tryz.f3 rfl rfl rfl rfl rfl rfl rfl ⟨rfl, rfl, rfl, rfl, rfl⟩ rfl rfl rfl rfl rfl (by kernel_rfl) Tryz.func3 (by kernel_rfl)
    (of_decide_eq_true (by kernel_rfl)) (by unfold Func.isWrapper; first | (rw [if_pos (by decide +kernel)]; kernel_rfl) | (rw [if_neg (by decide +kernel)]; exact ⟨rfl, rfl⟩))
    (fun os started H enc _ => FnFlowReach.lifted os started H enc)
end Go.Proofs.YtihllippchgkgaaGreat.V
namespace Go.Proofs.YtihllippchgkgaaGreat
/-- The row, under a short name, for the claim. -/
theorem fnFlowReach_holds : Rows.FnFlowReachSaid := V.FnFlowReach.over
#print axioms fnFlowReach_holds
end Go.Proofs.YtihllippchgkgaaGreat
