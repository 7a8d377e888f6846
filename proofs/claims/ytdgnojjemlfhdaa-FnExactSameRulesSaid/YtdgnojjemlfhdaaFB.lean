/- Contracts: sorted sets, and where blocks begin. -/
import Derived.Test.YtdgnojjemlfhdaaC2
import Derived.Test.YtdgnojjemlfhdaaFN
import Derived.Test.YtdgnojjemlfhdaaVN
import Derived.WalkArith
namespace Go.Proofs.Ytdgnojjemlfhdaa.V
open Go Go.RowKit
set_option linter.unusedVariables false
set_option linter.unusedSimpArgs false
theorem wf_i64 {x : Int} (h0 : -9223372036854775808 ≤ x) (h1 : x ≤ 9223372036854775807) : (Lit.int .i64 x).wf = true := WalkArith.wf_i64 ⟨h0, h1⟩
theorem ins_le {x : Int} {S : List Int} {n : Nat} (h : S.length ≤ n) : (ins x S).length ≤ n + 1 := by
  unfold ins
  split
  · omega
  · rw [List.length_append]; simp; exact h
section
variable {w : World} {s : Sl} {l : List Ins}
theorem impl.places.sorted.c {B : Nat} {m : Option Nat} {S : List Int} {K : Sl → World → Prop} (h : SetM B w m S) (hS : S.length ≤ 1048600)
    (hk : ∀ r w', Below w.heap.size w w' → OwnS kI 3 w.heap.size w' r (sorted S) → K r w') : CallT (.o (.lf .sl)) P0 59 [.map m] w K := by
  refine impl.places.sorted.ok (mapLen h ?_)
  refine mkO (by omega) fun o w1 ho1 hb1 => ?_
  have h1 := h.below hb1
  refine mapRange h1 fun a w2 hr2 hb2 => ?_
  have hsz := hb1.size
  refine ⟨fun out w' => ∃ ss, OwnS kI 3 w.heap.size w' out ss ∧ RgM B w1.heap.size w' m a S ss ∧ Below w.heap.size w w' ∧ out.bk ≠ some a.block ∧ w1.heap.size ≤ w'.heap.size, fun out w' => rgl w' m a,
    ⟨[], ho1.below hb2, hr2, hb1.trans (hb2.mono hsz), fun e => by have := (ho1.blk ((ob_bk o).trans e)).2; have := hr2.blk.1; omega, hb2.size⟩, ?_⟩
  rintro out w3 ⟨ss, ho3, hr3, hb3, hne, hs3⟩ _
  refine mapNext hr3 (fun x u w4 hx hnx hw hr4 hg4 hlt => ?_) (fun hp => ?_)
  · have ho4 := ho3.kept hg4 (fun b hb e => hne (by rw [← ob_bk, e]; exact hb.symm))
    have hnd := hr4.nodup
    have hlen : (ss ++ [x]).length ≤ S.length := by
      have h1 := hnd.1
      exact (List.Nodup.length_le_of_subset h1 hnd.2)
    simp only [List.length_append, List.length_cons, List.length_nil] at hlen
    have hs4 := hg4.size
    refine ap1 elI ho4 x rfl (by omega) (by omega) (by have := hb3.size; omega) fun s' w5 ho5 hg5 hbk => ?_
    have hm : m ≠ out.bk := fun e => by
      have h2 := hr4.set
      cases m with
      | none => obtain ⟨b, D, hb, _⟩ := h2; simp at hb
      | some b =>
        have h3 := (h.blk rfl).2
        have h4 := (ho4.blk ((ob_bk out).trans e.symm)).1
        omega
    have hg5' := hg5
    rw [ob_bk] at hg5'
    obtain ⟨hr5, hl5⟩ := hr4.kept hg5' hm (Ne.symm hne)
    refine ⟨⟨_, ho5, hr5, ?_, ?_, Nat.le_trans hs3 (Nat.le_trans hs4 hg5.size)⟩, by show rgl w5 m a < rgl w3 m a; omega⟩
    · refine ((hb3.grown hg4 hb3.size (fun b hb => ?_))).grown hg5 (by have := hb3.size; omega) (fun b hb => (ho4.blk hb).1)
      simp only [Option.some.injEq] at hb
      have := hr3.blk.1; omega
    · intro e
      rcases hbk _ ((ob_bk s').trans e) with h2 | h2
      · exact hne ((ob_bk out).symm.trans h2)
      · have := hr4.blk.2; omega
  · have hlen := hp.length_eq
    refine sort_own ho3 (by omega) fun w4 ho4 hg4 => ?_
    rw [sorted_perm' hp] at ho4
    exact hk _ _ (hb3.grown hg4 hb3.size (fun b hb => (ho3.blk hb).1)) ho4
/-- A block begins here, so far as the first n ops say. -/
def begins (l : List Ins) (n : Nat) (i : Int) : Prop := i = 0 ∨ ∃ j x, j < n ∧ l[j]? = some x ∧ ((goesP x ∧ (tgt j x = i ∨ (j : Int) + 1 = i)) ∨ (x.op = 20 ∧ (j : Int) + 1 = i))
theorem begins_zero (l : List Ins) (i : Int) : begins l 0 i ↔ i = 0 := by
  unfold begins
  constructor
  · rintro (h | ⟨j, x, h, _⟩)
    · exact h
    · omega
  · exact .inl
theorem begins_succ {l : List Ins} {n : Nat} {x : Ins} (hx : l[n]? = some x) (i : Int) : begins l (n + 1) i ↔ begins l n i ∨ (goesP x ∧ (tgt n x = i ∨ (n : Int) + 1 = i)) ∨ (x.op = 20 ∧ (n : Int) + 1 = i) := by
  unfold begins
  constructor
  · rintro (h | ⟨j, y, hj, hy, h⟩)
    · exact .inl (.inl h)
    · by_cases e : j = n
      · subst e; rw [hx] at hy; simp only [Option.some.injEq] at hy; subst hy; exact .inr h
      · exact .inl (.inr ⟨j, y, by omega, hy, h⟩)
  · rintro ((h | ⟨j, y, hj, hy, h⟩) | h)
    · exact .inl h
    · exact .inr ⟨j, y, by omega, hy, h⟩
    · exact .inr ⟨n, x, by omega, hx, h⟩
open Classical in
noncomputable def flowBlocks (l : List Ins) : List Int := if formP l ≠ 0 then [] else picks l.length fun i => decide (begins l l.length i)
theorem formGo_tgt {all : List Ins} : ∀ {m : Nat} {l : List Ins}, formGo all m l = 0 → ∀ j x, l[j]? = some x → goesP x → 0 ≤ tgt (m + j : Nat) x ∧ tgt (m + j : Nat) x ≤ (all.length : Int) - 1
  | _, [], _, j, x, hx, _ => by simp at hx
  | m, y :: l, h, j, x, hx, hg => by
    simp only [formGo] at h
    split at h
    · simp at h
    · split at h
      · simp at h
      · rename_i hn
        cases j with
        | zero =>
          simp only [List.getElem?_cons_zero, Option.some.injEq] at hx
          subst hx
          simp only [hg, true_and] at hn
          simpa using Classical.not_not.1 (fun e => hn (by simpa using e))
        | succ j =>
          have := formGo_tgt h j x (by simpa using hx) hg
          rw [show m + (j + 1) = m + 1 + j by omega]; exact this
theorem formP_tgt {l : List Ins} (h : formP l = 0) {j : Nat} {x : Ins} (hx : l[j]? = some x) (hg : goesP x) : 0 ≤ tgt j x ∧ tgt j x ≤ (l.length : Int) - 1 := by
  have := formGo_tgt h j x hx hg; rwa [Nat.zero_add] at this
theorem formGo_end {all : List Ins} : ∀ {m : Nat} {l : List Ins}, formGo all m l = 0 → endP all = 0
  | _, [], h => by simpa [formGo] using h
  | m, y :: l, h => by
    simp only [formGo] at h
    split at h
    · simp at h
    · split at h
      · simp at h
      · exact formGo_end h
theorem formP_size {l : List Ins} (h : formP l = 0) : 0 < l.length ∧ l.length ≤ 48 := by
  have h1 := formGo_end (all := l) h
  constructor
  · cases l with
    | nil => simp [endP_nil rfl] at h1
    | cons => simp
  · rcases Nat.lt_or_ge 48 l.length with h2 | h2
    · rw [endP_many h2] at h1; simp at h1
    · exact h2
theorem impl.FlowBlocks.c {K : Sl → World → Prop} (h : SlR kIns w s l) (hl : l.length ≤ 1048576)
    (hk : ∀ r w', Below w.heap.size w w' → WrS kI 3 w.heap.size w' r (flowBlocks l) → K r w') : CallT (.o (.lf .sl)) P0 23 [s.v] w K := by
  have hn := h.len
  refine impl.FlowBlocks.ok (impl.ProgForm.c h hl fun w1 hb1 => ?_)
  refine And.intro (fun hq => ?_) (fun hq => ?_)
  · simp at hq
    exact hk _ _ hb1 (by unfold flowBlocks; rw [if_pos hq]; exact WrS.nil _ _ _ _)
  · simp at hq
    have hz := formP_size hq
    refine mapNew fun m w2 hm2 hb2 hs2 => ?_
    refine mapPut hm2 (x := 0) (by decide) (by simp [maxLen]) fun w3 hm3 hg3 => ?_
    have hb3 : Below w.heap.size w w3 := (hb1.trans (hb2.mono hb1.size)).grown hg3 (by have := hb1.size; omega) (fun b hb => by have := (hm2.blk hb).1; have := hb1.size; omega)
    refine ⟨fun i w' => ∃ (n : Nat) (S : List Int), i = n ∧ n ≤ l.length ∧ SetM w1.heap.size w' m S ∧ (∀ x, x ∈ S ↔ begins l n x ∧ x < l.length) ∧ Below w.heap.size w w', fun i _ => l.length - i.toNat,
      ⟨0, _, rfl, by omega, hm3, fun x => by rw [begins_zero, mem_ins]; simp; omega, hb3⟩, ?_⟩
    rintro i w4 ⟨n, S, rfl, hnl, hm4, hS, hb4⟩ _
    have h4 := h.below hb4
    have hSn : S.length ≤ 48 := by
      have := nodup_le (n := l.length) hm4.nodup (fun x hx => by
        have := (hS x).1 hx
        refine ⟨?_, this.2⟩
        rcases this.1 with h | ⟨j, y, hj, hy, h⟩
        · omega
        · rcases h with ⟨hg, h | h⟩ | ⟨_, h⟩
          · rw [← h]; exact (formP_tgt hq hy hg).1
          · omega
          · omega)
      omega
    refine And.intro (fun hlt => ?_) (fun hge => ?_)
    · simp only [decide_eq_true_eq] at hlt
      obtain ⟨x, hx⟩ := get_some (l := l) (k := n) (by omega)
      have hix := formP_ins hq (List.mem_of_getElem? hx)
      refine ixA h4 (i := n) (by omega) (x := x) (by simpa using hx) rfl ?_
      refine nwStIns (x := x) fun w5 hb5 hs5 hc5 => ?_
      have hm5 := hm4.below hb5
      have hb5' := hb4.trans (hb5.mono hb4.size)
      have hbs := hb4.size
      have hb1s := hb1.size
      refine ⟨fun w' => ∃ S', SetM w1.heap.size w' m S' ∧ (∀ y, y ∈ S' ↔ y ∈ S ∨ (goesP x ∧ tgt n x = y)) ∧ S'.length ≤ 49 ∧ Below w.heap.size w w' ∧ w'.heap[w4.heap.size]? = some (.cells x.cs 51 (0, 0)), ?_, ?_⟩
      · refine ldB hc5 (x := x.op) rfl (impl.kind.goes.c ?_)
        refine And.intro (fun hg => ?_) (fun hg => ?_)
        · simp only [decide_eq_true_eq] at hg
          have htg := formP_tgt hq hx hg
          refine impl.target.c (h4.below hb5) (by omega) (by simpa using hx) hl hix.2.2.1 ?_
          refine mapPut hm5 (wf_i64 (by omega) (by omega)) (by simp only [maxLen]; omega) fun w6 hm6 hg6 => ?_
          refine ⟨_, hm6, fun y => by rw [mem_ins]; constructor <;> (intro hy; rcases hy with hy | hy) <;> first | exact .inr ⟨hg, hy.symm⟩ | exact .inl hy | exact .inr hy | exact .inl hy.2.symm, ?_, ?_, ?_⟩
          · exact ins_le hSn
          · exact hb5'.grown hg6 hb5'.size (fun b hb => by have := (hm4.blk hb).1; omega)
          · exact (hg6.block _ (by omega) (fun e => by have := (hm4.blk e.symm).2; omega)).trans hc5
        · simp only [decide_eq_false_iff_not] at hg
          exact ⟨S, hm5, fun y => ⟨.inl, fun hy => hy.elim id (fun hy => absurd hy.1 hg)⟩, by omega, hb5', hc5⟩
      · rintro w6 ⟨S', hm6, hS', hn6, hb6, hc6⟩ _
        have next : ∀ (w' : World) (S2 : List Int), SetM w1.heap.size w' m S2 → Below w.heap.size w w' → (∀ y, y ∈ S2 ↔ y ∈ S' ∨ (((goesP x ∨ x.op = 20) ∧ (n : Int) + 1 < l.length) ∧ y = (n : Int) + 1)) →
            (∃ (n' : Nat) (S : List Int), IntKind.wrap .i64 ((n : Int) + 1) = n' ∧ n' ≤ l.length ∧ SetM w1.heap.size w' m S ∧ (∀ x, x ∈ S ↔ begins l n' x ∧ x < l.length) ∧ Below w.heap.size w w') ∧ l.length - (IntKind.wrap .i64 ((n : Int) + 1)).toNat < l.length - (n : Int).toNat := by
          intro w' S2 hm hb hS2
          rw [i64_of (by omega) (by omega)]
          refine ⟨⟨n + 1, S2, by omega, by omega, hm, fun y => ?_, hb⟩, by omega⟩
          rw [hS2, hS', hS, begins_succ hx]
          have htg := fun hg => formP_tgt hq hx hg
          clear hk h h4 hm hb hS2 hS' hS hm4 hm5 hm6 hb6 hb5 hb5' hb4 hm3 hm2 hb3 hb2 hb1 hg3
          constructor
          · rintro ((h | h) | h)
            · exact ⟨.inl h.1, h.2⟩
            · have := htg h.1; exact ⟨.inr (.inl ⟨h.1, .inl h.2⟩), by omega⟩
            · obtain ⟨⟨h1, h2⟩, rfl⟩ := h
              refine ⟨?_, h2⟩
              rcases h1 with h1 | h1
              · exact .inr (.inl ⟨h1, .inr rfl⟩)
              · exact .inr (.inr ⟨h1, rfl⟩)
          · rintro ⟨h | ⟨h1, h2 | h2⟩ | ⟨h1, h2⟩, h3⟩
            · exact .inl (.inl ⟨h, h3⟩)
            · exact .inl (.inr ⟨h1, h2⟩)
            · exact .inr ⟨⟨.inl h1, by omega⟩, h2.symm⟩
            · exact .inr ⟨⟨.inr h1, by omega⟩, h2.symm⟩
        have put : ((goesP x ∨ x.op = 20) ∧ (n : Int) + 1 < l.length) → ∀ K : World → Prop, (∀ w', SetM w1.heap.size w' m (ins ((n : Int) + 1) S') → Below w.heap.size w w' → K w') → RunU P0 (Instr.mapUpdate 69 (.map m) (.int .i64 (IntKind.wrap .i64 ((n : Int) + 1))) (.bool true)) w6 K := by
          intro hc K hK
          rw [i64_of (by omega) (by omega)]
          refine mapPut hm6 (wf_i64 (by omega) (by omega)) (by simp only [maxLen]; omega) fun w7 hm7 hg7 => hK w7 hm7 (hb6.grown hg7 hb6.size (fun b hb => by have := (hm4.blk hb).1; omega))
        have hwr : IntKind.wrap .i64 ((n : Int) + 1) = (n : Int) + 1 := i64_of (by omega) (by omega)
        refine ldB hc6 (x := x.op) rfl (impl.kind.goes.c ?_)
        refine And.intro (fun hg => ?_) (fun hg => ?_)
        · simp only [decide_eq_true_eq] at hg
          refine And.intro (fun hc => ?_) (fun hc => ?_)
          · rw [hwr, decide_eq_true_eq] at hc
            refine put ⟨.inl hg, by omega⟩ _ fun w' hm' hb' => next w' _ hm' hb' fun y => ?_
            rw [mem_ins]
            constructor
            · rintro (h | h)
              · exact .inr ⟨⟨.inl hg, by omega⟩, h⟩
              · exact .inl h
            · rintro (h | h)
              · exact .inr h
              · exact .inl h.2
          · rw [hwr, decide_eq_false_iff_not] at hc
            exact next w6 S' hm6 hb6 fun y => ⟨.inl, fun h => h.elim id fun h => by have := h.1.2; omega⟩
        · simp only [decide_eq_false_iff_not] at hg
          refine ldB hc6 (x := x.op) rfl ?_
          refine And.intro (fun h20 => ?_) (fun h20 => ?_)
          · simp only [beq_iff_eq] at h20
            refine And.intro (fun hc => ?_) (fun hc => ?_)
            · rw [hwr, decide_eq_true_eq] at hc
              refine put ⟨.inr h20, by omega⟩ _ fun w' hm' hb' => next w' _ hm' hb' fun y => ?_
              rw [mem_ins]
              constructor
              · rintro (h | h)
                · exact .inr ⟨⟨.inr h20, by omega⟩, h⟩
                · exact .inl h
              · rintro (h | h)
                · exact .inr h
                · exact .inl h.2
            · rw [hwr, decide_eq_false_iff_not] at hc
              exact next w6 S' hm6 hb6 fun y => ⟨.inl, fun h => h.elim id fun h => by have := h.1.2; omega⟩
          · simp only [beq_eq_false_iff_ne, ne_eq] at h20
            exact next w6 S' hm6 hb6 fun y => ⟨.inl, fun h => h.elim id fun h => absurd h.1.1 (by rintro (h | h) <;> contradiction)⟩
    · simp only [decide_eq_false_iff_not] at hge
      obtain rfl : n = l.length := by omega
      refine impl.places.sorted.c hm4 (by omega) fun r w5 hb5 ho5 => ?_
      refine hk _ _ (hb4.trans (hb5.mono hb4.size)) ?_
      have : sorted S = flowBlocks l := by
        unfold flowBlocks
        rw [if_neg (by simp [hq])]
        refine sorted_eq hm4.nodup fun x => ?_
        rw [hS]
        simp only [decide_eq_true_eq]
        constructor
        · rintro ⟨h1, h2⟩
          have h0 : 0 ≤ x := by
            rcases h1 with h | ⟨j, y, hj, hy, h⟩
            · omega
            · rcases h with ⟨hg, h | h⟩ | ⟨_, h⟩
              · rw [← h]; exact (formP_tgt hq hy hg).1
              · omega
              · omega
          exact ⟨x.toNat, by omega, by omega, by rw [show ((x.toNat : Nat) : Int) = x by omega]; exact h1⟩
        · rintro ⟨i, rfl, hi, hb⟩
          exact ⟨hb, by omega⟩
      rw [← this]
      exact (ho5.wr).low hb4.size
/-- Set a bit of a row. -/
theorem stBit {B : Nat} {w : World} {r : Sl} {n : Nat} {f : Nat → Bool} {i : Int} (h : WrS kB 4 B w r (bits n f)) (h0 : 0 ≤ i) (h1 : i < n) {K : World → Prop}
    (hk : ∀ w', WrS kB 4 B w' r (bits n fun j => f j || decide (j = i.toNat)) → w.grownBy w' r.bk → K w') : Ix r.a r.n i 1 w fun a w1 => St a (.bool true) w1 K :=
  ixStL h h0 (x := f i.toNat) (bits_get (by omega)) rfl rfl rfl true rfl fun w' hw hg _ => hk w' (by rw [bits_set] at hw; exact hw) hg
theorem spec.FlowBlocks.c {K : Sl → World → Prop} (h : SlR kIns w s l) (hl : l.length ≤ 1048576)
    (hk : ∀ r w', Below w.heap.size w w' → WrS kI 3 w.heap.size w' r (flowBlocks l) → K r w') : CallT (.o (.lf .sl)) P0 21 [s.v] w K := by
  have hn := h.len
  refine spec.FlowBlocks.ok (nw fun w0 hb0 hs0 hc0 => ?_)
  have ho0 : OwnS kI 3 w.heap.size w0 ⟨some ⟨w.heap.size, 0, none⟩, 0, 0⟩ [] := OwnS.lit (Nat.le_refl _) hc0 rfl rfl (by simp)
  refine spec.l12Fine.c (h.below hb0) hl fun w1 hb1' => ?_
  have hb1 := hb0.trans (hb1'.mono hb0.size)
  have ho1 := ho0.below hb1'
  refine And.intro (fun hq => ?_) (fun hq => ?_)
  · simp at hq
    exact hk _ _ hb1 (by unfold flowBlocks; rw [if_pos hq]; exact ho1.wr)
  · simp at hq
    have hz := formP_size hq
    rw [i64_of (by omega) (by omega), show (s.n : Int) + 1 = ((l.length + 1 : Nat) : Int) by omega]
    refine mkS mkB (by omega) (by simp only [maxLen]; omega) fun r w2 hb2 hr2 => ?_
    rw [bits_rep] at hr2
    have hb2s := hb2.size
    have hb1s := hb1.size
    have hb02 := hb1.trans (hb2.mono hb1.size)
    have bk : ∀ b, r.bk = some b → w.heap.size ≤ b := fun b hb => by have := (hr2.blk hb).1; omega
    refine stBit hr2 (Int.le_refl _) (by omega) fun w3 hr3 hg3 => ?_
    have hb3 : Below w.heap.size w w3 := hb02.grown hg3 hb02.size bk
    have ne0 : ∀ b, r.bk = some b → (Value.slice (some (⟨w.heap.size, 0, none⟩ : Addr)) 0 0).ownBlock ≠ some b := fun b hb e => by
      have h1 := (hr2.blk hb).1; simp only [Value.ownBlock, Option.some.injEq] at e; have := hb0.size; have := hb1'.size; omega
    have ho3 := (ho1.below hb2).kept hg3 ne0
    refine ⟨fun i w' => ∃ (n : Nat) (f : Nat → Bool), i = n ∧ n ≤ l.length ∧ WrS kB 4 w1.heap.size w' r (bits (l.length + 1) f) ∧ (∀ j : Nat, j < l.length → (f j = true ↔ begins l n j)) ∧ Below w.heap.size w w' ∧
        OwnS kI 3 w.heap.size w' ⟨some ⟨w.heap.size, 0, none⟩, 0, 0⟩ [], fun i _ => l.length - i.toNat,
      ⟨0, _, rfl, by omega, hr3, fun j hj => by rw [begins_zero]; simp, hb3, ho3⟩, ?_⟩
    rintro i w4 ⟨n, f, rfl, hnl, hr4, hf, hb4, ho4⟩ _
    have h4 := h.below hb4
    refine And.intro (fun hlt => ?_) (fun hge => ?_)
    · simp only [decide_eq_true_eq] at hlt
      obtain ⟨x, hx⟩ := get_some (l := l) (k := n) (by omega)
      have hx' : l[((n : Nat) : Int).toNat]? = some x := by simpa using hx
      have hix := formP_ins hq (List.mem_of_getElem? hx)
      have h12 : ∀ (g : Nat → Bool) (w' : World), WrS kB 4 w1.heap.size w' r (bits (l.length + 1) g) → Below w.heap.size w w' → OwnS kI 3 w.heap.size w' ⟨some ⟨w.heap.size, 0, none⟩, 0, 0⟩ [] →
          (∀ j : Nat, j < l.length → (g j = true ↔ begins l (n + 1) j)) → (∃ (n' : Nat) (f : Nat → Bool), IntKind.wrap .i64 ((n : Int) + 1) = n' ∧ n' ≤ l.length ∧ WrS kB 4 w1.heap.size w' r (bits (l.length + 1) f) ∧ (∀ j : Nat, j < l.length → (f j = true ↔ begins l n' j)) ∧ Below w.heap.size w w' ∧
        OwnS kI 3 w.heap.size w' ⟨some ⟨w.heap.size, 0, none⟩, 0, 0⟩ []) ∧ l.length - (IntKind.wrap .i64 ((n : Int) + 1)).toNat < l.length - (n : Int).toNat := by
        intro g w' hr hb ho hg
        rw [i64_of (by omega) (by omega)]
        exact ⟨⟨n + 1, g, by omega, by omega, hr, hg, hb, ho⟩, by omega⟩
      have hwr : IntKind.wrap .i64 ((n : Int) + 1) = (n : Int) + 1 := i64_of (by omega) (by omega)
      have last : ∀ (g : Nat → Bool) (w' : World), WrS kB 4 w1.heap.size w' r (bits (l.length + 1) g) → Below w.heap.size w w' → OwnS kI 3 w.heap.size w' ⟨some ⟨w.heap.size, 0, none⟩, 0, 0⟩ [] → x.op = 20 →
          (∀ j : Nat, j < l.length → (g j = true ↔ begins l n j ∨ (goesP x ∧ (tgt n x = j ∨ (n : Int) + 1 = j)))) →
          Ix r.a r.n (IntKind.wrap .i64 ((n : Int) + 1)) 1 w' fun a_t61 w__20 => St a_t61 (.bool true) w__20 fun w__21 =>
            (∃ (n' : Nat) (f : Nat → Bool), IntKind.wrap .i64 ((n : Int) + 1) = n' ∧ n' ≤ l.length ∧ WrS kB 4 w1.heap.size w__21 r (bits (l.length + 1) f) ∧ (∀ j : Nat, j < l.length → (f j = true ↔ begins l n' j)) ∧ Below w.heap.size w w__21 ∧
        OwnS kI 3 w.heap.size w__21 ⟨some ⟨w.heap.size, 0, none⟩, 0, 0⟩ []) ∧ l.length - (IntKind.wrap .i64 ((n : Int) + 1)).toNat < l.length - (n : Int).toNat := by
        intro g w' hr hb ho h20 hg
        rw [hwr]
        have h12' := fun g w' => h12 g w'
        rw [hwr] at h12'
        refine stBit hr (by omega) (by omega) fun w5 hr5 hg5 => h12' _ w5 hr5 (hb.grown hg5 hb.size bk) (ho.kept hg5 ne0) fun j hj => ?_
        rw [begins_succ hx, Bool.or_eq_true, hg j hj]
        simp only [decide_eq_true_eq, h20, true_and]
        constructor
        · rintro ((h | h) | h)
          · exact .inl h
          · exact .inr (.inl h)
          · exact .inr (.inr (by omega))
        · rintro (h | h | h)
          · exact .inl (.inl h)
          · exact .inl (.inr h)
          · exact .inr (by omega)
      refine ⟨fun b w' => b = decide (goesP x) ∧ w' = w4, ?_, ?_⟩
      · refine ixF h4 (by omega) hx' rfl (v := x.op) rfl (spec.l1Jump.c ?_)
        refine And.intro (fun hj => ?_) (fun hj => ?_)
        · simp only [decide_eq_true_eq] at hj
          exact ⟨(decide_eq_true (show goesP x by unfold goesP; omega)).symm, rfl⟩
        · simp only [decide_eq_false_iff_not] at hj
          refine ixF h4 (by omega) hx' rfl (v := x.op) rfl ⟨?_, rfl⟩
          rw [Bool.eq_iff_iff, decide_eq_true_eq, beq_iff_eq]; unfold goesP; omega
      · rintro b w5 ⟨rfl, rfl⟩ _
        refine And.intro (fun hg => ?_) (fun hg => ?_)
        · simp only [decide_eq_true_eq] at hg
          have htg := formP_tgt hq hx hg
          have hwt : IntKind.wrap .i64 ((n : Int) + 1 + x.off) = tgt n x := i64_of (by simp only [tgt] at htg; omega) (by simp only [tgt] at htg; omega)
          rw [hwr]
          refine stBit hr4 (by omega) (by omega) fun w6 hr6 hg6 => ?_
          have hb6 := hb4.grown hg6 hb4.size bk
          have h6 := h.below hb6
          refine ixF h6 (by omega) hx' rfl (v := x.off) rfl ?_
          rw [hwt]
          refine stBit hr6 htg.1 (by omega) fun w7 hr7 hg7 => ?_
          have hb7 := hb6.grown hg7 hb6.size bk
          refine ixF (h.below hb7) (by omega) hx' rfl (v := x.op) rfl ?_
          have key : ∀ j : Nat, j < l.length → (((f j || decide (j = ((n : Int) + 1).toNat)) || decide (j = (tgt n x).toNat)) = true ↔ begins l n j ∨ (goesP x ∧ (tgt n x = j ∨ (n : Int) + 1 = j))) := by
            intro j hj
            rw [Bool.or_eq_true, Bool.or_eq_true, hf j hj]
            simp only [decide_eq_true_eq]
            constructor
            · rintro ((h | h) | h)
              · exact .inl h
              · exact .inr ⟨hg, .inr (by omega)⟩
              · exact .inr ⟨hg, .inl (by omega)⟩
            · rintro (h | ⟨_, h | h⟩)
              · exact .inl (.inl h)
              · exact .inr (by omega)
              · exact .inl (.inr (by omega))
          refine And.intro (fun h20 => ?_) (fun h20 => ?_)
          · simp only [beq_iff_eq] at h20
            have := last _ w7 hr7 hb7 ((ho4.kept hg6 ne0).kept hg7 ne0) h20 key
            rw [hwr] at this; exact this
          · simp only [beq_eq_false_iff_ne, ne_eq] at h20
            have := h12 _ w7 hr7 hb7 ((ho4.kept hg6 ne0).kept hg7 ne0) fun j hj => by rw [begins_succ hx, key j hj]; simp [h20]
            rw [hwr] at this; exact this
        · simp only [decide_eq_false_iff_not] at hg
          refine ixF h4 (by omega) hx' rfl (v := x.op) rfl ?_
          refine And.intro (fun h20 => ?_) (fun h20 => ?_)
          · simp only [beq_iff_eq] at h20
            exact last f w5 hr4 hb4 ho4 h20 fun j hj => by rw [hf j hj]; simp [hg]
          · simp only [beq_eq_false_iff_ne, ne_eq] at h20
            exact h12 f w5 hr4 hb4 ho4 fun j hj => by rw [begins_succ hx, hf j hj]; simp [h20, hg]
    · simp only [decide_eq_false_iff_not] at hge
      obtain rfl : n = l.length := by omega
      have := collect (n := l.length) (K := K) hr4.read (by omega) (by omega) ho4 hb4.size ?_ ?_
      · rw [hn]; exact this
      · intro b o hb
        have hbk : r.bk = some b := by simp [Sl.bk, hb]
        have h1 := hr4.blk hbk
        refine ⟨h1.2, fun b' hb' e => ?_⟩
        simp only [Sl.bk, Option.map_some, Option.some.injEq] at hb'
        have := hb0.size; have := hb1'.size; omega
      · intro out w5 ho5 hb5
        refine hk _ _ (hb4.trans (hb5 _ (Nat.le_refl _))) ?_
        have : flowBlocks l = picks l.length f := by
          unfold flowBlocks
          rw [if_neg (by simp [hq])]
          exact picks_congr fun i hi => by rw [Bool.eq_iff_iff, hf i hi]; simp
        rw [this]; exact ho5.wr
theorem flowBlocks_length (l : List Ins) : (flowBlocks l).length ≤ 48 := by
  unfold flowBlocks
  split
  · simp
  · rename_i h
    have h1 := formP_size (l := l) (Classical.not_not.1 h)
    exact Nat.le_trans (picks_le _ _) h1.2
end
end Go.Proofs.Ytdgnojjemlfhdaa.V
