/- Contracts: places that are led to, on both sides. -/
import Derived.Test.YtdgnojjemlfhdaaFB
namespace Go.Proofs.Ytdgnojjemlfhdaa.V
open Go Go.RowKit
set_option linter.unusedVariables false
set_option linter.unusedSimpArgs false
/-- An op leads from one place to another that is not left out. -/
def Step (l : List Ins) (but x y : Int) : Prop := ∃ i, 0 ≤ x ∧ l[x.toNat]? = some i ∧ y ∈ nextX x i ∧ y ≠ but
inductive Pth (l : List Ins) (but a : Int) : Int → Prop
  | one {y : Int} : Step l but a y → Pth l but a y
  | more {x y : Int} : Pth l but a x → Step l but x y → Pth l but a y
theorem Pth.head {l : List Ins} {but a c : Int} (h : Pth l but a c) : ∃ y, Step l but a y ∧ (c = y ∨ Pth l but y c) := by
  induction h with
  | one h => exact ⟨_, h, .inl rfl⟩
  | more h1 h2 ih =>
    obtain ⟨y, hy, h | h⟩ := ih
    · subst h; exact ⟨_, hy, .inr (.one h2)⟩
    · exact ⟨y, hy, .inr (.more h h2)⟩
theorem Pth.cons {l : List Ins} {but a y c : Int} (h : Step l but a y) (h2 : Pth l but y c) : Pth l but a c := by
  induction h2 with
  | one h' => exact .more (.one h) h'
  | more _ h' ih => exact .more ih h'
theorem formP_last {l : List Ins} (h : formP l = 0) {x : Ins} (hx : l[l.length - 1]? = some x) : x.op = 20 ∨ x.op = 16 := by
  have h1 := formGo_end (all := l) h
  have h2 := formP_size h
  rw [endP_last (by omega) hx] at h1
  split at h1
  · simp at h1
  · omega
theorem nextX_in {l : List Ins} (h : formP l = 0) {i : Nat} {x : Ins} (hx : l[i]? = some x) {y : Int} (hy : y ∈ nextX i x) : 0 ≤ y ∧ y < l.length := by
  have hi := lt_of_get hx
  have hn : x.op ≠ 20 → x.op ≠ 16 → i + 1 < l.length := fun h20 h16 => by
    rcases Nat.lt_or_ge (i + 1) l.length with h1 | h1
    · exact h1
    · have : i = l.length - 1 := by omega
      have := formP_last h (this ▸ hx)
      omega
  have ht : goesP x → 0 ≤ tgt i x ∧ tgt i x ≤ (l.length : Int) - 1 := fun hg => formP_tgt h hx hg
  unfold nextX at hy
  split at hy
  · simp at hy
  · rename_i h20
    split at hy
    · rename_i h16
      simp at hy; have := ht (by unfold goesP; omega); omega
    · rename_i h16
      have := hn h20 h16
      split at hy
      · rename_i hj
        have := ht (by unfold goesP; omega)
        split at hy
        · simp at hy; omega
        · split at hy <;> (simp at hy; omega)
      · simp at hy; omega
theorem Step.rng {l : List Ins} (h : formP l = 0) {but x y : Int} (hs : Step l but x y) : 0 ≤ y ∧ y < l.length := by
  obtain ⟨i, h0, hi, hy, _⟩ := hs
  have := nextX_in h hi (y := y)
  rw [show ((x.toNat : Nat) : Int) = x by omega] at this
  exact this hy
theorem Pth.rng {l : List Ins} (h : formP l = 0) {but x y : Int} (hs : Pth l but x y) : 0 ≤ y ∧ y < l.length := by
  cases hs with
  | one h1 => exact h1.rng h
  | more _ h1 => exact h1.rng h
/-- What a spreading does to a set. -/
structure Spr (l : List Ins) (but a : Int) (S S' : List Int) : Prop where
  sub : ∀ x ∈ S, x ∈ S'
  sound : ∀ x ∈ S', x ∈ S ∨ Pth l but a x
  clos : ∀ x, (x = a ∨ (x ∈ S' ∧ x ∉ S)) → ∀ y, Step l but x y → y ∈ S'
theorem Spr.all {l : List Ins} {but a : Int} {S S' : List Int} (h : Spr l but a S S') (hS : ∀ x ∈ S, x = a) (x : Int) : x ∈ S' ↔ x ∈ S ∨ Pth l but a x := by
  refine ⟨h.sound x, ?_⟩
  rintro (hx | hx)
  · exact h.sub x hx
  · induction hx with
    | one h1 => exact h.clos a (.inl rfl) _ h1
    | more _ h2 ih =>
      rename_i z y _
      by_cases hz : z ∈ S
      · exact h.clos z (.inl (hS z hz)) _ h2
      · exact h.clos z (.inr ⟨ih, hz⟩) _ h2
theorem ins_all {p : Int → Prop} {y : Int} {S : List Int} (h : ∀ z ∈ S, p z) (hy : p y) : ∀ z ∈ ins y S, p z := fun z hz => by
  rcases mem_ins.1 hz with h1 | h1
  · subst h1; exact hy
  · exact h z h1
theorem SetM.cells {B : Nat} {w : World} {m : Option Nat} {S : List Int} (h : SetM B w m S) {b : Nat} (hb : m = some b) {o : Nat} {v : Value} (hc : w.cell? ⟨b, o, none⟩ = some v) : False := by
  obtain ⟨b', D, hb', _, ⟨es, clock, hh, _⟩, _⟩ := h
  rw [hb] at hb'
  simp only [Option.some.injEq] at hb'; subst hb'
  simp [World.cell?, hh] at hc
section
variable {α : Type} {k : Kd α} {w w' : World} {s : Sl} {xs : List α} {B : Nat} {m : Option Nat} {S : List Int}
theorem SlR.keptM (h : SlR k w s xs) (hm : SetM B w m S) (hg : w.grownBy w' m) (hp : 0 < k.ls.length) : SlR k w' s xs := by
  by_cases hne : xs = []
  · exact ⟨h.1, h.2.1, h.2.2.1, .inl hne⟩
  · refine h.kept2 hg fun b o hb e => ?_
    obtain ⟨x, hx⟩ := get_some (l := xs) (k := 0) (List.length_pos_iff.2 hne)
    obtain ⟨b', o', ha, hA⟩ := h.at hx
    rw [ha] at hb
    simp only [Option.some.injEq, Addr.mk.injEq, and_true] at hb
    have hl := k.cells_length x
    have := hA 0 _ (List.getElem?_eq_getElem (by omega))
    exact hm.cells (by rw [e, ← hb.1]) this
theorem WrS.keptM {t : TypeId} {B' : Nat} (h : WrS k t B' w s xs) (hm : SetM B w m S) (hg : w.grownBy w' m) : WrS k t B' w' s xs := by
  refine h.kept hg fun b hb e => ?_
  rcases h.2.2.2 with h0 | ⟨b', o, cur, ha, _, hh, _⟩
  · simp [Sl.bk, h0.1] at e
  · simp only [Sl.bk, ha, Option.map_some, Option.some.injEq] at e
    subst e
    obtain ⟨b2, D, hb', _, ⟨es, clock, hh', _⟩, _⟩ := hm
    rw [hb] at hb'
    simp only [Option.some.injEq] at hb'; subst hb'
    rw [hh] at hh'; simp at hh'
end
section
variable {w : World} {s : Sl} {l : List Ins}
theorem impl.places.spread.c (hq : formP l = 0) (hl : l.length ≤ 1048576) (but : Int) (n : Nat) : ∀ {w : World} {B : Nat} {m : Option Nat} {S : List Int} {a : Int} {K : Unit → World → Prop}, SlR kIns w s l → SetM B w m S → (∀ x ∈ S, 0 ≤ x ∧ x < l.length) → l.length ≤ n + S.length → 0 ≤ a → a < l.length →
    (∀ w' S', SetM B w' m S' → Spr l but a S S' → (∀ x ∈ S', 0 ≤ x ∧ x < l.length) → w.grownBy w' m → K () w') → CallT .z P0 64 [.map m, s.v, .int .i64 a, .int .i64 but] w K := by
  induction n using Nat.strongRecOn with
  | _ n ih =>
    intro w B m S a K h hm hS hn ha0 ha1 hk
    have hz := formP_size hq
    obtain ⟨x, hx⟩ := get_some (l := l) (k := a.toNat) (by omega)
    have hix := formP_ins hq (List.mem_of_getElem? hx)
    refine impl.places.spread.ok (impl.ahead.c h ha0 hx hl hix.2.2.1 fun r w1 hb1 hr1 => ?_)
    have hm1 := hm.below hb1
    have hrn := hr1.len
    have hx2 := nextX_length a x
    have hgr : w.grownBy w1 m := by have := grown_of_below hb1; exact ⟨this.os, this.tape, this.output, this.size, fun k hk _ => this.block k hk (by simp)⟩
    refine ⟨fun i w' => ∃ (j : Nat) (S' : List Int), i = j ∧ j ≤ (nextX a x).length ∧ SetM B w' m S' ∧ WrS kI 3 w.heap.size w' r (nextX a x) ∧ SlR kIns w' s l ∧ (∀ x ∈ S, x ∈ S') ∧ (∀ x ∈ S', x ∈ S ∨ Pth l but a x) ∧
        (∀ x, x ∈ S' → x ∉ S → ∀ y, Step l but x y → y ∈ S') ∧ (∀ i y, i < j → (nextX a x)[i]? = some y → y ≠ but → y ∈ S') ∧ (∀ x ∈ S', 0 ≤ x ∧ x < l.length) ∧ w.grownBy w' m, fun i _ => (nextX a x).length - i.toNat,
      ⟨0, S, rfl, by omega, hm1, hr1, h.below hb1, fun x hx => hx, fun x hx => .inl hx, fun x h1 h2 => absurd h1 h2, fun i y hi => by omega, hS, hgr⟩, ?_⟩
    rintro i w2 ⟨j, S2, rfl, hj, hm2, hr2, h2, hsub, hsnd, hcl, hpr, hrg, hg2⟩ _
    refine And.intro (fun hlt => ?_) (fun hge => ?_)
    · simp only [decide_eq_true_eq] at hlt
      obtain ⟨y, hy⟩ := get_some (l := nextX a x) (k := j) (by omega)
      have hyr : 0 ≤ y ∧ y < l.length := by
        have := nextX_in hq hx (y := y)
        rw [show ((a.toNat : Nat) : Int) = a by omega] at this
        exact this (List.mem_of_getElem? hy)
      have hwr : IntKind.wrap .i64 ((j : Int) + 1) = (j : Int) + 1 := i64_of (by omega) (by omega)
      have stp : y ≠ but → Step l but a y := fun hne => ⟨x, ha0, hx, List.mem_of_getElem? hy, hne⟩
      refine ixL hr2.read (i := j) (by omega) (x := y) (by simpa using hy) rfl (l := .i .i64) (v := y) rfl ?_
      refine And.intro (fun hb => ?_) (fun hb => ?_)
      · simp only [bne_iff_ne, ne_eq] at hb
        refine mapGet hm2 (wf_i64 (by omega) (by omega)) ?_
        refine And.intro (fun hin => ?_) (fun hin => ?_)
        · simp only [Bool.not_eq_true', decide_eq_false_iff_not] at hin
          have hlen2 : S2.length + 1 ≤ l.length := by
            have := nodup_le (n := l.length) (nodup_ins (x := y) hm2.nodup) (ins_all hrg hyr)
            unfold ins at this; rw [if_neg hin] at this; simpa using this
          have hSS2 : S.length ≤ S2.length := List.Nodup.length_le_of_subset hm.nodup hsub
          refine mapPut hm2 (wf_i64 (by omega) (by omega)) (by simp only [maxLen]; omega) fun w3 hm3 hg3 => ?_
          have hr3 := hr2.keptM hm2 hg3
          have h3 := h2.keptM hm2 hg3 (by decide)
          have hl3 : (ins y S2).length = S2.length + 1 := by unfold ins; rw [if_neg hin]; simp
          refine ih (l.length - (S2.length + 1)) (by omega) h3 hm3 (ins_all hrg hyr) (by omega) hyr.1 hyr.2 fun w4 S4 hm4 hsp hrg4 hg4 => ?_
          rw [hwr]
          refine ⟨⟨j + 1, S4, by omega, by omega, hm4, hr3.keptM hm3 hg4, h3.keptM hm3 hg4 (by decide), fun z hz => hsp.sub z (mem_ins.2 (.inr (hsub z hz))), fun z hz => ?_, fun z hz hnz u hu => ?_, fun i u hi hu hub => ?_, hrg4, grown_trans (grown_trans hg2 hg3) hg4⟩, by simp only; omega⟩
          · rcases hsp.sound z hz with h | h
            · rcases mem_ins.1 h with rfl | h
              · exact .inr (.one (stp hb))
              · exact hsnd z h
            · exact .inr (Pth.cons (stp hb) h)
          · by_cases hz2 : z ∈ S2
            · exact hsp.sub _ (mem_ins.2 (.inr (hcl z hz2 hnz u hu)))
            · by_cases hzy : z = y
              · exact hsp.clos z (.inl hzy) u hu
              · exact hsp.clos z (.inr ⟨hz, fun e => by rcases mem_ins.1 e with h | h <;> contradiction⟩) u hu
          · rcases Nat.lt_or_ge i j with h1 | h1
            · exact hsp.sub _ (mem_ins.2 (.inr (hpr i u h1 hu hub)))
            · obtain rfl : i = j := by omega
              rw [hy] at hu; simp only [Option.some.injEq] at hu; subst hu
              exact hsp.sub _ (mem_ins.2 (.inl rfl))
        · simp only [Bool.not_eq_false', decide_eq_true_eq] at hin
          rw [hwr]
          refine ⟨⟨j + 1, S2, by omega, by omega, hm2, hr2, h2, hsub, hsnd, hcl, fun i u hi hu hub => ?_, hrg, hg2⟩, by simp only; omega⟩
          rcases Nat.lt_or_ge i j with h1 | h1
          · exact hpr i u h1 hu hub
          · obtain rfl : i = j := by omega
            rw [hy] at hu; simp only [Option.some.injEq] at hu; subst hu; exact hin
      · simp only [bne_eq_false_iff_eq] at hb
        rw [hwr]
        refine ⟨⟨j + 1, S2, by omega, by omega, hm2, hr2, h2, hsub, hsnd, hcl, fun i u hi hu hub => ?_, hrg, hg2⟩, by simp only; omega⟩
        rcases Nat.lt_or_ge i j with h1 | h1
        · exact hpr i u h1 hu hub
        · obtain rfl : i = j := by omega
          rw [hy] at hu; simp only [Option.some.injEq] at hu; subst hu; exact absurd hb hub
    · simp only [decide_eq_false_iff_not] at hge
      obtain rfl : j = (nextX a x).length := by omega
      refine hk w2 S2 hm2 ⟨hsub, hsnd, fun z hz y hs => ?_⟩ hrg hg2
      by_cases hza : z = a
      · subst hza
        obtain ⟨i', _, hi', hy', hne⟩ := hs
        rw [hx] at hi'; simp only [Option.some.injEq] at hi'; subst hi'
        obtain ⟨i, hi⟩ := List.getElem?_of_mem hy'
        exact hpr i y (lt_of_get hi) hi hne
      · rcases hz with h | ⟨h1, h2⟩
        · exact absurd h hza
        · exact hcl z h1 h2 y hs
/-- Op 0 leads here. -/
def Rch (l : List Ins) (x : Int) : Prop := x = 0 ∨ Pth l (-1) 0 x
theorem Rch.rng (hq : formP l = 0) {x : Int} (h : Rch l x) : 0 ≤ x ∧ x < l.length := by
  rcases h with rfl | h
  · have := (formP_size hq).1; omega
  · exact h.rng hq
theorem impl.reached.c {K : Option Nat → World → Prop} (hq : formP l = 0) (hl : l.length ≤ 1048576) (h : SlR kIns w s l)
    (hk : ∀ m w' S, SetM w.heap.size w' m S → (∀ x, x ∈ S ↔ Rch l x) → Below w.heap.size w w' → K m w') : CallT (.o (.lf .m)) P0 63 [s.v] w K := by
  have hz := formP_size hq
  refine impl.reached.ok (mapNew fun m w1 hm1 hb1 hs1 => ?_)
  refine mapPut hm1 (x := 0) (by decide) (by simp [maxLen]) fun w2 hm2 hg2 => ?_
  have hb2 := hb1.grown hg2 hb1.size (fun b hb => (hm1.blk hb).1)
  refine impl.places.spread.c hq hl (-1) l.length (h.below hb2) hm2 (ins_all (by simp) (by omega)) (by omega) (Int.le_refl _) (by omega) fun w3 S' hm3 hsp hrg hg3 => ?_
  refine hk m w3 S' hm3 (fun x => ?_) (hb2.grown hg3 hb2.size (fun b hb => (hm1.blk hb).1))
  rw [hsp.all (fun x hx => by simpa [mem_ins] using hx)]
  simp [mem_ins, Rch]
open Classical in
noncomputable def flowReach (l : List Ins) : List Int := if formP l ≠ 0 then [] else picks l.length fun i => decide (Rch l i)
theorem flowReach_length (l : List Ins) : (flowReach l).length ≤ 48 := by
  unfold flowReach
  split
  · simp
  · rename_i h
    have h1 := formP_size (l := l) (Classical.not_not.1 h)
    exact Nat.le_trans (picks_le _ _) h1.2
theorem impl.FlowReach.c {K : Sl → World → Prop} (h : SlR kIns w s l) (hl : l.length ≤ 1048576)
    (hk : ∀ r w', Below w.heap.size w w' → WrS kI 3 w.heap.size w' r (flowReach l) → K r w') : CallT (.o (.lf .sl)) P0 38 [s.v] w K := by
  refine impl.FlowReach.ok (impl.ProgForm.c h hl fun w1 hb1 => ?_)
  refine And.intro (fun hq => ?_) (fun hq => ?_)
  · simp at hq
    exact hk _ _ hb1 (by unfold flowReach; rw [if_pos hq]; exact WrS.nil _ _ _ _)
  · simp at hq
    have hz := formP_size hq
    refine impl.reached.c hq hl (h.below hb1) fun m w2 S hm2 hS hb2 => ?_
    have hb12 := hb1.trans (hb2.mono hb1.size)
    have hle := nodup_le (n := l.length) hm2.nodup fun x hx => ((hS x).1 hx).rng hq
    refine impl.places.sorted.c hm2 (by omega) fun r w3 hb3 ho3 => ?_
    refine hk _ _ (hb12.trans (hb3.mono hb12.size)) ?_
    have : sorted S = flowReach l := by
      unfold flowReach
      rw [if_neg (by simp [hq])]
      refine sorted_eq hm2.nodup fun x => ?_
      rw [hS]
      simp only [decide_eq_true_eq]
      constructor
      · intro h1
        have h0 := h1.rng hq
        exact ⟨x.toNat, by omega, by omega, by rw [show ((x.toNat : Nat) : Int) = x by omega]; exact h1⟩
      · rintro ⟨i, rfl, _, hb⟩; exact hb
    rw [← this]
    exact (ho3.wr).low hb12.size
/-- What spec.l12Reach marks. -/
def RchF (l : List Ins) (a but x : Int) : Prop := a ≠ but ∧ (x = a ∨ Pth l but a x)
theorem spec.l12Reach.c {K : Sl → World → Prop} (hq : formP l = 0) (hl : l.length ≤ 1048576) (h : SlR kIns w s l) {a but : Int} (ha0 : 0 ≤ a) (ha1 : a < l.length)
    (hk : ∀ r w' f, WrS kB 4 w.heap.size w' r (bits l.length f) → (∀ j : Nat, j < l.length → (f j = true ↔ RchF l a but j)) → Below w.heap.size w w' → K r w') : CallT (.o (.lf .sl)) P0 62 [s.v, .int .i64 a, .int .i64 but] w K := by
  have hn := h.len
  have hz := formP_size hq
  refine spec.l12Reach.ok ?_
  unfold spec.l12Reach.vc
  rw [hn]
  refine mkS mkB (by omega) (by simp only [maxLen]; omega) fun r w1 hb1 hr1 => ?_
  rw [bits_rep] at hr1
  refine And.intro (fun hab => ?_) (fun hab => ?_)
  · simp only [beq_iff_eq] at hab
    exact hk r w1 _ hr1 (fun j hj => by simp [RchF, hab]) hb1
  · simp only [beq_eq_false_iff_ne, ne_eq] at hab
    have hb1s := hb1.size
    refine nw fun w2 hb2 hs2 hc2 => ?_
    have ho2 : OwnS kI 3 w1.heap.size w2 ⟨some ⟨w1.heap.size, 0, none⟩, 1, 1⟩ [a] := OwnS.lit (k := kI) (Nat.le_refl _) hc2 rfl rfl (by simp [maxLen])
    have hb12 := hb1.trans (hb2.mono hb1.size)
    have bk : ∀ b, r.bk = some b → w.heap.size ≤ b := fun b hb => (hr1.blk hb).1
    -- rows of bits and rows of numbers lie apart
    have apart : ∀ {w' : World} {f : Nat → Bool} {t : Sl} {T : List Int} {B B' : Nat}, WrS kB 4 B w' r (bits l.length f) → WrS kI 3 B' w' t T → ∀ b, r.bk = some b → t.bk ≠ some b := by
      intro w' f t T B B' h1 h2 b hb e
      rcases h1.2.2.2 with h0 | ⟨b1, o1, c1, ha1, _, hh1, _⟩
      · simp [Sl.bk, h0.1] at hb
      · rcases h2.2.2.2 with h0 | ⟨b2, o2, c2, ha2, _, hh2, _⟩
        · simp [Sl.bk, h0.1] at e
        · simp only [Sl.bk, ha1, ha2, Option.map_some, Option.some.injEq] at hb e
          subst hb; subst e
          rw [hh1] at hh2
          simp at hh2
    refine stBit (hr1.below hb2) ha0 ha1 fun w3 hr3 hg3 => ?_
    have ho3 := ho2.kept hg3 (fun b hb e => apart (hr1.below hb2) ho2.wr b hb ((ob_bk _).symm.trans e))
    have hb3 := hb12.grown hg3 hb12.size bk
    have stp : ∀ {x : Int} {i : Ins} {y : Int}, 0 ≤ x → l[x.toNat]? = some i → y ∈ nextX x i → 0 ≤ y ∧ y < l.length := by
      intro x i y h0 hi hy
      have := nextX_in hq hi (y := y)
      rw [show ((x.toNat : Nat) : Int) = x by omega] at this
      exact this hy
    refine ⟨fun todo i w' => ∃ (n : Nat) (T : List Int) (f : Nat → Bool), i = n ∧ n ≤ T.length ∧ OwnS kI 3 w.heap.size w' todo T ∧ WrS kB 4 w.heap.size w' r (bits l.length f) ∧ Below w.heap.size w w' ∧ T.Nodup ∧
        (∀ j : Nat, j < l.length → (f j = true ↔ (j : Int) ∈ T)) ∧ (∀ x ∈ T, (0 ≤ x ∧ x < l.length) ∧ (x = a ∨ Pth l but a x)) ∧ a ∈ T ∧ (∀ k x, k < n → T[k]? = some x → ∀ y, Step l but x y → y ∈ T), fun _ i _ => l.length + 1 - i.toNat,
      ⟨0, [a], _, rfl, by simp, ho3.low hb1s, hr3, hb3, by simp, fun j hj => by simp; omega, fun x hx => by simp at hx; subst hx; exact ⟨⟨ha0, ha1⟩, .inl rfl⟩, by simp, fun k x hk => by omega⟩, ?_⟩
    rintro todo i w4 ⟨n, T, f, rfl, hnT, ho4, hr4, hb4, hnd, hf, hT, haT, hcl⟩ _
    have hol := ho4.len
    have hTl : T.length ≤ l.length := nodup_le hnd fun x hx => (hT x hx).1
    refine And.intro (fun hlt => ?_) (fun hge => ?_)
    · simp only [decide_eq_true_eq] at hlt
      obtain ⟨x, hx⟩ := get_some (l := T) (k := n) (by omega)
      have hxT := hT x (List.mem_of_getElem? hx)
      obtain ⟨e, he⟩ := get_some (l := l) (k := x.toNat) (by omega)
      have hie := formP_ins hq (List.mem_of_getElem? he)
      refine ixL ho4.read (i := n) (by omega) (x := x) (by simpa using hx) rfl (l := .i .i64) (v := x) rfl ?_
      refine spec.l12Next.c (h.below hb4) hxT.1.1 he hl hie.2.2.1 fun nx w5 hb5 hn5 => ?_
      have hb45 := hb4.trans (hb5.mono hb4.size)
      have hnl := hn5.len
      have hn2 := nextX_length x e
      have hs4 := hb4.size
      refine ⟨fun todo' k w' => ∃ (j : Nat) (T' : List Int) (g : Nat → Bool), k = j ∧ j ≤ (nextX x e).length ∧ OwnS kI 3 w.heap.size w' todo' T' ∧ WrS kB 4 w.heap.size w' r (bits l.length g) ∧ WrS kI 3 w4.heap.size w' nx (nextX x e) ∧ Below w.heap.size w w' ∧ T'.Nodup ∧
          (∀ j : Nat, j < l.length → (g j = true ↔ (j : Int) ∈ T')) ∧ (∀ x ∈ T', (0 ≤ x ∧ x < l.length) ∧ (x = a ∨ Pth l but a x)) ∧ T <+: T' ∧ (∀ i y, i < j → (nextX x e)[i]? = some y → y ≠ but → y ∈ T') ∧ (∀ b, todo'.bk = some b → nx.bk ≠ some b), fun _ k _ => (nextX x e).length - k.toNat,
        ⟨0, T, f, rfl, by omega, ho4.below hb5, hr4.below hb5, hn5, hb45, hnd, hf, hT, List.prefix_refl _, fun i y hi => by omega, fun b hb e => by have := (ho4.blk ((ob_bk _).trans hb)).2; have := (hn5.blk e).1; omega⟩, ?_⟩
      rintro todo' k w6 ⟨j, T', g, rfl, hj, ho6, hr6, hn6, hb6, hnd', hg, hT', hpre, hpr, hsep⟩ _
      have hol6 := ho6.len
      have hTl' : T'.length ≤ l.length := nodup_le hnd' fun x hx => (hT' x hx).1
      refine And.intro (fun hlt6 => ?_) (fun hge6 => ?_)
      · simp only [decide_eq_true_eq] at hlt6
        obtain ⟨y, hy⟩ := get_some (l := nextX x e) (k := j) (by omega)
        have hyr := stp hxT.1.1 he (List.mem_of_getElem? hy)
        have hwr : IntKind.wrap .i64 ((j : Int) + 1) = (j : Int) + 1 := i64_of (by omega) (by omega)
        have hy' : (nextX x e)[((j : Nat) : Int).toNat]? = some y := by simpa using hy
        have hgy : (bits l.length g)[y.toNat]? = some (g y.toNat) := bits_get (by omega)
        have hgm : g y.toNat = true ↔ y ∈ T' := by rw [hg y.toNat (by omega), show ((y.toNat : Nat) : Int) = y by omega]
        refine ⟨fun b w' => b = decide (y ≠ but ∧ y ∉ T') ∧ w' = w6, ?_, ?_⟩
        · refine ixL hn6.read (i := j) (by omega) hy' rfl (l := .i .i64) (v := y) rfl ?_
          refine And.intro (fun hb => ?_) (fun hb => ?_)
          · simp only [bne_iff_ne, ne_eq] at hb
            refine ixL hn6.read (i := j) (by omega) hy' rfl (l := .i .i64) (v := y) rfl ?_
            refine ixL hr6.read hyr.1 hgy rfl (l := .b) (v := g y.toNat) rfl ?_
            exact ⟨by rw [Bool.eq_iff_iff]; simp [hb, ← hgm], rfl⟩
          · simp only [bne_eq_false_iff_eq] at hb
            exact ⟨by simp [hb], rfl⟩
        · rintro b w7 ⟨rfl, rfl⟩ _
          refine And.intro (fun hb => ?_) (fun hb => ?_)
          · simp only [decide_eq_true_eq] at hb
            have hns : Step l but x y := ⟨e, hxT.1.1, he, List.mem_of_getElem? hy, hb.1⟩
            refine ixL hn6.read (i := j) (by omega) hy' rfl (l := .i .i64) (v := y) rfl ?_
            refine stBit hr6 hyr.1 (by omega) fun w8 hr8 hg8 => ?_
            have ho8 := ho6.kept hg8 (fun b hb' e => apart hr6 ho6.wr b hb' ((ob_bk _).symm.trans e))
            have hn8 := hn6.kept hg8 (fun b hb' => apart hr6 hn6 b hb')
            have hb8 := hb6.grown hg8 hb6.size bk
            refine ixL hn8.read (i := j) (by omega) hy' rfl (l := .i .i64) (v := y) rfl ?_
            refine ap1 elI ho8 y rfl (by omega) (by omega) hb8.size fun todo2 w9 ho9 hg9 hbk9 => ?_
            rw [ob_bk] at hg9
            rw [hwr]
            have hTy : (T' ++ [y]).Nodup := List.nodup_append.2 ⟨hnd', by simp, fun u hu v hv => by simp at hv; subst hv; exact fun e => hb.2 (e ▸ hu)⟩
            refine ⟨⟨j + 1, T' ++ [y], _, by omega, by omega, ho9, hr8.kept hg9 (fun b hb' e => apart hr8 ho8.wr b e hb'), hn8.kept hg9 hsep, hb8.grown hg9 hb8.size (fun b hb' => (ho8.blk ((ob_bk _).trans hb')).1), hTy,
              fun i hi => ?_, fun z hz => ?_, hpre.trans (List.prefix_append _ _), fun i u hi hu hub => ?_, fun b hb' => ?_⟩, by simp only; omega⟩
            · rw [Bool.or_eq_true, hg i hi]
              simp only [List.mem_append, List.mem_singleton, decide_eq_true_eq]
              constructor
              · rintro (h | h)
                · exact .inl h
                · exact .inr (by omega)
              · rintro (h | h)
                · exact .inl h
                · exact .inr (by omega)
            · rcases List.mem_append.1 hz with h | h
              · exact hT' z h
              · simp at h; subst h
                refine ⟨hyr, .inr ?_⟩
                rcases hxT.2 with rfl | h
                · exact .one hns
                · exact .more h hns
            · rcases Nat.lt_or_ge i j with h1 | h1
              · exact List.mem_append.2 (.inl (hpr i u h1 hu hub))
              · obtain rfl : i = j := by omega
                rw [hy] at hu; simp only [Option.some.injEq] at hu; subst hu
                simp
            · rcases hbk9 b ((ob_bk _).trans hb') with h1 | h1
              · exact hsep b ((ob_bk _).symm.trans h1)
              · intro e; have := (hn8.blk e).2; omega
          · simp only [decide_eq_false_iff_not] at hb
            rw [hwr]
            refine ⟨⟨j + 1, T', g, by omega, by omega, ho6, hr6, hn6, hb6, hnd', hg, hT', hpre, fun i u hi hu hub => ?_, hsep⟩, by simp only; omega⟩
            rcases Nat.lt_or_ge i j with h1 | h1
            · exact hpr i u h1 hu hub
            · obtain rfl : i = j := by omega
              rw [hy] at hu; simp only [Option.some.injEq] at hu; subst hu
              exact Classical.not_not.1 fun h => hb ⟨hub, h⟩
      · simp only [decide_eq_false_iff_not] at hge6
        obtain rfl : j = (nextX x e).length := by omega
        have hpl := hpre.length_le
        rw [i64_of (by omega) (by omega)]
        refine ⟨⟨n + 1, T', g, by omega, by omega, ho6, hr6, hb6, hnd', hg, hT', hpre.subset haT, fun k z hk hz y hs => ?_⟩, by simp only; omega⟩
        have hz' : T[k]? = some z := by
          obtain ⟨t, rfl⟩ := hpre
          rwa [List.getElem?_append_left (by omega)] at hz
        rcases Nat.lt_or_ge k n with h1 | h1
        · exact hpre.subset (hcl k z h1 hz' y hs)
        · obtain rfl : k = n := by omega
          rw [hx] at hz'; simp only [Option.some.injEq] at hz'; subst hz'
          obtain ⟨i', _, hi', hy', hne⟩ := hs
          rw [he] at hi'; simp only [Option.some.injEq] at hi'; subst hi'
          obtain ⟨i, hi⟩ := List.getElem?_of_mem hy'
          exact hpr i y (lt_of_get hi) hi hne
    · simp only [decide_eq_false_iff_not] at hge
      obtain rfl : n = T.length := by omega
      refine hk r w4 f hr4 (fun j hj => ?_) hb4
      rw [hf j hj]
      constructor
      · intro hm
        exact ⟨hab, (hT _ hm).2⟩
      · rintro ⟨_, h | h⟩
        · rw [h]; exact haT
        · have : ∀ z, Pth l but a z → z ∈ T := by
            intro z hz
            induction hz with
            | one h1 =>
              obtain ⟨k, hk⟩ := List.getElem?_of_mem haT
              exact hcl k a (lt_of_get hk) hk _ h1
            | more _ h2 ih =>
              obtain ⟨k, hk⟩ := List.getElem?_of_mem ih
              exact hcl k _ (lt_of_get hk) hk _ h2
          exact this _ h
end
end Go.Proofs.Ytdgnojjemlfhdaa.V
