/- Contracts: the iterator over all pieces of all bytes. -/
import Derived.Test.YtdgnojjemlfhdaaRS
import Derived.Test.YtdgnojjemlfhdaaC5
namespace Go.Proofs.Ytdgnojjemlfhdaa.V
open Go Go.RowKit
set_option linter.unusedVariables false
set_option linter.unusedSimpArgs false
/-- What the iterator's closure has captured; the first bytes are those that are looked at. -/
structure PcM (la lb : List Rule) (sa sb sc : Sl) (l y cc pa pb f bb H : Nat) (cs : List Int) (w : World) : Prop where
  hy : ∃ t, w.heap[y]? = some (.cells #[.func (.yield l) #[] #[]] t (0, 0))
  hc : ∃ t, w.heap[cc]? = some (.cells #[sc.v] t (0, 0))
  ha' : ∃ t, w.heap[pa]? = some (.cells #[sa.v] t (0, 0))
  hb' : ∃ t, w.heap[pb]? = some (.cells #[sb.v] t (0, 0))
  hf : ∃ t, w.heap[f]? = some (.cells #[.func (.func 110) #[] #[.pointer (some ⟨y, 0, none⟩), .pointer (some ⟨cc, 0, none⟩), .pointer (some ⟨pa, 0, none⟩), .pointer (some ⟨pb, 0, none⟩), .pointer (some ⟨f, 0, none⟩)]] t (0, 0))
  ha : SlR kRule w sa la
  hb : SlR kRule w sb lb
  na : la ≠ [] → ∀ b o, sa.a = some ⟨b, o, none⟩ → b ≠ bb
  nb : lb ≠ [] → ∀ b o, sb.a = some ⟨b, o, none⟩ → b ≠ bb
  ne : y ≠ bb ∧ cc ≠ bb ∧ pa ≠ bb ∧ pb ≠ bb ∧ f ≠ bb
  hbk : sc.bk = some bb ∧ H ≤ bb
  hz : ∃ zs : List Int, WrS kU8 5 H w sc zs ∧ zs.length = 12 ∧ (∀ x ∈ zs, 0 ≤ x ∧ x ≤ 255) ∧ zs.take cs.length = cs
section
variable {la lb : List Rule} {sa sb sc : Sl} {l y cc pa pb f bb H : Nat} {cs : List Int} {w w' : World}
theorem SlR.kept3' {α : Type} {k : Kd α} {w w' : World} {s : Sl} {xs : List α} {row : Option Nat} (h : SlR k w s xs) (hg : w.grownBy w' row) (hb : xs ≠ [] → ∀ b o, s.a = some ⟨b, o, none⟩ → row ≠ some b) : SlR k w' s xs := by
  by_cases hx : xs = []
  · exact ⟨h.1, h.2.1, h.2.2.1, .inl hx⟩
  · exact h.kept2 hg (hb hx)
theorem blk_kept {b bb : Nat} {o : Obj} (h : w.heap[b]? = some o) (hg : w.grownBy w' (some bb)) (hne : b ≠ bb) : w'.heap[b]? = some o :=
  (hg.block b (Array.getElem?_eq_some_iff.1 h).1 (by simp only [ne_eq, Option.some.injEq]; exact hne)).trans h
/-- Behind a step that may have written the bytes. -/
theorem PcM.put {cs' : List Int} (h : PcM la lb sa sb sc l y cc pa pb f bb H cs w) (hg : w.grownBy w' (some bb)) (hz : ∃ zs : List Int, WrS kU8 5 H w' sc zs ∧ zs.length = 12 ∧ (∀ x ∈ zs, 0 ≤ x ∧ x ≤ 255) ∧ zs.take cs'.length = cs') :
    PcM la lb sa sb sc l y cc pa pb f bb H cs' w' := by
  obtain ⟨n1, n2, n3, n4, n5⟩ := h.ne
  obtain ⟨t1, h1⟩ := h.hy
  obtain ⟨t2, h2⟩ := h.hc
  obtain ⟨t3, h3⟩ := h.ha'
  obtain ⟨t4, h4⟩ := h.hb'
  obtain ⟨t5, h5⟩ := h.hf
  exact ⟨⟨t1, blk_kept h1 hg n1⟩, ⟨t2, blk_kept h2 hg n2⟩, ⟨t3, blk_kept h3 hg n3⟩, ⟨t4, blk_kept h4 hg n4⟩, ⟨t5, blk_kept h5 hg n5⟩,
    h.ha.kept3' hg (fun hne b o e e2 => h.na hne b o e (by simpa using e2.symm)), h.hb.kept3' hg (fun hne b o e e2 => h.nb hne b o e (by simpa using e2.symm)), h.na, h.nb, h.ne, h.hbk, hz⟩
theorem PcM.below (h : PcM la lb sa sb sc l y cc pa pb f bb H cs w) (hb : Below w.heap.size w w') : PcM la lb sa sb sc l y cc pa pb f bb H cs w' := by
  obtain ⟨zs, h1, h2⟩ := h.hz
  exact h.put (⟨hb.os, hb.tape, hb.output, hb.size, fun k hk _ => hb.block k hk⟩) ⟨zs, h1.below hb, h2⟩
theorem PcM.cut {n : Nat} (h : PcM la lb sa sb sc l y cc pa pb f bb H cs w) : PcM la lb sa sb sc l y cc pa pb f bb H (cs.take n) w := by
  obtain ⟨zs, h1, h2, h3, h4⟩ := h.hz
  have hcs : cs.length ≤ 12 := by
    have := congrArg List.length h4
    rw [List.length_take] at this; omega
  refine h.put (grown_refl _ _) ⟨zs, h1, h2, h3, ?_⟩
  rw [List.length_take]
  conv => rhs; rw [← h4, List.take_take]
theorem gen_cons {la lb : List Rule} {n k : Nat} {cs : List Int} {x : Int} (hx : (cuts la lb cs.length)[k]? = some x) :
    ((cuts la lb cs.length).take (k + 1)).flatMap (fun x => gen la lb n (cs ++ [x])) = ((cuts la lb cs.length).take k).flatMap (fun x => gen la lb n (cs ++ [x])) ++ gen la lb n (cs ++ [x]) := by
  rw [List.take_add_one, hx]
  simp
theorem gen_pre {la lb : List Rule} {n k : Nat} {cs : List Int} {x : Int} (hx : (cuts la lb cs.length)[k]? = some x) {q : List (List Int)} (hq : q <+: gen la lb n (cs ++ [x])) :
    ((cuts la lb cs.length).take k).flatMap (fun x => gen la lb n (cs ++ [x])) ++ q <+: gen la lb (n + 1) cs := by
  have h1 : gen la lb (n + 1) cs = ((cuts la lb cs.length).take (k + 1)).flatMap (fun x => gen la lb n (cs ++ [x])) ++ ((cuts la lb cs.length).drop (k + 1)).flatMap (fun x => gen la lb n (cs ++ [x])) := by
    rw [← List.flatMap_append, List.take_append_drop]
    rfl
  obtain ⟨u, hu⟩ := hq
  refine ⟨u ++ ((cuts la lb cs.length).drop (k + 1)).flatMap (fun x => gen la lb n (cs ++ [x])), ?_⟩
  rw [h1, gen_cons hx, ← hu]
  simp
end
section
variable {la lb : List Rule} (hpa : RulesP la) (hpb : RulesP lb) {sa sb sc : Sl} {l y cc pa pb f bb H : Nat} {J Jx : List (List Int) → World → Prop}
  (hJ : ∀ s A B, J s A → Below H A B → J s B)
  (hY : ∀ pre x W1, Came x → J pre W1 → H ≤ W1.heap.size → YieldAt Fence.wide 0 P0 l #[.string (strOfNums x)] W1 fun e W' => (e = .returned (.bool true) ∧ J (pre ++ [x]) W' ∧ Below W1.heap.size W1 W') ∨ (e = .returned (.bool false) ∧ Jx (pre ++ [x]) W'))
include hpa hpb hJ hY
set_option maxHeartbeats 1000000 in
theorem impl.everyPiece_1_1.c : ∀ (n : Nat) {cs : List Int} {w : World} {pre : List (List Int)} {K : Bool → World → Prop}, cs.length + n = 12 → PcM la lb sa sb sc l y cc pa pb f bb H cs w → J pre w → H ≤ w.heap.size →
    (∀ w', J (pre ++ gen la lb n cs) w' → PcM la lb sa sb sc l y cc pa pb f bb H cs w' → w.grownBy w' (some bb) → K true w') → (∀ w' q, q <+: gen la lb n cs → Jx (pre ++ q) w' → K false w') →
    CallT (.o (.lf .b)) P0 110 [.int .i64 (cs.length : Int), .pointer (some ⟨y, 0, none⟩), .pointer (some ⟨cc, 0, none⟩), .pointer (some ⟨pa, 0, none⟩), .pointer (some ⟨pb, 0, none⟩), .pointer (some ⟨f, 0, none⟩)] w K
  | 0, cs, w, pre, K, hn, hm, hj, hH, hT, hF => by
    refine impl.everyPiece_1_1.ok (And.intro (fun _ => ?_) (fun hne => by rw [beq_eq_false_iff_ne] at hne; omega))
    obtain ⟨t1, h1⟩ := hm.hy
    obtain ⟨t2, h2⟩ := hm.hc
    obtain ⟨zs, hz1, hz2, hz3, hz4⟩ := hm.hz
    have hzc : zs = cs := by rw [← hz4, List.take_of_length_le (by omega)]
    subst hzc
    refine ldB0 h1 (x := l) rfl (ldB0 h2 (x := sc) rfl ?_)
    obtain ⟨b, o, ha, hat⟩ : ∃ b o, sc.a = some ⟨b, o, none⟩ ∧ ∀ i x, zs[i]? = some x → At w b (o + i * 1) [.int .u8 x] := by
      rcases hz1.read.2.2.2 with h0 | h
      · rw [h0] at hz2; simp at hz2
      · exact h
    have hzn := hz1.len
    have hconv := run_convert_bytes_arg (P := P0) w 46 5 (by kernel_rfl) (by kernel_rfl) b o sc.n sc.c zs hz1.len.symm (fun i hi => by
      obtain ⟨x, hx⟩ := get_some (l := zs) (k := i) (by omega)
      have := hat i x hx 0 _ rfl
      rw [show zs.getD i 0 = x by rw [List.getD_eq_getElem?_getD, hx]; rfl]
      simpa using this) 9 (by kernel_rfl)
    refine ⟨strOfNums zs, w, by unfold Sl.v; rw [ha]; exact hconv, ?_⟩
    obtain ⟨fn, tmps, asg, body, hy, hR⟩ := hY pre zs w ⟨hz2, hz3⟩ hj hH
    refine ⟨fn, tmps, asg, body, hy, hR.mono ?_⟩
    rintro e w' (⟨rfl, hj', hb⟩ | ⟨rfl, hx⟩)
    · exact ⟨true, rfl, hT w' hj' (hm.below hb) ⟨hb.os, hb.tape, hb.output, hb.size, fun k hk _ => hb.block k hk⟩⟩
    · exact ⟨false, rfl, hF w' [zs] (List.prefix_refl _) hx⟩
  | n + 1, cs, w, pre, K, hn, hm, hj, hH, hT, hF => by
    refine impl.everyPiece_1_1.ok (And.intro (fun he => by rw [beq_iff_eq] at he; omega) (fun _ => ?_))
    obtain ⟨t3, h3⟩ := hm.ha'
    obtain ⟨t4, h4⟩ := hm.hb'
    refine ldB0 h3 (x := sa) rfl (ldB0 h4 (x := sb) rfl ?_)
    refine impl.cuts.c hm.ha hm.hb hpa hpb fun r w2 ho2 b2 => ?_
    have hrn := ho2.len
    have hcl := cuts_length la lb (cs.length : Int)
    have g2 : w.grownBy w2 (some bb) := ⟨b2.os, b2.tape, b2.output, b2.size, fun k hk _ => b2.block k hk⟩
    have hsz2 := b2.size
    have hbbw : bb < w.heap.size := by
      obtain ⟨zs, hz1, _⟩ := hm.hz
      exact (hz1.blk hm.hbk.1).2
    have hj2 : J pre w2 := hJ _ _ _ hj (b2.mono hH)
    refine ⟨fun i w' => ∃ k : Nat, i = k ∧ k ≤ (cuts la lb cs.length).length ∧ PcM la lb sa sb sc l y cc pa pb f bb H cs w' ∧ J (pre ++ ((cuts la lb cs.length).take k).flatMap (fun x => gen la lb n (cs ++ [x]))) w' ∧ OwnS kI 3 w.heap.size w' r (cuts la lb cs.length) ∧ w.grownBy w' (some bb),
      fun i _ => (cuts la lb cs.length).length - i.toNat, ⟨0, rfl, by omega, hm.below b2, by simpa using hj2, ho2, g2⟩, ?_⟩
    rintro i w3 ⟨k, rfl, hk1, hm3, hj3, ho3, g3⟩ _
    have hsz3 := g3.size
    refine And.intro (fun hlt => ?_) (fun hge => ?_)
    · simp only [decide_eq_true_eq] at hlt
      obtain ⟨x, hx⟩ := get_some (l := cuts la lb cs.length) (k := k) (by omega)
      have hxb := cuts_byte (List.mem_of_getElem? hx)
      obtain ⟨t2, h2⟩ := hm3.hc
      obtain ⟨zs, hz1, hz2, hz3, hz4⟩ := hm3.hz
      refine ixL ho3.read (i := k) (by omega) (x := x) (by simpa using hx) rfl (l := .i .i64) (v := x) rfl ?_
      refine ldB0 h2 (x := sc) rfl ?_
      obtain ⟨z, hz⟩ := get_some (l := zs) (k := cs.length) (by omega)
      rw [show IntKind.wrap .u8 x = x by rw [IntKind.wrap_u8]; omega]
      refine ixStL hz1 (i := (cs.length : Int)) (by omega) (x := z) (by simpa using hz) rfl rfl rfl x rfl fun w4 hz4' g4 s4 => ?_
      rw [hm3.hbk.1] at g4
      have hzl : zs.length = 12 := hz2
      have hm4 : PcM la lb sa sb sc l y cc pa pb f bb H (cs ++ [x]) w4 := by
        refine hm3.put g4 ⟨_, hz4', by simpa using hz2, fun u hu => ?_, ?_⟩
        · rcases List.mem_or_eq_of_mem_set hu with h | h
          · exact hz3 u h
          · rw [h]; exact hxb
        · rw [Int.toNat_natCast]
          have e1 : (cs ++ [x]).length = cs.length + 1 := by simp
          rw [e1, List.take_add_one, List.take_set_of_le (Nat.le_refl _), hz4, List.getElem?_set_self (by omega)]
          rfl
      have hj4 : J (pre ++ ((cuts la lb cs.length).take k).flatMap (fun x => gen la lb n (cs ++ [x]))) w4 := hJ _ _ _ hj3 ⟨g4.os, g4.tape, g4.output, g4.size, fun q hq => g4.block q (by omega) (by have := hm.hbk.2; simp only [ne_eq, Option.some.injEq]; omega)⟩
      obtain ⟨t5, h5⟩ := hm4.hf
      refine ldB0 h5 (l := .fn 110 5) (x := (⟨y, 0, none⟩, ⟨cc, 0, none⟩, ⟨pa, 0, none⟩, ⟨pb, 0, none⟩, ⟨f, 0, none⟩, ())) rfl ?_
      rw [i64_of (n := (cs.length : Int) + 1) (by omega) (by omega), i64_of (n := (k : Int) + 1) (by omega) (by omega)]
      have hl1 : ((cs.length : Int) + 1) = ((cs ++ [x]).length : Int) := by simp
      rw [hl1]
      refine impl.everyPiece_1_1.c n (by simp; omega) hm4 hj4 (by omega) (fun w5 hj5 hm5 g5 => ?_) (fun w5 q hq hx5 => ?_)
      · refine And.intro (fun hc => by simp at hc) (fun _ => ?_)
        refine ⟨⟨k + 1, by omega, by omega, ?_, ?_, ?_, ?_⟩, by simp only; omega⟩
        · have := hm5.cut (n := cs.length)
          rwa [List.take_left' rfl] at this
        · rw [gen_cons hx, ← List.append_assoc]; exact hj5
        · have o4 := ho3.kept g4 (fun b hb e => by simp only [Option.some.injEq] at hb; have := (ho3.blk e).1; omega)
          exact o4.kept g5 (fun b hb e => by simp only [Option.some.injEq] at hb; have := (o4.blk e).1; omega)
        · exact grown_trans (grown_trans g3 g4) g5
      · refine And.intro (fun _ => ?_) (fun hc => by simp at hc)
        exact hF w5 _ (gen_pre hx hq) (by rw [← List.append_assoc]; exact hx5)
    · simp only [decide_eq_false_iff_not] at hge
      obtain rfl : k = (cuts la lb cs.length).length := by omega
      rw [List.take_length] at hj3
      exact hT w3 hj3 hm3 g3
end
end Go.Proofs.Ytdgnojjemlfhdaa.V
