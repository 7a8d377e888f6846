/- The row of FnRulesTidy: it returns true and leaves its input as it was, whatever the input. PRINTED by row.py out of the law of the same name. -/
import Derived.Laws.StructEq
import Derived.Test.YtdlnoabihfnmmaaRows
import Derived.Test.YtdlnoabihfnmmaaB5
/- Contracts: the iterator over all pieces of all bytes. -/
namespace Go.Proofs.Ytdlnoabihfnmmaa.V
open Go Go.RowKit
set_option linter.unusedVariables false
set_option linter.unusedSimpArgs false
/-- What the iterator's closure has captured; the first bytes are those that are looked at. -/
structure PcM (la lb : List Rule) (sa sb sc : Sl) (l y cc pa pb f bb H : Nat) (cs : List Int) (w : World) : Prop where
  hy : ∃ t, w.heap[y]? = some (.cells #[.func (.yield l) #[] #[]] t (0, 0))
  hc : ∃ t, w.heap[cc]? = some (.cells #[sc.v] t (0, 0))
  ha' : ∃ t, w.heap[pa]? = some (.cells #[sa.v] t (0, 0))
  hb' : ∃ t, w.heap[pb]? = some (.cells #[sb.v] t (0, 0))
  hf : ∃ t, w.heap[f]? = some (.cells #[.func (.func 79) #[] #[.pointer (some ⟨y, 0, none⟩), .pointer (some ⟨cc, 0, none⟩), .pointer (some ⟨pa, 0, none⟩), .pointer (some ⟨pb, 0, none⟩), .pointer (some ⟨f, 0, none⟩)]] t (0, 0))
  ha : SlR kRule w sa la
  hb : SlR kRule w sb lb
  na : la ≠ [] → ∀ b o, sa.a = some ⟨b, o, none⟩ → b ≠ bb
  nb : lb ≠ [] → ∀ b o, sb.a = some ⟨b, o, none⟩ → b ≠ bb
  ne : y ≠ bb ∧ cc ≠ bb ∧ pa ≠ bb ∧ pb ≠ bb ∧ f ≠ bb
  hbk : sc.bk = some bb ∧ H ≤ bb
  hz : ∃ zs : List Int, WrS kU8 5 H w sc zs ∧ zs.length = 12 ∧ (∀ x ∈ zs, 0 ≤ x ∧ x ≤ 255) ∧ zs.take cs.length = cs
section
variable {la lb : List Rule} {sa sb sc : Sl} {l y cc pa pb f bb H : Nat} {cs : List Int} {w w' : World}
theorem SlR.kept3' {α : Type} {k : Kd α} {w w' : World} {s : Sl} {xs : List α} {row : Option Nat} (h : SlR k w s xs) (hg : w.grownBy w' row) (hb : xs ≠ [] → ∀ b o, s.a = some ⟨b, o, none⟩ → row ≠ some b) : SlR k w' s xs := by
  by_cases hx : xs = []
  · exact ⟨h.1, h.2.1, h.2.2.1, .inl hx⟩
  · exact h.kept2 hg (hb hx)
theorem blk_kept {b bb : Nat} {o : Obj} (h : w.heap[b]? = some o) (hg : w.grownBy w' (some bb)) (hne : b ≠ bb) : w'.heap[b]? = some o :=
  (hg.block b (Array.getElem?_eq_some_iff.1 h).1 (by simp only [ne_eq, Option.some.injEq]; exact hne)).trans h
/-- Behind a step that may have written the bytes. -/
theorem PcM.put {cs' : List Int} (h : PcM la lb sa sb sc l y cc pa pb f bb H cs w) (hg : w.grownBy w' (some bb)) (hz : ∃ zs : List Int, WrS kU8 5 H w' sc zs ∧ zs.length = 12 ∧ (∀ x ∈ zs, 0 ≤ x ∧ x ≤ 255) ∧ zs.take cs'.length = cs') :
    PcM la lb sa sb sc l y cc pa pb f bb H cs' w' := by
  obtain ⟨n1, n2, n3, n4, n5⟩ := h.ne
  obtain ⟨t1, h1⟩ := h.hy
  obtain ⟨t2, h2⟩ := h.hc
  obtain ⟨t3, h3⟩ := h.ha'
  obtain ⟨t4, h4⟩ := h.hb'
  obtain ⟨t5, h5⟩ := h.hf
  exact ⟨⟨t1, blk_kept h1 hg n1⟩, ⟨t2, blk_kept h2 hg n2⟩, ⟨t3, blk_kept h3 hg n3⟩, ⟨t4, blk_kept h4 hg n4⟩, ⟨t5, blk_kept h5 hg n5⟩,
    h.ha.kept3' hg (fun hne b o e e2 => h.na hne b o e (by simpa using e2.symm)), h.hb.kept3' hg (fun hne b o e e2 => h.nb hne b o e (by simpa using e2.symm)), h.na, h.nb, h.ne, h.hbk, hz⟩
theorem PcM.below (h : PcM la lb sa sb sc l y cc pa pb f bb H cs w) (hb : Below w.heap.size w w') : PcM la lb sa sb sc l y cc pa pb f bb H cs w' := by
  obtain ⟨zs, h1, h2⟩ := h.hz
  exact h.put (⟨hb.os, hb.tape, hb.output, hb.size, fun k hk _ => hb.block k hk⟩) ⟨zs, h1.below hb, h2⟩
theorem PcM.cut {n : Nat} (h : PcM la lb sa sb sc l y cc pa pb f bb H cs w) : PcM la lb sa sb sc l y cc pa pb f bb H (cs.take n) w := by
  obtain ⟨zs, h1, h2, h3, h4⟩ := h.hz
  have hcs : cs.length ≤ 12 := by
    have := congrArg List.length h4
    rw [List.length_take] at this; omega
  refine h.put (grown_refl _ _) ⟨zs, h1, h2, h3, ?_⟩
  rw [List.length_take]
  conv => rhs; rw [← h4, List.take_take]
theorem gen_cons {la lb : List Rule} {n k : Nat} {cs : List Int} {x : Int} (hx : (cuts la lb cs.length)[k]? = some x) :
    ((cuts la lb cs.length).take (k + 1)).flatMap (fun x => gen la lb n (cs ++ [x])) = ((cuts la lb cs.length).take k).flatMap (fun x => gen la lb n (cs ++ [x])) ++ gen la lb n (cs ++ [x]) := by
  rw [List.take_add_one, hx]
  simp
theorem gen_pre {la lb : List Rule} {n k : Nat} {cs : List Int} {x : Int} (hx : (cuts la lb cs.length)[k]? = some x) {q : List (List Int)} (hq : q <+: gen la lb n (cs ++ [x])) :
    ((cuts la lb cs.length).take k).flatMap (fun x => gen la lb n (cs ++ [x])) ++ q <+: gen la lb (n + 1) cs := by
  have h1 : gen la lb (n + 1) cs = ((cuts la lb cs.length).take (k + 1)).flatMap (fun x => gen la lb n (cs ++ [x])) ++ ((cuts la lb cs.length).drop (k + 1)).flatMap (fun x => gen la lb n (cs ++ [x])) := by
    rw [← List.flatMap_append, List.take_append_drop]
    rfl
  obtain ⟨u, hu⟩ := hq
  refine ⟨u ++ ((cuts la lb cs.length).drop (k + 1)).flatMap (fun x => gen la lb n (cs ++ [x])), ?_⟩
  rw [h1, gen_cons hx, ← hu]
  simp
end
section
variable {la lb : List Rule} (hpa : RulesP la) (hpb : RulesP lb) {sa sb sc : Sl} {l y cc pa pb f bb H : Nat} {J Jx : List (List Int) → World → Prop}
  (hJ : ∀ s A B, J s A → Below H A B → J s B)
  (hY : ∀ pre x W1, Came x → J pre W1 → H ≤ W1.heap.size → YieldAt Fence.wide 0 P0 l #[.string (strOfNums x)] W1 fun e W' => (e = .returned (.bool true) ∧ J (pre ++ [x]) W' ∧ Below W1.heap.size W1 W') ∨ (e = .returned (.bool false) ∧ Jx (pre ++ [x]) W'))
include hpa hpb hJ hY
set_option maxHeartbeats 1000000 in
theorem impl.everyPiece_1_1.c : ∀ (n : Nat) {cs : List Int} {w : World} {pre : List (List Int)} {K : Bool → World → Prop}, cs.length + n = 12 → PcM la lb sa sb sc l y cc pa pb f bb H cs w → J pre w → H ≤ w.heap.size →
    (∀ w', J (pre ++ gen la lb n cs) w' → PcM la lb sa sb sc l y cc pa pb f bb H cs w' → w.grownBy w' (some bb) → K true w') → (∀ w' q, q <+: gen la lb n cs → Jx (pre ++ q) w' → K false w') →
    CallT (.o (.lf .b)) P0 79 [.int .i64 (cs.length : Int), .pointer (some ⟨y, 0, none⟩), .pointer (some ⟨cc, 0, none⟩), .pointer (some ⟨pa, 0, none⟩), .pointer (some ⟨pb, 0, none⟩), .pointer (some ⟨f, 0, none⟩)] w K
  | 0, cs, w, pre, K, hn, hm, hj, hH, hT, hF => by
    refine impl.everyPiece_1_1.ok (And.intro (fun _ => ?_) (fun hne => by rw [beq_eq_false_iff_ne] at hne; omega))
    obtain ⟨t1, h1⟩ := hm.hy
    obtain ⟨t2, h2⟩ := hm.hc
    obtain ⟨zs, hz1, hz2, hz3, hz4⟩ := hm.hz
    have hzc : zs = cs := by rw [← hz4, List.take_of_length_le (by omega)]
    subst hzc
    refine ldB0 h1 (x := l) rfl (ldB0 h2 (x := sc) rfl ?_)
    obtain ⟨b, o, ha, hat⟩ : ∃ b o, sc.a = some ⟨b, o, none⟩ ∧ ∀ i x, zs[i]? = some x → At w b (o + i * 1) [.int .u8 x] := by
      rcases hz1.read.2.2.2 with h0 | h
      · rw [h0] at hz2; simp at hz2
      · exact h
    have hzn := hz1.len
    have hconv := run_convert_bytes_arg (P := P0) w 22 5 (by kernel_rfl) (by kernel_rfl) b o sc.n sc.c zs hz1.len.symm (fun i hi => by
      obtain ⟨x, hx⟩ := get_some (l := zs) (k := i) (by omega)
      have := hat i x hx 0 _ rfl
      rw [show zs.getD i 0 = x by rw [List.getD_eq_getElem?_getD, hx]; rfl]
      simpa using this) 9 (by kernel_rfl)
    refine ⟨strOfNums zs, w, by unfold Sl.v; rw [ha]; exact hconv, ?_⟩
    obtain ⟨fn, tmps, asg, body, hy, hR⟩ := hY pre zs w ⟨hz2, hz3⟩ hj hH
    refine ⟨fn, tmps, asg, body, hy, hR.mono ?_⟩
    rintro e w' (⟨rfl, hj', hb⟩ | ⟨rfl, hx⟩)
    · exact ⟨true, rfl, hT w' hj' (hm.below hb) ⟨hb.os, hb.tape, hb.output, hb.size, fun k hk _ => hb.block k hk⟩⟩
    · exact ⟨false, rfl, hF w' [zs] (List.prefix_refl _) hx⟩
  | n + 1, cs, w, pre, K, hn, hm, hj, hH, hT, hF => by
    refine impl.everyPiece_1_1.ok (And.intro (fun he => by rw [beq_iff_eq] at he; omega) (fun _ => ?_))
    obtain ⟨t3, h3⟩ := hm.ha'
    obtain ⟨t4, h4⟩ := hm.hb'
    refine ldB0 h3 (x := sa) rfl (ldB0 h4 (x := sb) rfl ?_)
    refine impl.cuts.c hm.ha hm.hb hpa hpb fun r w2 ho2 b2 => ?_
    have hrn := ho2.len
    have hcl := cuts_length la lb (cs.length : Int)
    have g2 : w.grownBy w2 (some bb) := ⟨b2.os, b2.tape, b2.output, b2.size, fun k hk _ => b2.block k hk⟩
    have hsz2 := b2.size
    have hbbw : bb < w.heap.size := by
      obtain ⟨zs, hz1, _⟩ := hm.hz
      exact (hz1.blk hm.hbk.1).2
    have hj2 : J pre w2 := hJ _ _ _ hj (b2.mono hH)
    refine ⟨fun i w' => ∃ k : Nat, i = k ∧ k ≤ (cuts la lb cs.length).length ∧ PcM la lb sa sb sc l y cc pa pb f bb H cs w' ∧ J (pre ++ ((cuts la lb cs.length).take k).flatMap (fun x => gen la lb n (cs ++ [x]))) w' ∧ OwnS kI 3 w.heap.size w' r (cuts la lb cs.length) ∧ w.grownBy w' (some bb),
      fun i _ => (cuts la lb cs.length).length - i.toNat, ⟨0, rfl, by omega, hm.below b2, by simpa using hj2, ho2, g2⟩, ?_⟩
    rintro i w3 ⟨k, rfl, hk1, hm3, hj3, ho3, g3⟩ _
    have hsz3 := g3.size
    refine And.intro (fun hlt => ?_) (fun hge => ?_)
    · simp only [decide_eq_true_eq] at hlt
      obtain ⟨x, hx⟩ := get_some (l := cuts la lb cs.length) (k := k) (by omega)
      have hxb := cuts_byte (List.mem_of_getElem? hx)
      obtain ⟨t2, h2⟩ := hm3.hc
      obtain ⟨zs, hz1, hz2, hz3, hz4⟩ := hm3.hz
      refine ixL ho3.read (i := k) (by omega) (x := x) (by simpa using hx) rfl (l := .i .i64) (v := x) rfl ?_
      refine ldB0 h2 (x := sc) rfl ?_
      obtain ⟨z, hz⟩ := get_some (l := zs) (k := cs.length) (by omega)
      rw [show IntKind.wrap .u8 x = x by rw [IntKind.wrap_u8]; omega]
      refine ixStL hz1 (i := (cs.length : Int)) (by omega) (x := z) (by simpa using hz) rfl rfl rfl x rfl fun w4 hz4' g4 s4 => ?_
      rw [hm3.hbk.1] at g4
      have hzl : zs.length = 12 := hz2
      have hm4 : PcM la lb sa sb sc l y cc pa pb f bb H (cs ++ [x]) w4 := by
        refine hm3.put g4 ⟨_, hz4', by simpa using hz2, fun u hu => ?_, ?_⟩
        · rcases List.mem_or_eq_of_mem_set hu with h | h
          · exact hz3 u h
          · rw [h]; exact hxb
        · rw [Int.toNat_natCast]
          have e1 : (cs ++ [x]).length = cs.length + 1 := by simp
          rw [e1, List.take_add_one, List.take_set_of_le (Nat.le_refl _), hz4, List.getElem?_set_self (by omega)]
          rfl
      have hj4 : J (pre ++ ((cuts la lb cs.length).take k).flatMap (fun x => gen la lb n (cs ++ [x]))) w4 := hJ _ _ _ hj3 ⟨g4.os, g4.tape, g4.output, g4.size, fun q hq => g4.block q (by omega) (by have := hm.hbk.2; simp only [ne_eq, Option.some.injEq]; omega)⟩
      obtain ⟨t5, h5⟩ := hm4.hf
      refine ldB0 h5 (l := .fn 79 5) (x := (⟨y, 0, none⟩, ⟨cc, 0, none⟩, ⟨pa, 0, none⟩, ⟨pb, 0, none⟩, ⟨f, 0, none⟩, ())) rfl ?_
      rw [i64_of (n := (cs.length : Int) + 1) (by omega) (by omega), i64_of (n := (k : Int) + 1) (by omega) (by omega)]
      have hl1 : ((cs.length : Int) + 1) = ((cs ++ [x]).length : Int) := by simp
      rw [hl1]
      refine impl.everyPiece_1_1.c n (by simp; omega) hm4 hj4 (by omega) (fun w5 hj5 hm5 g5 => ?_) (fun w5 q hq hx5 => ?_)
      · refine And.intro (fun hc => by simp at hc) (fun _ => ?_)
        refine ⟨⟨k + 1, by omega, by omega, ?_, ?_, ?_, ?_⟩, by simp only; omega⟩
        · have := hm5.cut (n := cs.length)
          rwa [List.take_left' rfl] at this
        · rw [gen_cons hx, ← List.append_assoc]; exact hj5
        · have o4 := ho3.kept g4 (fun b hb e => by simp only [Option.some.injEq] at hb; have := (ho3.blk e).1; omega)
          exact o4.kept g5 (fun b hb e => by simp only [Option.some.injEq] at hb; have := (o4.blk e).1; omega)
        · exact grown_trans (grown_trans g3 g4) g5
      · refine And.intro (fun _ => ?_) (fun hc => by simp at hc)
        exact hF w5 _ (gen_pre hx hq) (by rw [← List.append_assoc]; exact hx5)
    · simp only [decide_eq_false_iff_not] at hge
      obtain rfl : k = (cuts la lb cs.length).length := by omega
      rw [List.take_length] at hj3
      exact hT w3 hj3 hm3 g3
end
end Go.Proofs.Ytdlnoabihfnmmaa.V

/- Contracts: the search through an iterator; SameFind and SameRules on both sides. -/
namespace Go.Proofs.Ytdlnoabihfnmmaa.V
open Go Go.RowKit
set_option linter.unusedVariables false
set_option linter.unusedSimpArgs false
theorem mkU8 : Mk P0 22 5 kU8 1 0 := ⟨by kernel_rfl, ⟨_, _, Option.eq_some_of_isSome (by kernel_rfl), Option.eq_some_of_isSome (by kernel_rfl), by kernel_rfl, by kernel_rfl, by kernel_rfl⟩⟩
theorem zSl8 : zc P0 22 = #[.slice none 0 0] := by kernel_rfl
theorem zFn : zc P0 72 = #[.nilFunc] := by kernel_rfl
theorem rd_lt {la : List Rule} {s : Sl} {w : World} (h : SlR kRule w s la) (hne : la ≠ []) {b o : Nat} (ha : s.a = some ⟨b, o, none⟩) : b < w.heap.size := by
  rcases h.2.2.2 with h0 | ⟨b', o', ha', hat⟩
  · exact absurd h0 hne
  · rw [ha] at ha'
    simp only [Option.some.injEq, Addr.mk.injEq] at ha'
    obtain ⟨x, hx⟩ := get_some (l := la) (k := 0) (List.length_pos_iff.2 hne)
    have := hat 0 x hx 0 (.int .i64 x.at_) rfl
    have := World.block_lt_of_cell? w _ this
    simp only at this; omega
section
variable {la lb : List Rule} (hpa : RulesP la) (hpb : RulesP lb) {sa sb : Sl} {l pa pb : Nat} {J Jx : List (List Int) → World → Prop} {W : World}
  (hJ : ∀ s A B, J s A → Below W.heap.size A B → J s B)
  (hY : ∀ pre x W1, Came x → J pre W1 → W.heap.size ≤ W1.heap.size → YieldAt Fence.wide 0 P0 l #[.string (strOfNums x)] W1 fun e W' => (e = .returned (.bool true) ∧ J (pre ++ [x]) W' ∧ Below W1.heap.size W1 W') ∨ (e = .returned (.bool false) ∧ Jx (pre ++ [x]) W'))
include hpa hpb hJ hY
theorem impl.everyPiece_1.c (h1 : ∃ t, W.heap[pa]? = some (.cells #[sa.v] t (0, 0))) (h2 : ∃ t, W.heap[pb]? = some (.cells #[sb.v] t (0, 0))) (ha : SlR kRule W sa la) (hb : SlR kRule W sb lb) (h0 : J [] W) :
    CallT .z P0 78 [.func (.yield l) #[] #[], .pointer (some ⟨pa, 0, none⟩), .pointer (some ⟨pb, 0, none⟩)] W fun _ W' => J (gen la lb 12 []) W' ∨ ∃ q, q <+: gen la lb 12 [] ∧ Jx q W' := by
  obtain ⟨ta, h1⟩ := h1
  obtain ⟨tb, h2⟩ := h2
  have hpa' := (Array.getElem?_eq_some_iff.1 h1).1
  have hpb' := (Array.getElem?_eq_some_iff.1 h2).1
  refine impl.everyPiece_1.ok (nw fun w1 b1 s1 c1 => ?_)
  refine mkS (n := 12) mkU8 (by omega) (by simp [maxLen]) fun sc w2 b2 hz2 => ?_
  have b12 := b1.trans (b2.mono b1.size)
  have hs2 := b2.size
  obtain ⟨bb, o, cur, hsa, hbbH, hbbw, _, _⟩ := hz2.at (i := 0) (x := 0) (by simp) (by decide)
  have hbb2 := (Array.getElem?_eq_some_iff.1 hbbw).1
  refine nw fun w3 b3 s3 c3 => ?_
  rw [zSl8] at c3
  have b13 := b12.trans (b3.mono b12.size)
  refine stB0 c3 rfl (by simp) fun w4 g4 s4 c4 => ?_
  have b14 : Below W.heap.size W w4 := b13.grown g4 b13.size (fun b hb => by simp only [Option.some.injEq] at hb; have := b12.size; omega)
  refine nw fun w5 b5 s5 c5 => ?_
  rw [zFn] at c5
  have b15 := b14.trans (b5.mono b14.size)
  refine stB0 c5 rfl (by simp) fun w6 g6 s6 c6 => ?_
  have hs12 := b12.size
  have b16 : Below W.heap.size W w6 := b15.grown g6 b15.size (fun b hb => by simp only [Option.some.injEq] at hb; omega)
  have k36 : ∀ {k : Nat} {o : Obj}, k < w4.heap.size → w4.heap[k]? = some o → w6.heap[k]? = some o := fun hk h => by
    have h5 := (b5.block _ hk).trans h
    exact blk_kept h5 g6 (by omega)
  have k24 : ∀ {k : Nat} {o : Obj}, k < w2.heap.size → w2.heap[k]? = some o → w4.heap[k]? = some o := fun hk h => by
    have h5 := (b3.block _ hk).trans h
    exact blk_kept h5 g4 (by omega)
  have hz6 : WrS kU8 5 W.heap.size w6 sc (List.replicate 12 0) := by
    have z3 := hz2.below b3
    have z4 := z3.kept g4 (fun b hb e => by simp only [Option.some.injEq] at hb; rw [Sl.bk, hsa] at e; simp only [Option.map_some, Option.some.injEq] at e; omega)
    have z5 := z4.below b5
    exact (z5.kept g6 (fun b hb e => by simp only [Option.some.injEq] at hb; rw [Sl.bk, hsa] at e; simp only [Option.map_some, Option.some.injEq] at e; omega)).low b1.size
  have hm : PcM la lb sa sb sc l W.heap.size w2.heap.size pa pb w4.heap.size bb W.heap.size [] w6 := by
    refine ⟨⟨_, k36 (by omega) (k24 (by omega) ((b2.block _ (by omega)).trans c1))⟩, ⟨_, k36 (by omega) c4⟩, ⟨ta, (b16.block _ hpa').trans h1⟩, ⟨tb, (b16.block _ hpb').trans h2⟩, ⟨_, c6⟩, ha.below b16, hb.below b16,
      fun hne b o e => ?_, fun hne b o e => ?_, ⟨by omega, by omega, by omega, by omega, by omega⟩, ⟨by simp [Sl.bk, hsa], by omega⟩, ⟨_, hz6, by simp, by simp, by simp⟩⟩
    · have := rd_lt ha hne e; omega
    · have := rd_lt hb hne e; omega
  refine ldB0 c6 (l := .fn 79 5) (x := (⟨W.heap.size, 0, none⟩, ⟨w2.heap.size, 0, none⟩, ⟨pa, 0, none⟩, ⟨pb, 0, none⟩, ⟨w4.heap.size, 0, none⟩, ())) rfl ?_
  refine impl.everyPiece_1_1.c hpa hpb hJ hY 12 (cs := []) (pre := []) rfl hm (hJ _ _ _ h0 b16) b16.size (fun w' hj _ _ => .inl (by simpa using hj)) (fun w' q hq hx => .inr ⟨q, hq, by simpa using hx⟩)
end
/-! ### the code of the search -/
noncomputable def dC : Code := code Try.f33
noncomputable def dR0 : Code := cL dC
noncomputable def dX : Code := cR dC
noncomputable def dR1 : Code := cL (cL dX)
noncomputable def dRf : Code := cB (cR (cL dX))
noncomputable def dAs : Code := cAs dRf
noncomputable def dBd : Code := cBd dRf
noncomputable def dR7 : Code := cL (cR dX)
set_option maxRecDepth 100000 in
theorem differ_code : Try.f33.body = some (.seq dR0 (.seq (.seq dR1 (.block 0 (.rangeFunc (.tmp 13) #[14] dAs dBd))) (.seq dR7 .ret))) := by kernel_rfl
def dEnv (sa sb : Sl) (p2 p3 p4 p5 : Addr) (v6 v11 v12 v13 v14 : Value) : Env :=
  [.v sa.v, .v sb.v, .v (.pointer (some p2)), .v (.pointer (some p3)), .v (.pointer (some p4)), .v (.pointer (some p5)), .v v6, u0, u0, u0, u0, .v v11, .v v12, .v v13, .v v14] ++ List.replicate 21 u0
section
variable {sa sb : Sl} {p2 p3 p4 p5 : Addr} {v6 v11 v12 v13 v14 : Value} {w : World} {Kn : Env → World → Prop}
set_option maxRecDepth 100000 in
theorem differ_r0 (h : Nw #[sa.v] 23 w fun p2 w1 => Nw #[sb.v] 23 w1 fun p3 w2 => Nw (zc P0 9) 9 w2 fun p4 w3 => Nw (zc P0 4) 4 w3 fun p5 w4 => Kn (dEnv sa sb p2 p3 p4 p5 undef undef undef undef undef) w4) :
    evI P0 (.r (D 4)) dR0 (nK Kn) ([sa.v, sb.v].map EV.v ++ List.replicate (Try.f33.ntmps - [sa.v, sb.v].length) u0) w := Eq.mp (by kernel_rfl) h
set_option maxRecDepth 100000 in
theorem differ_r1 (h : Ld .sl p2 w fun x w1 => Ld .sl p3 w1 fun y w2 => CallT (.o (.lf .any)) P0 59 [x.v, y.v] w2 fun f w3 => Kn (dEnv sa sb p2 p3 p4 p5 undef x.v y.v f undef) w3) :
    evI P0 (.r [.l (.lf .sl), .l (.lf .sl), .c (.o (.lf .any))]) dR1 (nK Kn) (dEnv sa sb p2 p3 p4 p5 undef undef undef undef undef) w := Eq.mp (by kernel_rfl) h
set_option maxRecDepth 100000 in
theorem differ_as (h : Kn (dEnv sa sb p2 p3 p4 p5 v14 v11 v12 v13 v14) w) : evI P0 (.r (D 1)) dAs (nK Kn) (dEnv sa sb p2 p3 p4 p5 v6 v11 v12 v13 v14) w := Eq.mp (by kernel_rfl) h
set_option maxRecDepth 100000 in
theorem differ_r7 (h : St p4 (.string ⟨#[]⟩) w fun w1 => St p5 (.bool false) w1 fun w2 => Kn (dEnv sa sb p2 p3 p4 p5 v6 v11 v12 v13 v14) w2) : evI P0 (.r (D 2)) dR7 (nK Kn) (dEnv sa sb p2 p3 p4 p5 v6 v11 v12 v13 v14) w := Eq.mp (by kernel_rfl) h
def differ.body.pl : Pl := (.b (.s (.r [(.l (.lf .sl)), .d, (.c (.n [(.lf (.i .i64)), (.lf (.i .i64))])), .d, .d, .d, .d, .d]) (.s (.r [(.l (.lf .sl)), .d, (.c (.n [(.lf (.i .i64)), (.lf (.i .i64))])), .d, .d, .d, .d, .d]) (.s (.r [.d, .d, .d, (.sp .d), .d, .d, .d, .d]) (.c (.s (.r (D 3)) .z) .z)))))
def differ.body.vc (t2 : Addr) (t3 : Addr) (t4 : Addr) (t5 : Addr) (came : ByteArray) (w : World) (K : Bool → World → Prop) : Prop :=
Ld .sl t2 w fun (t16 : Sl) w_ =>
CallT (.n [(.lf (.i .i64)), (.lf (.i .i64))]) P0 30 [t16.v, (.string came)] w_ fun (t18 : (Int) × (Int) × Unit) w__1 =>
Ld .sl t3 w__1 fun (t22 : Sl) w__2 =>
CallT (.n [(.lf (.i .i64)), (.lf (.i .i64))]) P0 30 [t22.v, (.string came)] w__2 fun (t24 : (Int) × (Int) × Unit) w__3 =>
(((t18.1 : Int) != t24.1) = true → St t4 (.string came) w__3 fun w__4 =>
St t5 (.bool true) w__4 fun w__5 =>
K false w__5) ∧
(((t18.1 : Int) != t24.1) = false → (((t18.2.1 : Int) != t24.2.1) = true → St t4 (.string came) w__3 fun w__6 =>
St t5 (.bool true) w__6 fun w__7 =>
K false w__7) ∧
(((t18.2.1 : Int) != t24.2.1) = false → K true w__3))
set_option maxRecDepth 100000 in
theorem differ_yield {u : Value} : ({ tmps := ((#[14] : Array Tmp).zip #[u]).foldl (fun t (p, v) => t.setIfInBounds p v) (act [] (dEnv sa sb p2 p3 p4 p5 v6 v11 v12 v13 v14)).tmps, defers := [] } : Act) = act [] (dEnv sa sb p2 p3 p4 p5 v6 v11 v12 v13 u) := by kernel_rfl
set_option maxRecDepth 100000 in
theorem differ_body {s : ByteArray} {K : Bool → World → Prop} (h : differ.body.vc p2 p3 p4 p5 s w K) : evI P0 differ.body.pl dBd (bK K) (dEnv sa sb p2 p3 p4 p5 (.string s) v11 v12 v13 v14) w := Eq.mp (by kernel_rfl) h
set_option maxRecDepth 100000 in
theorem differ_res {x : ByteArray} {b : Bool} {k : ByteArray × Bool × Unit → World → Prop} (h1 : w.cell? p4 = some (.string x)) (h2 : w.cell? p5 = some (.bool b)) (hk : k (x, b, ()) w) :
    resK P0 Try.f33.results.toList [(.lf .s), (.lf .b)] (dEnv sa sb p2 p3 p4 p5 v6 v11 v12 v13 v14) w fun t => k t w :=
  Eq.mp (by kernel_rfl) (show Ld .s p4 w fun x _ => Ld .b p5 w fun y _ => k (x, y, ()) w from ⟨x, h1, b, h2, hk⟩)
end
end Go.Proofs.Ytdlnoabihfnmmaa.V

/- Contracts: the search; SameFind, SameRules on both sides. -/
namespace Go.Proofs.Ytdlnoabihfnmmaa.V
open Go Go.RowKit
set_option linter.unusedVariables false
set_option linter.unusedSimpArgs false
theorem results_leave {r : Rs} {env : Env} {w : World} {fn : Func} {K : r.T → World → Prop} (hr : r.fine = true) (h : resK P0 fn.results.toList r.tys env w fun t => K (r.of t) w) :
    LeavesInM (Rd none) 0 P0 fn (act [] env).tmps (fun e w' => ∃ x, e = .returned (r.emb x) ∧ K x w') [] .returning w := by
  obtain ⟨x, hx, hrun⟩ := results_run (ds := []) (env := env) hr h
  exact ⟨_, hrun, x, rfl, hx⟩
/-- What is known between two rounds. -/
structure DiI (la lb : List Rule) (sa sb : Sl) (b2 b3 b4 b5 : Nat) (w0 : World) (pre : List (List Int)) (W : World) : Prop where
  bel : Below w0.heap.size w0 W
  h2 : ∃ t, W.heap[b2]? = some (.cells #[sa.v] t (0, 0))
  h3 : ∃ t, W.heap[b3]? = some (.cells #[sb.v] t (0, 0))
  h4 : ∃ t, W.heap[b4]? = some (.cells #[.string ByteArray.empty] t (0, 0))
  h5 : ∃ t, W.heap[b5]? = some (.cells #[.bool false] t (0, 0))
  no : ∀ x ∈ pre, diffB la lb x = false
structure DiX (la lb : List Rule) (b4 b5 : Nat) (w0 : World) (pre : List (List Int)) (W : World) : Prop where
  bel : Below w0.heap.size w0 W
  ex : ∃ q x, pre = q ++ [x] ∧ (∀ y ∈ q, diffB la lb y = false) ∧ diffB la lb x = true ∧ (∃ t, W.heap[b4]? = some (.cells #[.string (strOfNums x)] t (0, 0))) ∧ ∃ t, W.heap[b5]? = some (.cells #[.bool true] t (0, 0))
theorem find_none {la lb : List Rule} {l : List (List Int)} (h : ∀ x ∈ l, diffB la lb x = false) : l.find? (diffB la lb) = none := by
  rw [List.find?_eq_none]; intro x hx; simp [h x hx]
theorem find_some' {la lb : List Rule} {l q : List (List Int)} {x : List Int} (hp : q ++ [x] <+: l) (h : ∀ y ∈ q, diffB la lb y = false) (hx : diffB la lb x = true) : l.find? (diffB la lb) = some x := by
  obtain ⟨u, hu⟩ := hp
  rw [← hu, List.append_assoc, List.find?_append, find_none h]
  simp [List.find?_cons, hx]
theorem gen_came {la lb : List Rule} : ∀ (n : Nat) {cs : List Int}, cs.length + n = 12 → (∀ x ∈ cs, 0 ≤ x ∧ x ≤ 255) → ∀ y ∈ gen la lb n cs, Came y
  | 0, cs, hn, hx, y, hy => by
    simp only [gen, List.mem_singleton] at hy
    subst hy; exact ⟨by omega, hx⟩
  | n + 1, cs, hn, hx, y, hy => by
    simp only [gen, List.mem_flatMap] at hy
    obtain ⟨x, hxc, hy⟩ := hy
    exact gen_came n (by simp; omega) (fun z hz => by rcases List.mem_append.1 hz with h | h; exact hx z h; simp at h; subst h; exact cuts_byte hxc) y hy
theorem zStr : zc P0 9 = #[.string ByteArray.empty] := by kernel_rfl
theorem zBool : zc P0 4 = #[.bool false] := by kernel_rfl
section
variable {la lb : List Rule} {sa sb : Sl} {w : World}
set_option maxHeartbeats 2000000 in
set_option maxRecDepth 100000 in
theorem impl.differ.c (hpa : RulesP la) (hpb : RulesP lb) (ha : SlR kRule w sa la) (hb : SlR kRule w sb lb) {K : ByteArray × Bool × Unit → World → Prop} (hk : ∀ w', Below w.heap.size w w' → K ((fres la lb 12 []).1, (fres la lb 12 []).2, ()) w') :
    CallT (.n [(.lf .s), (.lf .b)]) P0 33 [sa.v, sb.v] w K := by
  refine callM_of Try.func33 differ_code (step_seq (differ_r0 ?_))
  refine nw fun w1 b1 s1 c1 => nw fun w2 b2 s2 c2 => nw fun w3 b3 s3 c3 => nw fun w4 b4 s4 c4 => ?_
  rw [zStr] at c3
  rw [zBool] at c4
  have b12 := b1.trans (b2.mono (by omega))
  have b13 := b12.trans (b3.mono (by omega))
  have b14 := b13.trans (b4.mono (by omega))
  have h2 := (b4.block _ (by omega)).trans ((b3.block _ (by omega)).trans ((b2.block _ (by omega)).trans c1))
  have h3 := (b4.block _ (by omega)).trans ((b3.block _ (by omega)).trans c2)
  have h4 := (b4.block _ (by omega)).trans c3
  refine wpIn_seq (step_seq (differ_r1 ?_))
  refine ldB0 h2 (x := sa) rfl (ldB0 h3 (x := sb) rfl ?_)
  refine impl.everyPiece.ok (nw fun w5 b5 s5 c5 => nw fun w6 b6 s6 c6 => ?_)
  have b56 := b5.trans (b6.mono (by omega))
  have b16 := b14.trans (b56.mono (by omega))
  have i5 := (b6.block _ (by omega)).trans c5
  refine wpIn_block ?_
  have hI0 : DiI la lb sa sb w.heap.size w1.heap.size w2.heap.size w3.heap.size w [] w6 := ⟨b16, ⟨_, (b56.block _ (by omega)).trans h2⟩, ⟨_, (b56.block _ (by omega)).trans h3⟩, ⟨_, (b56.block _ (by omega)).trans h4⟩, ⟨_, (b56.block _ (by omega)).trans c4⟩, by simp⟩
  have keep : ∀ {A B : World} {k : Nat} {o : Obj}, k < w6.heap.size → A.heap[k]? = some o → Below w6.heap.size A B → B.heap[k]? = some o := fun hk h hab => (hab.block _ hk).trans h
  have hs6 : w3.heap.size < w6.heap.size ∧ w2.heap.size < w6.heap.size ∧ w1.heap.size < w6.heap.size ∧ w.heap.size < w6.heap.size := by have := b56.size; omega
  refine rf_law (n := 0) (α := List Int) (gf := 78) (lb := #[.pointer (some ⟨w4.heap.size, 0, none⟩), .pointer (some ⟨w5.heap.size, 0, none⟩)]) (by rw [act_eval]; rfl) (enters_ok (by kernel_rfl)) (encs := fun x => #[.string (strOfNums x)]) (fun _ => rfl) Came
    (DiI la lb sa sb w.heap.size w1.heap.size w2.heap.size w3.heap.size w) (DiX la lb w2.heap.size w3.heap.size w) ?_ ?_ hI0 (gen la lb 12 []) (fun x => act [] (dEnv sa sb ⟨w.heap.size, 0, none⟩ ⟨w1.heap.size, 0, none⟩ ⟨w2.heap.size, 0, none⟩ ⟨w3.heap.size, 0, none⟩ (.string (strOfNums x)) sa.v sb.v (.func (.func 78) #[] #[.pointer (some ⟨w4.heap.size, 0, none⟩), .pointer (some ⟨w5.heap.size, 0, none⟩)]) (.string (strOfNums x)))) ?_ ?_ ?_ ?_ ?_
  · rintro s A B h hab
    obtain ⟨t2, q2⟩ := h.h2
    obtain ⟨t3, q3⟩ := h.h3
    obtain ⟨t4, q4⟩ := h.h4
    obtain ⟨t5, q5⟩ := h.h5
    exact ⟨h.bel.trans (hab.mono (by omega)), ⟨t2, keep (by omega) q2 hab⟩, ⟨t3, keep (by omega) q3 hab⟩, ⟨t4, keep (by omega) q4 hab⟩, ⟨t5, keep (by omega) q5 hab⟩, h.no⟩
  · rintro s A B h hab
    obtain ⟨q, x, e, h1, h2, ⟨t4, q4⟩, t5, q5⟩ := h.ex
    exact ⟨h.bel.trans (hab.mono (by omega)), q, x, e, h1, h2, ⟨t4, keep (by omega) q4 hab⟩, t5, keep (by omega) q5 hab⟩
  · intro l W J Jx hW hWs hJ hJx hY h0
    have hl4 : w4.heap.size < w6.heap.size := by omega
    have hl5 : w5.heap.size < w6.heap.size := by omega
    have c5' : W.heap[w4.heap.size]? = _ := keep hl4 i5 hW
    have c6' : W.heap[w5.heap.size]? = _ := keep hl5 c6 hW
    have := impl.everyPiece_1.c hpa hpb hJ hY ⟨_, c5'⟩ ⟨_, c6'⟩ (ha.below (b16.trans (hW.mono (by omega)))) (hb.below (b16.trans (hW.mono (by omega)))) h0
    exact Calls.mono this fun e W' ⟨x, he, hx⟩ => ⟨⟨_, he⟩, hx.imp id (fun ⟨q, h1, h2⟩ => ⟨q, h1, h2⟩)⟩
  · intro l x W K' hK
    refine Eq.mpr (congrArg (fun a => Code.wpIn (Rd (some l)) 0 P0 dAs (Exit.then K' fun _ _ _ => False) a W) differ_yield) ?_
    exact step_one (differ_as hK)
  · intro l pre x W hok hI hW
    refine step_body (differ_body ?_)
    obtain ⟨t2, q2⟩ := hI.h2
    obtain ⟨t3, q3⟩ := hI.h3
    obtain ⟨t4, q4⟩ := hI.h4
    obtain ⟨t5, q5⟩ := hI.h5
    refine ldB0 q2 (x := sa) rfl ?_
    refine impl.ruled.c (ha.below hI.bel) hpa hok fun u1 d1 => ?_
    refine ldB0 ((d1.block _ (by omega)).trans q3) (x := sb) rfl ?_
    refine impl.ruled.c (hb.below (hI.bel.trans (d1.mono hI.bel.size))) hpb hok fun u2 d2 => ?_
    have d12 := d1.trans (d2.mono d1.size)
    have hsW := d12.size
    have fin : diffB la lb x = true → St ⟨w2.heap.size, 0, none⟩ (.string (strOfNums x)) u2 fun u3 => St ⟨w3.heap.size, 0, none⟩ (.bool true) u3 fun u4 => KeepsHi w6.heap.size W u4 ∧ DiX la lb w2.heap.size w3.heap.size w (pre ++ [x]) u4 := by
      intro hd
      refine stB0 ((d12.block _ (by omega)).trans q4) rfl (by simp) fun u3 g3 e3 k3 => ?_
      refine stB0 (blk_kept ((d12.block _ (by omega)).trans q5) g3 (by omega)) rfl (by simp) fun u4 g4 e4 k4 => ?_
      refine ⟨⟨by omega, fun k h1 h2 => ?_⟩, ?_, pre, x, rfl, hI.no, hd, ⟨_, blk_kept k3 g4 (by omega)⟩, ⟨_, k4⟩⟩
      · rw [g4.block k (by omega) (by simp only [ne_eq, Option.some.injEq]; omega), g3.block k (by omega) (by simp only [ne_eq, Option.some.injEq]; omega)]
        exact d12.block k h2
      · have := hI.bel.trans (d12.mono hI.bel.size)
        exact (this.grown g3 this.size (fun b hb => by simp only [Option.some.injEq] at hb; omega)).grown g4 (by have := this.size; have := g3.size; omega) (fun b hb => by simp only [Option.some.injEq] at hb; omega)
    refine And.intro (fun hd => fin (by unfold diffB; rw [hd]; rfl)) (fun hd => And.intro (fun hd2 => fin (by unfold diffB; rw [hd2]; simp)) (fun hd2 => ?_))
    have kk : ∀ {k : Nat} {o : Obj}, k < W.heap.size → W.heap[k]? = some o → u2.heap[k]? = some o := fun hk h => (d12.block _ hk).trans h
    refine ⟨d12, hI.bel.trans (d12.mono hI.bel.size), ⟨t2, kk (by omega) q2⟩, ⟨t3, kk (by omega) q3⟩, ⟨t4, kk (by omega) q4⟩, ⟨t5, kk (by omega) q5⟩, fun y hy => ?_⟩
    rcases List.mem_append.1 hy with h | h
    · exact hI.no y h
    · simp only [List.mem_singleton] at h
      subst h
      unfold diffB; rw [hd, hd2]; rfl
  · intro W hI hD
    obtain ⟨t4, q4⟩ := hI.h4
    obtain ⟨t5, q5⟩ := hI.h5
    refine step_seq (ds := [{ target := .collected w6.heap.size, args := #[] }]) (pl := .r (D 2)) (differ_r7 ?_)
    refine stB0 q4 rfl (by simp) fun u3 g3 e3 k3 => ?_
    refine stB0 (blk_kept q5 g3 (by omega)) rfl (by simp) fun u4 g4 e4 k4 => ?_
    have hD4 := blk_kept (blk_kept hD g3 (by omega)) g4 (by omega)
    have k34 := blk_kept k3 g4 (by omega)
    refine wpIn_ret ⟨by simp, .inl ⟨_, _, rfl, run_takeDeferred hD4, results_leave rfl (differ_res (x := ⟨#[]⟩) (b := false) ?_ ?_ ?_)⟩⟩
    · have := cell_of ((World.putObj_heap_other (o := .deferred none) (w := u4) (r := w6.heap.size) (k := w2.heap.size) (by omega)).trans k34) 0
      rw [this]; rfl
    · have := cell_of ((World.putObj_heap_other (o := .deferred none) (w := u4) (r := w6.heap.size) (k := w3.heap.size) (by omega)).trans k4) 0
      rw [this]; rfl
    · have hb4 : Below w.heap.size w u4 := (hI.bel.grown g3 hI.bel.size (fun b hb => by simp only [Option.some.injEq] at hb; omega)).grown g4 (by have := hI.bel.size; have := g3.size; omega) (fun b hb => by simp only [Option.some.injEq] at hb; omega)
      have := hk _ (hb4.trans (below_putObj (l := w6.heap.size) (o := .deferred none) (by omega)))
      unfold fres at this
      rw [find_none hI.no] at this
      exact this
  · intro pre W hp hX hD
    obtain ⟨q, x, rfl, h1, h2, ⟨t4, q4⟩, t5, q5⟩ := hX.ex
    refine ⟨by simp, .inl ⟨_, _, rfl, run_takeDeferred hD, results_leave rfl (differ_res (x := strOfNums x) (b := true) ?_ ?_ ?_)⟩⟩
    · have := cell_of ((World.putObj_heap_other (o := .deferred none) (w := W) (r := w6.heap.size) (k := w2.heap.size) (by omega)).trans q4) 0
      rw [this]; rfl
    · have := cell_of ((World.putObj_heap_other (o := .deferred none) (w := W) (r := w6.heap.size) (k := w3.heap.size) (by omega)).trans q5) 0
      rw [this]; rfl
    · have := hk _ (hX.bel.trans (below_putObj (l := w6.heap.size) (o := .deferred none) (by omega)))
      unfold fres at this
      rw [find_some' hp h1 h2] at this
      exact this
end
end Go.Proofs.Ytdlnoabihfnmmaa.V

/- Contracts: SameFind and SameRules on both sides. -/
namespace Go.Proofs.Ytdlnoabihfnmmaa.V
open Go Go.RowKit
set_option linter.unusedVariables false
def SameOk (la lb : List Rule) : Prop := RulesP la ∧ RulesP lb ∧ pieces la lb ≤ 400
open Classical in
/-- The first bytes of which rules say something else, if there are such. -/
noncomputable def sameFind (la lb : List Rule) : ByteArray × Bool := if SameOk la lb then fres la lb 12 [] else (⟨#[]⟩, false)
open Classical in
noncomputable def sameRules (la lb : List Rule) : Bool := if SameOk la lb then !(fres la lb 12 []).2 else false
section
variable {la lb : List Rule} {sa sb : Sl} {w : World}
open Classical in
theorem impl.looked.c {K : Bool → World → Prop} (ha : SlR kRule w sa la) (hb : SlR kRule w sb lb) (hk : ∀ w', Below w.heap.size w w' → K (decide (SameOk la lb)) w') : CallT (.o (.lf .b)) P0 32 [sa.v, sb.v] w K := by
  refine impl.looked.ok (impl.RulesOk.c ha fun w1 b1 => ?_)
  refine And.intro (fun h1 => ?_) (fun h1 => ?_)
  · simp only [decide_eq_true_eq] at h1
    refine impl.RulesOk.c (hb.below b1) fun w2 b2 => ?_
    have b12 := b1.trans (b2.mono b1.size)
    refine And.intro (fun h2 => ?_) (fun h2 => ?_)
    · simp only [decide_eq_true_eq] at h2
      refine impl.pieces.c (ha.below b12) (hb.below b12) h1 h2 fun w3 b3 => ?_
      refine kof (hk w3 (b12.trans (b3.mono b12.size))) ?_
      rw [decide_eq_decide]
      exact ⟨fun h => h.2.2, fun h => ⟨h1, h2, h⟩⟩
    · simp only [decide_eq_false_iff_not] at h2
      exact kof (hk w2 b12) (by simp only [decide_eq_false_iff_not]; exact fun h => h2 h.2.1)
  · simp only [decide_eq_false_iff_not] at h1
    exact kof (hk w1 b1) (by simp only [decide_eq_false_iff_not]; exact fun h => h1 h.1)
theorem impl.SameFind.c {K : ByteArray × Bool × Unit → World → Prop} (ha : SlR kRule w sa la) (hb : SlR kRule w sb lb) (hk : ∀ w', Below w.heap.size w w' → K ((sameFind la lb).1, (sameFind la lb).2, ()) w') :
    CallT (.n [(.lf .s), (.lf .b)]) P0 16 [sa.v, sb.v] w K := by
  refine impl.SameFind.ok (impl.looked.c ha hb fun w1 b1 => ?_)
  unfold sameFind at hk
  refine And.intro (fun h => ?_) (fun h => ?_)
  · simp only [Bool.not_eq_true', decide_eq_false_iff_not] at h
    rw [if_neg h] at hk
    exact hk w1 b1
  · simp only [Bool.not_eq_false', decide_eq_true_eq] at h
    rw [if_pos h] at hk
    exact impl.differ.c h.1 h.2.1 (ha.below b1) (hb.below b1) fun w2 b2 => hk w2 (b1.trans (b2.mono b1.size))
theorem impl.SameRules.c {K : Bool → World → Prop} (ha : SlR kRule w sa la) (hb : SlR kRule w sb lb) (hk : ∀ w', Below w.heap.size w w' → K (sameRules la lb) w') :
    CallT (.o (.lf .b)) P0 13 [sa.v, sb.v] w K := by
  refine impl.SameRules.ok (impl.looked.c ha hb fun w1 b1 => ?_)
  unfold sameRules at hk
  refine And.intro (fun h => ?_) (fun h => ?_)
  · simp only [Bool.not_eq_true', decide_eq_false_iff_not] at h
    rw [if_neg h] at hk
    exact hk w1 b1
  · simp only [Bool.not_eq_false', decide_eq_true_eq] at h
    rw [if_pos h] at hk
    exact impl.differ.c h.1 h.2.1 (ha.below b1) (hb.below b1) fun w2 b2 => hk w2 (b1.trans (b2.mono b1.size))
theorem spec.SameRules.c {K : Bool → World → Prop} (ha : SlR kRule w sa la) (hb : SlR kRule w sb lb) (hk : ∀ w', Below w.heap.size w w' → K (sameRules la lb) w') :
    CallT (.o (.lf .b)) P0 14 [sa.v, sb.v] w K := by
  unfold sameRules at hk
  refine spec.SameRules.ok ⟨fun w' => Below w.heap.size w w' ∧ SameOk la lb, ?_, ?_⟩
  · refine spec.l9Ok.c ha fun w1 b1 => ?_
    refine And.intro (fun h => ?_) (fun h1 => ?_)
    · simp only [Bool.not_eq_true', decide_eq_false_iff_not] at h
      rw [if_neg (fun hh => h hh.1)] at hk
      exact hk w1 b1
    · simp only [Bool.not_eq_false', decide_eq_true_eq] at h1
      refine spec.l9Ok.c (hb.below b1) fun w2 b2 => ?_
      have b12 := b1.trans (b2.mono b1.size)
      refine And.intro (fun h => ?_) (fun h2 => ?_)
      · simp only [Bool.not_eq_true', decide_eq_false_iff_not] at h
        rw [if_neg (fun hh => h hh.2.1)] at hk
        exact hk w2 b12
      · simp only [Bool.not_eq_false', decide_eq_true_eq] at h2
        refine spec.l14Ways.c (ha.below b12) (hb.below b12) h1 h2 fun w3 b3 => ?_
        have b13 := b12.trans (b3.mono b12.size)
        refine And.intro (fun h => ?_) (fun h3 => ?_)
        · simp only [decide_eq_true_eq] at h
          rw [if_neg (fun hh => by have := hh.2.2; omega)] at hk
          exact hk w3 b13
        · simp only [decide_eq_false_iff_not] at h3
          exact ⟨b13, h1, h2, by omega⟩
  · rintro w3 ⟨b3, hok⟩ _
    rw [if_pos hok] at hk
    exact spec.l14Find.c hok.1 hok.2.1 12 (cs := []) rfl (by simp) (ha.below b3) (hb.below b3) fun w4 b4 => hk w4 (b3.trans (b4.mono b3.size))
end
end Go.Proofs.Ytdlnoabihfnmmaa.V

/- Plain laws: each byte has a cut that stands for it; the first bytes that are found are the first of all. -/
namespace Go.Proofs.Ytdlnoabihfnmmaa.V
open Go Go.RowKit
set_option linter.unusedVariables false
set_option linter.unusedSimpArgs false
/-- The last hit at a number or below it. -/
def lastHit (f : Nat → Bool) : Nat → Nat
  | 0 => 0
  | n + 1 => if f (n + 1) then n + 1 else lastHit f n
theorem lastHit_le (f : Nat → Bool) : ∀ n, lastHit f n ≤ n
  | 0 => Nat.le_refl _
  | n + 1 => by
    unfold lastHit
    split
    · exact Nat.le_refl _
    · have := lastHit_le f n; omega
theorem lastHit_hit {f : Nat → Bool} (h0 : f 0 = true) : ∀ n, f (lastHit f n) = true
  | 0 => h0
  | n + 1 => by
    unfold lastHit
    split
    · rename_i h; exact h
    · exact lastHit_hit h0 n
theorem lastHit_no {f : Nat → Bool} : ∀ {n m : Nat}, lastHit f n < m → m ≤ n → f m = false
  | 0, m, h, hm => by omega
  | n + 1, m, h, hm => by
    unfold lastHit at h
    split at h
    · omega
    · rename_i hf
      by_cases e : m = n + 1
      · subst e; simpa using hf
      · exact lastHit_no h (by omega)
open Classical in
noncomputable def hitB (a b : List Rule) (i : Int) (n : Nat) : Bool := decide (hits (a ++ b) i n)
theorem hitB_zero (a b : List Rule) (i : Int) : hitB a b i 0 = true := by simp [hitB, hits]
/-- The cut that stands for a byte. -/
noncomputable def stand (a b : List Rule) (i x : Int) : Int := (lastHit (hitB a b i) x.toNat : Nat)
theorem stand_le {a b : List Rule} {i x : Int} (hx : 0 ≤ x) : 0 ≤ stand a b i x ∧ stand a b i x ≤ x := by
  have := lastHit_le (hitB a b i) x.toNat
  unfold stand; omega
theorem stand_cut {a b : List Rule} {i x : Int} (hx : 0 ≤ x ∧ x ≤ 255) : stand a b i x ∈ cuts a b i := by
  have h1 := lastHit_le (hitB a b i) x.toNat
  unfold cuts
  rw [mem_picks]
  exact ⟨lastHit (hitB a b i) x.toNat, rfl, by omega, lastHit_hit (hitB_zero a b i) _⟩
theorem stand_holds {a b : List Rule} {r : Rule} (hr : r ∈ a ++ b) (hp : RuleP r) {x : Int} (hx : 0 ≤ x ∧ x ≤ 255) : holdsB r.op (stand a b r.at_ x) r.num = holdsB r.op x r.num := by
  have hle := stand_le (a := a) (b := b) (i := r.at_) hx.1
  have h1 : hitB a b r.at_ r.num.toNat = true := by
    simp only [hitB, decide_eq_true_eq]
    exact .inr ⟨r, hr, rfl, .inl (by have := hp.2.2.1; omega)⟩
  have h2 : hitB a b r.at_ (r.num.toNat + 1) = true := by
    simp only [hitB, decide_eq_true_eq]
    exact .inr ⟨r, hr, rfl, .inr (by have := hp.2.2.1; omega)⟩
  have hn := hp.2.2.1
  have c1 : ¬ (stand a b r.at_ x < r.num ∧ r.num ≤ x) := by
    rintro ⟨c, d⟩
    have := lastHit_no (f := hitB a b r.at_) (n := x.toNat) (m := r.num.toNat) (by unfold stand at c; omega) (by omega)
    rw [h1] at this; simp at this
  have c2 : ¬ (stand a b r.at_ x < r.num + 1 ∧ r.num + 1 ≤ x) := by
    rintro ⟨c, d⟩
    have := lastHit_no (f := hitB a b r.at_) (n := x.toNat) (m := r.num.toNat + 1) (by unfold stand at c; omega) (by omega)
    rw [h2] at this; simp at this
  unfold holdsB
  generalize stand a b r.at_ x = y at *
  split
  · rw [Bool.eq_iff_iff]; simp only [beq_iff_eq]; omega
  · split
    · rw [Bool.eq_iff_iff]; simp only [bne_iff_ne, ne_eq]; omega
    · split
      · rw [decide_eq_decide]; omega
      · rw [decide_eq_decide]; omega
/-- The bytes that stand for bytes, from a place on. -/
noncomputable def standL (a b : List Rule) : Nat → List Int → List Int
  | _, [] => []
  | i, x :: xs => stand a b i x :: standL a b (i + 1) xs
theorem standL_length (a b : List Rule) : ∀ (i : Nat) (xs : List Int), (standL a b i xs).length = xs.length
  | _, [] => rfl
  | i, x :: xs => by simp [standL, standL_length a b (i + 1) xs]
theorem standL_get (a b : List Rule) : ∀ (i : Nat) (xs : List Int) (j : Nat) (x : Int), xs[j]? = some x → (standL a b i xs)[j]? = some (stand a b ((i + j : Nat) : Int) x)
  | _, [], j, x, h => by simp at h
  | i, y :: ys, 0, x, h => by
    simp only [List.getElem?_cons_zero, Option.some.injEq] at h
    subst h; rfl
  | i, y :: ys, j + 1, x, h => by
    have := standL_get a b (i + 1) ys j x (by simpa using h)
    rw [standL, List.getElem?_cons_succ, this]
    congr 3; omega
theorem standL_gen (a b : List Rule) : ∀ (n : Nat) (pre xs : List Int), xs.length = n → (∀ x ∈ xs, 0 ≤ x ∧ x ≤ 255) → pre ++ standL a b pre.length xs ∈ gen a b n pre
  | 0, pre, xs, hn, hx => by
    have : xs = [] := List.eq_nil_of_length_eq_zero hn
    subst this; simp [standL, gen]
  | n + 1, pre, [], hn, hx => by simp at hn
  | n + 1, pre, x :: xs, hn, hx => by
    simp only [gen, List.mem_flatMap, standL]
    refine ⟨stand a b pre.length x, stand_cut (hx x List.mem_cons_self), ?_⟩
    have := standL_gen a b n (pre ++ [stand a b pre.length x]) xs (by simpa using hn) (fun y hy => hx y (List.mem_cons_of_mem _ hy))
    simpa [List.append_assoc] using this
theorem ruledL_stand {a b : List Rule} {cs : List Int} (hc : Came cs) : ∀ (l : List Rule), (∀ r ∈ l, r ∈ a ++ b ∧ RuleP r) → ruledL l (standL a b 0 cs) = ruledL l cs
  | [], _ => rfl
  | r :: rs, h => by
    obtain ⟨hr, hp⟩ := h r List.mem_cons_self
    obtain ⟨hg, hb⟩ := came_at hc hp
    have hs := standL_get a b 0 cs _ _ hg
    have e : (standL a b 0 cs).getD r.at_.toNat 0 = stand a b r.at_ (cs.getD r.at_.toNat 0) := by
      conv => lhs; rw [List.getD_eq_getElem?_getD, hs]
      have : ((0 + r.at_.toNat : Nat) : Int) = r.at_ := by have := hp.1.1; omega
      rw [this]; rfl
    unfold ruledL
    rw [e, stand_holds hr hp hb, ruledL_stand hc rs (fun q hq => h q (List.mem_cons_of_mem _ hq))]
theorem diffB_stand {a b : List Rule} (ha : RulesP a) (hb : RulesP b) {cs : List Int} (hc : Came cs) : diffB a b (standL a b 0 cs) = diffB a b cs := by
  unfold diffB
  rw [ruledL_stand hc a (fun r hr => ⟨List.mem_append_left _ hr, ha.2 r hr⟩), ruledL_stand hc b (fun r hr => ⟨List.mem_append_right _ hr, hb.2 r hr⟩)]
/-- If no bytes are found, rules say the same of all. -/
theorem none_same {a b : List Rule} (ha : RulesP a) (hb : RulesP b) (h : (gen a b 12 []).find? (diffB a b) = none) {cs : List Int} (hc : Came cs) : diffB a b cs = false := by
  rw [← diffB_stand ha hb hc]
  have hm := standL_gen a b 12 [] cs hc.1 hc.2
  rw [List.find?_eq_none] at h
  simpa using h _ hm
theorem some_diff {a b : List Rule} {s : List Int} (h : (gen a b 12 []).find? (diffB a b) = some s) : diffB a b s = true ∧ Came s :=
  ⟨List.find?_some h, gen_came 12 rfl (by simp) s (List.mem_of_find?_eq_some h)⟩
/-- One text of bytes is no later than another one. -/
def lexLe : List Int → List Int → Prop
  | [], _ => True
  | _ :: _, [] => False
  | x :: xs, y :: ys => x < y ∨ (x = y ∧ lexLe xs ys)
theorem lexLe_refl : ∀ xs, lexLe xs xs
  | [] => trivial
  | x :: xs => .inr ⟨rfl, lexLe_refl xs⟩
theorem lexLe_trans : ∀ {xs ys zs : List Int}, lexLe xs ys → lexLe ys zs → lexLe xs zs
  | [], _, _, _, _ => trivial
  | _ :: _, [], _, h, _ => h.elim
  | _ :: _, _ :: _, [], _, h => h.elim
  | x :: xs, y :: ys, z :: zs, h1, h2 => by
    rcases h1 with h1 | ⟨rfl, h1⟩
    · rcases h2 with h2 | ⟨rfl, h2⟩
      · exact .inl (by omega)
      · exact .inl h1
    · rcases h2 with h2 | ⟨rfl, h2⟩
      · exact .inl h2
      · exact .inr ⟨rfl, lexLe_trans h1 h2⟩
theorem lexLe_app : ∀ (pre xs ys : List Int), lexLe xs ys → lexLe (pre ++ xs) (pre ++ ys)
  | [], _, _, h => h
  | p :: ps, xs, ys, h => .inr ⟨rfl, lexLe_app ps xs ys h⟩
theorem standL_le {a b : List Rule} : ∀ (i : Nat) (xs : List Int), (∀ x ∈ xs, 0 ≤ x ∧ x ≤ 255) → lexLe (standL a b i xs) xs
  | _, [], _ => trivial
  | i, x :: xs, h => by
    have h1 := stand_le (a := a) (b := b) (i := i) (h x List.mem_cons_self).1
    rcases Int.lt_or_le (stand a b i x) x with h2 | h2
    · exact .inl h2
    · exact .inr ⟨by omega, standL_le (i + 1) xs (fun y hy => h y (List.mem_cons_of_mem _ hy))⟩
theorem gen_app {a b : List Rule} : ∀ (n : Nat) {cs y : List Int}, y ∈ gen a b n cs → ∃ u, y = cs ++ u
  | 0, cs, y, h => by
    simp only [gen, List.mem_singleton] at h
    exact ⟨[], by simp [h]⟩
  | n + 1, cs, y, h => by
    simp only [gen, List.mem_flatMap] at h
    obtain ⟨x, _, h⟩ := h
    obtain ⟨u, hu⟩ := gen_app n h
    exact ⟨x :: u, by rw [hu]; simp⟩
theorem cuts_asc (a b : List Rule) (i : Int) : (cuts a b i).Pairwise (· < ·) := picks_asc _ _
theorem pairwise_flat {α β : Type} {R : β → β → Prop} {f : α → List β} : ∀ {l : List α}, (∀ x ∈ l, (f x).Pairwise R) → l.Pairwise (fun x y => ∀ u ∈ f x, ∀ v ∈ f y, R u v) → (l.flatMap f).Pairwise R
  | [], _, _ => by simp
  | x :: xs, h, hp => by
    rw [List.flatMap_cons, List.pairwise_append]
    rw [List.pairwise_cons] at hp
    refine ⟨h x List.mem_cons_self, pairwise_flat (fun y hy => h y (List.mem_cons_of_mem _ hy)) hp.2, fun u hu v hv => ?_⟩
    obtain ⟨y, hy, hv⟩ := List.mem_flatMap.1 hv
    exact hp.1 y hy u hu v hv
theorem gen_sorted {a b : List Rule} : ∀ (n : Nat) (cs : List Int), (gen a b n cs).Pairwise lexLe
  | 0, cs => by simp [gen]
  | n + 1, cs => by
    refine pairwise_flat (fun x _ => gen_sorted n _) ((cuts_asc a b cs.length).imp fun {x y} hxy u hu v hv => ?_)
    obtain ⟨p, rfl⟩ := gen_app n hu
    obtain ⟨q, rfl⟩ := gen_app n hv
    rw [List.append_assoc, List.append_assoc]
    exact lexLe_app cs _ _ (.inl hxy)
theorem find_first {a b : List Rule} {s y : List Int} (h : (gen a b 12 []).find? (diffB a b) = some s) (hy : y ∈ gen a b 12 []) (hd : diffB a b y = true) : lexLe s y := by
  obtain ⟨_, us, vs, he, hno⟩ := List.find?_eq_some_iff_append.1 h
  have hs := gen_sorted (a := a) (b := b) 12 []
  rw [he] at hy hs
  rcases List.mem_append.1 hy with h1 | h1
  · have := hno y h1; simp [hd] at this
  · rcases List.mem_cons.1 h1 with rfl | h1
    · exact lexLe_refl _
    · exact (List.pairwise_cons.1 (List.pairwise_append.1 hs).2.1).1 y h1
/-- What is found is no later than any bytes of which rules say something else. -/
theorem found_first {a b : List Rule} (ha : RulesP a) (hb : RulesP b) {s cs : List Int} (h : (gen a b 12 []).find? (diffB a b) = some s) (hc : Came cs) (hd : diffB a b cs = true) : lexLe s cs := by
  have h1 := standL_gen a b 12 [] cs hc.1 hc.2
  have h2 := find_first h h1 (by rw [show [] ++ standL a b ([] : List Int).length cs = standL a b 0 cs from rfl, diffB_stand ha hb hc]; exact hd)
  exact lexLe_trans h2 (standL_le 0 cs hc.2)
end Go.Proofs.Ytdlnoabihfnmmaa.V

/- Plain laws: how many pieces there are, without a wrap; to say the same is to say the same both ways; tidied rules say the same. -/
namespace Go.Proofs.Ytdlnoabihfnmmaa.V
open Go Go.RowKit
set_option linter.unusedVariables false
set_option linter.unusedSimpArgs false
theorem nodup_sub {α : Type} [DecidableEq α] : ∀ {l m : List α}, l.Nodup → (∀ x ∈ l, x ∈ m) → l.length ≤ m.length
  | [], _, _, _ => Nat.zero_le _
  | x :: xs, m, hn, hs => by
    rw [List.nodup_cons] at hn
    have hx := hs x List.mem_cons_self
    have := nodup_sub (l := xs) (m := m.erase x) hn.2 fun y hy => (List.mem_erase_of_ne (fun e : y = x => by subst e; exact hn.1 hy)).2 (hs y (List.mem_cons_of_mem _ hy))
    rw [List.length_erase_of_mem hx] at this
    have h1 := List.length_pos_of_mem hx
    rw [List.length_cons]
    omega
/-- How many rules ask of a byte. -/
def askN (l : List Rule) (i : Int) : Nat := l.countP fun r => r.at_ == i
def askB (l : List Rule) (n : Nat) : Nat := l.countP fun r => decide (0 ≤ r.at_ ∧ r.at_ < (n : Int))
theorem askB_le (l : List Rule) (n : Nat) : askB l n ≤ l.length := List.countP_le_length
theorem askB_succ (n : Nat) : ∀ l : List Rule, askB l (n + 1) = askB l n + askN l n
  | [] => rfl
  | r :: rs => by
    have ih := askB_succ n rs
    unfold askB askN at *
    rw [List.countP_cons, List.countP_cons, List.countP_cons, ih]
    have h : ((if decide (0 ≤ r.at_ ∧ r.at_ < ((n + 1 : Nat) : Int)) = true then 1 else 0) : Nat) = (if decide (0 ≤ r.at_ ∧ r.at_ < (n : Int)) = true then 1 else 0) + (if (r.at_ == (n : Int)) = true then 1 else 0) := by
      simp only [decide_eq_true_eq, beq_iff_eq]
      split <;> split <;> split <;> omega
    omega
def askL (l : List Rule) (i : Int) : List Int := 0 :: (l.filter fun r => r.at_ == i).flatMap fun r => [r.num, r.num + 1]
theorem flat2_len {α : Type} (f g : α → Int) : ∀ l : List α, (l.flatMap fun r => [f r, g r]).length = 2 * l.length
  | [] => rfl
  | r :: rs => by rw [List.flatMap_cons, List.length_append, flat2_len f g rs, List.length_cons]; simp; omega
theorem cuts_few (a b : List Rule) (i : Int) : (cuts a b i).length ≤ 1 + 2 * askN (a ++ b) i := by
  have h1 : (cuts a b i).Nodup := (cuts_asc a b i).imp fun {x y} h e => by omega
  have h2 := nodup_sub (m := askL (a ++ b) i) h1 fun x hx => by
    unfold cuts at hx
    rw [mem_picks] at hx
    obtain ⟨n, rfl, hn, hf⟩ := hx
    simp only [decide_eq_true_eq] at hf
    rcases hf with h0 | ⟨r, hr, ha, hnum⟩
    · rw [h0]; exact List.mem_cons_self
    · refine List.mem_cons_of_mem _ (List.mem_flatMap.2 ⟨r, List.mem_filter.2 ⟨hr, by simpa using ha⟩, ?_⟩)
      rcases hnum with h | h
      · rw [h]; exact List.mem_cons_self
      · rw [h]; exact List.mem_cons_of_mem _ List.mem_cons_self
  refine Nat.le_trans h2 ?_
  unfold askL askN
  rw [List.length_cons, flat2_len, List.countP_eq_length_filter]
  omega
theorem cuts_some (a b : List Rule) (i : Int) : 1 ≤ (cuts a b i).length := by
  have : (0 : Int) ∈ cuts a b i := by
    unfold cuts
    rw [mem_picks]
    exact ⟨0, rfl, by omega, by simp [hits]⟩
  exact List.length_pos_of_mem this
theorem many_some {a b : List Rule} (h : (a ++ b).length ≤ 12) : ∀ n : Nat, ∃ p : Nat, many a b n = (p : Int) ∧ 1 ≤ p ∧ p ≤ 2 ^ (2 * askB (a ++ b) n)
  | 0 => ⟨1, rfl, Nat.le_refl _, Nat.two_pow_pos _⟩
  | n + 1 => by
    obtain ⟨p, hp, h1, h2⟩ := many_some h n
    have h3 := cuts_few a b n
    have h4 := cuts_some a b n
    have h5 : 1 + 2 * askN (a ++ b) n ≤ 2 ^ (2 * askN (a ++ b) n) := by have := Nat.lt_two_pow_self (n := 2 * askN (a ++ b) n); omega
    have h6 := askB_succ n (a ++ b)
    have h7 : p * (cuts a b n).length ≤ 2 ^ (2 * askB (a ++ b) (n + 1)) := by
      rw [h6, Nat.mul_add, Nat.pow_add]
      exact Nat.mul_le_mul h2 (Nat.le_trans h3 h5)
    have h8 := askB_le (a ++ b) (n + 1)
    have h9 : 2 ^ (2 * askB (a ++ b) (n + 1)) ≤ 2 ^ 24 := Nat.pow_le_pow_right (by omega) (by omega)
    refine ⟨p * (cuts a b n).length, ?_, Nat.mul_pos h1 h4, h7⟩
    rw [many, hp, ← Int.natCast_mul]
    exact i64_of (by omega) (by omega)
theorem pieces_pos {a b : List Rule} (ha : RulesP a) (hb : RulesP b) : 1 ≤ pieces a b := by
  obtain ⟨p, hp, h1, _⟩ := many_some (a := a) (b := b) (by rw [List.length_append]; have := ha.1; have := hb.1; omega) 12
  unfold pieces; omega
/-! ### both ways -/
theorem cuts_comm (a b : List Rule) (i : Int) : cuts a b i = cuts b a i := by
  unfold cuts
  refine picks_congr fun n _ => ?_
  rw [decide_eq_decide]
  unfold hits
  simp only [List.mem_append]
  constructor
  · rintro (h | ⟨r, hr, h⟩)
    · exact .inl h
    · exact .inr ⟨r, hr.symm, h⟩
  · rintro (h | ⟨r, hr, h⟩)
    · exact .inl h
    · exact .inr ⟨r, hr.symm, h⟩
theorem many_comm (a b : List Rule) : ∀ n, many a b n = many b a n
  | 0 => rfl
  | n + 1 => by rw [many, many, many_comm a b n, cuts_comm]
theorem gen_comm (a b : List Rule) : ∀ (n : Nat) (cs : List Int), gen a b n cs = gen b a n cs
  | 0, _ => rfl
  | n + 1, cs => by
    unfold gen
    rw [cuts_comm]
    congr 1
    funext x
    exact gen_comm a b n _
theorem diffB_comm (a b : List Rule) (cs : List Int) : diffB a b cs = diffB b a cs := by
  unfold diffB
  rw [bne_comm (a := (ruledL a cs).1), bne_comm (a := (ruledL a cs).2)]
theorem fres_snd (a b : List Rule) (n : Nat) (cs : List Int) : (fres a b n cs).2 = ((gen a b n cs).find? (diffB a b)).isSome := by
  unfold fres
  cases (gen a b n cs).find? (diffB a b) <;> rfl
theorem fres_comm (a b : List Rule) (n : Nat) (cs : List Int) : (fres a b n cs).2 = (fres b a n cs).2 := by
  rw [fres_snd, fres_snd, gen_comm, show diffB a b = diffB b a from funext (diffB_comm a b)]
theorem sameOk_comm {a b : List Rule} : SameOk a b ↔ SameOk b a := by
  unfold SameOk pieces
  rw [many_comm a b]
  exact ⟨fun h => ⟨h.2.1, h.1, h.2.2⟩, fun h => ⟨h.2.1, h.1, h.2.2⟩⟩
theorem sameRules_comm (a b : List Rule) : sameRules a b = sameRules b a := by
  unfold sameRules
  rw [fres_comm a b]
  by_cases h : SameOk a b
  · rw [if_pos h, if_pos (sameOk_comm.1 h)]
  · rw [if_neg h, if_neg (fun h2 => h (sameOk_comm.1 h2))]
theorem same_of {a b : List Rule} (ho : SameOk a b) (h : ∀ cs, Came cs → ruledL a cs = ruledL b cs) : sameRules a b = true := by
  unfold sameRules
  rw [if_pos ho, fres_snd]
  have : (gen a b 12 []).find? (diffB a b) = none := by
    rw [List.find?_eq_none]
    intro y hy
    have := gen_came 12 (by simp) (by simp) y hy
    simp [diffB, h y this]
  rw [this]; rfl
/-- What the search finds of rules that it looks at. -/
theorem sameFind_pos {a b : List Rule} (h : SameOk a b) : sameFind a b = fres a b 12 [] := by unfold sameFind; rw [if_pos h]
theorem samePieces_none {a b : List Rule} (h : samePieces a b < 0 ∨ samePieces a b > 400) : ¬ SameOk a b := by
  intro ho
  unfold samePieces at h
  rw [if_pos ⟨ho.1, ho.2.1⟩] at h
  have := pieces_pos ho.1 ho.2.1
  have := ho.2.2
  omega
theorem samePieces_ok {a b : List Rule} (h : ¬ (samePieces a b < 0 ∨ samePieces a b > 400)) : SameOk a b := by
  unfold samePieces at h
  split at h
  · rename_i h2
    exact ⟨h2.1, h2.2, by omega⟩
  · simp at h
/-- Rules say the same as themselves, and as they tidied. -/
theorem same_self {a : List Rule} (h : RulesP a) : samePieces a a > 400 ∨ sameRules a a = true := by
  rcases Int.lt_or_le 400 (samePieces a a) with h1 | h1
  · exact .inl h1
  · refine .inr (same_of ?_ fun _ _ => rfl)
    unfold samePieces at h1
    rw [if_pos ⟨h, h⟩] at h1
    exact ⟨h, h, h1⟩
theorem same_tidy {a : List Rule} (h : RulesP a) : samePieces a (tidyR a) > 400 ∨ sameRules a (tidyR a) = true := by
  have e : tidyR a = tidyL kn0 a := by unfold tidyR; rw [if_pos h]
  rw [e]
  have ht := tidy_ok h
  rcases Int.lt_or_le 400 (samePieces a (tidyL kn0 a)) with h1 | h1
  · exact .inl h1
  · refine .inr (same_of ?_ fun cs hc => (tidy_ruled (fits0 hc) h.2).symm)
    unfold samePieces at h1
    rw [if_pos ⟨h, ht⟩] at h1
    exact ⟨h, ht, h1⟩
end Go.Proofs.Ytdlnoabihfnmmaa.V

/- Contracts: what rules say of any text; two rows of rules are the same; texts in their order. -/
namespace Go.Proofs.Ytdlnoabihfnmmaa.V
open Go Go.RowKit
set_option linter.unusedVariables false
set_option linter.unusedSimpArgs false
/-- The bytes of a text. -/
def numsOf (s : ByteArray) : List Int := s.data.toList.map fun b => (b.toNat : Int)
theorem str_nums (s : ByteArray) : strOfNums (numsOf s) = s := by
  apply ByteArray.ext
  apply Array.ext'
  rw [strOfNums_data]
  rw [numsOf, List.map_map]
  conv => rhs; rw [← List.map_id s.data.toList]
  apply List.map_congr_left
  intro b _
  apply UInt8.toNat_inj.1
  simp
theorem nums_str {cs : List Int} (h : ∀ x ∈ cs, 0 ≤ x ∧ x ≤ 255) : numsOf (strOfNums cs) = cs := by
  unfold numsOf
  rw [strOfNums_data, List.map_map]
  conv => rhs; rw [← List.map_id cs]
  apply List.map_congr_left
  intro x hx
  have := h x hx
  simp; omega
theorem came_nums {s : ByteArray} (h : s.size = 12) : Came (numsOf s) := by
  refine ⟨by simp [numsOf]; exact h, fun x hx => ?_⟩
  simp only [numsOf, List.mem_map] at hx
  obtain ⟨b, _, rfl⟩ := hx
  have := b.toNat_lt
  omega
/-- What rules say of a text. -/
def rulesOf (l : List Rule) (s : ByteArray) : Int × Int := if RulesP l ∧ s.size = 12 then ruledL l (numsOf s) else (-1, 0)
theorem rulesOf_tidy {l : List Rule} (h : RulesP l) (s : ByteArray) : rulesOf (tidyR l) s = rulesOf l s := by
  have ht : tidyR l = tidyL kn0 l := by unfold tidyR; rw [if_pos h]
  unfold rulesOf
  rw [ht]
  by_cases h2 : s.size = 12
  · rw [if_pos ⟨tidy_ok h, h2⟩, if_pos ⟨h, h2⟩]
    exact tidy_ruled (fits0 (came_nums h2)) h.2
  · rw [if_neg (fun c => h2 c.2), if_neg (fun c => h2 c.2)]
theorem sameFind_none {a b : List Rule} (h : SameOk a b) (ho : (sameFind a b).2 = false) (s : ByteArray) : rulesOf a s = rulesOf b s := by
  rw [sameFind_pos h, fres_snd] at ho
  unfold rulesOf
  by_cases h2 : s.size = 12
  · rw [if_pos ⟨h.1, h2⟩, if_pos ⟨h.2.1, h2⟩]
    have := none_same h.1 h.2.1 (by simpa using ho) (came_nums h2)
    simp [diffB] at this
    exact Prod.ext this.1 this.2
  · rw [if_neg (fun c => h2 c.2), if_neg (fun c => h2 c.2)]
theorem sameFind_some {a b : List Rule} (h : SameOk a b) (ho : (sameFind a b).2 = true) : ∃ cs, (gen a b 12 []).find? (diffB a b) = some cs ∧ (sameFind a b).1 = strOfNums cs := by
  rw [sameFind_pos h] at ho ⊢
  rw [fres_snd] at ho
  obtain ⟨cs, hc⟩ := Option.isSome_iff_exists.1 ho
  exact ⟨cs, hc, by unfold fres; rw [hc]⟩
theorem sameFind_diff {a b : List Rule} (h : SameOk a b) (ho : (sameFind a b).2 = true) : rulesOf a (sameFind a b).1 ≠ rulesOf b (sameFind a b).1 := by
  obtain ⟨cs, hc, he⟩ := sameFind_some h ho
  obtain ⟨hd, hm⟩ := some_diff hc
  rw [he]
  have hs : (strOfNums cs).size = 12 := by rw [strOfNums_size]; exact hm.1
  unfold rulesOf
  rw [if_pos ⟨h.1, hs⟩, if_pos ⟨h.2.1, hs⟩, nums_str hm.2]
  simp [diffB] at hd
  intro e
  rw [e] at hd
  simp at hd
theorem less_lex : ∀ {us vs : List UInt8}, lexLe (us.map fun b => (b.toNat : Int)) (vs.map fun b => (b.toNat : Int)) → Op.bytesLess us vs = true ∨ us = vs
  | [], [], _ => .inr rfl
  | [], _ :: _, _ => .inl rfl
  | _ :: _, [], h => h.elim
  | u :: us, v :: vs, h => by
    rcases h with h | ⟨h1, h2⟩
    · left
      have h' : (u.toNat : Int) < v.toNat := h
      have : u < v := by rw [UInt8.lt_iff_toNat_lt]; omega
      simp [Op.bytesLess, this]
    · have h' : (u.toNat : Int) = v.toNat := h1
      have e : u = v := UInt8.toNat_inj.1 (by omega)
      subst e
      rcases less_lex h2 with h3 | h3
      · left; simp [Op.bytesLess, h3]
      · right; rw [h3]
theorem sameFind_first {a b : List Rule} (h : SameOk a b) (ho : (sameFind a b).2 = true) {s : ByteArray} (hd : rulesOf a s ≠ rulesOf b s) : (Op.bytesLess (sameFind a b).1.toList s.toList || (sameFind a b).1.toList == s.toList) = true := by
  obtain ⟨cs, hc, he⟩ := sameFind_some h ho
  obtain ⟨_, hm⟩ := some_diff hc
  have h2 : s.size = 12 := by
    refine Decidable.byContradiction fun h2 => hd ?_
    unfold rulesOf
    rw [if_neg (fun c => h2 c.2), if_neg (fun c => h2 c.2)]
  have hdb : diffB a b (numsOf s) = true := by
    unfold rulesOf at hd
    rw [if_pos ⟨h.1, h2⟩, if_pos ⟨h.2.1, h2⟩] at hd
    simp [diffB]
    by_cases h1 : (ruledL a (numsOf s)).1 = (ruledL b (numsOf s)).1
    · right
      exact fun h2 => hd (Prod.ext h1 h2)
    · left; exact h1
  have hl := found_first h.1 h.2.1 hc (came_nums h2) hdb
  rw [he, ByteArray.toList_eq, ByteArray.toList_eq]
  rw [← nums_str hm.2] at hl
  rcases less_lex hl with h3 | h3
  · rw [h3]; rfl
  · rw [h3]; simp
theorem leqStr {a b : ByteArray} {x y : Operand} {w : World} {K : Bool → World → Prop} (hk : K (Op.bytesLess a.toList b.toList || a.toList == b.toList) w) :
    RunT (.o (.lf .b)) P0 (do eqGuard .leq 9 x y (.string a) (.string b); binOp .leq 9 (.string a) (.string b)) w K :=
  ⟨_, w, by rw [show eqGuard .leq 9 x y (.string a) (.string b) = pure () from rfl]; simp [binOp, Op.stringOp, Rs.emb, Ty.emb, Lf.emb], hk⟩
section
variable {w : World} {s : Sl} {l : List Rule}
theorem impl.RulesOf.c {came : ByteArray} {K : Int × Int × Unit → World → Prop} (h : SlR kRule w s l) (hk : ∀ w', Below w.heap.size w w' → K ((rulesOf l came).1, (rulesOf l came).2, ()) w') :
    CallT (.n [(.lf (.i .i64)), (.lf (.i .i64))]) P0 11 [s.v, .string came] w K := by
  refine impl.RulesOf.ok (impl.RulesOk.c h fun w1 b1 => ?_)
  unfold rulesOf at hk
  refine And.intro (fun h1 => ?_) (fun h1 => And.intro (fun h2 => ?_) (fun h2 => ?_))
  · simp only [Bool.not_eq_true', decide_eq_false_iff_not] at h1
    rw [if_neg (fun c => h1 c.1)] at hk
    exact hk _ b1
  · simp only [bne_iff_ne, ne_eq] at h2
    rw [if_neg (fun c => h2 (by omega))] at hk
    exact hk _ b1
  · simp only [Bool.not_eq_false', decide_eq_true_eq] at h1
    have h3 : came.size = 12 := by simp at h2; omega
    rw [if_pos ⟨h1, h3⟩] at hk
    have := impl.ruled.c (K := fun t16 w2 => K (t16.1, (t16.2.1, ())) w2) (h.below b1) h1 (came_nums h3) fun w2 b2 => hk w2 (b1.trans (b2.mono b1.size))
    rw [str_nums] at this
    exact this
end
theorem neqRule {x y : Rule} {xo yo : Operand} {w : World} {K : Bool → World → Prop} (hk : K (decide (x ≠ y)) w) :
    RunT (.o (.lf .b)) P0 (do eqGuard .neq 48 xo yo (.agg (Tup.cells (R 5 (.i .i64)) x.t).toArray) (.agg (Tup.cells (R 5 (.i .i64)) y.t).toArray); binOp .neq 48 (.agg (Tup.cells (R 5 (.i .i64)) x.t).toArray) (.agg (Tup.cells (R 5 (.i .i64)) y.t).toArray)) w K := by
  rcases x with ⟨a0, a1, a2, a3, a4⟩
  rcases y with ⟨b0, b1, b2, b3, b4⟩
  refine ⟨_, w, ?_, hk⟩
  show (do eqGuard .neq 48 xo yo (.agg #[.int .i64 a0, .int .i64 a1, .int .i64 a2, .int .i64 a3, .int .i64 a4]) (.agg #[.int .i64 b0, .int .i64 b1, .int .i64 b2, .int .i64 b3, .int .i64 b4]); binOp .neq 48 (.agg #[.int .i64 a0, .int .i64 a1, .int .i64 a2, .int .i64 a3, .int .i64 a4]) (.agg #[.int .i64 b0, .int .i64 b1, .int .i64 b2, .int .i64 b3, .int .i64 b4]) : Sem Value).run P0 w = _
  have hg := run_eqGuard_agg (P := P0) w .neq 48 xo yo #[.int .i64 a0, .int .i64 a1, .int .i64 a2, .int .i64 a3, .int .i64 a4] #[.int .i64 b0, .int .i64 b1, .int .i64 b2, .int .i64 b3, .int .i64 b4] (by kernel_rfl)
  have ht : P0.underlying 48 = some (.struct (P0.fieldsOf 48)) := by kernel_rfl
  have hf : (P0.fieldsOf 48).toList = [Field.mk "At" 3 0 false "" "" 0, Field.mk "Op" 3 1 false "" "" 8, Field.mk "Num" 3 2 false "" "" 16, Field.mk "Verdict" 3 3 false "" "" 24, Field.mk "Key" 3 4 false "" "" 32] := by kernel_rfl
  have hi : P0.underlying 3 = some (.int .i64) := by kernel_rfl
  have hag : aggT P0 3 = some false := by kernel_rfl
  have hp : ∀ (cs : Array Value) (j : Nat) (h : j < cs.size), (part 3 cs j).run P0 w = .ok cs[j] w := fun cs j h => by simp [part, run_isAgg hag, Array.getElem?_eq_getElem h]
  simp only [Sem.run_bind, hg, Result.andThen_ok, run_neq_struct, run_equalIn_agg (P := P0) w 9999 48 _ _ ht (by kernel_rfl), hf]
  by_cases e0 : a0 = b0 <;> by_cases e1 : a1 = b1 <;> by_cases e2 : a2 = b2 <;> by_cases e3 : a3 = b3 <;> by_cases e4 : a4 = b4 <;>
    simp [Op.eqFields, hp, run_equalIn_int (P := P0) w 9998 3 .i64 .i64 _ _ hi, e0, e1, e2, e3, e4, Rs.emb, Ty.emb, Lf.emb]
section
variable {w : World} {a b : Sl} {xs ys : List Rule}
theorem laws.sgRules.c {K : Bool → World → Prop} (ha : SlR kRule w a xs) (hb : SlR kRule w b ys) (hk : ∀ w', Below w.heap.size w w' → K (decide (xs = ys)) w') : CallT (.o (.lf .b)) P0 7 [a.v, b.v] w K := by
  have hna := ha.len; have hnb := hb.len; have hm := ha.max
  refine laws.sgRules.ok ?_
  unfold laws.sgRules.vc
  refine And.intro (fun h => kof (hk _ (Below.refl _ _)) ?_) (fun h => ?_)
  · rw [bne_len] at h
    simp only [decide_eq_false_iff_not]; rintro rfl; omega
  · have hle : xs.length = ys.length := by simp at h; omega
    refine ⟨fun i w' => ∃ n : Nat, i = n ∧ n ≤ xs.length ∧ (∀ j < n, xs[j]? = ys[j]?) ∧ Below w.heap.size w w', fun i _ => xs.length - i.toNat, ⟨0, rfl, by omega, by simp, Below.refl _ _⟩, ?_⟩
    rintro i w1 ⟨n, rfl, hn, hE, hb1⟩ _
    refine And.intro (fun hlt => ?_) (fun hge => ?_)
    · simp only [decide_eq_true_eq] at hlt
      obtain ⟨x, hx⟩ := get_some (l := xs) (k := n) (by omega)
      obtain ⟨y, hy⟩ := get_some (l := ys) (k := n) (by omega)
      have ha1 := ha.below hb1
      have hb1' := hb.below hb1
      refine ⟨Below w1.heap.size, belOk _, AtV w1.heap.size (Tup.cells (R 5 (.i .i64)) x.t), keptAv, eqG x.t, keptE, AtV w1.heap.size (Tup.cells (R 5 (.i .i64)) y.t), keptAv, eqG y.t, keptE, eqG (decide (x ≠ y)), keptE, ?_⟩
      refine ⟨fun w' hs => ?_, fun t19 => ⟨fun w' hs f => ?_, fun t20 => ⟨fun w' hs => ?_, fun t23 => ⟨fun w' hs f => ?_, fun t24 => ⟨fun w' hs f20 f24 => ?_, fun t25 w2 hs _ _ _ _ f25 => ?_⟩⟩⟩⟩⟩
      · exact ixRb (ha1.below hs) (by omega) (x := x) (by simpa using hx) rfl fun b o hb hA => ⟨⟨b, o, none⟩, rfl, Below.refl _ _, b, o, rfl, bk_lt ha1 hx (v := .int .i64 x.at_) rfl hb, hA⟩
      · obtain ⟨b, o, rfl, _, hA⟩ := f
        exact ldAv hA (gkE rfl (Below.refl _ _))
      · exact ixRb (hb1'.below hs) (by omega) (x := y) (by simpa using hy) rfl fun b o hb hA => ⟨⟨b, o, none⟩, rfl, Below.refl _ _, b, o, rfl, bk_lt hb1' hy (v := .int .i64 y.at_) rfl hb, hA⟩
      · obtain ⟨b, o, rfl, _, hA⟩ := f
        exact ldAv hA (gkE rfl (Below.refl _ _))
      · cases f20; cases f24
        exact neqRule (gkE rfl (Below.refl _ _))
      · cases f25
        have hbb := hb1.trans (hs.mono hb1.size)
        refine And.intro (fun hne => kof (hk _ hbb) ?_) (fun he => ?_)
        · simp only [decide_eq_true_eq] at hne
          simp only [decide_eq_false_iff_not]; rintro rfl; rw [hx] at hy; simp at hy; exact hne hy
        · have he : x = y := by simpa using he
          simp (disch := omega) only [i64_of]
          refine ⟨⟨n + 1, by omega, by omega, fun j hj => ?_, hbb⟩, by omega⟩
          rcases Nat.lt_or_ge j n with h1 | h1
          · exact hE j h1
          · obtain rfl : j = n := by omega
            rw [hx, hy, he]
    · simp only [decide_eq_false_iff_not] at hge
      refine kof (hk _ hb1) ?_
      simp only [decide_eq_true_eq]
      exact take_ext hle fun j x hx => by rw [← hE j (by have := lt_of_get hx; omega)]; exact hx
end
end Go.Proofs.Ytdlnoabihfnmmaa.V

/- Contracts: the draws of the flow's laws, and what the laws use. -/
namespace Go.Proofs.Ytdlnoabihfnmmaa.V
open Go Go.RowKit
set_option linter.unusedVariables false
set_option linter.unusedSimpArgs false
section
variable {w : World} {a b : Sl} {xs ys : List Int}
end
theorem u8_all {bs : List Int} (h : ∀ x ∈ bs, (Lit.int .u8 x).wf = true) : ∀ x ∈ bs, 0 ≤ x ∧ x ≤ 255 := fun x hx => by
  have := h x hx
  simp only [Lit.wf, Bool.and_eq_true, decide_eq_true_eq] at this
  exact this
section
variable {w : World} {code : Sl} {bs : List Int}
/-- What a draw of a program begins with. -/
theorem prog0 {Kp : Option Addr → World → Prop} (h : SlR kU8 w code bs) (hb : ∀ x ∈ bs, 0 ≤ x ∧ x ≤ 255)
    (hk : ∀ w1, Below w.heap.size w w1 → RdS w.heap.size w.heap.size 0 w1 → Kp (some ⟨w.heap.size, 0, none⟩) w1) : CallT (.o (.lf .p)) P0 18 [code.v] w Kp := spec.l20Open.c h hb hk
end
end Go.Proofs.Ytdlnoabihfnmmaa.V

/- The law RulesTidy: tidied rules say the same. No condition. -/
namespace Go.Proofs.Ytdlnoabihfnmmaa.V
open Go Go.RowKit
set_option linter.unusedVariables false
set_option linter.unusedSimpArgs false
theorem tidyR_ok {l : List Rule} (h : RulesP l) : RulesP (tidyR l) := by unfold tidyR; rw [if_pos h]; exact tidy_ok h
theorem tidyR_idem {l : List Rule} (h : RulesP l) : tidyR (tidyR l) = tidyR l := by
  have h2 := tidyR_ok h
  have e : tidyR l = tidyL kn0 l := by unfold tidyR; rw [if_pos h]
  have e2 : tidyR (tidyR l) = tidyL kn0 (tidyR l) := if_pos h2
  rw [e2, e, tidy_idem]
set_option maxHeartbeats 1000000 in
theorem laws.FnRulesTidy.pure {w : World} (s : Sl) (bs : List Int) (h : SlR kU8 w s bs ∧ ∀ x ∈ bs, (Lit.int .u8 x).wf = true) (s2 : Sl) (bs2 : List Int) (h2 : SlR kU8 w s2 bs2 ∧ ∀ x ∈ bs2, (Lit.int .u8 x).wf = true) :
    CallT (.o (.lf .b)) P0 3 [s.v, s2.v] w fun b w' => b = true ∧ Below w.heap.size w w' := by
  refine laws.FnRulesTidy.ok ⟨fun w' => w' = w, And.intro (fun _ => ⟨rfl, Below.refl _ _⟩) (fun _ => And.intro (fun _ => ⟨rfl, Below.refl _ _⟩) (fun _ => rfl)), ?_⟩
  rintro w0 rfl _
  refine spec.DrawRulesTidy.c h.1 (u8_all h.2) fun r w1 xs b1 hr hx6 => ?_
  refine impl.RulesTidy.c hr fun f w2 b2' hf => ?_
  have b2 := b1.trans (b2'.mono b1.size)
  have hr2 := hr.below b2'
  refine ⟨fun w' => Below w2.heap.size w2 w' ∧ RulesP xs, ?_, ?_⟩
  · have same : ∀ {w' : World}, Below w2.heap.size w2 w' → CallT (.o (.lf .sl)) P0 8 [r.v] w' fun (t37 : Sl) w5 => CallT (.o (.lf .b)) P0 7 [f.v, t37.v] w5 fun (t38 : Bool) w6 => t38 = true ∧ Below w0.heap.size w0 w6 := by
      intro w' hw'
      refine spec.RulesTidy.c (hr2.below hw') fun g w3 b3' hg => ?_
      refine laws.sgRules.c ((hf.below hw').below b3') hg fun w4 b4' => ?_
      refine ⟨by simp, b2.trans ((hw'.trans ((b3'.trans (b4'.mono b3'.size)).mono hw'.size)).mono b2.size)⟩
    refine spec.RulesTidy.c hr2 fun g w3 b3' hg => ?_
    refine laws.sgRules.c (hf.below b3') hg fun w4 b4' => ?_
    have b34 := b3'.trans (b4'.mono b3'.size)
    refine And.intro (fun hc => by simp at hc) (fun _ => ?_)
    refine impl.RulesOk.c (hr2.below b34) fun w5 b5' => ?_
    have b35 := b34.trans (b5'.mono b34.size)
    refine And.intro (fun _ => same b35) (fun hp => ⟨b35, by simpa using hp⟩)
  · rintro w3 ⟨b3', hp⟩ _
    have b3 := b2.trans (b3'.mono b2.size)
    refine spec.DrawRulesOf.c (h2.1.below b3) (u8_all h2.2) fun ra came w4 b4' => ?_
    have b34 := b3'.trans (b4'.mono b3'.size)
    refine impl.RulesOf.c (hr2.below b34) fun w5 b5' => ?_
    have b35 := b34.trans (b5'.mono b34.size)
    refine impl.RulesOf.c (hf.below b35) fun w6 b6' => ?_
    have b36 := b35.trans (b6'.mono b35.size)
    have hf6 := hf.below b36
    have B6 := b2.trans (b36.mono b2.size)
    refine And.intro (fun _ => ?_) (fun hc => ?_)
    · refine impl.RulesOk.c hf6 fun w7 b7' => ?_
      refine And.intro (fun _ => ?_) (fun hc => ?_)
      · refine impl.RulesTidy.c (hf6.below b7') fun g w8 b8' hg => ?_
        have b68 := b7'.trans (b8'.mono b7'.size)
        refine laws.sgRules.c hg (hf6.below b68) fun w9 b9' => ?_
        have b69 := b68.trans (b9'.mono b68.size)
        refine And.intro (fun _ => And.intro (fun _ => ⟨?_, B6.trans (b69.mono B6.size)⟩) (fun hc => ?_)) (fun hc => ?_)
        · simp [rulesOf_tidy hp]
        · exfalso; simp [rulesOf_tidy hp] at hc
        · exfalso; simp [tidyR_idem hp] at hc
      · exfalso; simp [tidyR_ok hp] at hc
    · exfalso
      have hn := hr.len
      have hm := hf.len
      have hl := tidyR_len xs
      simp only [decide_eq_false_iff_not] at hc
      omega
end Go.Proofs.Ytdlnoabihfnmmaa.V

/- The row of FnRulesTidy: it returns true and leaves its input as it was, whatever the input. PRINTED by row.py out of the law of the same name. -/
namespace Go.Proofs.Ytdlnoabihfnmmaa.V
open Go Go.RowKit Go.ChangeShapes Go.WideShapes Go.ChangeAt
open Go.ChangeMaps (open_string shut_string)
set_option linter.unusedVariables false
set_option maxRecDepth 100000 in
theorem FnRulesTidy.lifted (os : Os) (started : os.Started) (H : Type) (enc : TypeId × Value → H) :
    ReturnsInHanded {} Try.checked os 3 .any (Rows.fnRulesTidySpec.pre6 enc P0 Try.f3 Rows.fnRulesTidyRow.domain false) (Rows.fnRulesTidySpec.post enc P0 Try.f3 false true false false) := by
  refine returnsInHanded_of_change_sized (C := Try.checked) own started (by kernel_rfl) Try.func3
    (ChangeSpec.witness6 (enc := enc) (C := Try.checked) false ⟨#[], #[.slice none 0 0, .slice none 0 0], []⟩ 8 (by kernel_rfl) (by kernel_rfl) (by kernel_rfl) (by kernel_rfl)) ?_
  intro W base args ds gs before hval0 hW hcnd hsz0 _
  have hsz : (DataW.weightsEach P0 (Try.f3.params.toList ++ Rows.fnRulesTidySpec.plain.varTypes P0) (ds ++ gs)).all (· ≤ reachBytes) = true := hsz0
  have hval : ∀ (j : Nat) t v, Try.f3.params[j]? = some t → args[j]? = some v → Value.okWide P0 W .any base t v := hval0
  have hW' := hW
  obtain ⟨p, q, hA0, hV, rfl, hfz, hnd⟩ := hW
  have hA : DataW.TrodAll enc P0 W 0 (fun _ => true) true Try.f3.params.toList args.toList ds p := hA0
  rw [Try.params3] at hA hval hsz
  obtain ⟨v0, vs0, d0, ds0, p0, q0, hargs, rfl, rfl, h0, r0⟩ := trodAll_cons hA
  obtain ⟨v1, vs1, d1, ds1, p1, q1, rfl, rfl, rfl, h1, r1⟩ := trodAll_cons r0
  obtain ⟨rfl, rfl, rfl⟩ := trodAll_nil r1
  obtain rfl : args = #[v0, v1] := by cases args; simp_all
  obtain ⟨rfl, rfl⟩ := trodVars_none hV
  obtain ⟨a0, len0, cap0, rfl⟩ := okWide_slice Try.underlying22 (hval 0 22 v0 rfl rfl)
  have k0 := h0
  have lt0 : ∀ x ∈ p0, x.block < W.heap.size := by obtain ⟨m, hm⟩ := k0; exact DataW.trod_lt m _ _ _ hm
  obtain ⟨l0, w0⟩ : ∃ l, SlR kU8 W ⟨a0, len0, cap0⟩ l ∧ ∀ x ∈ l, (Lit.int .u8 x).wf = true := by
    obtain ⟨fuel, hf⟩ := h0
    exact open_nums (e := 5) Try.underlying22 Try.underlying5 (by kernel_rfl) hf
  obtain ⟨a1, len1, cap1, rfl⟩ := okWide_slice Try.underlying22 (hval 1 22 v1 rfl rfl)
  have k1 := h1
  have lt1 : ∀ x ∈ p1, x.block < W.heap.size := by obtain ⟨m, hm⟩ := k1; exact DataW.trod_lt m _ _ _ hm
  obtain ⟨l1, w1⟩ : ∃ l, SlR kU8 W ⟨a1, len1, cap1⟩ l ∧ ∀ x ∈ l, (Lit.int .u8 x).wf = true := by
    obtain ⟨fuel, hf⟩ := h1
    exact open_nums (e := 5) Try.underlying22 Try.underlying5 (by kernel_rfl) hf
  clear hA0 hval0 hsz0 hsz
  refine Calls.mono (laws.FnRulesTidy.pure (w := W) ⟨a0, len0, cap0⟩ l0 w0 ⟨a1, len1, cap1⟩ l1 w1) fun e W' he => ?_
  obtain ⟨x, he, hx, bel⟩ := he
  subst hx
  subst he
  exact ⟨_, rfl, _, _, _, [], _, [], hW', trodAll_mk1 (shut_bool Try.underlying4 _), (trodAll_cons_mk (Below.trod laidOut (by kernel_rfl) (of_decide_eq_true (by kernel_rfl)) k0 bel lt0) (trodAll_cons_mk (Below.trod laidOut (by kernel_rfl) (of_decide_eq_true (by kernel_rfl)) k1 bel lt1) trodAll_mk0)), rfl, bel.frame _, fun h => by cases h⟩
theorem FnRulesTidy.over : Rows.fnRulesTidyRow.holds Try.pinned (OpenSpec.ofChange Rows.fnRulesTidySpec) :=
  OpenClaim.holds_of_wide 3 Try.f3 rfl rfl rfl rfl rfl rfl rfl ⟨rfl, rfl, rfl, rfl, rfl⟩ rfl rfl rfl rfl rfl (by kernel_rfl) Try.func3 (by kernel_rfl)
    (of_decide_eq_true (by kernel_rfl)) (by unfold Func.isWrapper; first | (rw [if_pos (by decide +kernel)]; kernel_rfl) | (rw [if_neg (by decide +kernel)]; exact ⟨rfl, rfl⟩))
    (fun os started H enc _ => FnRulesTidy.lifted os started H enc)
end Go.Proofs.Ytdlnoabihfnmmaa.V
namespace Go.Proofs.Ytdlnoabihfnmmaa
/-- The row, under a short name, for the claim. -/
theorem fnRulesTidy_holds : Rows.FnRulesTidySaid := V.FnRulesTidy.over
#print axioms fnRulesTidy_holds
end Go.Proofs.Ytdlnoabihfnmmaa
