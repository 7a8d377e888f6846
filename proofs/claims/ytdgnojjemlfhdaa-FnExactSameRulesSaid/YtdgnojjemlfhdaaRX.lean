/- Contracts: the search; SameFind, SameRules on both sides. -/
import Derived.Test.YtdgnojjemlfhdaaRU
namespace Go.Proofs.Ytdgnojjemlfhdaa.V
open Go Go.RowKit
set_option linter.unusedVariables false
set_option linter.unusedSimpArgs false
theorem results_leave {r : Rs} {env : Env} {w : World} {fn : Func} {K : r.T → World → Prop} (hr : r.fine = true) (h : resK P0 fn.results.toList r.tys env w fun t => K (r.of t) w) :
    LeavesInM (Rd none) 0 P0 fn (act [] env).tmps (fun e w' => ∃ x, e = .returned (r.emb x) ∧ K x w') [] .returning w := by
  obtain ⟨x, hx, hrun⟩ := results_run (ds := []) (env := env) hr h
  exact ⟨_, hrun, x, rfl, hx⟩
/-- What is known between two rounds. -/
structure DiI (la lb : List Rule) (sa sb : Sl) (b2 b3 b4 b5 : Nat) (w0 : World) (pre : List (List Int)) (W : World) : Prop where
  bel : Below w0.heap.size w0 W
  h2 : ∃ t, W.heap[b2]? = some (.cells #[sa.v] t (0, 0))
  h3 : ∃ t, W.heap[b3]? = some (.cells #[sb.v] t (0, 0))
  h4 : ∃ t, W.heap[b4]? = some (.cells #[.string ByteArray.empty] t (0, 0))
  h5 : ∃ t, W.heap[b5]? = some (.cells #[.bool false] t (0, 0))
  no : ∀ x ∈ pre, diffB la lb x = false
structure DiX (la lb : List Rule) (b4 b5 : Nat) (w0 : World) (pre : List (List Int)) (W : World) : Prop where
  bel : Below w0.heap.size w0 W
  ex : ∃ q x, pre = q ++ [x] ∧ (∀ y ∈ q, diffB la lb y = false) ∧ diffB la lb x = true ∧ (∃ t, W.heap[b4]? = some (.cells #[.string (strOfNums x)] t (0, 0))) ∧ ∃ t, W.heap[b5]? = some (.cells #[.bool true] t (0, 0))
theorem find_none {la lb : List Rule} {l : List (List Int)} (h : ∀ x ∈ l, diffB la lb x = false) : l.find? (diffB la lb) = none := by
  rw [List.find?_eq_none]; intro x hx; simp [h x hx]
theorem find_some' {la lb : List Rule} {l q : List (List Int)} {x : List Int} (hp : q ++ [x] <+: l) (h : ∀ y ∈ q, diffB la lb y = false) (hx : diffB la lb x = true) : l.find? (diffB la lb) = some x := by
  obtain ⟨u, hu⟩ := hp
  rw [← hu, List.append_assoc, List.find?_append, find_none h]
  simp [List.find?_cons, hx]
theorem gen_came {la lb : List Rule} : ∀ (n : Nat) {cs : List Int}, cs.length + n = 12 → (∀ x ∈ cs, 0 ≤ x ∧ x ≤ 255) → ∀ y ∈ gen la lb n cs, Came y
  | 0, cs, hn, hx, y, hy => by
    simp only [gen, List.mem_singleton] at hy
    subst hy; exact ⟨by omega, hx⟩
  | n + 1, cs, hn, hx, y, hy => by
    simp only [gen, List.mem_flatMap] at hy
    obtain ⟨x, hxc, hy⟩ := hy
    exact gen_came n (by simp; omega) (fun z hz => by rcases List.mem_append.1 hz with h | h; exact hx z h; simp at h; subst h; exact cuts_byte hxc) y hy
theorem zStr : zc P0 9 = #[.string ByteArray.empty] := by kernel_rfl
theorem zBool : zc P0 4 = #[.bool false] := by kernel_rfl
section
variable {la lb : List Rule} {sa sb : Sl} {w : World}
set_option maxHeartbeats 2000000 in
set_option maxRecDepth 100000 in
theorem impl.differ.c (hpa : RulesP la) (hpb : RulesP lb) (ha : SlR kRule w sa la) (hb : SlR kRule w sb lb) {K : ByteArray × Bool × Unit → World → Prop} (hk : ∀ w', Below w.heap.size w w' → K ((fres la lb 12 []).1, (fres la lb 12 []).2, ()) w') :
    CallT (.n [(.lf .s), (.lf .b)]) P0 70 [sa.v, sb.v] w K := by
  refine callM_of Try.func70 differ_code (step_seq (differ_r0 ?_))
  refine nw fun w1 b1 s1 c1 => nw fun w2 b2 s2 c2 => nw fun w3 b3 s3 c3 => nw fun w4 b4 s4 c4 => ?_
  rw [zStr] at c3
  rw [zBool] at c4
  have b12 := b1.trans (b2.mono (by omega))
  have b13 := b12.trans (b3.mono (by omega))
  have b14 := b13.trans (b4.mono (by omega))
  have h2 := (b4.block _ (by omega)).trans ((b3.block _ (by omega)).trans ((b2.block _ (by omega)).trans c1))
  have h3 := (b4.block _ (by omega)).trans ((b3.block _ (by omega)).trans c2)
  have h4 := (b4.block _ (by omega)).trans c3
  refine wpIn_seq (step_seq (differ_r1 ?_))
  refine ldB0 h2 (x := sa) rfl (ldB0 h3 (x := sb) rfl ?_)
  refine impl.everyPiece.ok (nw fun w5 b5 s5 c5 => nw fun w6 b6 s6 c6 => ?_)
  have b56 := b5.trans (b6.mono (by omega))
  have b16 := b14.trans (b56.mono (by omega))
  have i5 := (b6.block _ (by omega)).trans c5
  refine wpIn_block ?_
  have hI0 : DiI la lb sa sb w.heap.size w1.heap.size w2.heap.size w3.heap.size w [] w6 := ⟨b16, ⟨_, (b56.block _ (by omega)).trans h2⟩, ⟨_, (b56.block _ (by omega)).trans h3⟩, ⟨_, (b56.block _ (by omega)).trans h4⟩, ⟨_, (b56.block _ (by omega)).trans c4⟩, by simp⟩
  have keep : ∀ {A B : World} {k : Nat} {o : Obj}, k < w6.heap.size → A.heap[k]? = some o → Below w6.heap.size A B → B.heap[k]? = some o := fun hk h hab => (hab.block _ hk).trans h
  have hs6 : w3.heap.size < w6.heap.size ∧ w2.heap.size < w6.heap.size ∧ w1.heap.size < w6.heap.size ∧ w.heap.size < w6.heap.size := by have := b56.size; omega
  refine rf_law (n := 0) (α := List Int) (gf := 109) (lb := #[.pointer (some ⟨w4.heap.size, 0, none⟩), .pointer (some ⟨w5.heap.size, 0, none⟩)]) (by rw [act_eval]; rfl) (enters_ok (by kernel_rfl)) (encs := fun x => #[.string (strOfNums x)]) (fun _ => rfl) Came
    (DiI la lb sa sb w.heap.size w1.heap.size w2.heap.size w3.heap.size w) (DiX la lb w2.heap.size w3.heap.size w) ?_ ?_ hI0 (gen la lb 12 []) (fun x => act [] (dEnv sa sb ⟨w.heap.size, 0, none⟩ ⟨w1.heap.size, 0, none⟩ ⟨w2.heap.size, 0, none⟩ ⟨w3.heap.size, 0, none⟩ (.string (strOfNums x)) sa.v sb.v (.func (.func 109) #[] #[.pointer (some ⟨w4.heap.size, 0, none⟩), .pointer (some ⟨w5.heap.size, 0, none⟩)]) (.string (strOfNums x)))) ?_ ?_ ?_ ?_ ?_
  · rintro s A B h hab
    obtain ⟨t2, q2⟩ := h.h2
    obtain ⟨t3, q3⟩ := h.h3
    obtain ⟨t4, q4⟩ := h.h4
    obtain ⟨t5, q5⟩ := h.h5
    exact ⟨h.bel.trans (hab.mono (by omega)), ⟨t2, keep (by omega) q2 hab⟩, ⟨t3, keep (by omega) q3 hab⟩, ⟨t4, keep (by omega) q4 hab⟩, ⟨t5, keep (by omega) q5 hab⟩, h.no⟩
  · rintro s A B h hab
    obtain ⟨q, x, e, h1, h2, ⟨t4, q4⟩, t5, q5⟩ := h.ex
    exact ⟨h.bel.trans (hab.mono (by omega)), q, x, e, h1, h2, ⟨t4, keep (by omega) q4 hab⟩, t5, keep (by omega) q5 hab⟩
  · intro l W J Jx hW hWs hJ hJx hY h0
    have hl4 : w4.heap.size < w6.heap.size := by omega
    have hl5 : w5.heap.size < w6.heap.size := by omega
    have c5' : W.heap[w4.heap.size]? = _ := keep hl4 i5 hW
    have c6' : W.heap[w5.heap.size]? = _ := keep hl5 c6 hW
    have := impl.everyPiece_1.c hpa hpb hJ hY ⟨_, c5'⟩ ⟨_, c6'⟩ (ha.below (b16.trans (hW.mono (by omega)))) (hb.below (b16.trans (hW.mono (by omega)))) h0
    exact Calls.mono this fun e W' ⟨x, he, hx⟩ => ⟨⟨_, he⟩, hx.imp id (fun ⟨q, h1, h2⟩ => ⟨q, h1, h2⟩)⟩
  · intro l x W K' hK
    refine Eq.mpr (congrArg (fun a => Code.wpIn (Rd (some l)) 0 P0 dAs (Exit.then K' fun _ _ _ => False) a W) differ_yield) ?_
    exact step_one (differ_as hK)
  · intro l pre x W hok hI hW
    refine step_body (differ_body ?_)
    obtain ⟨t2, q2⟩ := hI.h2
    obtain ⟨t3, q3⟩ := hI.h3
    obtain ⟨t4, q4⟩ := hI.h4
    obtain ⟨t5, q5⟩ := hI.h5
    refine ldB0 q2 (x := sa) rfl ?_
    refine impl.ruled.c (ha.below hI.bel) hpa hok fun u1 d1 => ?_
    refine ldB0 ((d1.block _ (by omega)).trans q3) (x := sb) rfl ?_
    refine impl.ruled.c (hb.below (hI.bel.trans (d1.mono hI.bel.size))) hpb hok fun u2 d2 => ?_
    have d12 := d1.trans (d2.mono d1.size)
    have hsW := d12.size
    have fin : diffB la lb x = true → St ⟨w2.heap.size, 0, none⟩ (.string (strOfNums x)) u2 fun u3 => St ⟨w3.heap.size, 0, none⟩ (.bool true) u3 fun u4 => KeepsHi w6.heap.size W u4 ∧ DiX la lb w2.heap.size w3.heap.size w (pre ++ [x]) u4 := by
      intro hd
      refine stB0 ((d12.block _ (by omega)).trans q4) rfl (by simp) fun u3 g3 e3 k3 => ?_
      refine stB0 (blk_kept ((d12.block _ (by omega)).trans q5) g3 (by omega)) rfl (by simp) fun u4 g4 e4 k4 => ?_
      refine ⟨⟨by omega, fun k h1 h2 => ?_⟩, ?_, pre, x, rfl, hI.no, hd, ⟨_, blk_kept k3 g4 (by omega)⟩, ⟨_, k4⟩⟩
      · rw [g4.block k (by omega) (by simp only [ne_eq, Option.some.injEq]; omega), g3.block k (by omega) (by simp only [ne_eq, Option.some.injEq]; omega)]
        exact d12.block k h2
      · have := hI.bel.trans (d12.mono hI.bel.size)
        exact (this.grown g3 this.size (fun b hb => by simp only [Option.some.injEq] at hb; omega)).grown g4 (by have := this.size; have := g3.size; omega) (fun b hb => by simp only [Option.some.injEq] at hb; omega)
    refine And.intro (fun hd => fin (by unfold diffB; rw [hd]; rfl)) (fun hd => And.intro (fun hd2 => fin (by unfold diffB; rw [hd2]; simp)) (fun hd2 => ?_))
    have kk : ∀ {k : Nat} {o : Obj}, k < W.heap.size → W.heap[k]? = some o → u2.heap[k]? = some o := fun hk h => (d12.block _ hk).trans h
    refine ⟨d12, hI.bel.trans (d12.mono hI.bel.size), ⟨t2, kk (by omega) q2⟩, ⟨t3, kk (by omega) q3⟩, ⟨t4, kk (by omega) q4⟩, ⟨t5, kk (by omega) q5⟩, fun y hy => ?_⟩
    rcases List.mem_append.1 hy with h | h
    · exact hI.no y h
    · simp only [List.mem_singleton] at h
      subst h
      unfold diffB; rw [hd, hd2]; rfl
  · intro W hI hD
    obtain ⟨t4, q4⟩ := hI.h4
    obtain ⟨t5, q5⟩ := hI.h5
    refine step_seq (ds := [{ target := .collected w6.heap.size, args := #[] }]) (pl := .r (D 2)) (differ_r7 ?_)
    refine stB0 q4 rfl (by simp) fun u3 g3 e3 k3 => ?_
    refine stB0 (blk_kept q5 g3 (by omega)) rfl (by simp) fun u4 g4 e4 k4 => ?_
    have hD4 := blk_kept (blk_kept hD g3 (by omega)) g4 (by omega)
    have k34 := blk_kept k3 g4 (by omega)
    refine wpIn_ret ⟨by simp, .inl ⟨_, _, rfl, run_takeDeferred hD4, results_leave rfl (differ_res (x := ⟨#[]⟩) (b := false) ?_ ?_ ?_)⟩⟩
    · have := cell_of ((World.putObj_heap_other (o := .deferred none) (w := u4) (r := w6.heap.size) (k := w2.heap.size) (by omega)).trans k34) 0
      rw [this]; rfl
    · have := cell_of ((World.putObj_heap_other (o := .deferred none) (w := u4) (r := w6.heap.size) (k := w3.heap.size) (by omega)).trans k4) 0
      rw [this]; rfl
    · have hb4 : Below w.heap.size w u4 := (hI.bel.grown g3 hI.bel.size (fun b hb => by simp only [Option.some.injEq] at hb; omega)).grown g4 (by have := hI.bel.size; have := g3.size; omega) (fun b hb => by simp only [Option.some.injEq] at hb; omega)
      have := hk _ (hb4.trans (below_putObj (l := w6.heap.size) (o := .deferred none) (by omega)))
      unfold fres at this
      rw [find_none hI.no] at this
      exact this
  · intro pre W hp hX hD
    obtain ⟨q, x, rfl, h1, h2, ⟨t4, q4⟩, t5, q5⟩ := hX.ex
    refine ⟨by simp, .inl ⟨_, _, rfl, run_takeDeferred hD, results_leave rfl (differ_res (x := strOfNums x) (b := true) ?_ ?_ ?_)⟩⟩
    · have := cell_of ((World.putObj_heap_other (o := .deferred none) (w := W) (r := w6.heap.size) (k := w2.heap.size) (by omega)).trans q4) 0
      rw [this]; rfl
    · have := cell_of ((World.putObj_heap_other (o := .deferred none) (w := W) (r := w6.heap.size) (k := w3.heap.size) (by omega)).trans q5) 0
      rw [this]; rfl
    · have := hk _ (hX.bel.trans (below_putObj (l := w6.heap.size) (o := .deferred none) (by omega)))
      unfold fres at this
      rw [find_some' hp h1 h2] at this
      exact this
end
end Go.Proofs.Ytdgnojjemlfhdaa.V
