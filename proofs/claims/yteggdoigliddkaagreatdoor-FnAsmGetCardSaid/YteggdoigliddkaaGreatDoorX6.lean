/- The tied row of FnAsmGet: where the listed variables of the library's are as its text lays them, it returns true and leaves its input as it was, whatever the input. PRINTED by rowt.py out of the law of the same name. -/
import Derived.Test.YteggdoigliddkaaGreatDoorRows
import Derived.Test.YteggdoigliddkaaGreatDoorCards
import Derived.Test.YteggdoigliddkaaGreatDoorTie
import Derived.Lay
import Derived.SevenTiedAt
import Derived.Test.YteggdoigliddkaaGreatDoorX5
/- Contracts: lines with marks are read, in the reference. -/
namespace Go.Proofs.YteggdoigliddkaaGreatDoor.V
open Go Go.RowKit
set_option linter.unusedVariables false
set_option linter.unusedSimpArgs false
set_option maxRecDepth 20000 in
theorem noIdx {n q : Int} (h : n = 17 ∨ n = 18) (hq : szP q) : Lib.idxOfS (opW.map bs) (bs (opA n ++ Lib.itoa q)) = -1 := by
  have hs' : 0 ≤ q ∧ q ≤ 9 := by unfold szP at hq; omega
  rw [itoa_one hs']
  unfold szP at hq
  rcases h with rfl | rfl <;> rcases hq with rfl | rfl | rfl <;> decide
theorem headW_idx {x : Ins} (hp : InsP x) : (goesP x → Lib.idxOfS (opW.map bs) (bs (headW x)) = x.op) ∧ (¬ goesP x → ¬ (12 ≤ Lib.idxOfS (opW.map bs) (bs (headW x)) ∧ Lib.idxOfS (opW.map bs) (bs (headW x)) ≤ 16)) := by
  have hop := insP_op hp
  unfold headW
  by_cases h : x.op = 17 ∨ x.op = 18
  · have hs : szP x.size := by have := hp.2.2.2.2; grind [BareP]
    rw [if_pos h, noIdx h hs]
    unfold goesP
    constructor
    · intro h2; omega
    · intro _; omega
  · rw [if_neg h, opIdxA (by omega)]
    unfold goesP
    constructor
    · intro _; rfl
    · intro h2; exact h2
/-- The lines that are left. -/
noncomputable def tailL (L : List Ins) (n : Nat) (half : Bool) : List By :=
  if half = true then (match L[n]? with | some x => opL L n x :: linesR L (n + 1) (L.drop (n + 1)) | none => []) else linesR L n (L.drop n)
def PosS (L : List Ins) (rest : List By) (atL : List Int) (opsL : List ByteArray) : Prop :=
  ∃ (n : Nat) (half : Bool), n ≤ L.length ∧ (half = true → n < L.length ∧ jmp L n = true) ∧ rest = tailL L n half ∧ atL = picks (if half = true then n + 1 else n) (jmp L) ∧ opsL.length = n ∧ ∀ i x, i < n → L[i]? = some x → opsL[i]? = some (bs (lineO x (offT L i x)))
section
variable {L : List Ins} {rest : List By} {atL : List Int} {opsL : List ByteArray}
theorem PosS.start : PosS L (cutN 10 (textA L L.length).length (textA L L.length)) [] [] :=
  ⟨0, false, by omega, fun h => by simp at h, by rw [cut_lines]; simp [tailL], by simp [picks], rfl, fun i x h => by omega⟩
theorem PosS.step {line : By} {rest' : List By} (h : PosS L (line :: rest') atL opsL) (hr : rest' ≠ []) :
    (line = 109 :: Lib.itoa (atL.length : Int) ++ [58] ∧ PosS L rest' (atL ++ [(opsL.length : Int)]) opsL) ∨
    (∃ n x, L[n]? = some x ∧ line = 32 :: lineO x (offT L n x) ∧ PosS L rest' atL (opsL ++ [bs (lineO x (offT L n x))])) := by
  obtain ⟨n, half, h1, h2, h3, h4, h5, h6⟩ := h
  have hn : n < L.length := by
    rcases Nat.lt_or_ge n L.length with h | h
    · exact h
    · exfalso
      have hf : half = false := by
        cases hh : half with
        | false => rfl
        | true => have := (h2 hh).1; omega
      rw [hf] at h3
      unfold tailL at h3
      rw [if_neg (by simp), List.drop_eq_nil_of_le h] at h3
      simp only [linesR, List.cons.injEq] at h3
      exact hr h3.2
  obtain ⟨x, hx⟩ := get_some (l := L) (k := n) hn
  have op : (jmp L n = true → half = true) → (half = true → jmp L n = true) → PosS L (linesR L (n + 1) (L.drop (n + 1))) atL (opsL ++ [bs (lineO x (offT L n x))]) := by
    intro hj hj2
    refine ⟨n + 1, false, hn, fun h => by simp at h, by unfold tailL; rw [if_neg (by simp)], ?_, by simp [h5], fun i y hi hy => ?_⟩
    · rw [h4]
      show picks (if half = true then n + 1 else n) (jmp L) = picks (n + 1) (jmp L)
      by_cases hh : half = true
      · rw [if_pos hh]
      · rw [if_neg hh, picks_succ, if_neg (fun h => hh (hj h))]
    · rcases Nat.lt_or_ge i n with h | h
      · rw [List.getElem?_append_left (by omega)]; exact h6 i y h hy
      · obtain rfl : i = n := by omega
        rw [hx] at hy; simp only [Option.some.injEq] at hy; subst hy
        rw [List.getElem?_append_right (by omega), h5, Nat.sub_self]; rfl
  cases hh : half with
  | true =>
    rw [hh] at h3
    unfold tailL at h3
    rw [if_pos rfl, hx] at h3
    simp only [List.cons.injEq] at h3
    refine .inr ⟨n, x, hx, h3.1, ?_⟩
    rw [h3.2]; exact op (fun _ => hh) (fun h => (h2 h).2)
  | false =>
    rw [hh] at h3 h4
    unfold tailL at h3
    rw [if_neg (by simp), linesR_step hx] at h3
    by_cases hj : jmp L n = true
    · rw [if_pos hj] at h3
      simp only [List.cons.injEq] at h3
      refine .inl ⟨?_, n, true, h1, fun _ => ⟨hn, hj⟩, by rw [h3.2]; unfold tailL; rw [if_pos rfl, hx], ?_, h5, h6⟩
      · rw [h3.1, h4]; rfl
      · rw [h4, h5, if_pos rfl, picks_succ, if_pos hj]; rfl
    · rw [if_neg hj] at h3
      simp only [List.cons.injEq] at h3
      refine .inr ⟨n, x, hx, h3.1, ?_⟩
      rw [h3.2]; exact op (fun h => absurd h hj) (fun h => by rw [hh] at h; simp at h)
theorem PosS.fin {line : By} (h : PosS L [line] atL opsL) : line = [] ∧ atL = picks L.length (jmp L) ∧ opsL.length = L.length ∧ ∀ i x, L[i]? = some x → opsL[i]? = some (bs (lineO x (offT L i x))) := by
  obtain ⟨n, half, h1, h2, h3, h4, h5, h6⟩ := h
  have hf : half = false ∧ n = L.length := by
    cases hh : half with
    | true =>
      exfalso
      obtain ⟨x, hx⟩ := get_some (l := L) (k := n) (h2 hh).1
      rw [hh] at h3
      unfold tailL at h3
      rw [if_pos rfl, hx] at h3
      simp only [List.cons.injEq] at h3
      exact linesR_ne _ _ _ h3.2.symm
    | false =>
      refine ⟨rfl, ?_⟩
      rcases Nat.lt_or_ge n L.length with h | h
      · exfalso
        obtain ⟨x, hx⟩ := get_some (l := L) (k := n) h
        rw [hh] at h3
        unfold tailL at h3
        rw [if_neg (by simp), linesR_step hx] at h3
        split at h3
        · simp at h3
        · simp only [List.cons.injEq] at h3
          exact linesR_ne _ _ _ h3.2.symm
      · omega
  obtain ⟨rfl, rfl⟩ := hf
  unfold tailL at h3
  rw [if_neg (by simp), List.drop_eq_nil_of_le (Nat.le_refl _)] at h3
  simp only [linesR, List.cons.injEq, and_true] at h3
  exact ⟨h3, by rw [h4, if_neg (by simp)], h5, fun i x hx => h6 i x (lt_of_get hx) hx⟩
theorem lineO_ne {x : Ins} {off : By} (hp : InsP x) : lineO x off ≠ [] := by
  have hop := insP_op hp
  have h : ∀ k < 21, 0 < k → opA ((k : Nat) : Int) ≠ [] := by decide
  have h2 : opA x.op ≠ [] := by
    have := h x.op.toNat (by omega) (by omega)
    rwa [show ((x.op.toNat : Nat) : Int) = x.op by omega] at this
  unfold lineO
  repeat' split
  all_goals simp [h2]
end
section
variable {w : World} {l : By}
set_option maxHeartbeats 4000000 in
theorem spec.l13Places.t {K : Sl × Sl × Bool × Unit → World → Prop} (hl : l.length ≤ 1048576)
    (hk : ∀ a o ok w' atL opsL, Below w.heap.size w w' → SlR kI w' a atL → SlR kS w' o opsL → (∀ p ∈ atL, 0 ≤ p ∧ p ≤ 1048577) → (∀ z ∈ opsL, z.size ≤ 1048576) → (ok = true → opsL.length ≤ 48) →
      (∀ L, formP L = 0 → textA L L.length = l → ok = true ∧ atL = picks L.length (jmp L) ∧ opsL.length = L.length ∧ ∀ i x, L[i]? = some x → opsL[i]? = some (bs (lineO x (offT L i x)))) → K (a, o, ok, ()) w') :
    CallT (.n [(.lf .sl), (.lf .sl), (.lf .b)]) P0 17 [.string (bs l)] w K := by
  refine spec.l13Places.ok (nw fun w1 b1 s1 c1 => nw fun w2 b2' s2 c2 => ?_)
  have b2 := b1.trans (b2'.mono b1.size)
  have hs1 := b1.size
  have hs2 := b2'.size
  have oa2 : OwnS kI 3 w.heap.size w2 ⟨some ⟨w.heap.size, 0, none⟩, 0, 0⟩ [] := (OwnS.lit (k := kI) (B := w.heap.size) (xs := []) (n := 0) (Nat.le_refl _) c1 rfl rfl (by simp)).below b2'
  have oo2 : OwnS kS 9 w.heap.size w2 ⟨some ⟨w1.heap.size, 0, none⟩, 0, 0⟩ [] := OwnS.lit (k := kS) (B := w.heap.size) (xs := []) (n := 0) hs1 c2 rfl rfl (by simp)
  rw [bs_size]
  refine spec.l1Cut.t (c := 10) (most := l.length) (by omega) (by omega) fun t15 w3 b3' o3 => ?_
  have b3 := b2.trans (b3'.mono b2.size)
  generalize hzs : cutN 10 l.length l = zs at o3
  have hzn : zs ≠ [] := by rw [← hzs]; exact cutN_ne _ _ _
  have hz1 := List.length_pos_iff.2 hzn
  have hzl : zs.length ≤ l.length + 1 := by rw [← hzs]; exact cutN_len _ _ _
  have hzm : ∀ z ∈ zs, z.length ≤ l.length := fun z hz => by rw [← hzs] at hz; exact cutN_mem hz
  have hwn := o3.len
  rw [List.length_map] at hwn
  have el : IntKind.wrap .i64 ((t15.n : Int) - 1) = ((zs.length - 1 : Nat) : Int) := by rw [i64_of (by omega) (by omega)]; omega
  rw [el]
  have hs3 := b3'.size
  have t15b : ∀ b, t15.bk = some b → w2.heap.size ≤ b ∧ b < w3.heap.size := fun b hb => o3.blk (b := b) (by rw [ob_bk]; exact hb)
  refine ⟨fun a o i w' => ∃ (k : Nat) (atL : List Int) (opsL : List ByteArray), i = k ∧ k ≤ zs.length - 1 ∧ OwnS kI 3 w.heap.size w' a atL ∧ OwnS kS 9 w.heap.size w' o opsL ∧ atL.length ≤ k ∧ opsL.length ≤ k ∧ (∀ p ∈ atL, 0 ≤ p ∧ p ≤ 1048577) ∧ (∀ z ∈ opsL, z.size ≤ 1048576) ∧
      Below w.heap.size w w' ∧ w3.heap.size ≤ w'.heap.size ∧ SlR kS w' t15 (zs.map bs) ∧ (∀ b, o.bk = some b ∨ a.bk = some b → t15.bk ≠ some b) ∧ (∀ L, formP L = 0 → textA L L.length = l → PosS L (zs.drop k) atL opsL), fun _ _ i _ => zs.length - i.toNat,
    ⟨0, [], [], rfl, by omega, oa2.below b3', oo2.below b3', by simp, by simp, by simp, by simp, b3, Nat.le_refl _, o3.read, fun b hb e => ?_, fun L _ he => ?_⟩, ?_⟩
  · have := t15b b e
    rcases hb with hb | hb <;> (simp [Sl.bk] at hb; omega)
  · rw [List.drop_zero, ← hzs, ← he]; exact PosS.start
  rintro a o i w4 ⟨k, atL, opsL, rfl, hk1, oa4, oo4, hal, hol, hap, hos, b4, hs4, hz4, hsep, hL⟩ _
  have han := oa4.len
  have hon := oo4.len
  have ending : ∀ (w' : World), Below w4.heap.size w4 w' → (∀ L, formP L = 0 → textA L L.length = l → False) → K (⟨none, 0, 0⟩, (⟨none, 0, 0⟩, (false, ()))) w' := fun w' hb hno =>
    hk _ _ false w' [] [] (b4.trans (hb.mono b4.size)) (SlR.nil _ _) (SlR.nil _ _) (by simp) (by simp) (fun h => by simp at h) (fun L hp he => (hno L hp he).elim)
  refine And.intro (fun hlt => ?_) (fun hge => ?_)
  · simp only [decide_eq_true_eq] at hlt
    obtain ⟨line, hline⟩ := get_some (l := zs) (k := k) (by omega)
    have hll := hzm line (List.mem_of_getElem? hline)
    have hdrop : zs.drop k = line :: zs.drop (k + 1) := getElem?_drop_cons hline
    have hne : zs.drop (k + 1) ≠ [] := fun e => by have := List.drop_eq_nil_iff.1 e; omega
    have step := fun L hp he => PosS.step (hdrop ▸ hL L hp he) hne
    have ei : IntKind.wrap .i64 ((k : Int) + 1) = ((k + 1 : Nat) : Int) := by rw [i64_of (by omega) (by omega)]; omega
    rw [ei]
    refine ixL hz4 (i := k) (by omega) (x := bs line) (by simp [hline]) rfl (l := .s) (v := bs line) rfl ?_
    have ea := itoa_len (n := (atL.length : Int)) (by omega) (by omega)
    rw [han]
    refine spec.l1Dec.t (by omega) (by omega) fun w5 b5' => ⟨szB (a := [109]) (by simp; omega), ?_, ?_⟩
    · rw [e109, bs_app]; exact szB (b := [58]) (by simp; omega)
    have e58' : (⟨#[58]⟩ : ByteArray) = bs [58] := rfl
    rw [e109, e58', bs_app, bs_app, bs_toList, bs_toList]
    have b5 := b4.trans (b5'.mono b4.size)
    have hs5 := b5'.size
    refine And.intro (fun he => ?_) (fun hnm => ?_)
    · have he : line = [109] ++ Lib.itoa (atL.length : Int) ++ [58] := by simpa using he
      refine ap1 elI (oa4.below b5') ((o.n : Nat) : Int) rfl (by omega) (by omega) b5.size fun a' w6 oa6 g6 hbk => ?_
      have hao : ∀ b, (Value.slice a.a a.n a.c).ownBlock = some b → t15.bk ≠ some b := fun b hb => hsep b (.inr (by rw [← ob_bk]; exact hb))
      have no : ∀ {b : Nat} {s : Sl} {xs : List ByteArray}, OwnS kS 9 w.heap.size w5 s xs → (Value.slice a.a a.n a.c).ownBlock = some b → (Value.slice s.a s.n s.c).ownBlock ≠ some b := fun hs hb => own_ne (oa4.below b5') hs (by decide) hb
      refine ⟨⟨k + 1, _, opsL, rfl, by omega, oa6, (oo4.below b5').kept g6 (fun b hb => no (oo4.below b5') hb), by simp; omega, by omega, fun p hp => ?_, hos, b5.grown g6 b5.size (fun b hb => ((oa4.below b5').blk hb).1), Nat.le_trans hs4 (Nat.le_trans hs5 g6.size), (hz4.below b5').kept2 g6 (fun b oo ha e => hao b e (by simp [Sl.bk, ha])), fun b hb e => ?_, fun L hp he2 => ?_⟩, by simp only [Int.toNat_natCast]; omega⟩
      · rcases List.mem_append.1 hp with h | h
        · exact hap p h
        · simp only [List.mem_singleton] at h; omega
      · rcases hb with hb | hb
        · exact hsep b (.inl hb) e
        · rcases hbk b (by rw [ob_bk]; exact hb) with h | h
          · exact hao b h e
          · have := (t15b b e).2; omega
      · rcases step L hp he2 with ⟨_, h2⟩ | ⟨n, x, hx, h2, _⟩
        · rw [hon]; exact h2
        · rw [he] at h2; simp at h2
    · have hnm : line ≠ [109] ++ Lib.itoa (atL.length : Int) ++ [58] := by simpa using hnm
      have opc : ∀ L, formP L = 0 → textA L L.length = l → ∃ n x, L[n]? = some x ∧ line = 32 :: lineO x (offT L n x) ∧ PosS L (zs.drop (k + 1)) atL (opsL ++ [bs (lineO x (offT L n x))]) := fun L hp he => by
        rcases step L hp he with ⟨h1, _⟩ | h
        · exact absurd h1 hnm
        · exact h
      rw [bs_size]
      refine And.intro (fun h1 => ?_) (fun h1 => ending w5 b5' fun L hp he => ?_)
      · simp only [decide_eq_true_eq] at h1
        obtain ⟨c, hc⟩ := get_some (l := line) (k := 0) (by omega)
        refine sxB (by omega) (by simpa using hc) (And.intro (fun h32 => ?_) (fun h32 => ending w5 b5' fun L hp he => ?_))
        · refine slS (lo := some 1) (hi := none) (f := 1) (k := line.length) rfl rfl (by omega) (Nat.le_refl _) ?_
          have hd : (line.drop 1).take (line.length - 1) = line.drop 1 := List.take_of_length_le (by simp)
          rw [hd]
          have oo5 := oo4.below b5'
          refine ap1 elS oo5 (bs (line.drop 1)) rfl (by omega) (by omega) b5.size fun o' w6 oo6 g6 hbk => ?_
          have hoo : ∀ b, (Value.slice o.a o.n o.c).ownBlock = some b → t15.bk ≠ some b := fun b hb => hsep b (.inl (by rw [← ob_bk]; exact hb))
          refine ⟨⟨k + 1, atL, _, rfl, by omega, (oa4.below b5').kept g6 (fun b hb => own_ne oo5 (oa4.below b5') (by decide) hb), oo6, by omega, by simp; omega, hap, fun z hz => ?_, b5.grown g6 b5.size (fun b hb => (oo5.blk hb).1), Nat.le_trans hs4 (Nat.le_trans hs5 g6.size), (hz4.below b5').kept2 g6 (fun b oo ha e => hoo b e (by simp [Sl.bk, ha])), fun b hb e => ?_, fun L hp he => ?_⟩, by simp only [Int.toNat_natCast]; omega⟩
          · rcases List.mem_append.1 hz with h | h
            · exact hos z h
            · simp only [List.mem_singleton] at h; subst h; rw [bs_size]; simp; omega
          · rcases hb with hb | hb
            · rcases hbk b (by rw [ob_bk]; exact hb) with h | h
              · exact hoo b h e
              · have := (t15b b e).2; omega
            · exact hsep b (.inr hb) e
          · obtain ⟨n, x, hx, h2, h3⟩ := opc L hp he
            rw [h2]; exact h3
        · obtain ⟨n, x, hx, h2, h3⟩ := opc L hp he
          rw [h2] at hc
          simp only [List.getElem?_cons_zero, Option.some.injEq] at hc
          rw [← hc] at h32; simp at h32
      · obtain ⟨n, x, hx, h2, h3⟩ := opc L hp he
        simp only [decide_eq_false_iff_not] at h1
        have := List.length_pos_iff.2 (lineO_ne (off := offT L n x) (formP_ins hp (List.mem_of_getElem? hx)))
        rw [h2] at h1; simp at h1; omega
  · simp only [decide_eq_false_iff_not] at hge
    have hkk : k = zs.length - 1 := by omega
    obtain ⟨line, hline⟩ := get_some (l := zs) (k := zs.length - 1) (by omega)
    have hdrop : zs.drop k = [line] := by rw [hkk, getElem?_drop_cons hline, List.drop_eq_nil_of_le (by omega)]
    have fin := fun L hp he => PosS.fin (hdrop ▸ hL L hp he)
    refine ixL hz4 (i := ((zs.length - 1 : Nat) : Int)) (by omega) (x := bs line) (by simp [hline]) rfl (l := .s) (v := bs line) rfl ?_
    rw [eqEmpty]
    refine And.intro (fun h => ?_) (fun h => ?_)
    · refine hk a o _ w4 atL opsL b4 oa4.read oo4.read hap hos (fun h2 => by simp only [decide_eq_true_eq] at h2; omega) fun L hp he => ?_
      obtain ⟨f1, f2, f3, f4⟩ := fin L hp he
      have hz := formP_size hp
      exact ⟨decide_eq_true (by omega), f2, f3, f4⟩
    · refine hk a o false w4 atL opsL b4 oa4.read oo4.read hap hos (fun h2 => by simp at h2) fun L hp he => ?_
      have := (fin L hp he).1
      rw [this] at h; simp at h
end
end Go.Proofs.YteggdoigliddkaaGreatDoor.V

/- Contracts: an op's line with a mark is read, and all lines, in the reference. -/
namespace Go.Proofs.YteggdoigliddkaaGreatDoor.V
open Go Go.RowKit
set_option linter.unusedVariables false
set_option linter.unusedSimpArgs false
section
variable {w : World} {l : By}
set_option maxHeartbeats 4000000 in
theorem spec.l13Read.t {k : Nat} {pl : Sl} {ps : List Int} {K : Tup (R 6 (.i .i64)) × Bool × Unit → World → Prop} (ht : Te w) (hl : l.length ≤ 1048576) (hk1 : k ≤ 1048577) (hpl : SlR kI w pl ps) (hpb : ∀ p ∈ ps, 0 ≤ p ∧ p ≤ 1048577)
    (hk : ∀ (r : Ins) ok w', Below w.heap.size w w' → (∀ L x, formP L = 0 → ps = picks L.length (jmp L) → L[k]? = some x → l = lineO x (offT L k x) → ok = true ∧ r = x) → K (r.t, ok, ()) w') :
    CallT (.n [(.ag (R 6 (.i .i64))), (.lf .b)]) P0 18 [.string (bs l), .int .i64 (k : Int), pl.v] w K := by
  have hpn := hpl.len
  refine spec.l13Read.ok (nwIz fun w1 b1 s1 c1 => ?_)
  have hs1 := b1.size
  refine spec.l1Cut.t (c := 32) (most := 5) (by omega) (by omega) fun t13 w2 b2' o2 => ?_
  have b2 := b1.trans (b2'.mono hs1)
  have hs2 := b2'.size
  have c2 := (b2'.block _ (by omega)).trans c1
  generalize hws : cutN 32 5 l = ws at o2
  have hwne : ws ≠ [] := by rw [← hws]; exact cutN_ne _ _ _
  have hw1 := List.length_pos_iff.2 hwne
  have hwm : ∀ z ∈ ws, z.length ≤ l.length := fun z hz => by rw [← hws] at hz; exact cutN_mem hz
  have hwl : ws.length ≤ l.length + 1 := by rw [← hws]; exact cutN_len _ _ _
  have hwn := o2.len
  rw [List.length_map] at hwn
  have el : IntKind.wrap .i64 ((t13.n : Int) - 1) = ((ws.length - 1 : Nat) : Int) := by rw [i64_of (by omega) (by omega)]; omega
  rw [el]
  obtain ⟨last, hlast⟩ := get_some (l := ws) (k := ws.length - 1) (by omega)
  have hll := hwm last (List.mem_of_getElem? hlast)
  obtain ⟨w0, hw0⟩ := get_some (l := ws) (k := 0) (by omega)
  refine ixL o2.read (i := ((ws.length - 1 : Nat) : Int)) (by omega) (x := bs last) (by simp [hlast]) rfl (l := .s) (v := bs last) rfl ?_
  -- what is known of such a line
  have base : ∀ L x, formP L = 0 → L[k]? = some x → l = lineO x (offT L k x) → InsP x ∧ ws = lineW x (offT L k x) ∧ w0 = headW x := by
    intro L x hp hx he
    have hix := formP_ins hp (List.mem_of_getElem? hx)
    have hw : ws = lineW x (offT L k x) := by
      rw [← hws, he, lineO_words]
      exact cutN_join 5 (lineW_ne _ _) (by have := lineW_len x (offT L k x); omega) (lineW_no (.inr (.inl rfl)) (offT_no (.inr (.inl rfl)) L k x))
    refine ⟨hix, hw, ?_⟩
    rw [hw] at hw0
    have := lineW_head (x := x) (off := offT L k x)
    rw [hw0] at this
    exact Option.some.inj this
  generalize hidx : Lib.idxOfS (opW.map bs) (bs w0) = idx
  have goes : ∀ L x, formP L = 0 → L[k]? = some x → l = lineO x (offT L k x) → 12 ≤ idx ∧ idx ≤ 16 → goesP x ∧ last = markT (cntJ L (tgt k x).toNat) := by
    intro L x hp hx he hi
    obtain ⟨hix, hw, h0⟩ := base L x hp hx he
    have hg : goesP x := Classical.byContradiction fun hg => (headW_idx hix).2 hg (by rw [← h0, hidx]; exact hi)
    refine ⟨hg, ?_⟩
    obtain ⟨init, hin, hli⟩ := lineW_last hg
    rw [hw, hli] at hlast
    have hh : (init ++ [offT L k x]).length - 1 = init.length := by simp
    rw [hh, List.getElem?_append_right (Nat.le_refl _), Nat.sub_self] at hlast
    simp only [List.getElem?_cons_zero, Option.some.injEq] at hlast
    rw [← hlast]; unfold offT; rw [if_pos hg]
  have wd : ∀ {w' : World}, SlR kS w' t13 (ws.map bs) → ∀ {K : Addr → World → Prop}, (∀ a, AtW [.string (bs w0)] a w' → K a w') → Ix t13.a t13.n 0 1 w' K := fun {w'} ho {K} hK =>
    ixRb ho (i := 0) (by omega) (x := bs w0) (by simp [hw0]) rfl fun b o hb hA => hK _ ⟨b, o, rfl, bk_lt ho (i := 0) (x := bs w0) (by simp [hw0]) (v := .string (bs w0)) rfl hb, hA⟩
  refine ⟨StR, stOk w2, fun r w' => SlR kS w' r (opW.map bs), keptSl, AtW [.string (bs w0)], keptAw, eqG (bs w0), keptE, eqG idx, keptE, ?_⟩
  refine ⟨fun w' hs => spec.l1Words.t fun r w'' hb ho => ⟨r, rfl, hb, ho.read⟩, fun t20 => ⟨fun w' hs => wd (o2.read.below hs) fun a ha => ⟨a, rfl, Below.refl _ _, ha⟩, fun t22 => ⟨fun w' hs f => wordLd f (gkE rfl (Below.refl _ _)), fun t23 => ⟨fun w' hs f20 f23 => ?_, fun t24 w3 hs _ _ _ f24 => ?_⟩⟩⟩⟩
  · cases f23; rw [← hidx]; exact spec.l1Find.t f20 (gkE rfl (Below.refl _ _))
  cases f24
  have b3' : Below w2.heap.size w2 w3 := hs
  have b3 := b2.trans (b3'.mono b2.size)
  have c3 := (b3'.block _ (by omega)).trans c2
  have hpl3 := hpl.below b3
  have hs3 := b3'.size
  have fin : ∀ {w' : World} (y : Ins) (ok : Bool), Below w.heap.size w w' → w'.heap[w.heap.size]? = some (bI ins0) → (∀ L x, formP L = 0 → ps = picks L.length (jmp L) → L[k]? = some x → l = lineO x (offT L k x) → ok = true ∧ y = x) →
      StA P0 ⟨w.heap.size, 0, none⟩ (Tup.cells (R 6 (.i .i64)) y.t) w' fun w'' => LdA (R 6 (.i .i64)) ⟨w.heap.size, 0, none⟩ w'' fun r w3 => K (r, (ok, ())) w'' := by
    intro w' y ok hb hz hh
    exact stI hz fun w6 g6 s6 c6 => ldI c6 (hk y ok w6 (hb.grown g6 hb.size (fun g hg => by simp only [Option.some.injEq] at hg; omega)) hh)
  refine ⟨fun w' => w' = w3 ∧ 12 ≤ idx ∧ idx ≤ 16, ?_, ?_⟩
  · refine spec.l1Jump.c (And.intro (fun h => And.intro (fun h16 => ?_) (fun h16 => ⟨rfl, ?_⟩)) (fun h => ⟨rfl, ?_⟩))
    · have h : ¬ (12 ≤ idx ∧ idx ≤ 15) := by simp only [Bool.not_eq_true', decide_eq_false_iff_not] at h; exact h
      have h16 : idx ≠ 16 := by simpa using h16
      refine spec.LineGet.t (ht.below b3) (by omega) fun r ok w4 b4' hr => ?_
      refine fin r ok (b3.trans (b4'.mono b3.size)) ((b4'.block _ (by omega)).trans c3) fun L x hp he hx hl2 => ?_
      obtain ⟨hix, _, h0⟩ := base L x hp hx hl2
      have hg : ¬ goesP x := fun hg => by
        have := (headW_idx hix).1 hg
        rw [← h0, hidx] at this
        unfold goesP at hg; omega
      refine hr x hix ?_
      rw [hl2]; unfold offT; rw [if_neg hg]
    · have h16 : idx = 16 := by simpa using h16
      omega
    · have h : 12 ≤ idx ∧ idx ≤ 15 := by simp only [Bool.not_eq_false', decide_eq_true_eq] at h; exact h
      omega
  · rintro w4 ⟨rfl, hi⟩ _
    have facts : ∀ L x, formP L = 0 → ps = picks L.length (jmp L) → L[k]? = some x → l = lineO x (offT L k x) → goesP x ∧ last = markT (cntJ L (tgt k x).toNat) ∧ numS (last.drop 1) = cntJ L (tgt k x).toNat ∧ ps[cntJ L (tgt k x).toNat]? = some (tgt k x) := by
      intro L x hp he hx hl2
      obtain ⟨hg, hm⟩ := goes L x hp hx hl2 hi
      have htg := formP_tgt hp hx hg
      have hcj := cntJ_le L (tgt k x).toNat
      have hz := formP_size hp
      refine ⟨hg, hm, ?_, ?_⟩
      · rw [hm]
        show numS (Lib.itoa (cntJ L (tgt k x).toNat : Int)) = _
        rw [itoa_fig (by omega), numS_dec (by omega)]; omega
      · rw [he]
        have := picks_nth (l := L) (t := (tgt k x).toNat) L.length (by omega) (jmp_tgt hp hx hg)
        rw [this]; congr 1; omega
    have bad : ∀ {w' : World}, Below w4.heap.size w4 w' → (∀ L x, formP L = 0 → ps = picks L.length (jmp L) → L[k]? = some x → l = lineO x (offT L k x) → False) →
        StA P0 ⟨w.heap.size, 0, none⟩ (Tup.cells (R 6 (.i .i64)) ins0.t) w' fun w'' => LdA (R 6 (.i .i64)) ⟨w.heap.size, 0, none⟩ w'' fun r w3 => K (r, (false, ())) w'' := fun hb hh =>
      fin ins0 false (b3.trans (hb.mono b3.size)) ((hb.block _ (by omega)).trans c3) fun L x hp he hx hl2 => (hh L x hp he hx hl2).elim
    have drop1 : ∀ {K : ByteArray → World → Prop}, 2 ≤ last.length → K (bs (last.drop 1)) w4 → RunT (.o (.lf .s)) P0 (Instr.sliceAt 9 (.string (bs last)) (some (.int .i64 1)) none none) w4 K := fun {K} h2 hK => by
      refine slS (lo := some 1) (hi := none) (f := 1) (k := last.length) rfl rfl (by omega) (Nat.le_refl _) ?_
      have hd : (last.drop 1).take (last.length - 1) = last.drop 1 := List.take_of_length_le (by simp)
      rw [hd]; exact hK
    have en : IntKind.wrap .i64 ((pl.n : Int) - 1) = (pl.n : Int) - 1 := i64_of (by omega) (by have := hpl.max; omega)
    rw [en]
    refine ⟨fun w' => w' = w4 ∧ 2 ≤ last.length ∧ 0 ≤ numS (last.drop 1) ∧ numS (last.drop 1) ≤ (pl.n : Int) - 1, ?_, ?_⟩
    · rw [bs_size]
      refine And.intro (fun h2 => bad (Below.refl _ _) fun L x hp he hx hl2 => ?_) (fun h2 => ?_)
      · simp only [decide_eq_true_eq] at h2
        have := (facts L x hp he hx hl2).2.1
        obtain ⟨c, r, e1, _⟩ := itoa_pos (n := (cntJ L (tgt k x).toNat : Int)) (by omega)
        rw [this] at h2
        unfold markT at h2
        rw [e1] at h2
        simp at h2; omega
      · have h2 : 2 ≤ last.length := by simp only [decide_eq_false_iff_not] at h2; omega
        obtain ⟨c, hc⟩ := get_some (l := last) (k := 0) (by omega)
        refine sxB (by omega) (by simpa using hc) (And.intro (fun h109 => bad (Below.refl _ _) fun L x hp he hx hl2 => ?_) (fun h109 => ?_))
        · have := (facts L x hp he hx hl2).2.1
          rw [this] at hc
          simp only [markT, List.getElem?_cons_zero, Option.some.injEq] at hc
          rw [← hc] at h109; simp at h109
        · refine drop1 h2 (spec.l1Num.f (by simp; omega) (spec.l1In.c (And.intro (fun h => bad (Below.refl _ _) fun L x hp he hx hl2 => ?_) (fun h => ⟨rfl, h2, ?_⟩))))
          · obtain ⟨_, _, f3, f4⟩ := facts L x hp he hx hl2
            have := lt_of_get f4
            simp only [Bool.not_eq_true', decide_eq_false_iff_not] at h
            rw [f3] at h
            omega
          · simp only [Bool.not_eq_false', decide_eq_true_eq] at h
            exact h
    · rintro w5 ⟨rfl, h2, hn0, hn1⟩ _
      refine drop1 h2 (spec.l1Num.f (by simp; omega) ?_)
      obtain ⟨p, hp0⟩ := get_some (l := ps) (k := (numS (last.drop 1)).toNat) (by omega)
      have hpb' := hpb p (List.mem_of_getElem? hp0)
      refine ixL hpl3 (i := numS (last.drop 1)) hn0 (x := p) hp0 rfl (l := .i .i64) (v := p) rfl ?_
      have ew : IntKind.wrap .i64 (IntKind.wrap .i64 (p - k) - 1) = p - k - 1 := by rw [i64_of (n := p - k) (by omega) (by omega), i64_of (by omega) (by omega)]
      rw [ew, bs_size, bs_size]
      have eh : IntKind.wrap .i64 ((l.length : Int) - (last.length : Int)) = ((l.length - last.length : Nat) : Int) := by rw [i64_of (by omega) (by omega)]; omega
      rw [eh]
      have ai := itoa_len (n := p - k - 1) (by omega) (by omega)
      generalize hm : l.take (l.length - last.length) ++ Lib.itoa (p - k - 1) = m
      have hml : m.length ≤ 2000000 := by rw [← hm]; simp; omega
      refine ⟨StR, stOk w5, eqG (bs (l.take (l.length - last.length))), keptE, eqG (bs (Lib.itoa (p - k - 1))), keptE, eqG (bs m), keptE, fun t w' => ∃ (r : Ins) (ok : Bool), t = (r.t, ok, ()) ∧ (∀ x, InsP x → m = lineO x (Lib.itoa x.off) → ok = true ∧ r = x), fun _ _ _ h _ => h, ?_⟩
      refine ⟨fun w' hs => ?_, fun t70 => ⟨fun w' hs => spec.l1Dec.t (by omega) (by omega) fun w'' hb => gkE rfl hb, fun t72 => ⟨fun w' hs f70 f72 => ?_, fun t73 => ⟨fun w' hs f73 => ?_, fun t74 w6 hs f70 f72 f73 f74 => ?_⟩⟩⟩⟩
      · refine slS (lo := none) (hi := some ((l.length - last.length : Nat) : Int)) (f := 0) (k := l.length - last.length) rfl rfl (by omega) (by omega) ?_
        have e : (l.drop 0).take (l.length - last.length - 0) = l.take (l.length - last.length) := by simp
        rw [e]; exact gkE rfl (Below.refl _ _)
      · cases f70; cases f72
        refine ⟨szB (by simp; omega), ?_⟩
        rw [bs_app, hm]
        exact gkE rfl (Below.refl _ _)
      · cases f73
        have hs : Below w5.heap.size w5 w' := hs
        refine spec.LineGet.t (ht.below (b3.trans (hs.mono b3.size))) hml fun r ok w'' hb hr => ⟨(r.t, ok, ()), rfl, hb, r, ok, rfl, hr⟩
      · obtain ⟨r, ok, rfl, hr⟩ := f74
        have hs : Below w5.heap.size w5 w6 := hs
        refine fin r ok (b3.trans (hs.mono b3.size)) ((hs.block _ (by omega)).trans c3) fun L x hp he hx hl2 => ?_
        obtain ⟨f1, f2, f3, f4⟩ := facts L x hp he hx hl2
        have hix := formP_ins hp (List.mem_of_getElem? hx)
        refine hr x hix ?_
        have hpt : p = tgt k x := by
          rw [f3] at hp0
          rw [Int.toNat_natCast, f4] at hp0
          exact (Option.some.inj hp0).symm
        obtain ⟨bx, hbx⟩ := lineO_goes f1
        have hoff : offT L k x = last := by unfold offT; rw [if_pos f1, f2]
        rw [hoff, hbx] at hl2
        have htake : l.take (l.length - last.length) = bx := by rw [hl2]; simp
        rw [← hm, htake, hbx]
        congr 2
        unfold tgt at hpt; omega
set_option maxHeartbeats 4000000 in
theorem spec.AsmGet.t {K : Sl × Bool × Unit → World → Prop} (ht : Te w) (hl : l.length ≤ 1048576)
    (hk : ∀ s ok w' out, Below w.heap.size w w' → SlR kIns w' s out → (ok = true → formP out = 0 ∧ textA out out.length = l) → (ok = false → out = [] ∧ ∀ L, formP L = 0 → textA L L.length ≠ l) → K (s, ok, ()) w') :
    CallT (.n [(.lf .sl), (.lf .b)]) P0 6 [.string (bs l)] w K := by
  have noK : ∀ {w' : World}, Below w.heap.size w w' → (∀ L, formP L = 0 → textA L L.length ≠ l) → K (⟨none, 0, 0⟩, (false, ())) w' := fun hb h => hk _ false _ [] hb (SlR.nil _ _) (fun h => by simp at h) (fun _ => ⟨rfl, h⟩)
  refine spec.AsmGet.ok (spec.l13Places.t hl fun a o ok w1 atL opsL b1 ha ho hap hos h48 hL => ?_)
  refine And.intro (fun h => noK b1 fun L hp he => ?_) (fun h => ?_)
  · rw [(hL L hp he).1] at h; simp at h
  have hok : ok = true := by simpa using h
  have h48 := h48 hok
  have hon := ho.len
  refine nw fun w2 b2' s2 c2 => ?_
  have b2 := b1.trans (b2'.mono b1.size)
  have oo2 : OwnS kIns 39 w1.heap.size w2 ⟨some ⟨w1.heap.size, 0, none⟩, 0, 0⟩ [] := OwnS.lit (k := kIns) (B := w1.heap.size) (xs := []) (n := 0) (Nat.le_refl _) c2 rfl rfl (by simp)
  refine ⟨fun out i w' => ∃ (k : Nat) (xs : List Ins), i = k ∧ k ≤ opsL.length ∧ xs.length = k ∧ OwnS kIns 39 w1.heap.size w' out xs ∧ Below w1.heap.size w1 w' ∧ (∀ L, formP L = 0 → textA L L.length = l → xs = L.take k), fun _ i _ => opsL.length - i.toNat,
    ⟨0, [], rfl, by omega, rfl, oo2, b2', fun L hp he => by simp⟩, ?_⟩
  rintro out i w3 ⟨k, xs, rfl, hk1, hxl, oo3, b3', hxs⟩ _
  have b3 := b1.trans (b3'.mono b1.size)
  refine And.intro (fun hlt => ?_) (fun hge => ?_)
  · simp only [decide_eq_true_eq] at hlt
    obtain ⟨y, hy⟩ := get_some (l := opsL) (k := k) (by omega)
    have hyl := hos y (List.mem_of_getElem? hy)
    obtain ⟨m, rfl⟩ : ∃ m : By, y = bs m := ⟨y.data.toList, (bs_of y).symm⟩
    rw [bs_size] at hyl
    have ei : IntKind.wrap .i64 ((k : Int) + 1) = ((k + 1 : Nat) : Int) := by rw [i64_of (by omega) (by omega)]; omega
    rw [ei]
    refine ixL (ho.below b3') (i := k) (by omega) (x := bs m) (by simpa using hy) rfl (l := .s) (v := bs m) rfl ?_
    refine spec.l13Read.t (k := k) (ht.below b3) hyl (by omega) (ha.below b3') hap fun r ok2 w4 b4' hr => ?_
    have b4 := b3.trans (b4'.mono b3.size)
    refine nwStIns (x := r) fun w5 b5' s5 c5 => ?_
    have b35 := b4'.trans (b5'.mono b4'.size)
    have b5 := b4.trans (b5'.mono b4.size)
    have atL2 : ∀ L, formP L = 0 → textA L L.length = l → ok2 = true ∧ L[k]? = some r := by
      intro L hp he
      obtain ⟨_, q2, q3, q4⟩ := hL L hp he
      obtain ⟨x, hx⟩ := get_some (l := L) (k := k) (by omega)
      have h4 := q4 k x hx
      rw [hy] at h4
      have := hr L x hp q2 hx (bs_inj (Option.some.inj h4))
      exact ⟨this.1, by rw [hx, this.2]⟩
    refine And.intro (fun h => noK b5 fun L hp he => ?_) (fun h => ?_)
    · rw [(atL2 L hp he).1] at h; simp at h
    · have oo5 := oo3.below b35
      have hs1 := b3'.size
      have hs35 := b35.size
      refine ldI c5 (ap1 elIns oo5 r rfl (by omega) (by omega) (by omega) fun out2 w6 oo6 g6 _ => ?_)
      refine ⟨⟨k + 1, xs ++ [r], rfl, by omega, by simp [hxl], oo6, (b3'.trans (b35.mono hs1)).grown g6 (by omega) (fun g hg => (oo5.blk hg).1), fun L hp he => ?_⟩, by simp only [Int.toNat_natCast]; omega⟩
      rw [List.take_add_one, (atL2 L hp he).2, hxs L hp he]; rfl
  · simp only [decide_eq_false_iff_not] at hge
    have hkk : k = opsL.length := by omega
    have whole : ∀ L, formP L = 0 → textA L L.length = l → xs = L := fun L hp he => by
      rw [hxs L hp he]
      exact List.take_of_length_le (by rw [hkk, (hL L hp he).2.2.1]; exact Nat.le_refl _)
    refine spec.l1Form.c oo3.read (by omega) fun w4 b4' => ?_
    have b4 := b3.trans (b4'.mono b3.size)
    refine And.intro (fun h => noK b4 fun L hp he => ?_) (fun h => ?_)
    · have := whole L hp he
      subst this
      rw [hp] at h; simp at h
    · have hp : formP xs = 0 := by simpa using h
      refine spec.l13Put.c hp (oo3.below b4').read fun w5 b5' => ?_
      have b5 := b4.trans (b5'.mono b4.size)
      rw [bs_toList, bs_toList]
      refine And.intro (fun h2 => noK b5 fun L hp2 he => ?_) (fun h2 => ?_)
      · have := whole L hp2 he
        subst this
        rw [he] at h2; simp at h2
      · have he : textA xs xs.length = l := by simpa using h2
        exact hk _ true w5 xs b5 ((oo3.below b4').below b5').read (fun _ => ⟨hp, he⟩) (fun h => by simp at h)
end
end Go.Proofs.YteggdoigliddkaaGreatDoor.V

/- Contracts: rules are marked; the laws RulesPut and RulesGet (exact). -/
namespace Go.Proofs.YteggdoigliddkaaGreatDoor.V
open Go Go.RowKit
set_option linter.unusedVariables false
set_option linter.unusedSimpArgs false
def markR (k : Int) (i : Nat) : Rule := ⟨k + 5 * i, k + 5 * i + 1, k + 5 * i + 1 + 1, k + 5 * i + 1 + 1 + 1, k + 5 * i + 1 + 1 + 1 + 1⟩
def marksR (k : Int) (n : Nat) : List Rule := (List.range n).map (markR k)
theorem marksR_len (k : Int) (n : Nat) : (marksR k n).length = n := by simp [marksR]
theorem marksR_get (k : Int) {n i : Nat} (h : i < n) : (marksR k n)[i]? = some (markR k i) := by simp [marksR, h]
theorem marksR_succ (k : Int) (n : Nat) : marksR k (n + 1) = marksR k n ++ [markR k n] := by simp [marksR, List.range_succ]
section
variable {w : World} {a b : Sl} {xs ys : List Rule}
end
/-- Both readers agree. -/
theorem read_agree {l : By} {o1 o2 : Bool} {x y : List Rule} (h1 : o1 = true → RulesP x ∧ textL x = l) (h2 : o1 = false → x = [] ∧ ∀ L, RulesP L → textL L ≠ l) (h3 : o2 = true → RulesP y ∧ textL y = l) (h4 : o2 = false → y = [] ∧ ∀ L, RulesP L → textL L ≠ l) : o1 = o2 ∧ x = y := by
  cases o1 <;> cases o2
  · exact ⟨rfl, by rw [(h2 rfl).1, (h4 rfl).1]⟩
  · exact absurd (h3 rfl).2 ((h2 rfl).2 y (h3 rfl).1)
  · exact absurd (h1 rfl).2 ((h4 rfl).2 x (h1 rfl).1)
  · exact ⟨rfl, text_inj (h1 rfl).1.2 (h3 rfl).1.2 ((h1 rfl).2.trans (h3 rfl).2.symm)⟩
theorem put_len (L : List Rule) : (putL L).length ≤ 606 := by
  unfold putL
  split
  · rename_i h
    have h1 := text_len h.2
    have h2 := h.1
    omega
  · simp
section
variable {w : World} {code : Sl} {bs0 : List Int}
end
theorem u8_all' {bs : List Int} (h : ∀ x ∈ bs, (Lit.int .u8 x).wf = true) : ∀ x ∈ bs, 0 ≤ x ∧ x ≤ 255 := fun x hx => by
  have := h x hx
  simp only [Lit.wf, Bool.and_eq_true, decide_eq_true_eq] at this
  exact this
end Go.Proofs.YteggdoigliddkaaGreatDoor.V

/- Contracts: a drawn text; the law RulesGet: what is read as rules is written just so. -/
namespace Go.Proofs.YteggdoigliddkaaGreatDoor.V
open Go Go.RowKit
set_option linter.unusedVariables false
set_option linter.unusedSimpArgs false
section
variable {B br m : Nat} {w : World}
theorem spec.l20Rd.of.c {l : Sl} {xs : List ByteArray} {K : ByteArray → World → Prop} (h : RdS B br m w) (hm : m ≤ 1000000000) (hl : SlR kS w l xs) (h1 : 1 ≤ xs.length) (hb : ∀ b o, l.a = some ⟨b, o, none⟩ → b ≠ br)
    (hk : ∀ x w', x ∈ xs → w.grownBy w' (some br) → RdS B br (m + 1) w' → K x w') : CallT (.o (.lf .s)) P0 41 [.pointer (some ⟨br, 0, none⟩), l.v] w K := by
  have hn := hl.len
  refine spec.l20Rd.of.ok (spec.l20Rd.pick.c h hm (by omega) fun x w1 h0 hx hg hr => ?_)
  have hl1 := hl.kept2 hg (fun b o ha e => hb b o ha (by simpa using e.symm))
  obtain ⟨y, hy⟩ := get_some (l := xs) (k := x.toNat) (by omega)
  exact ixL hl1 (i := x) h0 (x := y) hy rfl (l := .s) (v := y) rfl (hk y w1 (List.mem_of_getElem? hy) hg hr)
/-- All stays but the reader. -/
def SpB (br : Nat) (a b : World) : Prop := a.grownBy b (some br)
theorem spbOk (br : Nat) (w : World) : SpOk (SpB br) w := ⟨fun a => grown_refl _ _, fun a b c h1 h2 => grown_trans h1 h2, grown_any (Below.refl _ _).drew⟩
theorem spec.l20Bent.c {l : By} {K : ByteArray → World → Prop} (h : RdS B br m w) (hm : m ≤ 800000000) (hl : l.length ≤ 1000000) (hk : ∀ (r : By) w', r.length ≤ l.length + 1 → w.grownBy w' (some br) → K (bs r) w') :
    CallT (.o (.lf .s)) P0 40 [.pointer (some ⟨br, 0, none⟩), .string (bs l)] w K := by
  have hlt := h.lt
  have ew : IntKind.wrap .i64 ((l.length : Int) + 1) = ((l.length + 1 : Nat) : Int) := by rw [i64_of (by omega) (by omega)]; omega
  refine spec.l20Bent.ok ?_
  unfold spec.l20Bent.vc
  rw [bs_size, ew]
  refine spec.l20Rd.pick.c h (by omega) (by omega) fun t10 w1 h0 h1 g1 r1 => spec.l20Rd.pick.c r1 (by omega) (by omega) fun t12 w2 _ _ g2 r2 => ?_
  have G2 := grown_trans g1 g2
  have hw2 := G2.size
  refine And.intro (fun _ => And.intro (fun hlt10 => ?_) (fun _ => hk l w2 (by omega) G2)) (fun _ => And.intro (fun _ => ?_) (fun _ => And.intro (fun _ => ?_) (fun _ => hk l w2 (by omega) G2)))
  · simp only [decide_eq_true_eq] at hlt10
    obtain ⟨k, hk10⟩ : ∃ k : Nat, t10 = k := ⟨t10.toNat, by omega⟩
    subst hk10
    have ek : IntKind.wrap .i64 ((k : Int) + 1) = ((k + 1 : Nat) : Int) := by rw [i64_of (by omega) (by omega)]; omega
    rw [ek]
    have sk : ∀ {a b : World}, Below a.heap.size a b → Sk (SpB br) (RdS B br (m + 2)) a b := fun hb => ⟨grown_any hb, fun hN => hN.below hb⟩
    refine ⟨SpB br, spbOk br w2, RdS B br (m + 2), r2.below (Below.refl _ _).drew, eqG (bs (l.take k)), keptE, fun s w' => OwnS kS 9 w2.heap.size w' s ([[0], [49], [255], [32], [114], [16]].map bs), fun s a b ho hs => ho.keptBr hs (by omega),
      fun x _ => ∃ y : By, x = bs y ∧ y.length = 1, fun _ _ _ h _ => h, fun x _ => ∃ y : By, x = bs y ∧ y.length = k + 1, fun _ _ _ h _ => h, eqG (bs (l.drop (k + 1))), keptE, fun x _ => ∃ y : By, x = bs y ∧ y.length = l.length, fun _ _ _ h _ => h, ?_⟩
    refine ⟨fun w' hs => ?_, fun t21 => ⟨fun w' hs => ?_, fun t23 => ⟨fun w' hs hN f23 => ?_, fun t24 => ⟨fun w' hs f21 f24 => ?_, fun t25 => ⟨fun w' hs => ?_, fun t29 => ⟨fun w' hs f25 f29 => ?_, fun t30 w3 hs _ _ _ _ _ f30 => ?_⟩⟩⟩⟩⟩⟩
    · refine slS (lo := none) (hi := some (k : Int)) (f := 0) (k := k) rfl rfl (by omega) (by omega) ?_
      exact gkE rfl (sk (Below.refl _ _))
    · exact nw fun w'' hb hs2 hc2 => ⟨⟨some ⟨w'.heap.size, 0, none⟩, 6, 6⟩, rfl, sk hb, OwnS.lit (k := kS) (B := w2.heap.size) (n := 6) hs.size hc2 rfl rfl (by simp [maxLen])⟩
    · refine spec.l20Rd.of.c hN (by omega) f23.read (by simp) (fun b o e => ?_) fun x w'' hx hg _ => ⟨x, rfl, hg, ?_⟩
      · have := (f23.blk (b := b) (by rw [ob_bk]; simp [Sl.bk, e])).1
        omega
      · simp only [List.map_cons, List.map_nil, List.mem_cons, List.mem_nil_iff, or_false] at hx
        rcases hx with rfl | rfl | rfl | rfl | rfl | rfl <;> exact ⟨_, rfl, rfl⟩
    · cases f21
      obtain ⟨y, rfl, hy⟩ := f24
      refine ⟨szB (by simp; omega), _, rfl, sk (Below.refl _ _), l.take k ++ y, bs_app _ _, by simp; omega⟩
    · refine slS (lo := some ((k + 1 : Nat) : Int)) (hi := none) (f := k + 1) (k := l.length) rfl rfl (by omega) (Nat.le_refl _) ?_
      have e : (l.drop (k + 1)).take (l.length - (k + 1)) = l.drop (k + 1) := List.take_of_length_le (by simp)
      rw [e]
      exact gkE rfl (sk (Below.refl _ _))
    · cases f29
      obtain ⟨y, rfl, hy⟩ := f25
      refine ⟨szB (by simp; omega), _, rfl, sk (Below.refl _ _), y ++ l.drop (k + 1), bs_app _ _, by simp; omega⟩
    · obtain ⟨y, rfl, hy⟩ := f30
      exact hk y w3 (by omega) (grown_trans G2 hs)
  · obtain ⟨k, hk10⟩ : ∃ k : Nat, t10 = k := ⟨t10.toNat, by omega⟩
    subst hk10
    refine slS (lo := none) (hi := some (k : Int)) (f := 0) (k := k) rfl rfl (by omega) (by omega) ?_
    exact hk _ w2 (by simp; omega) G2
  · refine nw fun w3 b3 s3 c3 => ?_
    have o3 : OwnS kS 9 w2.heap.size w3 ⟨some ⟨w2.heap.size, 0, none⟩, 3, 3⟩ ([[0], [32], [48]].map bs) := OwnS.lit (k := kS) (B := w2.heap.size) (n := 3) (Nat.le_refl _) c3 rfl rfl (by simp [maxLen])
    refine spec.l20Rd.of.c (l := ⟨some ⟨w2.heap.size, 0, none⟩, 3, 3⟩) (r2.below b3) (by omega) o3.read (by simp) (fun b o e => by simp only [Option.some.injEq, Addr.mk.injEq] at e; omega) fun x w4 hx g4 r4 => ?_
    have hx1 : ∃ y : By, x = bs y ∧ y.length = 1 := by
      simp only [List.map_cons, List.map_nil, List.mem_cons, List.mem_nil_iff, or_false] at hx
      rcases hx with rfl | rfl | rfl <;> exact ⟨_, rfl, rfl⟩
    obtain ⟨y, rfl, hy⟩ := hx1
    refine ⟨szB (by omega), ?_⟩
    rw [bs_app]
    exact hk _ w4 (by simp; omega) (grown_trans (grown_trans G2 (grown_any b3)) g4)
end
section
variable {w : World} {code : Sl} {cs : List Int}
end
end Go.Proofs.YteggdoigliddkaaGreatDoor.V

/- The laws ExactAsmGet, AsmPut and AsmGet: lines with marks are read back. -/
namespace Go.Proofs.YteggdoigliddkaaGreatDoor.V
open Go Go.RowKit
set_option linter.unusedVariables false
set_option linter.unusedSimpArgs false
theorem neqIns {x y : Ins} {xo yo : Operand} {w : World} {K : Bool → World → Prop} (hk : K (decide (x ≠ y)) w) :
    RunT (.o (.lf .b)) P0 (do eqGuard .neq 39 xo yo (.agg (Tup.cells (R 6 (.i .i64)) x.t).toArray) (.agg (Tup.cells (R 6 (.i .i64)) y.t).toArray); binOp .neq 39 (.agg (Tup.cells (R 6 (.i .i64)) x.t).toArray) (.agg (Tup.cells (R 6 (.i .i64)) y.t).toArray)) w K := by
  rcases x with ⟨a0, a1, a2, a3, a4, a5⟩
  rcases y with ⟨b0, b1, b2, b3, b4, b5⟩
  refine ⟨_, w, ?_, hk⟩
  show (do eqGuard .neq 39 xo yo (.agg #[.int .i64 a0, .int .i64 a1, .int .i64 a2, .int .i64 a3, .int .i64 a4, .int .i64 a5]) (.agg #[.int .i64 b0, .int .i64 b1, .int .i64 b2, .int .i64 b3, .int .i64 b4, .int .i64 b5]); binOp .neq 39 (.agg #[.int .i64 a0, .int .i64 a1, .int .i64 a2, .int .i64 a3, .int .i64 a4, .int .i64 a5]) (.agg #[.int .i64 b0, .int .i64 b1, .int .i64 b2, .int .i64 b3, .int .i64 b4, .int .i64 b5])).run P0 w = _
  have hg := run_eqGuard_agg (P := P0) w .neq 39 xo yo #[.int .i64 a0, .int .i64 a1, .int .i64 a2, .int .i64 a3, .int .i64 a4, .int .i64 a5] #[.int .i64 b0, .int .i64 b1, .int .i64 b2, .int .i64 b3, .int .i64 b4, .int .i64 b5] (by kernel_rfl)
  have ht : P0.underlying 39 = some (.struct (P0.fieldsOf 39)) := by kernel_rfl
  have hf : (P0.fieldsOf 39).toList = [Field.mk "Op" 3 0 false "" "" 0, Field.mk "Dst" 3 1 false "" "" 8, Field.mk "Src" 3 2 false "" "" 16, Field.mk "Off" 3 3 false "" "" 24, Field.mk "Imm" 3 4 false "" "" 32, Field.mk "Size" 3 5 false "" "" 40] := by kernel_rfl
  have hi : P0.underlying 3 = some (.int .i64) := by kernel_rfl
  have hag : aggT P0 3 = some false := by kernel_rfl
  have hp : ∀ (cs : Array Value) (j : Nat) (h : j < cs.size), (part 3 cs j).run P0 w = .ok cs[j] w := fun cs j h => by simp [part, run_isAgg hag, Array.getElem?_eq_getElem h]
  simp only [Sem.run_bind, hg, Result.andThen_ok, run_neq_struct, run_equalIn_agg (P := P0) w 9999 39 _ _ ht (by kernel_rfl), hf]
  by_cases e0 : a0 = b0 <;> by_cases e1 : a1 = b1 <;> by_cases e2 : a2 = b2 <;> by_cases e3 : a3 = b3 <;> by_cases e4 : a4 = b4 <;> by_cases e5 : a5 = b5 <;>
    simp [Op.eqFields, hp, run_equalIn_int (P := P0) w 9998 3 .i64 .i64 _ _ hi, e0, e1, e2, e3, e4, e5, Rs.emb, Ty.emb, Lf.emb]
def markI (k : Int) (i : Nat) : Ins := ⟨k + 6 * i, k + 6 * i + 1, k + 6 * i + 1 + 1, k + 6 * i + 1 + 1 + 1, k + 6 * i + 1 + 1 + 1 + 1, k + 6 * i + 1 + 1 + 1 + 1 + 1⟩
def marksI (k : Int) (n : Nat) : List Ins := (List.range n).map (markI k)
theorem marksI_len (k : Int) (n : Nat) : (marksI k n).length = n := by simp [marksI]
theorem marksI_get (k : Int) {n i : Nat} (h : i < n) : (marksI k n)[i]? = some (markI k i) := by simp [marksI, h]
theorem marksI_succ (k : Int) (n : Nat) : marksI k (n + 1) = marksI k n ++ [markI k n] := by simp [marksI, List.range_succ]
section
variable {w : World} {a b : Sl} {xs ys : List Ins}
theorem laws.sgProg.c {K : Bool → World → Prop} (ha : SlR kIns w a xs) (hb : SlR kIns w b ys) (hk : ∀ w', Below w.heap.size w w' → K (decide (xs = ys)) w') : CallT (.o (.lf .b)) P0 15 [a.v, b.v] w K := by
  have hna := ha.len; have hnb := hb.len; have hm := ha.max
  refine laws.sgProg.ok ?_
  unfold laws.sgProg.vc
  refine And.intro (fun h => kof (hk _ (Below.refl _ _)) ?_) (fun h => ?_)
  · rw [bne_len] at h
    simp only [decide_eq_false_iff_not]; rintro rfl; omega
  · have hle : xs.length = ys.length := by simp at h; omega
    refine ⟨fun i w' => ∃ n : Nat, i = n ∧ n ≤ xs.length ∧ (∀ j < n, xs[j]? = ys[j]?) ∧ Below w.heap.size w w', fun i _ => xs.length - i.toNat, ⟨0, rfl, by omega, by simp, Below.refl _ _⟩, ?_⟩
    rintro i w1 ⟨n, rfl, hn, hE, hb1⟩ _
    refine And.intro (fun hlt => ?_) (fun hge => ?_)
    · simp only [decide_eq_true_eq] at hlt
      obtain ⟨x, hx⟩ := get_some (l := xs) (k := n) (by omega)
      obtain ⟨y, hy⟩ := get_some (l := ys) (k := n) (by omega)
      have ha1 := ha.below hb1
      have hb1' := hb.below hb1
      refine ⟨Below w1.heap.size, belOk _, AtV w1.heap.size (Tup.cells (R 6 (.i .i64)) x.t), keptAv, eqG x.t, keptE, AtV w1.heap.size (Tup.cells (R 6 (.i .i64)) y.t), keptAv, eqG y.t, keptE, eqG (decide (x ≠ y)), keptE, ?_⟩
      refine ⟨fun w' hs => ?_, fun t19 => ⟨fun w' hs f => ?_, fun t20 => ⟨fun w' hs => ?_, fun t23 => ⟨fun w' hs f => ?_, fun t24 => ⟨fun w' hs f20 f24 => ?_, fun t25 w2 hs _ _ _ _ f25 => ?_⟩⟩⟩⟩⟩
      · exact ixRb (ha1.below hs) (by omega) (x := x) (by simpa using hx) rfl fun b o hb hA => ⟨⟨b, o, none⟩, rfl, Below.refl _ _, b, o, rfl, bk_lt ha1 hx (v := .int .i64 x.op) rfl hb, hA⟩
      · obtain ⟨b, o, rfl, _, hA⟩ := f
        exact ldAv hA (gkE rfl (Below.refl _ _))
      · exact ixRb (hb1'.below hs) (by omega) (x := y) (by simpa using hy) rfl fun b o hb hA => ⟨⟨b, o, none⟩, rfl, Below.refl _ _, b, o, rfl, bk_lt hb1' hy (v := .int .i64 y.op) rfl hb, hA⟩
      · obtain ⟨b, o, rfl, _, hA⟩ := f
        exact ldAv hA (gkE rfl (Below.refl _ _))
      · cases f20; cases f24
        exact neqIns (gkE rfl (Below.refl _ _))
      · cases f25
        have hbb := hb1.trans (hs.mono hb1.size)
        refine And.intro (fun hne => kof (hk _ hbb) ?_) (fun he => ?_)
        · simp only [decide_eq_true_eq] at hne
          simp only [decide_eq_false_iff_not]; rintro rfl; rw [hx] at hy; simp at hy; exact hne hy
        · have he : x = y := by simpa using he
          simp (disch := omega) only [i64_of]
          refine ⟨⟨n + 1, by omega, by omega, fun j hj => ?_, hbb⟩, by omega⟩
          rcases Nat.lt_or_ge j n with h1 | h1
          · exact hE j h1
          · obtain rfl : j = n := by omega
            rw [hx, hy, he]
    · simp only [decide_eq_false_iff_not] at hge
      refine kof (hk _ hb1) ?_
      simp only [decide_eq_true_eq]
      exact take_ext hle fun j x hx => by rw [← hE j (by have := lt_of_get hx; omega)]; exact hx
theorem laws.markInsS.f {t : TypeId} {B : Nat} {k : Int} {K : Int → World → Prop} (ha : WrS kIns t B w a xs) (hk0 : 0 ≤ k ∧ k ≤ 1099511627776) (hl : xs.length ≤ 1099511627776)
    (hk : ∀ w', WrS kIns t B w' a (marksI k xs.length) → w.grownBy w' a.bk → K (k + 6 * xs.length) w') : CallT (.o (.lf (.i .i64))) P0 9 [a.v, .int .i64 k] w K := by
  have hna := ha.len
  refine laws.markInsS.ok ⟨fun k' i w' => ∃ (n : Nat) (zs : List Ins), i = n ∧ k' = k + 6 * n ∧ n ≤ xs.length ∧ zs.length = xs.length - n ∧ WrS kIns t B w' a (marksI k n ++ zs) ∧ w.grownBy w' a.bk, fun _ i _ => xs.length - i.toNat,
    ⟨0, xs, rfl, by omega, by omega, by omega, by simpa [marksI] using ha, grown_refl _ _⟩, ?_⟩
  rintro k' i w1 ⟨n, zs, rfl, rfl, hn, hz, ha1, hg1⟩ _
  refine And.intro (fun hlt => ?_) (fun hge => ?_)
  · simp only [decide_eq_true_eq] at hlt
    simp (disch := omega) only [i64_of]
    have step : ∀ (w2 : World) (l : List Ins) (x : Ins) (j : Nat) (v : Int) (y : Ins) (K : World → Prop), WrS kIns t B w2 a l → l[n]? = some x → w.grownBy w2 a.bk → j < 6 → kIns.cells y = (kIns.cells x).set j (.int .i64 v) →
        (∀ w', WrS kIns t B w' a (l.set n y) → w.grownBy w' a.bk → K w') → Ix a.a a.n n 6 w2 (fun ad w1 => St (Addr.add ad j) (.int .i64 v) w1 K) := by
      intro w2 l x j v y K ha2 hx hg2 hj hf hK
      exact ixStF ha2 (i := n) (by omega) (x := x) (by simpa using hx) rfl hj rfl y hf fun w3 ha3 hg3 hs3 => hK w3 (by simpa using ha3) (grown_trans hg2 hg3)
    match zs, hz with
    | [], hz => simp at hz; omega
    | z :: zs, hz =>
      have hset : ∀ u y : Ins, (marksI k n ++ u :: zs).set n y = marksI k n ++ y :: zs := fun u y => by
        rw [List.set_append_right _ _ (by rw [marksI_len]; exact Nat.le_refl _), marksI_len, Nat.sub_self, List.set_cons_zero]
      have hget : ∀ u : Ins, (marksI k n ++ u :: zs)[n]? = some u := fun u => by
        rw [List.getElem?_append_right (by rw [marksI_len]; exact Nat.le_refl _), marksI_len, Nat.sub_self]; rfl
      refine step w1 _ z 0 _ { z with op := k + 6 * n } _ ha1 (hget z) hg1 (by decide) rfl fun w2 ha2 hg2 => ?_
      rw [hset] at ha2
      refine step w2 _ _ 1 _ { z with op := k + 6 * n, dst := k + 6 * n + 1 } _ ha2 (hget _) hg2 (by decide) rfl fun w3 ha3 hg3 => ?_
      rw [hset] at ha3
      refine step w3 _ _ 2 _ { z with op := k + 6 * n, dst := k + 6 * n + 1, src := k + 6 * n + 1 + 1 } _ ha3 (hget _) hg3 (by decide) rfl fun w4 ha4 hg4 => ?_
      rw [hset] at ha4
      refine step w4 _ _ 3 _ { z with op := k + 6 * n, dst := k + 6 * n + 1, src := k + 6 * n + 1 + 1, off := k + 6 * n + 1 + 1 + 1 } _ ha4 (hget _) hg4 (by decide) rfl fun w5 ha5 hg5 => ?_
      rw [hset] at ha5
      refine step w5 _ _ 4 _ { z with op := k + 6 * n, dst := k + 6 * n + 1, src := k + 6 * n + 1 + 1, off := k + 6 * n + 1 + 1 + 1, imm := k + 6 * n + 1 + 1 + 1 + 1 } _ ha5 (hget _) hg5 (by decide) rfl fun w6 ha6 hg6 => ?_
      rw [hset] at ha6
      refine step w6 _ _ 5 _ (markI k n) _ ha6 (hget _) hg6 (by decide) rfl fun w7 ha7 hg7 => ?_
      rw [hset] at ha7
      refine ⟨⟨n + 1, zs, by omega, by omega, by omega, by simp at hz ⊢; omega, ?_, hg7⟩, by omega⟩
      rw [marksI_succ, List.append_assoc]; exact ha7
  · simp only [decide_eq_false_iff_not] at hge
    obtain rfl : n = xs.length := by omega
    have : zs = [] := List.eq_nil_of_length_eq_zero (by omega)
    subst this
    rw [List.append_nil] at ha1
    exact hk _ ha1 hg1
theorem laws.heldInsS.c {k : Int} {n : Nat} {K : Int → World → Prop} (ha : SlR kIns w a (marksI k n)) (hk0 : 0 ≤ k ∧ k ≤ 1099511627776) (hl : n ≤ 1099511627776)
    (hk : K (k + 6 * n) w) : CallT (.o (.lf (.i .i64))) P0 10 [a.v, .int .i64 k] w K := by
  have hna := ha.len
  rw [marksI_len] at hna
  refine laws.heldInsS.ok ⟨fun k' i w' => ∃ (m : Nat), i = m ∧ k' = k + 6 * m ∧ m ≤ n ∧ w' = w, fun _ i _ => n - i.toNat, ⟨0, rfl, by omega, by omega, rfl⟩, ?_⟩
  rintro k' i w1 ⟨m, rfl, rfl, hm, rfl⟩ _
  refine And.intro (fun hlt => ?_) (fun hge => ?_)
  · simp only [decide_eq_true_eq] at hlt
    simp (disch := omega) only [i64_of]
    have hx := marksI_get k (n := n) (i := m) (by omega)
    refine ixF ha (i := m) (by omega) (x := markI k m) (by simpa using hx) rfl (l := .i .i64) (j := 0) (v := k + 6 * m) rfl (And.intro (fun hne => by simp at hne) (fun _ => ?_))
    refine ixF ha (i := m) (by omega) (x := markI k m) (by simpa using hx) rfl (l := .i .i64) (j := 1) (v := k + 6 * m + 1) rfl (And.intro (fun hne => by simp at hne) (fun _ => ?_))
    refine ixF ha (i := m) (by omega) (x := markI k m) (by simpa using hx) rfl (l := .i .i64) (j := 2) (v := k + 6 * m + 1 + 1) rfl (And.intro (fun hne => by simp at hne) (fun _ => ?_))
    refine ixF ha (i := m) (by omega) (x := markI k m) (by simpa using hx) rfl (l := .i .i64) (j := 3) (v := k + 6 * m + 1 + 1 + 1) rfl (And.intro (fun hne => by simp at hne) (fun _ => ?_))
    refine ixF ha (i := m) (by omega) (x := markI k m) (by simpa using hx) rfl (l := .i .i64) (j := 4) (v := k + 6 * m + 1 + 1 + 1 + 1) rfl (And.intro (fun hne => by simp at hne) (fun _ => ?_))
    refine ixF ha (i := m) (by omega) (x := markI k m) (by simpa using hx) rfl (l := .i .i64) (j := 5) (v := k + 6 * m + 1 + 1 + 1 + 1 + 1) rfl (And.intro (fun hne => by simp at hne) (fun _ => ?_))
    exact ⟨⟨m + 1, by omega, by omega, by omega, rfl⟩, by omega⟩
  · simp only [decide_eq_false_iff_not] at hge
    obtain rfl : m = n := by omega
    exact hk
end
/-- Both readers agree. -/
theorem agreeA {l : By} {o1 o2 : Bool} {x y : List Ins} (h1 : o1 = true → formP x = 0 ∧ textA x x.length = l) (h2 : o1 = false → x = [] ∧ ∀ L, formP L = 0 → textA L L.length ≠ l)
    (h3 : o2 = true → formP y = 0 ∧ textA y y.length = l ∧ ∀ L, formP L = 0 → textA L L.length = l → y = L) (h4 : o2 = false → y = [] ∧ ∀ L, formP L = 0 → textA L L.length ≠ l) : o1 = o2 ∧ x = y := by
  cases o1 <;> cases o2
  · exact ⟨rfl, by rw [(h2 rfl).1, (h4 rfl).1]⟩
  · exact absurd (h3 rfl).2.1 ((h2 rfl).2 y (h3 rfl).1)
  · exact absurd (h1 rfl).2 ((h4 rfl).2 x (h1 rfl).1)
  · exact ⟨rfl, ((h3 rfl).2.2 x (h1 rfl).1 (h1 rfl).2).symm⟩
theorem outLen {o : Bool} {y : List Ins} {l : By} (h1 : o = true → formP y = 0 ∧ textA y y.length = l) (h2 : o = false → y = [] ∧ ∀ L, formP L = 0 → textA L L.length ≠ l) : y.length ≤ 48 := by
  cases o with
  | true => exact (formP_size (h1 rfl).1).2
  | false => rw [(h2 rfl).1]; simp
section
variable {w : World} {code : Sl} {cs : List Int}
theorem spec.DrawAsmGet.c {K : ByteArray → World → Prop} (h : SlR kU8 w code cs) (hb : ∀ x ∈ cs, 0 ≤ x ∧ x ≤ 255) (hk : ∀ (r : By) w', r.length ≤ 10000 → Below w.heap.size w w' → K (bs r) w') : CallT (.o (.lf .s)) P0 16 [code.v] w K := by
  refine spec.DrawAsmGet.ok (spec.l20Open.c h hb fun w1 b1 r1 => ?_)
  have hbr := r1.lt
  refine spec.l20Prog.c r1 (by omega) fun q w2 ys g2 r2 o2 n1 n2 => ?_
  have b2 : Below w.heap.size w w2 := b1.grown g2 b1.size (fun b hb => by simp only [Option.some.injEq] at hb; omega)
  have hp := putA_len ys
  refine spec.AsmPut.c o2.read (by omega) fun w3 b3' => ?_
  have b3 := b2.trans (b3'.mono b2.size)
  refine spec.l20Rd.pick.c (r2.below b3') (by omega) (by omega) fun t11 w4 _ _ g4 r4 => ?_
  have b4 : Below w.heap.size w w4 := b3.grown g4 b3.size (fun b hb => by simp only [Option.some.injEq] at hb; omega)
  refine And.intro (fun _ => ?_) (fun _ => And.intro (fun _ => ?_) (fun _ => hk _ w4 (by omega) b4))
  · refine spec.l20Bent.c r4 (by omega) (by omega) fun r' w5 hl g5 => ?_
    exact hk _ w5 (by omega) (b4.grown g5 b4.size (fun b hb => by simp only [Option.some.injEq] at hb; omega))
  · refine nw fun w5 b5' s5 c5 => ?_
    have o5 : OwnS kS 9 w4.heap.size w5 ⟨some ⟨w4.heap.size, 0, none⟩, 8, 8⟩ ([[], [109, 48, 58, 10, 32, 103, 111, 32, 109, 48, 10], [32, 103, 111, 32, 109, 48, 10, 109, 48, 58, 10, 32, 101, 120, 105, 116, 10], [109, 48, 58, 10, 32, 101, 120, 105, 116, 10], [32, 101, 120, 105, 116], [32, 103, 111, 32, 48, 10, 32, 101, 120, 105, 116, 10], [109, 49, 58, 10, 32, 103, 111, 32, 109, 49, 10], putA ys].map bs) := OwnS.lit (k := kS) (B := w4.heap.size) (n := 8) (Nat.le_refl _) c5 rfl rfl (by simp [maxLen])
    have hrl := r4.lt
    refine spec.l20Rd.of.c (l := ⟨some ⟨w4.heap.size, 0, none⟩, 8, 8⟩) (r4.below b5') (by omega) o5.read (by simp) (fun b o e => by simp only [Option.some.injEq, Addr.mk.injEq] at e; omega) fun x w6 hx g6 r6 => ?_
    have b6 : Below w.heap.size w w6 := (b4.trans (b5'.mono b4.size)).grown g6 (Nat.le_trans b4.size b5'.size) (fun b hb => by simp only [Option.some.injEq] at hb; omega)
    simp only [List.map_cons, List.map_nil, List.mem_cons, List.mem_nil_iff, or_false] at hx
    rcases hx with rfl | rfl | rfl | rfl | rfl | rfl | rfl | rfl <;> refine hk _ w6 ?_ b6 <;> first | (simp; done) | omega
end
set_option maxHeartbeats 1000000 in
theorem laws.FnExactAsmGet.pure {w : World} (ht : Tb w) (hte : Te w) (a : ByteArray) (hsz : a.size ≤ 140737488351232) :
    CallT (.o (.lf .b)) P0 3 [.string a] w fun b w' => b = true ∧ Below w.heap.size w w' := by
  rw [← bs_of a]
  generalize a.data.toList = l
  refine laws.FnExactAsmGet.ok (And.intro (fun _ => ⟨rfl, Below.refl _ _⟩) (fun hl => ?_))
  rw [bs_size] at hl
  have hl : l.length ≤ 1048576 := by simp only [decide_eq_false_iff_not] at hl; omega
  refine spec.AsmGet.t hte hl fun s1 ok1 w1 x b1 r1 h1 h2 => ?_
  refine impl.AsmGet.t (ht.below b1) (hte.below b1) hl fun s2 ok2 w2 y b2' r2 h3 h4 => ?_
  have b2 := b1.trans (b2'.mono b1.size)
  obtain ⟨rfl, rfl⟩ := agreeA h1 h2 h3 h4
  have q2 := r1.below b2'
  have hxl := outLen h1 h2
  refine ⟨fun w' => Below w2.heap.size w2 w', ?_, ?_⟩
  · refine laws.eqInsS.c r2.read q2 fun w3 b3' => And.intro (fun hc => by simp at hc) (fun _ => And.intro (fun hc => by simp at hc) (fun _ => b3'))
  rintro w3 b3' _
  have b3 := b2.trans (b3'.mono b2.size)
  have r3 := r2.below b3'
  have q3 := q2.below b3'
  refine laws.markInsS.f (k := 1) r3 (by omega) (by omega) fun w4 r4 g4 => ?_
  have hblk : ∀ g, s2.bk = some g → w1.heap.size ≤ g := fun g hg => (r3.blk hg).1
  have hlt : ∀ {i : Nat} {z : Ins} {g : Nat}, x[i]? = some z → s1.bk = some g → g < w1.heap.size := fun hz hg => bk_lt r1 hz (v := .int .i64 _) rfl hg
  have q4 : SlR kIns w4 s1 x := q3.kept3 g4 (fun hne b o ha e => by
    obtain ⟨z, hz⟩ : ∃ z, x[0]? = some z := by cases x with | nil => contradiction | cons z _ => exact ⟨z, rfl⟩
    have h5 := hlt hz (g := b) (by simp [Sl.bk, ha])
    have h6 := hblk b e
    omega)
  have b4 : Below w.heap.size w w4 := b3.grown g4 b3.size (fun g hg => Nat.le_trans b1.size (hblk g hg))
  refine laws.heldInsS.c r4.read (by omega) (by omega) ?_
  refine And.intro (fun hc => by simp only [decide_eq_true_eq] at hc; omega) (fun _ => And.intro (fun hc => by simp at hc) (fun _ => ?_))
  refine impl.AsmGet.t (ht.below b4) (hte.below b4) hl fun s5 ok5 w5 z b5' r5 h5 h6 => ?_
  have b5 := b4.trans (b5'.mono b4.size)
  obtain ⟨rfl, rfl⟩ := agreeA h1 h2 h5 h6
  refine ⟨fun w' => Below w5.heap.size w5 w', ?_, ?_⟩
  · refine laws.eqInsS.c r5.read (q4.below b5') fun w6 b6' => And.intro (fun hc => by simp at hc) (fun _ => And.intro (fun hc => by simp at hc) (fun _ => b6'))
  rintro w6 b6' _
  have b6 := b5.trans (b6'.mono b5.size)
  refine laws.heldInsS.c ((r4.below b5').below b6').read (by omega) (by omega) ?_
  exact And.intro (fun hc => by simp only [decide_eq_true_eq] at hc; omega) (fun _ => And.intro (fun hc => by simp at hc) (fun _ => ⟨rfl, b6⟩))
theorem putEmpty (l : List Ins) : (ByteArray.toList (bs (putA l)) == ByteArray.toList (⟨#[]⟩ : ByteArray)) = decide (¬ formP l = 0) := by
  rw [eqEmpty]
  exact decide_eq_decide.2 (putA_nil l)
set_option maxHeartbeats 1000000 in
theorem laws.FnAsmPut.pure {w : World} (ht : Tb w) (hte : Te w) (s : Sl) (cs : List Int) (h : SlR kU8 w s cs ∧ ∀ x ∈ cs, (Lit.int .u8 x).wf = true) :
    CallT (.o (.lf .b)) P0 4 [s.v] w fun b w' => b = true ∧ Below w.heap.size w w' := by
  refine laws.FnAsmPut.ok (And.intro (fun _ => ⟨rfl, Below.refl _ _⟩) (fun _ => ?_))
  refine spec.DrawAsmPut.ok (spec.DrawProgForm.c h.1 (u8_all h.2) fun q w1 l b1 h1 hl => ?_)
  refine impl.AsmPut.c (ht.below b1) h1 (by omega) fun w2 b2' => ?_
  have b2 := b1.trans (b2'.mono b1.size)
  have h2 := h1.below b2'
  have hpl := putA_len l
  have same : ((!decide (¬ formP l = 0)) == ((formP l : Int) == 0)) = true := by
    by_cases hq : formP l = 0 <;> simp [hq]
  refine ⟨fun t w' => t = decide (¬ formP l = 0) ∧ Below w2.heap.size w2 w', ?_, ?_⟩
  · refine spec.AsmPut.c h2 (by omega) fun w3 b3' => And.intro (fun hc => by simp at hc) (fun _ => ?_)
    refine impl.ProgForm.c (h2.below b3') (by omega) fun w4 b4' => ?_
    rw [putEmpty, same]
    exact And.intro (fun hc => by simp at hc) (fun _ => ⟨rfl, b3'.trans (b4'.mono b3'.size)⟩)
  · rintro t w3 ⟨rfl, b3'⟩ _
    have b3 := b2.trans (b3'.mono b2.size)
    have h3 := h2.below b3'
    refine And.intro (fun _ => ?_) (fun hq => ?_)
    · refine spec.AsmPut.c h3 (by omega) fun w4 b4' => And.intro (fun _ => ?_) (fun hc => by simp at hc)
      have b4 := b3.trans (b4'.mono b3.size)
      refine impl.ProgForm.c (h3.below b4') (by omega) fun w5 b5' => ?_
      rw [putEmpty]
      exact ⟨same, b4.trans (b5'.mono b4.size)⟩
    · have hq : formP l = 0 := by simpa using hq
      refine impl.AsmGet.t (ht.below b3) (hte.below b3) (by omega) fun s2 ok2 w4 y b4' r4 q1 q2 => ?_
      have b4 := b3.trans (b4'.mono b3.size)
      have hok : ok2 = true := by
        cases hh : ok2 with
        | true => rfl
        | false => exact absurd (putA_of hq).symm ((q2 hh).2 l hq)
      have hy := (q1 hok).2.2 l hq (putA_of hq).symm
      subst hy
      refine And.intro (fun _ => laws.sgProg.c r4.read (h3.below b4') fun w5 b5' => ⟨by simp, b4.trans (b5'.mono b4.size)⟩) (fun hc => ?_)
      simp only at hc
      rw [hok] at hc; simp at hc
set_option maxHeartbeats 1000000 in
theorem laws.FnAsmGet.pure {w : World} (ht : Tb w) (hte : Te w) (s : Sl) (cs : List Int) (h : SlR kU8 w s cs ∧ ∀ x ∈ cs, (Lit.int .u8 x).wf = true) :
    CallT (.o (.lf .b)) P0 5 [s.v] w fun b w' => b = true ∧ Below w.heap.size w w' := by
  refine laws.FnAsmGet.ok (And.intro (fun _ => ⟨rfl, Below.refl _ _⟩) (fun _ => ?_))
  refine spec.DrawAsmGet.c h.1 (u8_all h.2) fun l w1 hl b1 => ?_
  refine impl.AsmGet.t (ht.below b1) (hte.below b1) (by omega) fun s2 ok2 w2 y b2' r2 h3 h4 => ?_
  have b2 := b1.trans (b2'.mono b1.size)
  refine spec.AsmGet.t (hte.below b2) (by omega) fun s1 ok1 w3 x b3' r1 h1 h2 => ?_
  have b3 := b2.trans (b3'.mono b2.size)
  obtain ⟨rfl, rfl⟩ := agreeA h1 h2 h3 h4
  have hxl := outLen h1 h2
  have r3 := (r2.below b3').read
  refine ⟨fun t w' => Below w3.heap.size w3 w' ∧ (t = false → ok1 = true), ?_, ?_⟩
  · refine And.intro (fun hc => by simp at hc) (fun _ => ?_)
    refine laws.sgProg.c r3 r1 fun w4 b4' => And.intro (fun hc => by simp at hc) (fun _ => ⟨b4', fun h => by simpa using h⟩)
  rintro t w4 ⟨b4', hto⟩ _
  have b4 := b3.trans (b4'.mono b3.size)
  have r4 := r3.below b4'
  refine And.intro (fun _ => And.intro (fun _ => ?_) (fun hc => by simp at hc)) (fun h0 => ?_)
  · refine laws.sgProg.c r4 (r1.below b4') fun w5 b5' => ⟨by simp, b4.trans (b5'.mono b4.size)⟩
  · obtain ⟨hp, he⟩ := h1 (hto h0)
    refine impl.AsmPut.c (ht.below b4) r4 (by omega) fun w5 b5' => ?_
    rw [putA_of hp, he]
    refine And.intro (fun _ => impl.ProgForm.c (r4.below b5') (by omega) fun w6 b6' => ⟨by simp [hp], b4.trans ((b5'.trans (b6'.mono b5'.size)).mono b4.size)⟩) (fun hc => by simp at hc)
end Go.Proofs.YteggdoigliddkaaGreatDoor.V

/- The tied row of FnAsmGet: where the listed variables of the library's are as its text lays them, it returns true and leaves its input as it was, whatever the input. PRINTED by rowt.py out of the law of the same name. -/
namespace Go.Proofs.YteggdoigliddkaaGreatDoor.V
open Go Go.RowKit Go.ChangeShapes Go.WideShapes Go.ChangeAt
open Go.ChangeMaps (open_string shut_string)
set_option linter.unusedVariables false
set_option maxRecDepth 100000 in
theorem FnAsmGet.lifted (os : Os) (started : os.Started) (H : Type) (enc : TypeId × Value → H) :
    ReturnsInHanded {} Tryz.checked os 5 .any (fun w args => (Rows.fnAsmGetSpec.pre enc P0 Tryz.f5 [] false w args ∧ laidMetH P0 Rows.fnAsmGetRow.laid w) ∧ sizedMet enc P0 Tryz.f5 (OpenSpec.ofChange Rows.fnAsmGetSpec) false w args) (Rows.fnAsmGetSpec.post enc P0 Tryz.f5 false true false false) := by
  refine handed_and_shaped (C := Tryz.checked) (X := fun w _ => laidMetH P0 Rows.fnAsmGetRow.laid w) (fun _ _ _ hh h => h.of_heap hh) own started (by kernel_rfl) Tryz.func5
    (ChangeSpec.witness_shaped (enc := enc) (C := Tryz.checked) (os := os) (X := fun w _ => laidMetH P0 Rows.fnAsmGetRow.laid w) false (World.laidAll P0 os Rows.fnAsmGetRow.laid) #[.slice none 0 0] 8 (World.laidAll_os _ _ _)
      (World.shaped_of_ZipB (by kernel_rfl) (by kernel_rfl)) (by kernel_rfl) (by kernel_rfl) (by kernel_rfl)
      (by rw [MakeChecks.laidMetH_plain _ _ _ (by kernel_rfl)]; exact laidMet_laidAll _ (by kernel_rfl) (by kernel_rfl))) ?_
  intro W base args ds gs before hval0 hW hcnd hsz0 hL hsh _
  rw [MakeChecks.laidMetH_plain _ _ _ (by kernel_rfl)] at hL
  have hL1 : laidMet P0 (("math/bits.deBruijn32tab", Rows.laid_math_bits_deBruijn32tab) :: ("math/bits.deBruijn64tab", Rows.laid_math_bits_deBruijn64tab) :: ("internal/strconv.uint64pow10", Rows.laid_internal_strconv_uint64pow10) :: ("unicode/utf8.acceptRanges", Rows.laid_unicode_utf8_acceptRanges) :: ("strconv.ErrRange", Rows.laid_strconv_ErrRange) :: ("strconv.ErrSyntax", Rows.laid_strconv_ErrSyntax) :: ("unicode/utf8.first", Rows.laid_unicode_utf8_first) :: []) W := hL
  have hTb : Tb W := tab_of hL1.tail.tail
  have hTe : Te W := ⟨Tryz.laysM145.s1_3 W hsh, err_of (g := 4) (by kernel_rfl) (by kernel_rfl) hL1.tail.tail.tail.tail.tail, err_of (g := 5) (by kernel_rfl) (by kernel_rfl) hL1.tail.tail.tail.tail⟩
  clear hL hL1 hsh
  have hsz : (DataW.weightsEach P0 (Tryz.f5.params.toList ++ Rows.fnAsmGetSpec.plain.varTypes P0) (ds ++ gs)).all (· ≤ reachBytes) = true := hsz0
  have hval : ∀ (j : Nat) t v, Tryz.f5.params[j]? = some t → args[j]? = some v → Value.okWide P0 W .any base t v := hval0
  have hW' := hW
  obtain ⟨p, q, hA0, hV, rfl, hfz, hnd⟩ := hW
  have hA : DataW.TrodAll enc P0 W 0 (fun _ => true) true Tryz.f5.params.toList args.toList ds p := hA0
  rw [Tryz.params5] at hA hval hsz
  obtain ⟨v0, vs0, d0, ds0, p0, q0, hargs, rfl, rfl, h0, r0⟩ := trodAll_cons hA
  obtain ⟨rfl, rfl, rfl⟩ := trodAll_nil r0
  obtain rfl : args = #[v0] := by cases args; simp_all
  obtain ⟨rfl, rfl⟩ := trodVars_none hV
  obtain ⟨a0, len0, cap0, rfl⟩ := okWide_slice Tryz.underlying28 (hval 0 28 v0 rfl rfl)
  have k0 := h0
  have lt0 : ∀ x ∈ p0, x.block < W.heap.size := by obtain ⟨m, hm⟩ := k0; exact DataW.trod_lt m _ _ _ hm
  obtain ⟨l0, w0⟩ : ∃ l, SlR kU8 W ⟨a0, len0, cap0⟩ l ∧ ∀ x ∈ l, (Lit.int .u8 x).wf = true := by
    obtain ⟨fuel, hf⟩ := h0
    exact open_nums (e := 5) Tryz.underlying28 Tryz.underlying5 (by kernel_rfl) hf
  clear hA0 hval0 hsz0 hsz
  refine Calls.mono (laws.FnAsmGet.pure (w := W) hTb hTe ⟨a0, len0, cap0⟩ l0 w0) fun e W' he => ?_
  obtain ⟨x, he, hx, bel⟩ := he
  subst hx
  subst he
  exact ⟨_, rfl, _, _, _, [], _, [], hW', trodAll_mk1 (shut_bool Tryz.underlying4 _), (trodAll_cons_mk (Below.trod laidOut (by kernel_rfl) (of_decide_eq_true (by kernel_rfl)) k0 bel lt0) trodAll_mk0), rfl, bel.frame _, fun h => by cases h⟩
theorem FnAsmGet.over : Rows.fnAsmGetRow.holds Tryz.pinned (OpenSpec.ofChange Rows.fnAsmGetSpec) :=
  OpenClaim.holds_of_wide 5 Tryz.f5 rfl rfl rfl rfl rfl rfl rfl ⟨rfl, rfl, rfl, rfl, rfl⟩ rfl rfl rfl rfl rfl (by kernel_rfl) Tryz.func5 (by kernel_rfl)
    (of_decide_eq_true (by kernel_rfl)) (by unfold Func.isWrapper; first | (rw [if_pos (by decide +kernel)]; kernel_rfl) | (rw [if_neg (by decide +kernel)]; exact ⟨rfl, rfl⟩))
    (fun os started H enc _ => FnAsmGet.lifted os started H enc)
end Go.Proofs.YteggdoigliddkaaGreatDoor.V
namespace Go.Proofs.YteggdoigliddkaaGreatDoor
open Go
/-- The tied card, under a short name, for the claim. -/
theorem fnAsmGet_holds : Rows.FnAsmGetCardSaid :=
  Claim7.holds_tied_plain_at .later [] [.data, .data, .data, .data, .sentinel, .sentinel, .pinned] true (true, "21ec60a43be9c25caa2582c36e4458534a0e9d48f81cfc1bf8722147e4875e93") true
    V.FnAsmGet.over (fun _ h => by cases h) (by kernel_rfl) (fun _ h => by cases h) fnAsmGet_row_tie rfl ⟨rfl, rfl⟩ (by kernel_rfl) rfl
    (fun f fn hf hfn => by
      obtain rfl : f = 5 := Option.some.inj ((show Tryz.prog.funcNamed "loop.example/steerage/laws.FnAsmGet" = some 5 by kernel_rfl).symm.trans hf) |>.symm
      obtain rfl : fn = Tryz.f5 := (Option.some.inj (Tryz.func5.symm.trans hfn)).symm
      exact ⟨by kernel_rfl, fun j t ht => by
        rw [Tryz.params5] at ht
        have h3 : t = 28 := by
          rcases j with _ | j
          · simpa using ht.symm
          · simp at ht
        subst h3
        exact (show Tryz.prog.wantsStandIn 28 = false by kernel_rfl)⟩)
    (by kernel_rfl)
#print axioms fnAsmGet_holds
end Go.Proofs.YteggdoigliddkaaGreatDoor
