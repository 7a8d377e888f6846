/- Contracts: the draws of the flow's laws, and what the laws use. -/
import Derived.Test.YtdgnojjemlfhdaaFK
namespace Go.Proofs.Ytdgnojjemlfhdaa.V
open Go Go.RowKit
set_option linter.unusedVariables false
set_option linter.unusedSimpArgs false
section
variable {w : World} {a b : Sl} {xs ys : List Int}
theorem laws.sgInts.c {K : Bool → World → Prop} (ha : SlR kI w a xs) (hb : SlR kI w b ys) (hk : ∀ w', Below w.heap.size w w' → K (decide (xs = ys)) w') : CallT (.o (.lf .b)) P0 42 [a.v, b.v] w K := by
  have hna := ha.len; have hnb := hb.len; have hm := ha.max
  refine laws.sgInts.ok ?_
  unfold laws.sgInts.vc
  refine And.intro (fun h => kof (hk _ (Below.refl _ _)) ?_) (fun h => ?_)
  · rw [bne_len] at h
    simp only [decide_eq_false_iff_not]; rintro rfl; omega
  · have hle : xs.length = ys.length := by simp at h; omega
    refine ⟨fun i w' => ∃ n : Nat, i = n ∧ n ≤ xs.length ∧ (∀ j < n, xs[j]? = ys[j]?) ∧ Below w.heap.size w w', fun i _ => xs.length - i.toNat, ⟨0, rfl, by omega, by simp, Below.refl _ _⟩, ?_⟩
    rintro i w1 ⟨n, rfl, hn, hE, hb1⟩ _
    refine And.intro (fun hlt => ?_) (fun hge => ?_)
    · simp only [decide_eq_true_eq] at hlt
      obtain ⟨x, hx⟩ := get_some (l := xs) (k := n) (by omega)
      obtain ⟨y, hy⟩ := get_some (l := ys) (k := n) (by omega)
      refine qixL (ha.below hb1) (i := n) (by omega) (x := x) (by simpa using hx) rfl (l := .i .i64) (v := x) rfl ?_
      refine qixL (hb.below hb1) (i := n) (by omega) (x := y) (by simpa using hy) rfl (l := .i .i64) (v := y) rfl ?_
      intro w2 hb2
      have hbb := hb1.trans (hb2.mono hb1.size)
      refine And.intro (fun hne => kof (hk _ hbb) ?_) (fun he => ?_)
      · simp only [bne_iff_ne, ne_eq] at hne
        simp only [decide_eq_false_iff_not]; rintro rfl; rw [hx] at hy; simp at hy; exact hne hy
      · simp at he
        simp (disch := omega) only [i64_of]
        refine ⟨⟨n + 1, by omega, by omega, fun j hj => ?_, hbb⟩, by omega⟩
        rcases Nat.lt_or_ge j n with h1 | h1
        · exact hE j h1
        · obtain rfl : j = n := by omega
          rw [hx, hy, he]
    · simp only [decide_eq_false_iff_not] at hge
      refine kof (hk _ hb1) ?_
      simp only [decide_eq_true_eq]
      exact take_ext hle fun j x hx => by rw [← hE j (by have := lt_of_get hx; omega)]; exact hx
theorem laws.sgIn.c {n : Int} {K : Bool → World → Prop} (ha : SlR kI w a xs) (hk : ∀ w', w' = w → K (decide (n ∈ xs)) w') : CallT (.o (.lf .b)) P0 46 [a.v, .int .i64 n] w K := by
  have hna := ha.len; have hm := ha.max
  refine laws.sgIn.ok ⟨fun i w' => ∃ k : Nat, i = k ∧ k ≤ xs.length ∧ n ∉ xs.take k ∧ w' = w, fun i _ => xs.length - i.toNat, ⟨0, rfl, by omega, by simp, rfl⟩, ?_⟩
  rintro i w1 ⟨k, rfl, hk1, hno, rfl⟩ _
  refine And.intro (fun hlt => ?_) (fun hge => kof (hk _ rfl) ?_)
  · simp only [decide_eq_true_eq] at hlt
    obtain ⟨x, hx⟩ := get_some (l := xs) (k := k) (by omega)
    refine ixL ha (i := k) (by omega) (x := x) (by simpa using hx) rfl (l := .i .i64) (v := x) rfl ?_
    refine And.intro (fun he => kof (hk _ rfl) ?_) (fun he => ?_)
    · simp only [beq_iff_eq] at he
      subst he
      simp only [decide_eq_true_eq]; exact List.mem_of_getElem? hx
    · rw [i64_of (n := (k : Int) + 1) (by omega) (by omega)]
      refine ⟨⟨k + 1, by omega, by omega, ?_, rfl⟩, by simp only; omega⟩
      rw [List.take_add_one, hx]
      simp only [beq_eq_false_iff_ne, ne_eq] at he
      simp only [Option.toList_some, List.mem_append, List.mem_singleton, not_or]
      exact ⟨hno, fun e => he e.symm⟩
  · simp only [decide_eq_false_iff_not] at hge
    obtain rfl : k = xs.length := by omega
    rw [List.take_length] at hno
    simpa using hno
end
theorem u8_all {bs : List Int} (h : ∀ x ∈ bs, (Lit.int .u8 x).wf = true) : ∀ x ∈ bs, 0 ≤ x ∧ x ≤ 255 := fun x hx => by
  have := h x hx
  simp only [Lit.wf, Bool.and_eq_true, decide_eq_true_eq] at this
  exact this
section
variable {w : World} {code : Sl} {bs : List Int}
/-- What a draw of a program begins with. -/
theorem prog0 {Kp : Option Addr → World → Prop} (h : SlR kU8 w code bs) (hb : ∀ x ∈ bs, 0 ≤ x ∧ x ≤ 255)
    (hk : ∀ w1, Below w.heap.size w w1 → RdS w.heap.size w.heap.size 0 w1 → Kp (some ⟨w.heap.size, 0, none⟩) w1) : CallT (.o (.lf .p)) P0 72 [code.v] w Kp := spec.l20Open.c h hb hk
theorem spec.DrawProgForm.c {K : Sl → World → Prop} (h : SlR kU8 w code bs) (hb : ∀ x ∈ bs, 0 ≤ x ∧ x ≤ 255)
    (hk : ∀ r w' ys, Below w.heap.size w w' → SlR kIns w' r ys → ys.length ≤ 64 → K r w') : CallT (.o (.lf .sl)) P0 76 [code.v] w K := by
  refine spec.DrawProgForm.ok (spec.l20Open.c h hb fun w1 b1 r1 => ?_)
  have hbr := r1.lt
  refine spec.l20Prog.c r1 (by omega) fun r w2 ys g2 r2 o2 h1 h2 => ?_
  have b2 : Below w.heap.size w w2 := b1.grown g2 b1.size (fun b hb => by simp only [Option.some.injEq] at hb; omega)
  have hon := o2.len
  have hoc := o2.cap
  have o2' := o2.low (B' := w.heap.size) b1.size
  refine spec.l20Rd.pick.c r2 (by omega) (by omega) fun t10 w3 _ _ g3 r3 => ?_
  have b3 : Below w.heap.size w w3 := b2.grown g3 b2.size (fun b hb => by simp only [Option.some.injEq] at hb; omega)
  have o3 := o2.keptBr g3 hbr
  refine And.intro (fun _ => ?_) (fun _ => And.intro (fun _ => ?_) (fun _ => And.intro (fun _ => hk _ _ [] b3 (SlR.nil _ _) (by simp)) (fun _ => hk _ _ ys b3 o3.read (by omega))))
  · rw [i64_of (by omega) (by omega)]
    refine slcR (k := kIns) (e := 51) (by kernel_rfl) (by kernel_rfl) o3.read (lo := none) (hi := some ((r.n : Int) - 1)) (mx := none) (l := 0) (h' := r.n - 1) (m := r.c) rfl (by simp; omega) rfl (by simp) (by omega) (by omega) (by omega) (by omega) fun q hq _ hq2 _ => ?_
    exact hk _ _ _ b3 hq2 (by simp; omega)
  · refine ⟨fun list w' => ∃ zs, OwnS kIns 51 w1.heap.size w' list zs ∧ zs.length ≤ 49 ∧ RdS w.heap.size w.heap.size (400 + zs.length) w' ∧ Below w.heap.size w w' ∧ w1.heap.size ≤ w'.heap.size, fun list _ => 60 - list.n, ⟨ys, o3, by omega, r3.more (by omega), b3, by have := g2.size; have := g3.size; omega⟩, ?_⟩
    rintro list w4 ⟨zs, o4, hz, r4, b4, hs4⟩ _
    have hln := o4.len
    refine spec.l20Rd.pick.c r4 (by omega) (by omega) fun t23 w5 _ _ g5 r5 => ?_
    have b5 : Below w.heap.size w w5 := b4.grown g5 b4.size (fun b hb => by simp only [Option.some.injEq] at hb; omega)
    have o5 := o4.keptBr g5 hbr
    rw [i64_of (n := 48 + t23) (by omega) (by omega)]
    refine And.intro (fun hlt => ?_) (fun _ => hk _ _ zs b5 o5.read (by omega))
    simp only [decide_eq_true_eq] at hlt
    have hs5 := b5.size
    have hw15 : w1.heap.size ≤ w5.heap.size := by have := g5.size; omega
    refine ap1 elIns o5 ⟨20, 0, -1, 0, 0, 0⟩ rfl (by omega) (by omega) hw15 fun o' w6 o6 g6 _ => ?_
    have hl6 := o6.len
    simp only [List.length_append, List.length_cons, List.length_nil] at hl6
    exact ⟨⟨_, o6, by simp; omega, (r5.keptO o5 g6 hbr).more (by simp; omega), b5.grown g6 b5.size (fun b hb => by have := (o5.blk hb).1; have := b1.size; omega), by have := g6.size; omega⟩, by simp only; omega⟩
theorem spec.DrawFlowBlocks.c {K : Sl → World → Prop} (h : SlR kU8 w code bs) (hb : ∀ x ∈ bs, 0 ≤ x ∧ x ≤ 255)
    (hk : ∀ r w' ys, Below w.heap.size w w' → SlR kIns w' r ys → ys.length ≤ 64 → K r w') : CallT (.o (.lf .sl)) P0 45 [code.v] w K :=
  spec.DrawFlowBlocks.ok (spec.DrawProgForm.c h hb hk)
theorem spec.DrawFlowRound.c {K : Sl → World → Prop} (h : SlR kU8 w code bs) (hb : ∀ x ∈ bs, 0 ≤ x ∧ x ≤ 255)
    (hk : ∀ r w' ys, Below w.heap.size w w' → SlR kIns w' r ys → ys.length ≤ 64 → K r w') : CallT (.o (.lf .sl)) P0 47 [code.v] w K :=
  spec.DrawFlowRound.ok (spec.DrawProgForm.c h hb hk)
theorem spec.DrawFlowNext.c {K : Sl × Int × Unit → World → Prop} (h : SlR kU8 w code bs) (hb : ∀ x ∈ bs, 0 ≤ x ∧ x ≤ 255)
    (hk : ∀ r i w' ys, Below w.heap.size w w' → SlR kIns w' r ys → ys.length ≤ 64 → -1 ≤ i ∧ i ≤ 64 → K (r, i, ()) w') : CallT (.n [(.lf .sl), (.lf (.i .i64))]) P0 41 [code.v] w K := by
  refine spec.DrawFlowNext.ok (spec.l20Open.c h hb fun w1 b1 r1 => ?_)
  have hbr := r1.lt
  refine spec.l20Prog.c r1 (by omega) fun r w2 ys g2 r2 o2 h1 h2 => ?_
  have hon := o2.len
  rw [i64_of (n := ((r.n : Nat) : Int) + 1) (by omega) (by omega)]
  refine spec.l20Rd.pick.c r2 (by omega) (by omega) fun t15 w3 _ _ g3 r3 => ?_
  refine spec.l20Rd.pick.c r3 (by omega) (by omega) fun t17 w4 _ _ g4 r4 => ?_
  have g := grown_trans (grown_trans g2 g3) g4
  rw [i64_of (n := t15 - t17) (by omega) (by omega)]
  exact hk _ _ _ ys (b1.grown g b1.size (fun b hb => by simp only [Option.some.injEq] at hb; omega)) ((o2.keptBr g3 hbr).keptBr g4 hbr).read (by omega) (by omega)
theorem spec.DrawFlowAhead.c {K : Sl × Int × Int × Unit → World → Prop} (h : SlR kU8 w code bs) (hb : ∀ x ∈ bs, 0 ≤ x ∧ x ≤ 255)
    (hk : ∀ r i j w' ys, Below w.heap.size w w' → SlR kIns w' r ys → ys.length ≤ 64 → -1 ≤ i ∧ i ≤ 64 → -1 ≤ j ∧ j ≤ 64 → K (r, i, j, ()) w') : CallT (.n [(.lf .sl), (.lf (.i .i64)), (.lf (.i .i64))]) P0 44 [code.v] w K := by
  refine spec.DrawFlowAhead.ok (spec.l20Open.c h hb fun w1 b1 r1 => ?_)
  have hbr := r1.lt
  refine spec.l20Prog.c r1 (by omega) fun r w2 ys g2 r2 o2 h1 h2 => ?_
  have hon := o2.len
  rw [i64_of (n := ((r.n : Nat) : Int) + 1) (by omega) (by omega)]
  refine spec.l20Rd.pick.c r2 (by omega) (by omega) fun t15 w3 _ _ g3 r3 => ?_
  refine spec.l20Rd.pick.c r3 (by omega) (by omega) fun t17 w4 _ _ g4 r4 => ?_
  refine spec.l20Rd.pick.c r4 (by omega) (by omega) fun t23 w5 _ _ g5 r5 => ?_
  have g := grown_trans (grown_trans (grown_trans g2 g3) g4) g5
  rw [i64_of (n := t15 - t17) (by omega) (by omega)]
  exact hk _ _ _ _ ys (b1.grown g b1.size (fun b hb => by simp only [Option.some.injEq] at hb; omega)) (((o2.keptBr g3 hbr).keptBr g4 hbr).keptBr g5 hbr).read (by omega) (by omega) (by omega)
end
end Go.Proofs.Ytdgnojjemlfhdaa.V
