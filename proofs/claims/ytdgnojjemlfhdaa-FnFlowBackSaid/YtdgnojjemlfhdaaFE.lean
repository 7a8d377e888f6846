/- Contracts: how lines of ops are read, as far as the draws ask. -/
import Derived.Test.YtdgnojjemlfhdaaFD
namespace Go.Proofs.Ytdgnojjemlfhdaa.V
open Go Go.RowKit
set_option linter.unusedVariables false
set_option linter.unusedSimpArgs false
section
variable {w : World} {s : ByteArray}
/-- A part of a text. -/
theorem sub {lo hi : Option Int} {a b : Int} (hlo : a = lo.getD 0) (hhi : b = hi.getD (s.size : Int)) (h0 : 0 ≤ a) (h1 : a ≤ b) (h2 : b ≤ s.size) (h3 : s.size < 4611686018427387904) {K : ByteArray → World → Prop} (hk : ∀ r : ByteArray, (r.size : Int) = b - a → K r w) :
    RunT (.o (.lf .s)) P0 (Instr.sliceAt 9 (.string s) (lo.map (.int .i64)) (hi.map (.int .i64)) none) w K := by
  have hu := uStr
  have hs : ∀ i j : Nat, i ≤ j → j ≤ s.size → (s.extract i j).size = j - i := fun i j h1 h2 => by rw [ByteArray.size_extract]; omega
  cases lo with
  | none =>
    cases hi with
    | none =>
      simp only [Option.getD_none] at hlo hhi
      refine ⟨s, w, ?_, hk s (by omega)⟩
      simp [Instr.sliceAt, Instr.slice, underlying, hu, Instr.sliceBounds, Instr.sliceBound, asIntOf]
      rfl
    | some h =>
      simp only [Option.getD_none, Option.getD_some] at hlo hhi
      subst hlo hhi
      refine ⟨s.extract 0 b.toNat, w, ?_, hk _ (by rw [hs _ _ (by omega) (by omega)]; omega)⟩
      simp [Instr.sliceAt, Instr.slice, underlying, hu, Instr.sliceBounds, Instr.sliceBound, asIntOf, h1, h2]
      rfl
  | some l =>
    cases hi with
    | none =>
      simp only [Option.getD_none, Option.getD_some] at hlo hhi
      subst hlo hhi
      refine ⟨s.extract a.toNat s.size, w, ?_, hk _ (by rw [hs _ _ (by omega) (by omega)]; omega)⟩
      simp [Instr.sliceAt, Instr.slice, underlying, hu, Instr.sliceBounds, Instr.sliceBound, asIntOf, h0, h1]
      rfl
    | some h =>
      simp only [Option.getD_some] at hlo hhi
      subst hlo hhi
      refine ⟨s.extract a.toNat b.toNat, w, ?_, hk _ (by rw [hs _ _ (by omega) (by omega)]; omega)⟩
      have hb0 : 0 ≤ b := by omega
      have hmx : a ≤ max b 0 := by omega
      simp [Instr.sliceAt, Instr.slice, underlying, hu, Instr.sliceBounds, Instr.sliceBound, asIntOf, h0, h1, h2, hb0, hmx]
      rfl
theorem spec.l1Signed.c {K : Int → World → Prop} (hs : s.size < 4611686018427387904) (hk : ∀ n, K n w) : CallT (.o (.lf (.i .i64))) P0 140 [.string s] w K := by
  refine spec.l1Signed.ok (And.intro (fun h => ?_) (fun _ => spec.l1Num.c hs fun n => And.intro (fun _ => hk _) (fun _ => hk _)))
  simp only [decide_eq_true_eq] at h
  refine sxAny (by omega) (by omega) fun b _ _ => ?_
  refine And.intro (fun _ => ?_) (fun _ => spec.l1Num.c hs fun n => And.intro (fun _ => hk _) (fun _ => hk _))
  refine sub (lo := some 1) (hi := none) (a := 1) (b := s.size) rfl rfl (by omega) (by omega) (by omega) hs fun r hr => ?_
  exact spec.l1Num.c (by omega) fun n => And.intro (fun _ => hk _) (fun _ => hk _)
theorem spec.l1ReadReg.c {K : (Int × Int × Unit) → World → Prop} (hs : s.size < 4611686018427387904) (hk : ∀ n, K n w) : CallT (.n [(.lf (.i .i64)), (.lf (.i .i64))]) P0 139 [.string s] w K := by
  refine spec.l1ReadReg.ok (And.intro (fun h => ?_) (fun _ => spec.l1Num.c hs fun n => hk _))
  simp only [decide_eq_true_eq] at h
  refine sxAny (by omega) (by omega) fun b _ _ => ?_
  refine And.intro (fun _ => ?_) (fun _ => spec.l1Num.c hs fun n => hk _)
  refine sub (lo := some 1) (hi := none) (a := 1) (b := s.size) rfl rfl (by omega) (by omega) (by omega) hs fun r hr => ?_
  exact spec.l1Num.c (by omega) fun n => And.intro (fun _ => hk _) (fun _ => hk _)
theorem spec.l1Cut.c {b most : Int} {K : Sl → World → Prop} (hs : s.size < 4611686018427387904) (hm : 0 ≤ most ∧ most ≤ 1000) (hk : ∀ r w' xs, Below w.heap.size w w' → SlR kS w' r xs → 1 ≤ xs.length → (∀ y ∈ xs, y.size ≤ s.size) → K r w') :
    CallT (.o (.lf .sl)) P0 127 [.string s, .int .u8 b, .int .i64 most] w K := by
  refine spec.l1Cut.ok (nw fun w0 hb0 hs0 hc0 => ?_)
  have ho0 : OwnS kS 9 w.heap.size w0 ⟨some ⟨w.heap.size, 0, none⟩, 0, 0⟩ [] := OwnS.lit (Nat.le_refl _) hc0 rfl rfl (by simp)
  refine ⟨fun out fr i w' => ∃ (k f : Nat) (xs : List ByteArray), i = k ∧ fr = f ∧ f ≤ k ∧ k ≤ s.size ∧ OwnS kS 9 w.heap.size w' out xs ∧ (∀ y ∈ xs, y.size ≤ s.size) ∧ (xs.length : Int) ≤ most ∧ Below w.heap.size w w', fun _ _ i _ => s.size - i.toNat,
    ⟨0, 0, [], rfl, rfl, by omega, by omega, ho0, by simp, by simpa using hm.1, hb0⟩, ?_⟩
  rintro out fr i w1 ⟨k, f, xs, rfl, rfl, hfk, hks, ho, hy, hl, hb1⟩ _
  have hn := ho.len
  have last : RunT (.o (.lf .s)) P0 (Instr.sliceAt 9 (.string s) (some (.int .i64 (f : Int))) none none) w1 fun (t40 : ByteArray) w2 =>
      Nw #[(.string t40)] 9 w2 fun a w3 => RunT (.o (.lf .sl)) P0 (Builtin.append_ #[102, 102] 102 #[out.v, (.slice (some a) 1 1)]) w3 fun (t42 : Sl) w4 => K t42 w4 := by
    refine sub (lo := some (f : Int)) (hi := none) (a := f) (b := s.size) rfl rfl (by omega) (by omega) (by omega) hs fun r hr => ?_
    refine ap1 elS ho r rfl (by omega) (by omega) hb1.size fun o' w' ho' hg' _ => ?_
    refine hk o' w' _ (hb1.grown hg' hb1.size (fun b hb => (ho.blk hb).1)) ho'.read (by simp) (fun y hyy => ?_)
    rcases List.mem_append.1 hyy with h | h
    · exact hy y h
    · simp at h; subst h; omega
  refine ⟨fun w' => w' = w1 ∧ k < s.size ∧ (xs.length : Int) < most, ?_, ?_⟩
  · refine And.intro (fun h1 => And.intro (fun h2 => ?_) (fun _ => last)) (fun _ => last)
    simp only [decide_eq_true_eq] at h1 h2
    exact ⟨rfl, by omega, by omega⟩
  · rintro w2 ⟨rfl, hlt, hlm⟩ _
    refine sxAny (by omega) (by omega) fun c _ _ => ?_
    rw [i64_of (n := (k : Int) + 1) (by omega) (by omega)]
    refine And.intro (fun _ => ?_) (fun _ => ?_)
    · refine sub (lo := some (f : Int)) (hi := some (k : Int)) (a := f) (b := k) rfl rfl (by omega) (by omega) (by omega) hs fun r hr => ?_
      refine ap1 elS ho r rfl (by omega) (by omega) hb1.size fun o' w' ho' hg' _ => ?_
      refine ⟨⟨k + 1, k + 1, _, by omega, by omega, by omega, by omega, ho', fun y hyy => ?_, by simp; omega, hb1.grown hg' hb1.size (fun b hb => (ho.blk hb).1)⟩, by simp only; omega⟩
      rcases List.mem_append.1 hyy with h | h
      · exact hy y h
      · simp at h; subst h; omega
    · exact ⟨⟨k + 1, f, xs, by omega, rfl, by omega, by omega, ho, hy, hl, hb1⟩, by simp only; omega⟩
end
end Go.Proofs.Ytdgnojjemlfhdaa.V
