/- The row of FnExactSameRules: it returns true and leaves its input as it was, whatever the input. PRINTED by row.py out of the law of the same name. -/
import Derived.Test.YtdgnojjemlfhdaaRows
import Derived.Test.YtdgnojjemlfhdaaVR
import Derived.Test.YtdgnojjemlfhdaaLFnExactSameRules
namespace Go.Proofs.Ytdgnojjemlfhdaa.V
open Go Go.RowKit Go.ChangeShapes Go.WideShapes Go.ChangeAt
open Go.ChangeMaps (open_string shut_string)
set_option linter.unusedVariables false
set_option maxRecDepth 100000 in
theorem FnExactSameRules.lifted (os : Os) (started : os.Started) (H : Type) (enc : TypeId × Value → H) :
    ReturnsInHanded {} Try.checked os 8 .any (Rows.fnExactSameRulesSpec.pre6 enc P0 Try.f8 Rows.fnExactSameRulesRow.domain false) (Rows.fnExactSameRulesSpec.post enc P0 Try.f8 false true false false) := by
  refine returnsInHanded_of_change_sized (C := Try.checked) own started (by kernel_rfl) Try.func8
    (ChangeSpec.witness6 (enc := enc) (C := Try.checked) false ⟨#[], #[.slice none 0 0, .slice none 0 0], []⟩ 8 (by kernel_rfl) (by kernel_rfl) (by kernel_rfl) (by kernel_rfl)) ?_
  intro W base args ds gs before hval0 hW hcnd hsz0 _
  have hsz : (DataW.weightsEach P0 (Try.f8.params.toList ++ Rows.fnExactSameRulesSpec.plain.varTypes P0) (ds ++ gs)).all (· ≤ reachBytes) = true := hsz0
  have hval : ∀ (j : Nat) t v, Try.f8.params[j]? = some t → args[j]? = some v → Value.okWide P0 W .any base t v := hval0
  have hW' := hW
  obtain ⟨p, q, hA0, hV, rfl, hfz, hnd⟩ := hW
  have hA : DataW.TrodAll enc P0 W 0 (fun _ => true) true Try.f8.params.toList args.toList ds p := hA0
  rw [Try.params8] at hA hval hsz
  obtain ⟨v0, vs0, d0, ds0, p0, q0, hargs, rfl, rfl, h0, r0⟩ := trodAll_cons hA
  obtain ⟨v1, vs1, d1, ds1, p1, q1, rfl, rfl, rfl, h1, r1⟩ := trodAll_cons r0
  obtain ⟨rfl, rfl, rfl⟩ := trodAll_nil r1
  obtain rfl : args = #[v0, v1] := by cases args; simp_all
  obtain ⟨rfl, rfl⟩ := trodVars_none hV
  obtain ⟨a0, len0, cap0, rfl⟩ := okWide_slice Try.underlying22 (hval 0 22 v0 rfl rfl)
  have k0 := h0
  have lt0 : ∀ x ∈ p0, x.block < W.heap.size := by obtain ⟨m, hm⟩ := k0; exact DataW.trod_lt m _ _ _ hm
  obtain ⟨l0, w0⟩ : ∃ l, SlR kRule W ⟨a0, len0, cap0⟩ l := by
    obtain ⟨fuel, hf⟩ := h0
    exact open_list kRule (e := 61) (n := 5) Try.underlying22 (by kernel_rfl) rfl (by decide) (fun fuel cs y hy => by
      obtain ⟨zs, hz, rfl⟩ := trod_intFields (t := 61) (n := 5) Try.underlying61 (by kernel_rfl) (by kernel_rfl) hy
      match zs, hz with
      | [z0, z1, z2, z3, z4], _ => exact ⟨⟨z0, z1, z2, z3, z4⟩, rfl⟩) hf
  obtain ⟨a1, len1, cap1, rfl⟩ := okWide_slice Try.underlying22 (hval 1 22 v1 rfl rfl)
  have k1 := h1
  have lt1 : ∀ x ∈ p1, x.block < W.heap.size := by obtain ⟨m, hm⟩ := k1; exact DataW.trod_lt m _ _ _ hm
  obtain ⟨l1, w1⟩ : ∃ l, SlR kRule W ⟨a1, len1, cap1⟩ l := by
    obtain ⟨fuel, hf⟩ := h1
    exact open_list kRule (e := 61) (n := 5) Try.underlying22 (by kernel_rfl) rfl (by decide) (fun fuel cs y hy => by
      obtain ⟨zs, hz, rfl⟩ := trod_intFields (t := 61) (n := 5) Try.underlying61 (by kernel_rfl) (by kernel_rfl) hy
      match zs, hz with
      | [z0, z1, z2, z3, z4], _ => exact ⟨⟨z0, z1, z2, z3, z4⟩, rfl⟩) hf
  clear hA0 hval0 hsz0 hsz
  refine Calls.mono (laws.FnExactSameRules.pure (w := W) ⟨a0, len0, cap0⟩ l0 w0 ⟨a1, len1, cap1⟩ l1 w1) fun e W' he => ?_
  obtain ⟨x, he, hx, bel⟩ := he
  subst hx
  subst he
  exact ⟨_, rfl, _, _, _, [], _, [], hW', trodAll_mk1 (shut_bool Try.underlying4 _), (trodAll_cons_mk (Below.trod laidOut (by kernel_rfl) (of_decide_eq_true (by kernel_rfl)) k0 bel lt0) (trodAll_cons_mk (Below.trod laidOut (by kernel_rfl) (of_decide_eq_true (by kernel_rfl)) k1 bel lt1) trodAll_mk0)), rfl, bel.frame _, fun h => by cases h⟩
theorem FnExactSameRules.over : Rows.fnExactSameRulesRow.holds Try.pinned (OpenSpec.ofChange Rows.fnExactSameRulesSpec) :=
  OpenClaim.holds_of_wide 8 Try.f8 rfl rfl rfl rfl rfl rfl rfl ⟨rfl, rfl, rfl, rfl, rfl⟩ rfl rfl rfl rfl rfl (by kernel_rfl) Try.func8 (by kernel_rfl)
    (of_decide_eq_true (by kernel_rfl)) (by unfold Func.isWrapper; first | (rw [if_pos (by decide +kernel)]; kernel_rfl) | (rw [if_neg (by decide +kernel)]; exact ⟨rfl, rfl⟩))
    (fun os started H enc _ => FnExactSameRules.lifted os started H enc)
end Go.Proofs.Ytdgnojjemlfhdaa.V
namespace Go.Proofs.Ytdgnojjemlfhdaa
/-- The row, under a short name, for the claim. -/
theorem fnExactSameRules_holds : Rows.FnExactSameRulesSaid := V.FnExactSameRules.over
#print axioms fnExactSameRules_holds
end Go.Proofs.Ytdgnojjemlfhdaa
