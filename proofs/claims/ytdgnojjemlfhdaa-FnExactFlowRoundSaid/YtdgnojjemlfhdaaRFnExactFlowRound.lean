/- The row of FnExactFlowRound: it returns true and leaves its input as it was, whatever the input. PRINTED by row.py out of the law of the same name. -/
import Derived.Test.YtdgnojjemlfhdaaRows
import Derived.Test.YtdgnojjemlfhdaaVR
import Derived.Test.YtdgnojjemlfhdaaLFnExactFlowRound
namespace Go.Proofs.Ytdgnojjemlfhdaa.V
open Go Go.RowKit Go.ChangeShapes Go.WideShapes Go.ChangeAt
open Go.ChangeMaps (open_string shut_string)
set_option linter.unusedVariables false
set_option maxRecDepth 100000 in
theorem FnExactFlowRound.lifted (os : Os) (started : os.Started) (H : Type) (enc : TypeId × Value → H) :
    ReturnsInHanded {} Try.checked os 10 .any (Rows.fnExactFlowRoundSpec.pre6 enc P0 Try.f10 Rows.fnExactFlowRoundRow.domain false) (Rows.fnExactFlowRoundSpec.post enc P0 Try.f10 false true false false) := by
  refine returnsInHanded_of_change_sized (C := Try.checked) own started (by kernel_rfl) Try.func10
    (ChangeSpec.witness6 (enc := enc) (C := Try.checked) false ⟨#[], #[.slice none 0 0], []⟩ 8 (by kernel_rfl) (by kernel_rfl) (by kernel_rfl) (by kernel_rfl)) ?_
  intro W base args ds gs before hval0 hW hcnd hsz0 _
  have hsz : (DataW.weightsEach P0 (Try.f10.params.toList ++ Rows.fnExactFlowRoundSpec.plain.varTypes P0) (ds ++ gs)).all (· ≤ reachBytes) = true := hsz0
  have hval : ∀ (j : Nat) t v, Try.f10.params[j]? = some t → args[j]? = some v → Value.okWide P0 W .any base t v := hval0
  have hW' := hW
  obtain ⟨p, q, hA0, hV, rfl, hfz, hnd⟩ := hW
  have hA : DataW.TrodAll enc P0 W 0 (fun _ => true) true Try.f10.params.toList args.toList ds p := hA0
  rw [Try.params10] at hA hval hsz
  obtain ⟨v0, vs0, d0, ds0, p0, q0, hargs, rfl, rfl, h0, r0⟩ := trodAll_cons hA
  obtain ⟨rfl, rfl, rfl⟩ := trodAll_nil r0
  obtain rfl : args = #[v0] := by cases args; simp_all
  obtain ⟨rfl, rfl⟩ := trodVars_none hV
  obtain ⟨a0, len0, cap0, rfl⟩ := okWide_slice Try.underlying29 (hval 0 29 v0 rfl rfl)
  have k0 := h0
  have lt0 : ∀ x ∈ p0, x.block < W.heap.size := by obtain ⟨m, hm⟩ := k0; exact DataW.trod_lt m _ _ _ hm
  obtain ⟨l0, w0⟩ : ∃ l, SlR kIns W ⟨a0, len0, cap0⟩ l := by
    obtain ⟨fuel, hf⟩ := h0
    exact open_list kIns (e := 67) (n := 6) Try.underlying29 (by kernel_rfl) rfl (by decide) (fun fuel cs y hy => by
      obtain ⟨zs, hz, rfl⟩ := trod_intFields (t := 67) (n := 6) Try.underlying67 (by kernel_rfl) (by kernel_rfl) hy
      match zs, hz with
      | [z0, z1, z2, z3, z4, z5], _ => exact ⟨⟨z0, z1, z2, z3, z4, z5⟩, rfl⟩) hf
  clear hA0 hval0 hsz0 hsz
  refine Calls.mono (laws.FnExactFlowRound.pure (w := W) ⟨a0, len0, cap0⟩ l0 w0) fun e W' he => ?_
  obtain ⟨x, he, hx, bel⟩ := he
  subst hx
  subst he
  exact ⟨_, rfl, _, _, _, [], _, [], hW', trodAll_mk1 (shut_bool Try.underlying4 _), (trodAll_cons_mk (Below.trod laidOut (by kernel_rfl) (of_decide_eq_true (by kernel_rfl)) k0 bel lt0) trodAll_mk0), rfl, bel.frame _, fun h => by cases h⟩
theorem FnExactFlowRound.over : Rows.fnExactFlowRoundRow.holds Try.pinned (OpenSpec.ofChange Rows.fnExactFlowRoundSpec) :=
  OpenClaim.holds_of_wide 10 Try.f10 rfl rfl rfl rfl rfl rfl rfl ⟨rfl, rfl, rfl, rfl, rfl⟩ rfl rfl rfl rfl rfl (by kernel_rfl) Try.func10 (by kernel_rfl)
    (of_decide_eq_true (by kernel_rfl)) (by unfold Func.isWrapper; first | (rw [if_pos (by decide +kernel)]; kernel_rfl) | (rw [if_neg (by decide +kernel)]; exact ⟨rfl, rfl⟩))
    (fun os started H enc _ => FnExactFlowRound.lifted os started H enc)
end Go.Proofs.Ytdgnojjemlfhdaa.V
namespace Go.Proofs.Ytdgnojjemlfhdaa
/-- The row, under a short name, for the claim. -/
theorem fnExactFlowRound_holds : Rows.FnExactFlowRoundSaid := V.FnExactFlowRound.over
#print axioms fnExactFlowRound_holds
end Go.Proofs.Ytdgnojjemlfhdaa
