/- The verification-condition generator: lists of operations, regions, statements. -/
import Derived.Test.YtdgnojjemlfhdaaV3
namespace Go.Proofs.Ytdgnojjemlfhdaa.V
open Go Go.RowKit

section
variable {P : Program} {ds : List Deferred} {o : Oper} {env : Env} {w : World} {K : EV → World → Prop} {Q : List PanicEntry → World → Prop}
variable {next : Act → World → Prop} {Q' : Exit → Act → World → Prop}

theorem evD_pure (h : match (execOp (rho env) o).run P w with | .ok (.value v) w' => K (.v v) w' | _ => False)
    (hK : ∀ v w', K v w' → next (act ds (put env o.dst v)) w') : o.wp P (act ds env) w next Q' := by
  split at h
  · rename_i v w' hr; exact upon_val hr h hK
  · exact h.elim
theorem evD_sound (h : evD P o env w K Q) (hK : ∀ v w', K v w' → next (act ds (put env o.dst v)) w')
    (hQ : ∀ ch w', Q ch w' → Q' (.panic ch) (act ds env) w') : o.wp P (act ds env) w next Q' := by
  obtain ⟨dst, op, type, pos, after, guard⟩ := o
  cases op with
  | move x => exact upon_ev (by simp [execOp, rho]) h hK
  | assign x => exact upon_ev (by simp [execOp, rho]) h hK
  | pick c a b =>
    simp only [evD] at h
    split at h
    · rename_i t hc
      cases t with
      | true => exact upon_ev (v := evO env a) (by simp [execOp, rho, hc, EV.val, asBool]) h hK
      | false => exact upon_ev (v := evO env b) (by simp [execOp, rho, hc, EV.val, asBool]) h hK
    · rename_i t hc
      cases t with
      | true => exact upon_ev (v := evO env a) (by simp [execOp, rho, hc, EV.val, asBool]) (h.1 rfl) hK
      | false => exact upon_ev (v := evO env b) (by simp [execOp, rho, hc, EV.val, asBool]) (h.2 rfl) hK
    · exact h.elim
  | binOp op t x y yt =>
    simp only [evD] at h
    split at h
    · rename_i k a k' b hx hy
      split at h
      · rename_i hk
        subst hk
        refine upon_val (v := .int k (k.wrap (a.tdiv b))) ?_ h.2 hK
        simp [execOp, hx, hy, eqGuard, binOp, Op.intDiv, h.1]
      · exact h.elim
    · rename_i k a k' b hx hy
      split at h
      · rename_i hk
        subst hk
        refine upon_val (v := .int k (a.tmod b)) ?_ h.2 hK
        simp [execOp, hx, hy, eqGuard, binOp, Op.intDiv, h.1]
      · exact h.elim
    · rename_i k a k' b hx hy
      refine upon_val (v := .int k (k.wrap (a * 2 ^ (min b.toNat k.bits)))) ?_ h.2 hK
      have : ¬ b < 0 := by have := h.1; omega
      simp [execOp, hx, hy, eqGuard, binOp, Op.shift, this]
    · rename_i k a k' b hx hy
      refine upon_val (v := .int k (a.fdiv (2 ^ (min b.toNat k.bits)))) ?_ h.2 hK
      have : ¬ b < 0 := by have := h.1; omega
      simp [execOp, hx, hy, eqGuard, binOp, Op.shift, this]
    · rename_i a b hx hy
      refine upon_val (v := .string (a ++ b)) ?_ h.2 hK
      have hh : ((a.size : Int) + b.size) ≤ 9223372036854775807 := by have := h.1; have e : IntKind.i64.max = 9223372036854775807 := rfl; omega
      simp only [execOp, hx, hy, eqGuard, binOp, Op.stringOp, Sem.run_bind, Int.natCast_add]
      simp
      exact hh
    · exact evD_pure h hK
  | unOp op t x => exact evD_pure h hK
  | fieldAddr s x f => exact evD_pure h hK
  | convert s d x => exact evD_pure h hK
  | extract t ix =>
    simp only [evD] at h
    split at h
    · rename_i vs hv
      split at h
      · rename_i v hi
        simp only [Array.getElem?_toList] at hi
        exact upon_val (by simp [execOp, hv, Instr.extract, hi]) h hK
      · exact h.elim
    · exact h.elim
  | alloc t =>
    simp only [evD] at h
    split at h
    · rename_i hz
      obtain ⟨v, hv, hvc⟩ := run_zeroValue (P := P) (w := w) hz
      exact upon_val (by simp [execOp, Instr.alloc, hv, newVar, newRow, hvc]) h hK
    · exact h.elim
  | box t x => exact upon_val (by simp [execOp, Instr.box, newVar, newRow]) h hK
  | buildSlice t len parts =>
    simp only [evD] at h
    split at h
    · rename_i e he
      split at h
      · rename_i sz hs
        split at h
        · rename_i hc
          simp only [Bool.and_eq_true, decide_eq_true_eq, beq_iff_eq] at hc
          obtain ⟨⟨hl, hz⟩, hzl⟩ := hc
          split at h
          · rename_i cs hf
            refine upon_val ?_ h hK
            have := run_buildSlice (w := w) (parts := parts.map fun (i, x) => (i, rho env x)) he hs hl hz hzl (by simpa using hf)
            simp [execOp, this]
          · exact h.elim
        · exact h.elim
      · exact h.elim
    · exact h.elim
  | build t parts =>
    simp only [evD] at h
    split at h
    · rename_i fs hfs
      split at h
      · rename_i ps hps
        split at h
        · rename_i hz
          split at h
          · rename_i cs hf
            refine upon_val ?_ h hK
            have := run_build (w := w) (parts := parts.map fun (i, x) => (i, rho env x)) hfs hps hz (by simpa using hf)
            simp [execOp, this]
          · exact h.elim
        · exact h.elim
      · exact h.elim
    · exact h.elim
  | store t a x =>
    simp only [evD] at h
    split at h
    · rename_i ad ha
      split at h
      · split at h
        · rename_i hs
          obtain ⟨hv, ⟨old, ho⟩, hf, hk⟩ := h
          exact upon_skip (by simp [execOp, ha, Instr.storeAt, Instr.sureAddr, run_storeLf hs hv ho hf]) hk hK
        · exact h.elim
      · split at h
        · rename_i cs hx
          split at h
          · rename_i hs
            obtain ⟨w', hr, hk⟩ := h
            refine upon_skip (w' := w') ?_ hk hK
            simp only [Array.length_toList] at hs
            simp [execOp, ha, Instr.storeAt, Instr.sureAddr, storeVar, run_sizeOf hs, hx, Value.cells, hr]
          · exact h.elim
        · exact h.elim
      · exact h.elim
    · exact h.elim
  | nilCheck x =>
    simp only [evD] at h
    split at h
    · rename_i a ha
      exact upon_val (by simp [execOp, ha]) h hK
    · exact h.elim
  | field t x f =>
    simp only [evD] at h
    split at h
    · rename_i fs hfs
      split at h
      · rename_i fd hfd
        split at h
        · rename_i cs hx
          split at h
          · rename_i hag
            split at h
            · rename_i v hv
              unfold fieldsOf at hfs
              split at hfs
              · rename_i fa hu
                simp only [Option.some.injEq] at hfs
                subst hfs
                simp only [Array.getElem?_toList] at hfd hv
                refine upon_val ?_ h hK
                simp [execOp, Instr.field, underlying, hu, hfd, hx, asAgg, part, run_isAgg hag, hv]
              · simp at hfs
            · exact h.elim
          · exact h.elim
        · exact h.elim
      · exact h.elim
    · exact h.elim
  | indexAddr t x ix =>
    simp only [evD] at h
    split at h
    · rename_i s n c k i hx hi
      split at h
      · rename_i e he
        split at h
        · rename_i sz hs
          obtain ⟨a, ha, h0, h1, hk⟩ := h
          exact upon_val (by simp [execOp, hx, hi, run_indexAt he hs ha h0 h1]) hk hK
        · exact h.elim
      · exact h.elim
    · exact h.elim
  | index t x ix =>
    simp only [evD] at h
    split at h
    · rename_i s k i hx hi
      split at h
      · rename_i hu
        obtain ⟨h0, b, hb, hk⟩ := h
        refine upon_val ?_ hk hK
        simp [execOp, hx, hi, Instr.index, asIntOf, underlying, hu, h0, hb]
      · exact h.elim
    · exact h.elim
  | makeInterface t x =>
    simp only [evD] at h
    split at h
    · exact h.elim
    · rename_i d hd hu
      refine upon_val ?_ h hK
      simp only [execOp, Instr.makeInterface, Sem.run_bind, underlying, run_program, Result.andThen_ok, hu, Sem.run_pure]
    · exact h.elim
  | next it s =>
    obtain ⟨b, rest, w', hr, hk⟩ := h
    exact upon_val (by simp [execOp, hr]) hk hK
  | makeFunc fn first cap =>
    refine upon_val ?_ h hK
    have e1 : (first.toList.map (rho env)).toArray = first.map (rho env) := by simp [← Array.toList_map]
    have e2 : (cap.toList.map (rho env)).toArray = cap.map (rho env) := by simp [← Array.toList_map]
    rw [e1, e2]
    simp [execOp, Instr.makeFunc]
  | call c =>
    obtain ⟨callee, args, ats⟩ := c
    cases callee with
    | value x => exact h.elim
    | invoke r m => exact h.elim
    | builtin b =>
      cases b with
      | len =>
        simp only [evD] at h
        split at h
        · rename_i s n cc t ha ht
          split at h
          · rename_i e hu
            refine upon_val ?_ h hK
            have h0 : (args.map (rho env))[0]? = some (.slice s n cc) := by rw [← Array.getElem?_toList, Array.toList_map, ha]; rfl
            have h1 : ats[0]? = some t := by rw [← Array.getElem?_toList, ht]; rfl
            simp only [Array.getElem?_map] at h0
            simp [execOp, resolve, invoke, builtin, Builtin.len_, h0, h1, underlying, hu, goInt]
          · exact h.elim
        · rename_i s t ha ht
          split at h
          · rename_i hu
            refine upon_val ?_ h hK
            have h0 : (args.map (rho env))[0]? = some (.string s) := by rw [← Array.getElem?_toList, Array.toList_map, ha]; rfl
            have h1 : ats[0]? = some t := by rw [← Array.getElem?_toList, ht]; rfl
            simp only [Array.getElem?_map] at h0
            simp [execOp, resolve, invoke, builtin, Builtin.len_, h0, h1, underlying, hu, goInt]
          · exact h.elim
        · exact h.elim
      | cap =>
        simp only [evD] at h
        split at h
        · rename_i s n cc t ha ht
          split at h
          · rename_i e hu
            refine upon_val ?_ h hK
            have h0 : (args.map (rho env))[0]? = some (.slice s n cc) := by rw [← Array.getElem?_toList, Array.toList_map, ha]; rfl
            have h1 : ats[0]? = some t := by rw [← Array.getElem?_toList, ht]; rfl
            simp only [Array.getElem?_map] at h0
            simp [execOp, resolve, invoke, builtin, Builtin.cap_, h0, h1, underlying, hu, goInt]
          · exact h.elim
        · exact h.elim
      | max =>
        simp only [evD] at h
        split at h
        · rename_i k a k' b ha
          refine upon_val ?_ h hK
          have h0 : (args.map (rho env)).toList = [.int k a, .int k' b] := by rw [Array.toList_map, ha]
          simp only [Array.toList_map] at h0
          simp [execOp, resolve, invoke, builtin, Builtin.max_, h0, Builtin.max2]
        · exact h.elim
      | min =>
        simp only [evD] at h
        split at h
        · rename_i k a k' b ha
          refine upon_val ?_ h hK
          have h0 : (args.map (rho env)).toList = [.int k a, .int k' b] := by rw [Array.toList_map, ha]
          simp only [Array.toList_map] at h0
          simp [execOp, resolve, invoke, builtin, Builtin.min_, h0, Builtin.min2]
        · exact h.elim
      | _ => exact h.elim
  | panic x =>
    simp only [evD] at h
    split at h
    · rename_i v w' hr
      unfold Oper.wp
      rw [act_eval, hr, Oper.upon_panic]
      exact hQ _ _ h
    · exact h.elim
  | _ => exact h.elim
theorem spl_out {v : EV} {w' : World} (h : spl K v w') (hK : ∀ v w', K v w' → next (act ds (put env o.dst v)) w') : next (act ds (put env o.dst v)) w' := by
  cases v with
  | b t => exact hK _ _ h
  | v x =>
    cases x with
    | bool t =>
      have he : act ds (put env o.dst (.v (.bool t))) = act ds (put env o.dst (.b t)) := by rw [← act_put, ← act_put]; rfl
      rw [he]
      cases t with
      | true => exact hK _ _ (h.1 rfl)
      | false => exact hK _ _ (h.2 rfl)
    | _ => exact hK _ _ h
theorem evOp_sound {pl : OpP} (h : evOp P pl o env w K Q) (hK : ∀ v w', K v w' → next (act ds (put env o.dst v)) w')
    (hQ : ∀ ch w', Q ch w' → Q' (.panic ch) (act ds env) w') : o.wp P (act ds env) w next Q' := by
  induction pl generalizing K with
  | y => exact h.elim
  | sp p ih => exact ih h (fun v w' hh => spl_out hh hK)
  | d => exact evD_sound h hK hQ
  | t r =>
    simp only [evOp] at h
    split at h
    · rename_i s hs
      obtain ⟨x, w', hr, hk⟩ := h
      exact upon_val (by rw [semV_run hs, hr]; rfl) hk hK
    · exact h.elim
  | u =>
    simp only [evOp] at h
    split at h
    · rename_i s hs
      obtain ⟨w', hr, hk⟩ := h
      exact upon_skip (by rw [semU_run hs, hr]; rfl) hk hK
    · exact h.elim
  | l τ =>
    obtain ⟨dst, op, type, pos, after, guard⟩ := o
    cases op with
    | load t a =>
      simp only [evOp] at h
      split at h
      · rename_i ad ha
        split at h
        · split at h
          · rename_i l ht
            obtain ⟨x, hx, hk⟩ := h
            exact upon_val (by simp [execOp, ha, Instr.loadAt, Instr.sureAddr, run_loadLf ht hx]) hk hK
          · exact h.elim
        · split at h
          · rename_i ls ht
            simp only [Bool.and_eq_true, decide_eq_true_eq] at ht
            obtain ⟨x, hx, hk⟩ := h
            have hl : (Tup.cells ls x).length = ls.length := by
              clear hx hk ht
              induction ls with
              | nil => rfl
              | cons l ls ih => simp [Tup.cells, ih]
            exact upon_val (by simp [execOp, ha, Instr.loadAt, Instr.sureAddr, run_loadAg ht.1 (hl ▸ ht.2) hx]) hk hK
          · exact h.elim
      · exact h.elim
    | _ => exact h.elim
  | c r =>
    simp only [evOp] at h
    split at h
    · rename_i f args hc
      split at h
      · rename_i hcb
        unfold Oper.wp
        rw [act_eval, callOf_run hc hcb, Oper.upon_enter]
        refine Calls.mono h ?_
        rintro e w' ⟨x, rfl, hk⟩
        have := act_put ds env o.dst (.v (r.emb x))
        simp only [EV.val] at this
        simp only [this]
        exact hK _ _ hk
      · exact h.elim
    · exact h.elim
  | cp r =>
    simp only [evOp] at h
    split at h
    · rename_i f args hc
      split at h
      · rename_i hcb
        unfold Oper.wp
        rw [act_eval, callOf_run hc hcb, Oper.upon_enter]
        refine Calls.mono h ?_
        rintro e w' (⟨x, rfl, hk⟩ | ⟨ch, rfl, hk⟩)
        · have := act_put ds env o.dst (.v (r.emb x))
          simp only [EV.val] at this
          simp only [this]
          exact hK _ _ hk
        · exact hQ _ _ hk
      · exact h.elim
    · exact h.elim
  | n =>
    obtain ⟨dst, op, type, pos, after, guard⟩ := o
    cases op with
    | nilCheck x =>
      simp only [evOp] at h
      split at h
      · rename_i p hp
        obtain ⟨a, rfl, hk⟩ := h
        exact upon_val (by simp [execOp, hp]) hk hK
      · exact h.elim
    | _ => exact h.elim
end
end Go.Proofs.Ytdgnojjemlfhdaa.V
