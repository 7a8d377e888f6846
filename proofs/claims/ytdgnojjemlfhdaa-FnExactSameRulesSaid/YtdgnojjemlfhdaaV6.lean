/- The verification-condition generator: statements, joins, loops, calls. -/
import Derived.Test.YtdgnojjemlfhdaaVH
namespace Go.Proofs.Ytdgnojjemlfhdaa.V
open Go Go.RowKit

def writes : Code → List Nat
  | .region _ ops _ => ops.toList.filterMap (·.dst)
  | .seq a b => writes a ++ writes b
  | .cond _ a b => writes a ++ writes b
  | .block _ a => writes a
  | .loop a => writes a
  | _ => []
abbrev Ss' := List (Nat × Lf)
@[reducible] def TS : Ss' → Type
  | [] => Unit
  | s :: r => s.2.T × TS r
@[reducible] def Fn (R : Type) : Ss' → Type
  | [] => R
  | s :: r => s.2.T → Fn R r
def ap {R : Type} : (ss : Ss') → Fn R ss → TS ss → R
  | [], f, _ => f
  | _ :: r, f, t => ap r (f t.1) t.2
def All : (ss : Ss') → (TS ss → Prop) → Prop
  | [], p => p ()
  | s :: r, p => ∀ x : s.2.T, All r fun t => p (x, t)
theorem All.out : ∀ {ss : Ss'} {p : TS ss → Prop}, All ss p → ∀ t, p t
  | [], _, h, () => h
  | _ :: _, _, h, (x, t) => All.out (h x) t
def unS : (ss : Ss') → Env → Option (TS ss)
  | [], _ => some ()
  | s :: r, env => match s.2.un (env.getD s.1 u0).val, unS r env with
    | some x, some t => some (x, t)
    | _, _ => none
def slotVal : (ss : Ss') → TS ss → Nat → Option Value
  | [], _, _ => none
  | s :: r, t, i => match i == s.1 with
    | true => some (s.2.emb t.1)
    | false => slotVal r t.2 i
def reb (W : List Nat) (look : Nat → Option Value) (g : Nat → Value) : Nat → Env → Env
  | _, [] => []
  | i, e :: es => (match look i with
    | some v => .v v
    | none => match W.contains i with
      | true => .v (g i)
      | false => e) :: reb W look g (i + 1) es
theorem reb_length (W : List Nat) (look : Nat → Option Value) (g : Nat → Value) : ∀ (env : Env) (i : Nat), (reb W look g i env).length = env.length
  | [], _ => rfl
  | _ :: es, i => by simp [reb, reb_length W look g es (i + 1)]
theorem reb_get (W : List Nat) (look : Nat → Option Value) (g : Nat → Value) : ∀ (env : Env) (i j : Nat), j < env.length →
    ((reb W look g i env).getD j u0).val = match look (i + j) with
      | some v => v
      | none => match W.contains (i + j) with
        | true => g (i + j)
        | false => (env.getD j u0).val
  | [], _, _, h => by simp at h
  | e :: es, i, 0, _ => by
    simp only [reb, List.getD_cons_zero, Nat.add_zero]
    cases look i with
    | some v => rfl
    | none => cases W.contains i <;> rfl
  | e :: es, i, j + 1, h => by
    have := reb_get W look g es (i + 1) j (by simpa using h)
    simp only [reb, List.getD_cons_succ, this]
    rw [show i + 1 + j = i + (j + 1) by omega]
theorem slotVal_un : ∀ {ss : Ss'} {env : Env} {t : TS ss}, unS ss env = some t → ∀ i v, slotVal ss t i = some v → v = (env.getD i u0).val
  | [], _, _, _, _, _, h => by simp [slotVal] at h
  | s :: r, env, t, h, i, v, hv => by
    simp only [unS] at h
    split at h
    · rename_i x t' h1 h2
      simp only [Option.some.injEq] at h
      subst h
      simp only [slotVal] at hv
      split at hv
      · rename_i hi
        simp only [Option.some.injEq] at hv
        simp only [beq_iff_eq] at hi
        subst hi hv
        exact (Lf.un_emb h1).symm
      · exact slotVal_un h2 i v hv
    · simp at h
theorem getD_len {a b : Env} (hl : a.length = b.length) (i : Nat) (h : ¬ i < a.length) : (a.getD i u0).val = (b.getD i u0).val := by
  have h1 : a[i]? = none := List.getElem?_eq_none (by omega)
  have h2 : b[i]? = none := List.getElem?_eq_none (by omega)
  rw [List.getD_eq_getElem?_getD, List.getD_eq_getElem?_getD, h1, h2]
/-- What stands behind a piece of code is what 'reb' makes of what stood ahead of it. -/
theorem reb_act {ds : List Deferred} {W : List Nat} {ss : Ss'} {env env' : Env} {t : TS ss} (ha : Ag W env env') (hu : unS ss env' = some t) :
    act ds (reb W (slotVal ss t) (fun i => (env'.getD i u0).val) 0 env) = act ds env' := by
  refine act_congr (by rw [reb_length, ha.1]) (fun i => ?_)
  by_cases hi : i < env.length
  · rw [reb_get _ _ _ _ _ _ hi]
    simp only [Nat.zero_add]
    split
    · rename_i v hv; exact slotVal_un hu i v hv
    · split
      · rfl
      · rename_i hc
        have : i ∉ W := by simpa using hc
        exact (ha.2 i this).symm
  · exact getD_len (by rw [reb_length, ha.1]) i (by rw [reb_length]; omega)
theorem reb_ag {W : List Nat} {look : Nat → Option Value} {g : Nat → Value} {env : Env} (hl : ∀ i v, look i = some v → i ∈ W) : Ag W env (reb W look g 0 env) := by
  refine ⟨reb_length _ _ _ _ _, fun i hi => ?_⟩
  by_cases h : i < env.length
  · rw [reb_get _ _ _ _ _ _ h]
    simp only [Nat.zero_add]
    split
    · rename_i v hv; exact absurd (hl i v hv) hi
    · split
      · rename_i hc; exact absurd (by simpa using hc) hi
      · rfl
  · exact getD_len (reb_length _ _ _ _ _) i (by rw [reb_length]; omega)
def slotsIn (W : List Nat) : Ss' → Bool
  | [] => true
  | s :: r => W.contains s.1 && slotsIn W r
theorem slotsIn_spec {W : List Nat} : ∀ {ss : Ss'}, slotsIn W ss = true → ∀ (t : TS ss) i v, slotVal ss t i = some v → i ∈ W
  | [], _, _, _, _, h => by simp [slotVal] at h
  | s :: r, hs, t, i, v, h => by
    simp only [slotsIn, Bool.and_eq_true] at hs
    simp only [slotVal] at h
    split at h
    · rename_i hi
      simp only [beq_iff_eq] at hi
      subst hi
      simpa using hs.1
    · exact slotsIn_spec hs.2 _ i v h

def ev (P : Program) : Pl → Code → (Exit → Env → World → Prop) → Env → World → Prop
  | .z, c, K, env, w => match c with
    | .skip => K .normal env w
    | .label _ => K .normal env w
    | .exit id => K (.exit id) env w
    | .ret => K .ret env w
    | _ => False
  | .r ps, c, K, env, w => match c with
    | .region _ ops draw => match draw with
      | false => evL P ops K ps ops.toList env w
      | true => match P.follows .mixedOrders && Region.lexB .any ops with
        | true => evQ P ops (fun w' => Below w.heap.size w w') (fun env' => ∀ w', Below w.heap.size w w' → K .normal env' w') ps ops.toList env
        | false => False
    | _ => False
  | .g ps tl, c, K, env, w => match c with
    | .region _ ops draw => match draw with
      | true => match okR P ops ps env.length with
        | true => evR P ops ps tl K env w
        | false => False
      | false => False
    | _ => False
  | .s pa pb, c, K, env, w => match c with
    | .seq a b => ev P pa a (fun e env' w' => match e with
      | .normal => ev P pb b K env' w'
      | .exit id => K (.exit id) env' w'
      | .goto l => K (.goto l) env' w'
      | .ret => K .ret env' w'
      | .panic ch => K (.panic ch) env' w'
      | .outgrown => K .outgrown env' w') env w
    | _ => False
  | .j ss pa pb, c, K, env, w => match c with
    | .seq a b => ∃ J : Fn (World → Prop) ss,
      ev P pa a (fun e env' w' => match e with
        | .normal => (match unS ss env' with
          | some xs => ap ss J xs w'
          | none => False)
        | .exit id => K (.exit id) env' w'
        | .goto l => K (.goto l) env' w'
        | .ret => K .ret env' w'
        | .panic ch => K (.panic ch) env' w'
        | .outgrown => K .outgrown env' w') env w ∧
      All ss fun xs => ∀ w', ap ss J xs w' → ∀ g : Nat → Value, ev P pb b K (reb (writes a) (slotVal ss xs) g 0 env) w'
    | _ => False
  | .c pa pb, c, K, env, w => match c with
    | .cond x a b => match evO env x with
      | .b t => match t with
        | true => ev P pa a K env w
        | false => ev P pb b K env w
      | .v (.bool t) => (t = true → ev P pa a K env w) ∧ (t = false → ev P pb b K env w)
      | .v _ => False
    | _ => False
  | .b p, c, K, env, w => match c with
    | .block id a => ev P p a (fun e env' w' => match e with
      | .exit id' => (match id' == id with
        | true => K .normal env' w'
        | false => K (.exit id') env' w')
      | .normal => K .normal env' w'
      | .goto l => K (.goto l) env' w'
      | .ret => K .ret env' w'
      | .panic ch => K (.panic ch) env' w'
      | .outgrown => K .outgrown env' w') env w
    | _ => False
  | .l ss p, c, K, env, w => match c with
    | .loop a => match slotsIn (writes a) ss with
      | true => ∃ (I : Fn (World → Prop) ss) (μ : Fn (World → Nat) ss),
        (match unS ss env with
          | some xs => ap ss I xs w
          | none => False) ∧
        All ss fun xs => ∀ w', ap ss I xs w' → ∀ g : Nat → Value, ev P p a (fun e env' w'' => match e with
          | .normal => (match unS ss env' with
            | some ys => ap ss I ys w'' ∧ ap ss μ ys w'' < ap ss μ xs w'
            | none => False)
          | .exit id => K (.exit id) env' w''
          | .goto l => K (.goto l) env' w''
          | .ret => K .ret env' w''
          | .panic ch => K (.panic ch) env' w''
          | .outgrown => K .outgrown env' w'') (reb (writes a) (slotVal ss xs) g 0 env) w'
      | false => False
    | _ => False

theorem wp_loop_typed {P : Program} {Q : Exit → Act → World → Prop} {c : Code} {σ : Type} (F : σ → Act) (I : σ → World → Prop) (μ : σ → World → Nat)
    (round : ∀ s w, I s w → c.wp P (Exit.then (fun a' w' => ∃ s', a' = F s' ∧ I s' w' ∧ μ s' w' < μ s w) Q) (F s) w) (s : σ) (w : World) (h : I s w) : (Code.loop c).wp P Q (F s) w := by
  intro b k cs
  have key : ∀ n s w, μ s w = n → I s w → ∃ e a' w', Q e a' w' ∧ Arrives P (lone (b.at (F s) (.code c :: .inLoop c :: k)) cs w) b k cs e a' w' := by
    intro n
    induction n using Nat.strongRecOn with
    | _ n ih =>
      intro s w hn hI
      obtain ⟨e, a₁, w₁, hq, harr⟩ := round s w hI b (.inLoop c :: k) cs
      cases e with
      | normal =>
        obtain ⟨s', rfl, hI₁, hlt⟩ := hq
        obtain ⟨e₂, a₂, w₂, hq₂, harr₂⟩ := ih (μ s' w₁) (hn ▸ hlt) s' w₁ rfl hI₁
        exact ⟨e₂, a₂, w₂, hq₂, .of_steps (Steps.trans harr (.one step_inLoop)) harr₂⟩
      | exit id => exact ⟨_, a₁, w₁, hq, .pass (x := .inLoop c) rfl (fun _ _ => .inl (by simp)) harr⟩
      | goto l => exact ⟨_, a₁, w₁, hq, .pass (x := .inLoop c) rfl (fun _ _ => .inl (by simp)) harr⟩
      | ret => exact ⟨_, a₁, w₁, hq, .pass (x := .inLoop c) rfl (fun _ _ => .inl (by simp)) harr⟩
      | panic ch => exact ⟨_, a₁, w₁, hq, .pass (x := .inLoop c) rfl (fun _ _ => .inl (by simp)) harr⟩
      | outgrown => exact ⟨_, a₁, w₁, hq, .pass (x := .inLoop c) rfl (fun _ _ => .inl (by simp)) harr⟩
  obtain ⟨e, a', w', hq, harr⟩ := key _ s w rfl h
  exact ⟨e, a', w', hq, .of_steps (.one step_loop) harr⟩

section
variable {P : Program} {ds : List Deferred}
theorem ev_sound : ∀ (p : Pl) (c : Code) (K : Exit → Env → World → Prop) (Q : Exit → Act → World → Prop) (env : Env) (w : World),
    (∀ e env' w', K e env' w' → Ag (writes c) env env' → Q e (act ds env') w') → ev P p c K env w → c.wp P Q (act ds env) w
  | .z, c, K, Q, env, w, hK, h => by
    cases c with
    | skip => exact wp_skip (hK _ _ _ h (Ag.refl _ _))
    | label l => exact wp_label (hK _ _ _ h (Ag.refl _ _))
    | exit id => exact wp_exit (hK _ _ _ h (Ag.refl _ _))
    | ret => exact wp_ret (hK _ _ _ h (Ag.refl _ _))
    | _ => exact h.elim
  | .r ps, c, K, Q, env, w, hK, h => by
    cases c with
    | region id ops draw =>
      have hS : ∀ o ∈ ops.toList, ∀ d, o.dst = some d → d ∈ writes (.region id ops draw) := fun o ho d hd => List.mem_filterMap.2 ⟨o, ho, hd⟩
      cases draw with
      | false =>
        refine wp_region_list (evL_sound (S := writes (.region id ops false)) (env0 := env) hK ps ops.toList env w ?_ (Ag.refl _ _) h)
        exact hS
      | true =>
        simp only [ev] at h
        split at h
        · rename_i hb
          simp only [Bool.and_eq_true] at hb
          refine wp_region_quiet (C := fun w' => Below w.heap.size w w') hb.1 hb.2 (Below.drew (Below.refl _ _)) ?_
          exact evQ_sound (S := writes (.region id ops true)) (env0 := env) (fun env' hk hag w' hw' => hK _ _ _ (hk w' hw') hag) ps ops.toList env hS (Ag.refl _ _) h
        · exact h.elim
    | _ => exact h.elim
  | .g ps tl, c, K, Q, env, w, hK, h => by
    cases c with
    | region id ops draw =>
      have hS : ∀ o ∈ ops.toList, ∀ d, o.dst = some d → d ∈ writes (.region id ops draw) := fun o ho d hd => List.mem_filterMap.2 ⟨o, ho, hd⟩
      cases draw with
      | false => exact h.elim
      | true =>
        simp only [ev] at h
        split at h
        · rename_i hb
          exact evR_sound (S := writes (.region id ops true)) hb hS hK h
        · exact h.elim
    | _ => exact h.elim
  | .s pa pb, c, K, Q, env, w, hK, h => by
    cases c with
    | seq a b =>
      refine wp_seq (ev_sound pa a _ _ env w ?_ h)
      intro e env' w' hk hag
      have hag' : Ag (writes (.seq a b)) env env' := hag.mono fun i hi => List.mem_append_left _ hi
      cases e with
      | normal =>
        exact ev_sound pb b K Q env' w' (fun e env2 w2 h2 hag2 => hK _ _ _ h2 (hag'.trans (hag2.mono fun i hi => List.mem_append_right _ hi))) hk
      | exit id => exact hK _ _ _ hk hag'
      | goto l => exact hK _ _ _ hk hag'
      | ret => exact hK _ _ _ hk hag'
      | panic ch => exact hK _ _ _ hk hag'
      | outgrown => exact hK _ _ _ hk hag'
    | _ => exact h.elim
  | .j ss pa pb, c, K, Q, env, w, hK, h => by
    cases c with
    | seq a b =>
      obtain ⟨J, h1, h2⟩ := h
      refine wp_seq (ev_sound pa a _ _ env w ?_ h1)
      intro e env' w' hk hag
      have hag' : Ag (writes (.seq a b)) env env' := hag.mono fun i hi => List.mem_append_left _ hi
      cases e with
      | normal =>
        simp only at hk
        split at hk
        · rename_i xs hu
          have h3 := h2.out xs w' hk (fun i => (env'.getD i u0).val)
          have he := reb_act (ds := ds) hag hu
          have := ev_sound pb b K Q _ w' (fun e env2 w2 h4 hag2 => hK _ _ _ h4 ?_) h3
          · rw [he] at this; exact this
          · refine Ag.trans (b := reb (writes a) (slotVal ss xs) (fun i => (env'.getD i u0).val) 0 env) ?_ (hag2.mono fun i hi => List.mem_append_right _ hi)
            refine ⟨reb_length _ _ _ _ _, fun i hi => ?_⟩
            by_cases hl : i < env.length
            · rw [reb_get _ _ _ _ _ _ hl]
              simp only [Nat.zero_add]
              split
              · rename_i v hv; rw [slotVal_un hu i v hv]; exact hag'.2 i hi
              · split
                · exact hag'.2 i hi
                · rfl
            · exact getD_len (reb_length _ _ _ _ _) i (by rw [reb_length]; omega)
        · exact hk.elim
      | exit id => exact hK _ _ _ hk hag'
      | goto l => exact hK _ _ _ hk hag'
      | ret => exact hK _ _ _ hk hag'
      | panic ch => exact hK _ _ _ hk hag'
      | outgrown => exact hK _ _ _ hk hag'
    | _ => exact h.elim
  | .c pa pb, c, K, Q, env, w, hK, h => by
    cases c with
    | cond x a b =>
      have hl : ∀ e env' w', K e env' w' → Ag (writes a) env env' → Q e (act ds env') w' := fun e env' w' hk hag => hK _ _ _ hk (hag.mono fun i hi => List.mem_append_left _ hi)
      have hr : ∀ e env' w', K e env' w' → Ag (writes b) env env' → Q e (act ds env') w' := fun e env' w' hk hag => hK _ _ _ hk (hag.mono fun i hi => List.mem_append_right _ hi)
      simp only [ev] at h
      split at h
      · rename_i t hx
        have hc : (act ds env).eval x = .bool t := by rw [act_eval, rho, hx]; rfl
        split at h
        · exact wp_cond hc (ev_sound pa a K Q env w hl h)
        · exact wp_cond hc (ev_sound pb b K Q env w hr h)
      · rename_i t hx
        have hc : (act ds env).eval x = .bool t := by rw [act_eval, rho, hx]; rfl
        exact wp_cond_split hc (fun ht => ev_sound pa a K Q env w hl (h.1 ht)) (fun ht => ev_sound pb b K Q env w hr (h.2 ht))
      · exact h.elim
    | _ => exact h.elim
  | .b p, c, K, Q, env, w, hK, h => by
    cases c with
    | block id a =>
      refine wp_block (ev_sound p a _ _ env w ?_ h)
      intro e env' w' hk hag
      cases e with
      | exit id' =>
        simp only at hk
        simp only [Exit.inBlock]
        split at hk
        · rename_i hh; rw [if_pos (by simpa using hh)]; exact hK _ _ _ hk hag
        · rename_i hh; rw [if_neg (by simpa using hh)]; exact hK _ _ _ hk hag
      | normal => exact hK _ _ _ hk hag
      | goto l => exact hK _ _ _ hk hag
      | ret => exact hK _ _ _ hk hag
      | panic ch => exact hK _ _ _ hk hag
      | outgrown => exact hK _ _ _ hk hag
    | _ => exact h.elim
  | .l ss p, c, K, Q, env, w, hK, h => by
    cases c with
    | loop a =>
      simp only [ev] at h
      split at h
      · rename_i hin
        obtain ⟨I, μ, h0, h1⟩ := h
        split at h0
        · rename_i xs0 hu0
          have e0 : act ds env = act ds (reb (writes a) (slotVal ss xs0) (fun i => (env.getD i u0).val) 0 env) := (reb_act (Ag.refl _ _) hu0).symm
          rw [e0]
          refine wp_loop_typed (σ := TS ss × (Nat → Value)) (fun s => act ds (reb (writes a) (slotVal ss s.1) s.2 0 env)) (fun s w => ap ss I s.1 w) (fun s w => ap ss μ s.1 w) ?_ (xs0, fun i => (env.getD i u0).val) w h0
          rintro ⟨xs, g⟩ w' hI
          have hag0 : Ag (writes a) env (reb (writes a) (slotVal ss xs) g 0 env) := reb_ag (slotsIn_spec hin xs)
          refine ev_sound p a _ _ _ w' ?_ (h1.out xs w' hI g)
          intro e env' w2 hk hag
          have hag' : Ag (writes a) env env' := hag0.trans hag
          cases e with
          | normal =>
            simp only at hk
            split at hk
            · rename_i ys hu
              exact ⟨(ys, fun i => (env'.getD i u0).val), (reb_act hag' hu).symm, hk.1, hk.2⟩
            · exact hk.elim
          | exit id => exact hK _ _ _ hk hag'
          | goto l => exact hK _ _ _ hk hag'
          | ret => exact hK _ _ _ hk hag'
          | panic ch => exact hK _ _ _ hk hag'
          | outgrown => exact hK _ _ _ hk hag'
        · exact h0.elim
      · exact h.elim
    | _ => exact h.elim
end

/-- What a function hands back. -/
def resK (P : Program) : List ResultVar → (τs : List Ty) → Env → World → (Tys τs → Prop) → Prop
  | [], [], _, _, k => k ()
  | .tmp t :: rs, τ :: τs, env, w, k => match τ.un (env.getD t u0).val with
    | some x => resK P rs τs env w fun xs => k (x, xs)
    | none => False
  | .cell a ty :: rs, τ :: τs, env, w, k => match (env.getD a u0).val with
    | .pointer (some ad) => match τ with
      | .lf l => if aggT P ty = some false then Ld l ad w fun x _ => resK P rs τs env w fun xs => k (x, xs) else False
      | .ag ls => if aggT P ty = some true && szOf P ty = some ls.length then LdA ls ad w fun x _ => resK P rs τs env w fun xs => k (x, xs) else False
    | _ => False
  | _, _, _, _, _ => False
@[reducible] def Rs.tys : Rs → List Ty
  | .z => []
  | .o τ => [τ]
  | .n τs => τs
def Rs.of : (r : Rs) → Tys r.tys → r.T
  | .z, _ => ()
  | .o _, t => t.1
  | .n _, t => t
def Rs.fine : Rs → Bool
  | .n [_] => false
  | _ => true
def top (P : Program) (rs : List ResultVar) (r : Rs) (K : r.T → World → Prop) (Kp : List PanicEntry → World → Prop) : Exit → Env → World → Prop
  | .normal, env, w => resK P rs r.tys env w fun t => K (r.of t) w
  | .ret, env, w => resK P rs r.tys env w fun t => K (r.of t) w
  | .panic ch, _, w => Kp ch w
  | _, _, _ => False
def code (fn : Func) : Code := fn.body.getD .skip
theorem cells_length : ∀ (ls : List Lf) (x : Tup ls), (Tup.cells ls x).length = ls.length
  | [], _ => rfl
  | l :: ls, x => by simp [Tup.cells, cells_length ls]
def resF (tmps : Array Value) : ResultVar → Sem Value
  | .tmp t => pure (tmps.getD t undef)
  | .cell a t => do loadVar t (← asAddr (tmps.getD a undef))
theorem results_eq (fn : Func) (tmps : Array Value) : results fn tmps = (do
    let vs ← fn.results.mapM (resF tmps)
    pure (if h : vs.size = 1 then vs[0] else .tuple vs)) := by
  unfold results
  congr 1
theorem resK_run {P : Program} {ds : List Deferred} {env : Env} {w : World} : ∀ {rs : List ResultVar} {τs : List Ty} {k : Tys τs → Prop}, resK P rs τs env w k →
    ∃ t, k t ∧ (rs.mapM (resF (act ds env).tmps)).run P w = .ok (Tys.vals τs t) w
  | [], [], _, h => ⟨(), h, by simp [Tys.vals]⟩
  | [], _ :: _, _, h => h.elim
  | .tmp t :: rs, [], _, h => h.elim
  | .cell a ty :: rs, [], _, h => h.elim
  | .tmp t :: rs, τ :: τs, k, h => by
    simp only [resK] at h
    split at h
    · rename_i x hx
      obtain ⟨t', hk, hr⟩ := resK_run (ds := ds) h
      refine ⟨(x, t'), hk, ?_⟩
      have : (act ds env).tmps.getD t undef = τ.emb x := by
        rw [← Ty.un_emb hx]
        exact congrFun (act_eval ds env) (.tmp t)
      simp only [List.mapM_cons, Sem.run_bind, resF, Sem.run_pure, Result.andThen_ok, this, hr, Tys.vals]
    · exact h.elim
  | .cell a ty :: rs, τ :: τs, k, h => by
    simp only [resK] at h
    split at h
    · rename_i ad ha
      have hta : (asAddr ((act ds env).tmps.getD a undef)).run P w = .ok ad w := by
        have : (act ds env).tmps.getD a undef = .pointer (some ad) := by
          rw [← ha]
          exact congrFun (act_eval ds env) (.tmp a)
        rw [this]; rfl
      cases τ with
      | lf l =>
        simp only at h
        split at h
        · rename_i hag
          obtain ⟨x, hx, h⟩ := h
          obtain ⟨t', hk, hr⟩ := resK_run (ds := ds) h
          refine ⟨(x, t'), hk, ?_⟩
          simp only [List.mapM_cons, Sem.run_bind, resF, hta, Sem.run_pure, Result.andThen_ok, run_loadLf hag hx, hr, Tys.vals, Ty.emb]
        · exact h.elim
      | ag ls =>
        simp only at h
        split at h
        · rename_i hag
          simp only [Bool.and_eq_true, decide_eq_true_eq] at hag
          obtain ⟨x, hx, h⟩ := h
          obtain ⟨t', hk, hr⟩ := resK_run (ds := ds) h
          refine ⟨(x, t'), hk, ?_⟩
          simp only [List.mapM_cons, Sem.run_bind, resF, hta, Sem.run_pure, Result.andThen_ok, run_loadAg hag.1 ((cells_length ls x) ▸ hag.2) hx, hr, Tys.vals, Ty.emb]
        · exact h.elim
    · exact h.elim
theorem vals_length : ∀ (τs : List Ty) (t : Tys τs), (Tys.vals τs t).length = τs.length
  | [], _ => rfl
  | τ :: τs, t => by simp [Tys.vals, vals_length τs]
theorem results_run {P : Program} {ds : List Deferred} {env : Env} {w : World} {fn : Func} {r : Rs} (hr : r.fine = true) {k : r.T → World → Prop}
    (h : resK P fn.results.toList r.tys env w fun t => k (r.of t) w) : ∃ x, k x w ∧ (results fn (act ds env).tmps).run P w = .ok (r.emb x) w := by
  obtain ⟨t, hk, hrun⟩ := resK_run (ds := ds) h
  refine ⟨r.of t, hk, ?_⟩
  rw [results_eq]
  have hm : fn.results.mapM (resF (act ds env).tmps) = List.toArray <$> fn.results.toList.mapM (resF (act ds env).tmps) := by
    conv => lhs; rw [← Array.toArray_toList (xs := fn.results)]
    rw [List.mapM_toArray]
  rw [hm]
  simp only [Sem.run_bind, Sem.run_map, hrun]
  simp only [Result.andThen_ok, Sem.run_pure, List.size_toArray, vals_length]
  cases r with
  | z => simp [Rs.tys, Rs.emb, Tys.vals]
  | o τ => simp [Rs.tys, Rs.emb, Rs.of, Tys.vals]
  | n τs =>
    have hn : τs.length ≠ 1 := by
      match τs, hr with
      | [], _ => simp
      | _ :: _ :: _, _ => simp
    simp [Rs.tys, hn, Rs.emb, Rs.of]

/-- The verification condition of a call. -/
@[irreducible] def VC (P : Program) (fn : Func) (pl : Pl) (r : Rs) (args : List Value) (w : World) (K : r.T → World → Prop) (Kp : List PanicEntry → World → Prop) : Prop :=
  ev P pl (code fn) (top P fn.results.toList r K Kp) (args.map EV.v ++ List.replicate (fn.ntmps - args.length) u0) w
theorem callP_of {P : Program} {f : FuncId} {fn : Func} (hf : P.funcs[f]? = some fn) (hb : fn.body.isSome = true) {pl : Pl} {r : Rs} (hr : r.fine = true) {args : List Value} {w : World} {K : r.T → World → Prop} {Kp : List PanicEntry → World → Prop}
    (h : VC P fn pl r args w K Kp) : CallP r P f args w K Kp := by
  obtain ⟨c, hc⟩ := Option.isSome_iff_exists.1 hb
  have hcode : code fn = c := by simp [code, hc]
  unfold VC at h
  rw [hcode] at h
  refine calls_of_wp hf hc ?_
  have he : act [] (args.map EV.v ++ List.replicate (fn.ntmps - args.length) u0) = { tmps := args.toArray ++ Array.replicate (fn.ntmps - args.toArray.size) undef, defers := [] } := by
    simp only [act, Act.mk.injEq, and_true]
    rw [← Array.toList_inj]
    have e2 : (EV.val ∘ EV.v) = id := rfl
    simp [u0, EV.val, e2]
  rw [← he]
  refine ev_sound pl c _ _ _ w ?_ h
  intro e env' w' hk _
  cases e with
  | normal =>
    obtain ⟨x, hx, hr⟩ := results_run (ds := []) hr hk
    exact ⟨rfl, _, hr, .inl ⟨x, rfl, hx⟩⟩
  | ret =>
    obtain ⟨x, hx, hr⟩ := results_run (ds := []) hr hk
    exact ⟨rfl, _, hr, .inl ⟨x, rfl, hx⟩⟩
  | panic ch => exact ⟨rfl, .inr ⟨ch, rfl, hk⟩⟩
  | exit id => exact hk.elim
  | goto l => exact hk.elim
  | outgrown => exact hk.elim
def noP : List PanicEntry → World → Prop := fun _ _ => False
theorem call_of {P : Program} {f : FuncId} {fn : Func} (hf : P.funcs[f]? = some fn) (hb : fn.body.isSome = true) {pl : Pl} {r : Rs} (hr : r.fine = true) {args : List Value} {w : World} {K : r.T → World → Prop}
    (h : VC P fn pl r args w K noP) : CallT r P f args w K :=
  (callP_of hf hb hr h).mono fun _ _ => fun
    | .inl h => h
    | .inr ⟨_, _, h⟩ => h.elim
theorem CallT.mono {P : Program} {f : FuncId} {r : Rs} {args : List Value} {w : World} {K K' : r.T → World → Prop} (h : CallT r P f args w K) (hk : ∀ x w', K x w' → K' x w') : CallT r P f args w K' :=
  Calls.mono h fun _ _ ⟨x, he, hx⟩ => ⟨x, he, hk _ _ hx⟩
end Go.Proofs.Ytdgnojjemlfhdaa.V
