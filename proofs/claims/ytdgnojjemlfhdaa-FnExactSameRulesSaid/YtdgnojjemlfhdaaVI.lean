/- The verification-condition generator within fences: rounds of a range over a function, calls of yield. -/
import Derived.Test.YtdgnojjemlfhdaaV6
import Derived.TacticsInMore
import Derived.RangeFuncIn
import Derived.RangeFuncLeaves
import Derived.RangeFuncSeq
import Derived.RangeFuncWrites
namespace Go.Proofs.Ytdgnojjemlfhdaa.V
open Go Go.RowKit

/-- The wide fence, within a round or not. -/
def Rd (r : Option Nat) : Fence := { Fence.wide with round := r }
section
variable {P : Program} {r : Option Nat} {n : Nat}
theorem callsIn_rd {f : FuncId} {args : Array Value} {w : World} {R : Ending → World → Prop} (h : Calls P f args w R) : CallsIn (Rd r) n P f args w R :=
  ⟨trivial, fun cs _ => let ⟨e, w', fr, hr, s, x⟩ := h cs; ⟨e, w', fr, hr, comesIn_wide.2 s, x⟩⟩
theorem calls_of_rd {f : FuncId} {args : Array Value} {w : World} {R : Ending → World → Prop} (h : CallsIn (Rd r) n P f args w R) : Calls P f args w R :=
  fun cs => let ⟨e, w', fr, hr, s, x⟩ := h.2 cs (fun _ h => by simp [Rd, Fence.wide] at h); ⟨e, w', fr, hr, comesIn_wide.1 s, x⟩
theorem rowsIn_rd {row : String} {args : Array Value} {w : World} {R : Value → World → Prop} (h : Rows P row args w R) : RowsIn (Rd r) n P row args w R :=
  fun c cs _ => let ⟨v, w', hr, s⟩ := h c cs; ⟨v, w', hr, stepsIn_wide.2 s⟩
theorem roundIn_rd {m m' : Nat} {l : Nat} {f : FuncId} {tmps : Array Value} {assign body : Code} {w : World} {R : Ending → World → Prop} (h : RoundIn Fence.wide m P l f tmps assign body w R) : RoundIn (Rd r) m' P l f tmps assign body w R :=
  ⟨trivial, fun c cs _ => h.2 c cs (fun _ h => by simp [Fence.wide] at h)⟩
theorem op_in {o : Oper} {a : Act} {w : World} {next : Act → World → Prop} {Q : Exit → Act → World → Prop} (hd : ∀ c, o.op ≠ .defer c) (h : o.wp P a w next Q) : o.wpIn (Rd r) n P a w next Q := by
  refine ⟨fun _ _ => trivial, ?_⟩
  rw [Oper.semAt_eq _ _ _ hd]
  unfold Oper.wp at h
  generalize (execOp a.eval o).run P w = res at *
  cases res with
  | ok x w' =>
    cases x <;> simp only [Oper.upon] at h
    case value v => exact h
    case skip => exact h
    case defer d => exact h
    case enter f args => exact ⟨fun hh => by simp [Rd, Fence.wide] at hh, callsIn_rd h⟩
    case row row args => exact ⟨fun hh => by simp [Rd, Fence.wide] at hh, rowsIn_rd h⟩
  | halt x w' => cases x <;> simp only [Oper.upon] at h; exact h
end
/-- A call of yield. -/
def YldT (P : Program) (l : Nat) (args : List Value) (w : World) (K : Bool → World → Prop) : Prop :=
  YieldAt Fence.wide 0 P l args.toArray w (fun e w' => ∃ b, e = .returned (.bool b) ∧ K b w')
def evOpI (P : Program) (pl : OpP) (o : Oper) (env : Env) (w : World) (K : EV → World → Prop) (Q : List PanicEntry → World → Prop) : Prop :=
  match pl with
  | .y => match o.op with
    | .call { callee := .value x, args, .. } => match rho env x with
      | .func (.yield l) ⟨[]⟩ _ => YldT P l (args.toList.map (rho env)) w fun b w => K (.v (.bool b)) w
      | _ => False
    | _ => False
  | p => evOp P p o env w K Q
section
variable {P : Program} {r : Option Nat} {n : Nat} {ds : List Deferred} {o : Oper} {env : Env} {w : World} {K : EV → World → Prop} {Q : List PanicEntry → World → Prop}
variable {next : Act → World → Prop} {Q' : Exit → Act → World → Prop}
theorem evOpI_sound {pl : OpP} (hd : ∀ c, o.op ≠ .defer c) (h : evOpI P pl o env w K Q) (hK : ∀ v w', K v w' → next (act ds (put env o.dst v)) w')
    (hQ : ∀ ch w', Q ch w' → Q' (.panic ch) (act ds env) w') : o.wpIn (Rd r) n P (act ds env) w next Q' := by
  cases pl with
  | y =>
    refine ⟨fun _ _ => trivial, ?_⟩
    rw [Oper.semAt_eq _ _ _ hd, act_eval]
    obtain ⟨dst, op, type, pos, after, guard⟩ := o
    cases op <;> simp only [evOpI] at h <;> try exact h.elim
    rename_i c
    obtain ⟨callee, as, ats⟩ := c
    cases callee <;> simp only at h <;> try exact h.elim
    rename_i x
    split at h
    · rename_i l c0 hx
      obtain ⟨fn, tmps, assign, body, hy, hR⟩ := h
      have e1 : (as.toList.map (rho env)).toArray = as.map (rho env) := by simp [← Array.toList_map]
      rw [e1] at hy
      have hrun : (execOp (rho env) { dst, op := .call { callee := .value x, args := as, argTypes := ats }, type, pos, after, guard }).run P w = .ok (.round l fn tmps assign body) w := by
        simp [execOp, resolve, Deferred.ofValue, hx, invoke, hy]
      rw [hrun]
      refine ⟨fun hh => by simp [Rd, Fence.wide] at hh, roundIn_rd (hR.mono ?_)⟩
      rintro e w' ⟨b, rfl, hk⟩
      have := act_put ds env dst (.v (.bool b))
      simp only [EV.val] at this
      simp only [this]
      exact hK _ _ hk
    · exact h.elim
  | _ => exact op_in hd (evOp_sound h hK hQ)
end
def evLI (P : Program) (ops : Array Oper) (K : Exit → Env → World → Prop) : List OpP → List Oper → Env → World → Prop
  | _, [], env, w => K .normal env w
  | [], _ :: _, _, _ => False
  | p :: ps, o :: os, env, w =>
    match o.guard with
    | none => evOpI P p o env w (fun v w' => evLI P ops K ps os (put env o.dst v) w') (fun ch w' => K (.panic ch) env w')
    | some (j, want) =>
      match (ops.toList[j]?).bind (·.dst) with
      | none => False
      | some d => match env.getD d u0 with
        | .b t => match t == want with
          | true => evOpI P p o env w (fun v w' => evLI P ops K ps os (put env o.dst v) w') (fun ch w' => K (.panic ch) env w')
          | false => evLI P ops K ps os (put env o.dst u0) w
        | .v (.bool t) =>
          (t = want → evOpI P p o (env.set d (.b want)) w (fun v w' => evLI P ops K ps os (put (env.set d (.b want)) o.dst v) w') (fun ch w' => K (.panic ch) (env.set d (.b want)) w')) ∧
          (t = (!want) → evLI P ops K ps os (put (env.set d (.b (!want))) o.dst u0) w)
        | .v _ => evLI P ops K ps os (put env o.dst u0) w
def noDef : List Oper → Bool
  | [] => true
  | o :: os => (match o.op with | .defer _ => false | _ => true) && noDef os
theorem noDef_spec : ∀ {os : List Oper}, noDef os = true → ∀ o ∈ os, ∀ c, o.op ≠ .defer c
  | [], _, o, ho, _ => by simp at ho
  | o' :: os, h, o, ho, c => by
    simp only [noDef, Bool.and_eq_true] at h
    rcases List.mem_cons.1 ho with rfl | ho
    · intro e; rw [e] at h; simp at h
    · exact noDef_spec h.2 o ho c
def evI (P : Program) : Pl → Code → (Exit → Env → World → Prop) → Env → World → Prop
  | .z, c, K, env, w => match c with
    | .skip => K .normal env w
    | .label _ => K .normal env w
    | .exit id => K (.exit id) env w
    | .ret => K .ret env w
    | _ => False
  | .r ps, c, K, env, w => match c with
    | .region _ ops draw => match draw with
      | false => match noDef ops.toList with
        | true => evLI P ops K ps ops.toList env w
        | false => False
      | true => False
    | _ => False
  | .s pa pb, c, K, env, w => match c with
    | .seq a b => evI P pa a (fun e env' w' => match e with
      | .normal => evI P pb b K env' w'
      | .exit id => K (.exit id) env' w'
      | .goto l => K (.goto l) env' w'
      | .ret => K .ret env' w'
      | .panic ch => K (.panic ch) env' w'
      | .outgrown => K .outgrown env' w') env w
    | _ => False
  | .c pa pb, c, K, env, w => match c with
    | .cond x a b => match evO env x with
      | .b t => match t with
        | true => evI P pa a K env w
        | false => evI P pb b K env w
      | .v (.bool t) => (t = true → evI P pa a K env w) ∧ (t = false → evI P pb b K env w)
      | .v _ => False
    | _ => False
  | .b p, c, K, env, w => match c with
    | .block id a => evI P p a (fun e env' w' => match e with
      | .exit id' => (match id' == id with
        | true => K .normal env' w'
        | false => K (.exit id') env' w')
      | .normal => K .normal env' w'
      | .goto l => K (.goto l) env' w'
      | .ret => K .ret env' w'
      | .panic ch => K (.panic ch) env' w'
      | .outgrown => K .outgrown env' w') env w
    | _ => False
  | .l ss p, c, K, env, w => match c with
    | .loop a => match slotsIn (writes a) ss with
      | true => ∃ (I : Fn (World → Prop) ss) (μ : Fn (World → Nat) ss),
        (match unS ss env with
          | some xs => ap ss I xs w
          | none => False) ∧
        All ss fun xs => ∀ w', ap ss I xs w' → ∀ g : Nat → Value, evI P p a (fun e env' w'' => match e with
          | .normal => (match unS ss env' with
            | some ys => ap ss I ys w'' ∧ ap ss μ ys w'' < ap ss μ xs w'
            | none => False)
          | .exit id => K (.exit id) env' w''
          | .goto l => K (.goto l) env' w''
          | .ret => K .ret env' w''
          | .panic ch => K (.panic ch) env' w''
          | .outgrown => K .outgrown env' w'') (reb (writes a) (slotVal ss xs) g 0 env) w'
      | false => False
    | _ => False
  | _, _, _, _, _ => False
theorem wpIn_loop_typed {F0 : Fence} {n0 : Nat} {P : Program} {Q : Exit → Act → World → Prop} {c : Code} {σ : Type} (F : σ → Act) (I : σ → World → Prop) (μ : σ → World → Nat)
    (round : ∀ s w, I s w → c.wpIn F0 n0 P (Exit.then (fun a' w' => ∃ s', a' = F s' ∧ I s' w' ∧ μ s' w' < μ s w) Q) (F s) w) (s : σ) (w : World) (h : I s w) : (Code.loop c).wpIn F0 n0 P Q (F s) w := by
  intro b k cs hro hb hr
  have key : ∀ n s w, μ s w = n → I s w → ∃ e a' w', Q e a' w' ∧ ArrivesIn (Machine.fenced P F0) P (lone (b.atR (F s) (.code c :: .inLoop c :: k)) cs w) b k cs e a' w' := by
    intro n
    induction n using Nat.strongRecOn with
    | _ n ih =>
      intro s w hn hI
      obtain ⟨e, a₁, w₁, hq, harr⟩ := round s w hI b (.inLoop c :: k) cs hro hb hr
      cases e with
      | normal =>
        obtain ⟨s', rfl, hI₁, hlt⟩ := hq
        obtain ⟨e₂, a₂, w₂, hq₂, harr₂⟩ := ih (μ s' w₁) (hn ▸ hlt) s' w₁ rfl hI₁
        exact ⟨e₂, a₂, w₂, hq₂, .of_steps (StepsIn.trans harr (.one (fenced_calm hb hr rfl) stepR_inLoop)) harr₂⟩
      | exit id => exact ⟨_, a₁, w₁, hq, .pass (x := .inLoop c) rfl (fun _ _ => .inl (by simp)) harr⟩
      | goto l => exact ⟨_, a₁, w₁, hq, .pass (x := .inLoop c) rfl (fun _ _ => .inl (by simp)) harr⟩
      | ret => exact ⟨_, a₁, w₁, hq, .pass (x := .inLoop c) rfl (fun _ _ => .inl (by simp)) harr⟩
      | panic ch => exact ⟨_, a₁, w₁, hq, .pass (x := .inLoop c) rfl (fun _ _ => .inl (by simp)) harr⟩
      | outgrown => exact ⟨_, a₁, w₁, hq, .pass (x := .inLoop c) rfl (fun _ _ => .inl (by simp)) harr⟩
  obtain ⟨e, a', w', hq, harr⟩ := key _ s w rfl h
  exact ⟨e, a', w', hq, .of_steps (.one (fenced_calm hb hr rfl) stepR_loop) harr⟩

section
variable {P : Program} {ds : List Deferred} {r : Option Nat} {n : Nat}
theorem evLI_sound {ops : Array Oper} {S : List Nat} {env0 : Env} {K : Exit → Env → World → Prop} {Q : Exit → Act → World → Prop} (hK : ∀ e env' w', K e env' w' → Ag S env0 env' → Q e (act ds env') w') :
    ∀ (ps : List OpP) (os : List Oper) (env : Env) (w : World), (∀ o ∈ os, ∀ c, o.op ≠ .defer c) → (∀ o ∈ os, ∀ d, o.dst = some d → d ∈ S) → Ag S env0 env → evLI P ops K ps os env w → wpListIn (Rd r) n P ops Q os (act ds env) w
  | _, [], env, w, _, _, ha, h => by cases ‹List OpP› <;> exact hK _ _ _ h ha
  | [], _ :: _, _, _, _, _, _, h => h.elim
  | p :: ps, o :: os, env, w, hd, hS, ha, h => by
    have ih := evLI_sound (ops := ops) hK ps os
    have hdos : ∀ o' ∈ os, ∀ c, o'.op ≠ .defer c := fun o' ho' => hd o' (List.mem_cons_of_mem _ ho')
    have hos : ∀ o' ∈ os, ∀ d, o'.dst = some d → d ∈ S := fun o' ho' => hS o' (List.mem_cons_of_mem _ ho')
    have hod : ∀ k, o.dst = some k → k ∈ S := hS o List.mem_cons_self
    have exec : ∀ env1, act ds env1 = act ds env → Ag S env0 env1 → evOpI P p o env1 w (fun v w' => evLI P ops K ps os (put env1 o.dst v) w') (fun ch w' => K (.panic ch) env1 w') →
        o.wpIn (Rd r) n P (act ds env) w (wpListIn (Rd r) n P ops Q os) Q := by
      intro env1 he ha1 h1
      rw [← he]
      exact evOpI_sound (r := r) (n := n) (hd _ List.mem_cons_self) h1 (fun v w' hh => ih _ _ hdos hos (ha1.trans (Ag.put env1 o.dst v hod)) hh) (fun ch w' hh => hK _ _ _ hh ha1)
    have skip : ∀ env1, act ds env1 = act ds env → Ag S env0 env1 → evLI P ops K ps os (put env1 o.dst u0) w → wpListIn (Rd r) n P ops Q os ((act ds env).put o.dst undef) w := by
      intro env1 he ha1 h1
      rw [← he]
      have := act_put ds env1 o.dst u0
      simp only [EV.val, u0] at this
      rw [this]
      exact ih _ _ hdos hos (ha1.trans (Ag.put env1 o.dst _ hod)) h1
    simp only [evLI] at h
    unfold wpListIn
    split at h
    · rename_i hg
      rw [if_pos (by simp [Region.wanted, hg])]
      exact (exec env rfl ha h)
    · rename_i j want hg
      split at h
      · exact h.elim
      · rename_i d hd
        have hwant := wanted_some (ds := ds) (env := env) hg hd
        split at h
        · rename_i t ht
          simp only [ht, EV.val] at hwant
          split at h
          · rename_i htw
            rw [htw] at hwant
            rw [if_pos hwant]
            exact (exec env rfl ha h)
          · rename_i htw
            rw [htw] at hwant
            rw [if_neg (by simp [hwant])]
            exact ⟨fun _ _ => trivial, skip env rfl ha h⟩
        · rename_i t ht
          simp only [ht, EV.val] at hwant
          by_cases htw : t = want
          · subst htw
            have hv : (env.getD d u0).val = (EV.b t).val := by rw [ht]; rfl
            rw [if_pos (by simp [hwant])]
            exact (exec _ (act_set hv) (ha.trans (Ag.set hv)) (h.1 rfl))
          · have htn : t = !want := by cases t <;> cases want <;> simp_all
            have hv : (env.getD d u0).val = (EV.b (!want)).val := by rw [ht, htn]; rfl
            rw [if_neg (by rw [hwant]; simp [htw])]
            exact ⟨fun _ _ => trivial, skip _ (act_set hv) (ha.trans (Ag.set hv)) (h.2 htn)⟩
        · rename_i x hx ht
          have hw0 : Region.wanted o (yielded ops (act ds env).tmps) = false := by
            rw [hwant, ht]
            simp only [EV.val]
          rw [if_neg (by simp [hw0])]
          exact ⟨fun _ _ => trivial, skip env rfl ha h⟩
theorem evI_sound : ∀ (p : Pl) (c : Code) (K : Exit → Env → World → Prop) (Q : Exit → Act → World → Prop) (env : Env) (w : World),
    (∀ e env' w', K e env' w' → Ag (writes c) env env' → Q e (act ds env') w') → evI P p c K env w → c.wpIn (Rd r) n P Q (act ds env) w
  | .z, c, K, Q, env, w, hK, h => by
    cases c with
    | skip => exact wpIn_skip (hK _ _ _ h (Ag.refl _ _))
    | label l => exact wpIn_label (hK _ _ _ h (Ag.refl _ _))
    | exit id => exact wpIn_exit (hK _ _ _ h (Ag.refl _ _))
    | ret => exact wpIn_ret (hK _ _ _ h (Ag.refl _ _))
    | _ => exact h.elim
  | .r ps, c, K, Q, env, w, hK, h => by
    cases c with
    | region id ops draw =>
      have hS : ∀ o ∈ ops.toList, ∀ d, o.dst = some d → d ∈ writes (.region id ops draw) := fun o ho d hd => List.mem_filterMap.2 ⟨o, ho, hd⟩
      cases draw with
      | false =>
        simp only [evI] at h
        split at h
        · rename_i hnd
          exact wpIn_region_list (evLI_sound (S := writes (.region id ops false)) (env0 := env) hK ps ops.toList env w (noDef_spec hnd) hS (Ag.refl _ _) h)
        · exact h.elim
      | true => exact h.elim
    | _ => exact h.elim
  | .s pa pb, c, K, Q, env, w, hK, h => by
    cases c with
    | seq a b =>
      refine wpIn_seq (evI_sound pa a _ _ env w ?_ h)
      intro e env' w' hk hag
      have hag' : Ag (writes (.seq a b)) env env' := hag.mono fun i hi => List.mem_append_left _ hi
      cases e with
      | normal =>
        exact evI_sound pb b K Q env' w' (fun e env2 w2 h2 hag2 => hK _ _ _ h2 (hag'.trans (hag2.mono fun i hi => List.mem_append_right _ hi))) hk
      | exit id => exact hK _ _ _ hk hag'
      | goto l => exact hK _ _ _ hk hag'
      | ret => exact hK _ _ _ hk hag'
      | panic ch => exact hK _ _ _ hk hag'
      | outgrown => exact hK _ _ _ hk hag'
    | _ => exact h.elim
  | .c pa pb, c, K, Q, env, w, hK, h => by
    cases c with
    | cond x a b =>
      have hl : ∀ e env' w', K e env' w' → Ag (writes a) env env' → Q e (act ds env') w' := fun e env' w' hk hag => hK _ _ _ hk (hag.mono fun i hi => List.mem_append_left _ hi)
      have hr : ∀ e env' w', K e env' w' → Ag (writes b) env env' → Q e (act ds env') w' := fun e env' w' hk hag => hK _ _ _ hk (hag.mono fun i hi => List.mem_append_right _ hi)
      simp only [evI] at h
      split at h
      · rename_i t hx
        have hc : (act ds env).eval x = .bool t := by rw [act_eval, rho, hx]; rfl
        split at h
        · exact wpIn_cond hc (evI_sound pa a K Q env w hl h)
        · exact wpIn_cond hc (evI_sound pb b K Q env w hr h)
      · rename_i t hx
        have hc : (act ds env).eval x = .bool t := by rw [act_eval, rho, hx]; rfl
        exact wpIn_cond_split hc (fun ht => evI_sound pa a K Q env w hl (h.1 ht)) (fun ht => evI_sound pb b K Q env w hr (h.2 ht))
      · exact h.elim
    | _ => exact h.elim
  | .b p, c, K, Q, env, w, hK, h => by
    cases c with
    | block id a =>
      refine wpIn_block (evI_sound p a _ _ env w ?_ h)
      intro e env' w' hk hag
      cases e with
      | exit id' =>
        simp only at hk
        simp only [Exit.inBlock]
        split at hk
        · rename_i hh; rw [if_pos (by simpa using hh)]; exact hK _ _ _ hk hag
        · rename_i hh; rw [if_neg (by simpa using hh)]; exact hK _ _ _ hk hag
      | normal => exact hK _ _ _ hk hag
      | goto l => exact hK _ _ _ hk hag
      | ret => exact hK _ _ _ hk hag
      | panic ch => exact hK _ _ _ hk hag
      | outgrown => exact hK _ _ _ hk hag
    | _ => exact h.elim
  | .l ss p, c, K, Q, env, w, hK, h => by
    cases c with
    | loop a =>
      simp only [evI] at h
      split at h
      · rename_i hin
        obtain ⟨I, μ, h0, h1⟩ := h
        split at h0
        · rename_i xs0 hu0
          have e0 : act ds env = act ds (reb (writes a) (slotVal ss xs0) (fun i => (env.getD i u0).val) 0 env) := (reb_act (Ag.refl _ _) hu0).symm
          rw [e0]
          refine wpIn_loop_typed (σ := TS ss × (Nat → Value)) (fun s => act ds (reb (writes a) (slotVal ss s.1) s.2 0 env)) (fun s w => ap ss I s.1 w) (fun s w => ap ss μ s.1 w) ?_ (xs0, fun i => (env.getD i u0).val) w h0
          rintro ⟨xs, g⟩ w' hI
          have hag0 : Ag (writes a) env (reb (writes a) (slotVal ss xs) g 0 env) := reb_ag (slotsIn_spec hin xs)
          refine evI_sound p a _ _ _ w' ?_ (h1.out xs w' hI g)
          intro e env' w2 hk hag
          have hag' : Ag (writes a) env env' := hag0.trans hag
          cases e with
          | normal =>
            simp only at hk
            split at hk
            · rename_i ys hu
              exact ⟨(ys, fun i => (env'.getD i u0).val), (reb_act hag' hu).symm, hk.1, hk.2⟩
            · exact hk.elim
          | exit id => exact hK _ _ _ hk hag'
          | goto l => exact hK _ _ _ hk hag'
          | ret => exact hK _ _ _ hk hag'
          | panic ch => exact hK _ _ _ hk hag'
          | outgrown => exact hK _ _ _ hk hag'
        · exact h0.elim
      · exact h.elim
    | _ => exact h.elim
  | .g _ _, _, _, _, _, _, _, h => h.elim
  | .j _ _ _, _, _, _, _, _, _, h => h.elim
end
def VCI (P : Program) (fn : Func) (pl : Pl) (r : Rs) (args : List Value) (w : World) (K : r.T → World → Prop) (Kp : List PanicEntry → World → Prop) : Prop :=
  evI P pl (code fn) (top P fn.results.toList r K Kp) (args.map EV.v ++ List.replicate (fn.ntmps - args.length) u0) w
/-- A call of a function that calls yield. -/
theorem callI_of {P : Program} {f : FuncId} {fn : Func} (hf : P.funcs[f]? = some fn) (hb : fn.body.isSome = true) {pl : Pl} {r : Rs} (hr : r.fine = true) {args : List Value} {w : World} {K : r.T → World → Prop}
    (h : VCI P fn pl r args w K noP) : CallT r P f args w K := by
  obtain ⟨c, hc⟩ := Option.isSome_iff_exists.1 hb
  have hcode : code fn = c := by simp [code, hc]
  unfold VCI at h
  rw [hcode] at h
  refine calls_of_rd (r := none) (n := 0) (callsIn_of_wp hf hc trivial ?_)
  have he : act [] (args.map EV.v ++ List.replicate (fn.ntmps - args.length) u0) = { tmps := args.toArray ++ Array.replicate (fn.ntmps - args.toArray.size) undef, defers := [] } := by
    simp only [act, Act.mk.injEq, and_true]
    rw [← Array.toList_inj]
    have e2 : (EV.val ∘ EV.v) = id := rfl
    simp [u0, EV.val, e2]
  rw [← he]
  refine evI_sound pl c _ _ _ w ?_ h
  intro e env' w' hk _
  cases e with
  | normal =>
    obtain ⟨x, hx, hr⟩ := results_run (ds := []) hr hk
    exact ⟨rfl, _, hr, ⟨x, rfl, hx⟩⟩
  | ret =>
    obtain ⟨x, hx, hr⟩ := results_run (ds := []) hr hk
    exact ⟨rfl, _, hr, ⟨x, rfl, hx⟩⟩
  | panic ch => exact hk.elim
  | exit id => exact hk.elim
  | goto l => exact hk.elim
  | outgrown => exact hk.elim
/-- Whatever lies from H on lies as it lay. -/
def KeepsHi (H : Nat) (A B : World) : Prop := A.heap.size ≤ B.heap.size ∧ ∀ k, H ≤ k → k < A.heap.size → B.heap[k]? = A.heap[k]?
theorem KeepsHi.refl (H : Nat) (A : World) : KeepsHi H A A := ⟨Nat.le_refl _, fun _ _ _ => rfl⟩
theorem KeepsHi.trans {H : Nat} {A B C : World} (h : KeepsHi H A B) (k : KeepsHi H B C) : KeepsHi H A C := ⟨Nat.le_trans h.1 k.1, fun i hi hl => (k.2 i hi (Nat.lt_of_lt_of_le hl h.1)).trans (h.2 i hi hl)⟩
def bPost {α : Type} (H : Nat) (I Ix : List α → World → Prop) (xs : List α) (W : World) : Exit → Act → World → Prop
  | .normal, _, W' => Below W.heap.size W W' ∧ I xs W'
  | .ret, _, W' => KeepsHi H W W' ∧ Ix xs W'
  | _, _, _ => False
theorem below_putObj {H : Nat} {W : World} {l : Nat} {o : Obj} (hl : H ≤ l) : Below H W (W.putObj l o) :=
  ⟨rfl, rfl, rfl, by simp, fun k hk => World.putObj_heap_other (by omega)⟩
/-- A range over a function whose iterator may write what it has laid itself. -/
theorem rf_law {α : Type} {P : Program} {n : Nat} {g : Operand} {ps : Array Tmp} {assign body : Code} {Q : Exit → Act → World → Prop} {a : Act} {w : World} {gf : Nat} {lb : Array Value}
    (hg : a.eval g = .func (.func gf) #[] lb) (eg : ∀ args w, (callFunc gf args).run P w = .ok (.enter gf args) w) {encs : α → Array Value} (hps : ∀ x, (encs x).size = ps.size) (ok : α → Prop)
    (I Ix : List α → World → Prop) (hI : ∀ s A B, I s A → Below w.heap.size A B → I s B) (hIx : ∀ s A B, Ix s A → Below w.heap.size A B → Ix s B) (h0 : I [] w) (xs : List α) (a₁ : α → Act)
    (hseq : ∀ (l : Nat) (W : World) (J Jx : List α → World → Prop), Below w.heap.size w W → W.heap.size = w.heap.size + 2 → (∀ s A B, J s A → Below W.heap.size A B → J s B) → (∀ s A B, Jx s A → Below W.heap.size A B → Jx s B) →
      (∀ pre x W1, ok x → J pre W1 → W.heap.size ≤ W1.heap.size → YieldAt Fence.wide 0 P l (encs x) W1 fun e W' => (e = .returned (.bool true) ∧ J (pre ++ [x]) W' ∧ Below W1.heap.size W1 W') ∨ (e = .returned (.bool false) ∧ Jx (pre ++ [x]) W')) → J [] W →
      Calls P gf (#[.func (.yield l) #[] #[]] ++ lb) W fun e W' => (∃ v, e = .returned v) ∧ (J xs W' ∨ ∃ pre, pre <+: xs ∧ Jx pre W'))
    (hassign : ∀ (l : Nat) (x : α) (W : World) (K : Act → World → Prop), K (a₁ x) W → assign.wpIn (Rd (some l)) 0 P (Exit.then K (fun _ _ _ => False)) { tmps := (ps.zip (encs x)).foldl (fun t (p, v) => t.setIfInBounds p v) a.tmps, defers := [] } W)
    (hbody : ∀ (l : Nat) (pre : List α) (x : α) (W : World), ok x → I pre W → w.heap.size + 2 ≤ W.heap.size → body.wpIn (Rd (some l)) 0 P (bPost w.heap.size I Ix (pre ++ [x]) W) (a₁ x) W)
    (hdone : ∀ W, I xs W → W.heap[w.heap.size]? = some (.deferred (some [])) → Q .normal { a with defers := { target := .collected w.heap.size, args := #[] } :: a.defers } W)
    (hstop : ∀ pre W, pre <+: xs → Ix pre W → W.heap[w.heap.size]? = some (.deferred (some [])) → Q .ret { a with defers := { target := .collected w.heap.size, args := #[] } :: a.defers } W) :
    (Code.rangeFunc g ps assign body).wpIn Fence.wide n P Q a w := by
  refine wpIn_rangeFunc ?_
  intro fn hfn
  obtain ⟨rec, hrec⟩ : ∃ rec : LoopState → Option Code → Loop, rec = fun st pe => { state := st, pending := pe, fn, tmps := a.tmps, params := ps, assign, body, defers := w.heap.size } := ⟨_, rfl⟩
  obtain ⟨W1, hW1⟩ : ∃ W1, (w.alloc (.deferred (some []))).alloc (.loop (rec .ready none)) = W1 := ⟨_, rfl⟩
  have hL1 : W1.heap[w.heap.size + 1]? = some (.loop (rec .ready none)) := by
    rw [← hW1]; have := World.alloc_heap_new (w.alloc (.deferred (some []))) (.loop (rec .ready none)); rwa [World.size_alloc] at this
  have hK1 : W1.heap[w.heap.size]? = some (.deferred (some [])) := by
    rw [← hW1]; exact (Below.heap_alloc _ _ _ (by simp)).trans (World.alloc_heap_new w _)
  have hb1 : Below w.heap.size w W1 := by
    rw [← hW1]; exact ((Below.refl _ w).alloc (Nat.le_refl _) _).alloc (by simp) _
  have hs1 : W1.heap.size = w.heap.size + 2 := by rw [← hW1]; simp
  have hI1 : I [] W1 := hI _ _ _ h0 hb1
  refine ⟨w.heap.size + 1, [{ target := .collected w.heap.size, args := #[] }], W1, { target := .fn (.func gf) lb, args := #[.func (.yield (w.heap.size + 1)) #[] #[]] }, W1, gf,
    #[.func (.yield (w.heap.size + 1)) #[] #[]] ++ lb, W1, ?_, ?_, fun _ _ => trivial, ?_, fun hh => by simp [Fence.wide] at hh, ?_⟩
  · rw [← hW1, hrec]; exact run_enterLoop_outer _ _ _ _ _
  · simp only [resolve, hg]
    simp [go_sem]
  · simp [invoke, go_sem, eg]
  · have kb : ∀ {k : Nat} {o : Obj} {A B : World}, k < W1.heap.size → A.heap[k]? = some o → Below W1.heap.size A B → B.heap[k]? = some o := fun hk h hab => (hab.block _ hk).trans h
    refine (callsIn_rd (r := none) (hseq (w.heap.size + 1) W1
      (fun pre W => I pre W ∧ W.heap[w.heap.size + 1]? = some (.loop (rec .ready none)) ∧ W.heap[w.heap.size]? = some (.deferred (some [])))
      (fun pre W => Ix pre W ∧ W.heap[w.heap.size + 1]? = some (.loop (rec .done (some .ret))) ∧ W.heap[w.heap.size]? = some (.deferred (some [])))
      hb1 hs1 (fun s A B h hab => ⟨hI _ _ _ h.1 (hab.mono (by omega)), kb (by omega) h.2.1 hab, kb (by omega) h.2.2 hab⟩) (fun s A B h hab => ⟨hIx _ _ _ h.1 (hab.mono (by omega)), kb (by omega) h.2.1 hab, kb (by omega) h.2.2 hab⟩) ?_ ⟨hI1, hL1, hK1⟩) : CallsIn Fence.wide (n - 1) P gf _ W1 _).mono ?_
    · -- one round
      rintro pre x W hok ⟨hi, hl, hk⟩ hW
      have hlt : w.heap.size + 1 < W.heap.size := (Array.getElem?_eq_some_iff.1 hl).1
      have hy := run_yield (P := P) (args := encs x) hl (by rw [hrec]; exact hps x)
      rw [hrec] at hy
      refine ⟨fn, _, assign, body, hy, roundIn_of_wpIn hfn (hassign _ x W _ ?_)⟩
      clear hy
      refine ⟨_, run_beginRound hl (by rw [hrec]), ?_⟩
      have hl2 : (W.putObj (w.heap.size + 1) (.loop { rec .ready none with state := .busy })).heap[w.heap.size + 1]? = some (.loop { rec .ready none with state := .busy }) := World.putObj_heap_same hlt
      have hk2 : (W.putObj (w.heap.size + 1) (.loop { rec .ready none with state := .busy })).heap[w.heap.size]? = some (.deferred (some [])) := (World.putObj_heap_other (by omega)).trans hk
      refine wpIn_mono (hbody _ pre x _ hok (hI _ _ _ hi (below_putObj (by omega))) (by simp; omega)) ?_
      have fin : ∀ (jump : Option Code) (W3 : World), KeepsHi w.heap.size (W.putObj (w.heap.size + 1) (.loop { rec .ready none with state := .busy })) W3 →
          (Instr.endRound (w.heap.size + 1) jump).run P W3 = .ok (.bool jump.isNone) (W3.putObj (w.heap.size + 1) (.loop (rec (if jump.isNone then .ready else .done) jump))) ∧
          (W3.putObj (w.heap.size + 1) (.loop (rec (if jump.isNone then .ready else .done) jump))).heap[w.heap.size + 1]? = some (.loop (rec (if jump.isNone then .ready else .done) jump)) ∧
          (W3.putObj (w.heap.size + 1) (.loop (rec (if jump.isNone then .ready else .done) jump))).heap[w.heap.size]? = some (.deferred (some [])) := fun jump W3 hk3 => by
        have hsz : (W.putObj (w.heap.size + 1) (.loop { rec .ready none with state := .busy })).heap.size = W.heap.size := by simp
        have hl3 := (hk3.2 _ (by omega) (by omega)).trans hl2
        have hd3 := (hk3.2 _ (Nat.le_refl _) (by omega)).trans hk2
        have hlt3 := (Array.getElem?_eq_some_iff.1 hl3).1
        have := run_endRound (P := P) jump hl3
        rw [hrec] at this ⊢
        exact ⟨this, World.putObj_heap_same hlt3, (World.putObj_heap_other (by omega)).trans hd3⟩
      rintro e a3 W3 hp
      cases e with
      | normal =>
        obtain ⟨hb3, hi3⟩ := hp
        have hsz : (W.putObj (w.heap.size + 1) (.loop { rec .ready none with state := .busy })).heap.size = W.heap.size := by simp
        obtain ⟨hr, hl4, hk4⟩ := fin none W3 ⟨hb3.size, fun k _ hk => hb3.block k (by simpa using hk)⟩
        refine ⟨_, _, hr, .inl ⟨rfl, ⟨hI _ _ _ hi3 (below_putObj (by omega)), hl4, hk4⟩, hb3.os, hb3.tape, hb3.output, by have := hb3.size; simp only [World.putObj_size] at this ⊢; exact this, fun k hk => ?_⟩⟩
        by_cases e : k = w.heap.size + 1
        · rw [e]; exact hl4.trans hl.symm
        · rw [World.putObj_heap_other e, hb3.block k (by simpa using hk), World.putObj_heap_other e]
      | ret =>
        obtain ⟨hk3, hi3⟩ := hp
        obtain ⟨hr, hl4, hk4⟩ := fin (some .ret) W3 hk3
        exact ⟨_, _, hr, .inr ⟨rfl, hIx _ _ _ hi3 (below_putObj (by omega)), hl4, hk4⟩⟩
      | exit id => exact hp.elim
      | goto t => exact hp.elim
      | panic ch => exact hp.elim
      | outgrown => exact hp.elim
    · -- behind the iterator
      rintro e W2 ⟨⟨v, rfl⟩, (⟨hi, hl, hk⟩ | ⟨pre, hSp, hi, hl, hk⟩)⟩
      · exact ⟨none, _, by have := run_endLoop (P := P) hl (by rw [hrec]; simp); rw [hrec] at this; exact this, hdone _ (hI _ _ _ hi (below_putObj (by omega))) ((World.putObj_heap_other (by omega)).trans hk)⟩
      · exact ⟨some .ret, _, by have := run_endLoop (P := P) hl (by rw [hrec]; simp); rw [hrec] at this; exact this, wpIn_ret (hstop pre _ hSp (hIx _ _ _ hi (below_putObj (by omega))) ((World.putObj_heap_other (by omega)).trans hk))⟩
theorem enters_ok {P : Program} {f : FuncId} (hc : callable P f = true) (args : Array Value) (w : World) : (callFunc f args).run P w = .ok (.enter f args) w := by
  unfold callable at hc
  split at hc
  · rename_i fn hfn
    simp only [Bool.and_eq_true, Bool.not_eq_true', beq_eq_false_iff_ne] at hc
    have hb : fn.body ≠ none := by intro hh; simp [hh] at hc
    simp [callFunc, hfn, hc.2, hb]
  · simp at hc
/-- A call of a function that holds a range over a function. -/
theorem callM_of {P : Program} {f : FuncId} {fn : Func} {c : Code} (hf : P.funcs[f]? = some fn) (hb : fn.body = some c) {r : Rs} {args : List Value} {w : World} {K : r.T → World → Prop}
    (h : c.wpIn (Rd none) 0 P (bodyPostM (Rd none) 0 P fn (fun e w' => ∃ x, e = .returned (r.emb x) ∧ K x w')) (act [] (args.map EV.v ++ List.replicate (fn.ntmps - args.length) u0)) w) : CallT r P f args w K := by
  refine calls_of_rd (r := none) (n := 0) (callsIn_of_wp_marks hf hb trivial ?_)
  have he : act [] (args.map EV.v ++ List.replicate (fn.ntmps - args.length) u0) = { tmps := args.toArray ++ Array.replicate (fn.ntmps - args.toArray.size) undef, defers := [] } := by
    simp only [act, Act.mk.injEq, and_true]
    rw [← Array.toList_inj]
    have e2 : (EV.val ∘ EV.v) = id := rfl
    simp [u0, EV.val, e2]
  rw [← he]
  exact h
/-- What goes on alone. -/
def nK (Kn : Env → World → Prop) : Exit → Env → World → Prop
  | .normal, env, w => Kn env w
  | _, _, _ => False
theorem step_seq {P : Program} {rr : Option Nat} {a b : Code} {pl : Pl} {env : Env} {ds : List Deferred} {w : World} {Q : Exit → Act → World → Prop} (h : evI P pl a (nK fun env' w' => b.wpIn (Rd rr) 0 P Q (act ds env') w') env w) :
    (Code.seq a b).wpIn (Rd rr) 0 P Q (act ds env) w :=
  wpIn_seq (evI_sound pl a _ _ env w (fun e env' w' h _ => by cases e with | normal => exact h | _ => exact h.elim) h)
theorem step_one {P : Program} {rr : Option Nat} {a : Code} {pl : Pl} {env : Env} {ds : List Deferred} {w : World} {K : Act → World → Prop} {Q : Exit → Act → World → Prop} (h : evI P pl a (nK fun env' w' => K (act ds env') w') env w) :
    a.wpIn (Rd rr) 0 P (Exit.then K Q) (act ds env) w :=
  evI_sound pl a _ _ env w (fun e env' w' h _ => by cases e with | normal => exact h | _ => exact h.elim) h
/-- The body of a round: it goes on, or it returns. -/
def bK (K : Bool → World → Prop) : Exit → Env → World → Prop
  | .normal, _, w => K true w
  | .ret, _, w => K false w
  | _, _, _ => False
theorem step_body {α : Type} {P : Program} {rr : Option Nat} {c : Code} {pl : Pl} {env : Env} {ds : List Deferred} {w : World} {H : Nat} {I Ix : List α → World → Prop} {xs : List α}
    (h : evI P pl c (bK fun t w' => match t with | true => Below w.heap.size w w' ∧ I xs w' | false => KeepsHi H w w' ∧ Ix xs w') env w) : c.wpIn (Rd rr) 0 P (bPost H I Ix xs w) (act ds env) w :=
  evI_sound pl c _ _ env w (fun e env' w' h _ => by cases e with | normal => exact h | ret => exact h | _ => exact h.elim) h
def cL : Code → Code | .seq a _ => a | c => c
def cR : Code → Code | .seq _ b => b | c => c
def cB : Code → Code | .block _ b => b | c => c
def cAs : Code → Code | .rangeFunc _ _ a _ => a | c => c
def cBd : Code → Code | .rangeFunc _ _ _ b => b | c => c
end Go.Proofs.Ytdgnojjemlfhdaa.V
