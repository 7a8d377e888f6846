/- Texts of one proof, put together in build order by pack.py (the last one states what is proved). -/
import Derived.TacticsInMore
import Derived.RangeFuncIn
import Derived.RangeFuncLeaves
import Derived.RangeFuncSeq
import Derived.RangeFuncWrites
import Derived.Lib.SmallJoins
import Derived.Lib.AppendIntMem
import Derived.Test.YteggdoigliddkaaGreatDoorRows
import Derived.Handed
import Derived.HandedShaped
import Derived.Stop.LaidErr
import Derived.Lib.LaidTab
import Derived.Lay
import Derived.Laws.StructEq
import Derived.Laws.MakeOwn
import Derived.Maps.Range
import Derived.Lib.SlKeysI
import Derived.WalkArith
import Derived.Lib.AppendZerosOnto
import Derived.Lib.SlicesCompact
import Derived.Laws.BytesArg
import Derived.Laws.Slices
import Derived.Test.YteggdoigliddkaaGreatDoorX2
/- The verification-condition generator within fences: rounds of a range over a function, calls of yield. -/
namespace Go.Proofs.YteggdoigliddkaaGreatDoor.V
open Go Go.RowKit

/-- The wide fence, within a round or not. -/
def Rd (r : Option Nat) : Fence := { Fence.wide with round := r }
section
variable {P : Program} {r : Option Nat} {n : Nat}
theorem callsIn_rd {f : FuncId} {args : Array Value} {w : World} {R : Ending → World → Prop} (h : Calls P f args w R) : CallsIn (Rd r) n P f args w R :=
  ⟨trivial, fun cs _ => let ⟨e, w', fr, hr, s, x⟩ := h cs; ⟨e, w', fr, hr, comesIn_wide.2 s, x⟩⟩
theorem calls_of_rd {f : FuncId} {args : Array Value} {w : World} {R : Ending → World → Prop} (h : CallsIn (Rd r) n P f args w R) : Calls P f args w R :=
  fun cs => let ⟨e, w', fr, hr, s, x⟩ := h.2 cs (fun _ h => by simp [Rd, Fence.wide] at h); ⟨e, w', fr, hr, comesIn_wide.1 s, x⟩
theorem rowsIn_rd {row : String} {args : Array Value} {w : World} {R : Value → World → Prop} (h : Rows P row args w R) : RowsIn (Rd r) n P row args w R :=
  fun c cs _ => let ⟨v, w', hr, s⟩ := h c cs; ⟨v, w', hr, stepsIn_wide.2 s⟩
theorem roundIn_rd {m m' : Nat} {l : Nat} {f : FuncId} {tmps : Array Value} {assign body : Code} {w : World} {R : Ending → World → Prop} (h : RoundIn Fence.wide m P l f tmps assign body w R) : RoundIn (Rd r) m' P l f tmps assign body w R :=
  ⟨trivial, fun c cs _ => h.2 c cs (fun _ h => by simp [Fence.wide] at h)⟩
theorem op_in {o : Oper} {a : Act} {w : World} {next : Act → World → Prop} {Q : Exit → Act → World → Prop} (hd : ∀ c, o.op ≠ .defer c) (h : o.wp P a w next Q) : o.wpIn (Rd r) n P a w next Q := by
  refine ⟨fun _ _ => trivial, ?_⟩
  rw [Oper.semAt_eq _ _ _ hd]
  unfold Oper.wp at h
  generalize (execOp a.eval o).run P w = res at *
  cases res with
  | ok x w' =>
    cases x <;> simp only [Oper.upon] at h
    case value v => exact h
    case skip => exact h
    case defer d => exact h
    case enter f args => exact ⟨fun hh => by simp [Rd, Fence.wide] at hh, callsIn_rd h⟩
    case row row args => exact ⟨fun hh => by simp [Rd, Fence.wide] at hh, rowsIn_rd h⟩
  | halt x w' => cases x <;> simp only [Oper.upon] at h; exact h
end
/-- A call of yield. -/
def YldT (P : Program) (l : Nat) (args : List Value) (w : World) (K : Bool → World → Prop) : Prop :=
  YieldAt Fence.wide 0 P l args.toArray w (fun e w' => ∃ b, e = .returned (.bool b) ∧ K b w')
def evOpI (P : Program) (pl : OpP) (o : Oper) (env : Env) (w : World) (K : EV → World → Prop) (Q : List PanicEntry → World → Prop) : Prop :=
  match pl with
  | .y => match o.op with
    | .call { callee := .value x, args, .. } => match rho env x with
      | .func (.yield l) ⟨[]⟩ _ => YldT P l (args.toList.map (rho env)) w fun b w => K (.v (.bool b)) w
      | _ => False
    | _ => False
  | p => evOp P p o env w K Q
section
variable {P : Program} {r : Option Nat} {n : Nat} {ds : List Deferred} {o : Oper} {env : Env} {w : World} {K : EV → World → Prop} {Q : List PanicEntry → World → Prop}
variable {next : Act → World → Prop} {Q' : Exit → Act → World → Prop}
theorem evOpI_sound {pl : OpP} (hd : ∀ c, o.op ≠ .defer c) (h : evOpI P pl o env w K Q) (hK : ∀ v w', K v w' → next (act ds (put env o.dst v)) w')
    (hQ : ∀ ch w', Q ch w' → Q' (.panic ch) (act ds env) w') : o.wpIn (Rd r) n P (act ds env) w next Q' := by
  cases pl with
  | y =>
    refine ⟨fun _ _ => trivial, ?_⟩
    rw [Oper.semAt_eq _ _ _ hd, act_eval]
    obtain ⟨dst, op, type, pos, after, guard⟩ := o
    cases op <;> simp only [evOpI] at h <;> try exact h.elim
    rename_i c
    obtain ⟨callee, as1, ats⟩ := c
    cases callee <;> simp only at h <;> try exact h.elim
    rename_i x
    split at h
    · rename_i l c0 hx
      obtain ⟨fn, tmps, assign, body, hy, hR⟩ := h
      have e1 : (as1.toList.map (rho env)).toArray = as1.map (rho env) := by simp [← Array.toList_map]
      rw [e1] at hy
      have hrun : (execOp (rho env) { dst, op := .call { callee := .value x, args := as1, argTypes := ats }, type, pos, after, guard }).run P w = .ok (.round l fn tmps assign body) w := by
        simp [execOp, resolve, Deferred.ofValue, hx, invoke, hy]
      rw [hrun]
      refine ⟨fun hh => by simp [Rd, Fence.wide] at hh, roundIn_rd (hR.mono ?_)⟩
      rintro e w' ⟨b, rfl, hk⟩
      have := act_put ds env dst (.v (.bool b))
      simp only [EV.val] at this
      simp only [this]
      exact hK _ _ hk
    · exact h.elim
  | _ => exact op_in hd (evOp_sound h hK hQ)
end
def evLI (P : Program) (ops : Array Oper) (K : Exit → Env → World → Prop) : List OpP → List Oper → Env → World → Prop
  | _, [], env, w => K .normal env w
  | [], _ :: _, _, _ => False
  | p :: ps, o :: os, env, w =>
    match o.guard with
    | none => evOpI P p o env w (fun v w' => evLI P ops K ps os (put env o.dst v) w') (fun ch w' => K (.panic ch) env w')
    | some (j, want) =>
      match (ops.toList[j]?).bind (·.dst) with
      | none => False
      | some d => match env.getD d u0 with
        | .b t => match t == want with
          | true => evOpI P p o env w (fun v w' => evLI P ops K ps os (put env o.dst v) w') (fun ch w' => K (.panic ch) env w')
          | false => evLI P ops K ps os (put env o.dst u0) w
        | .v (.bool t) =>
          (t = want → evOpI P p o (env.set d (.b want)) w (fun v w' => evLI P ops K ps os (put (env.set d (.b want)) o.dst v) w') (fun ch w' => K (.panic ch) (env.set d (.b want)) w')) ∧
          (t = (!want) → evLI P ops K ps os (put (env.set d (.b (!want))) o.dst u0) w)
        | .v _ => evLI P ops K ps os (put env o.dst u0) w
def noDef : List Oper → Bool
  | [] => true
  | o :: os => (match o.op with | .defer _ => false | _ => true) && noDef os
theorem noDef_spec : ∀ {os : List Oper}, noDef os = true → ∀ o ∈ os, ∀ c, o.op ≠ .defer c
  | [], _, o, ho, _ => by simp at ho
  | o' :: os, h, o, ho, c => by
    simp only [noDef, Bool.and_eq_true] at h
    rcases List.mem_cons.1 ho with rfl | ho
    · intro e; rw [e] at h; simp at h
    · exact noDef_spec h.2 o ho c
def evI (P : Program) : Pl → Code → (Exit → Env → World → Prop) → Env → World → Prop
  | .z, c, K, env, w => match c with
    | .skip => K .normal env w
    | .label _ => K .normal env w
    | .exit id => K (.exit id) env w
    | .ret => K .ret env w
    | _ => False
  | .r ps, c, K, env, w => match c with
    | .region _ ops draw => match draw with
      | false => match noDef ops.toList with
        | true => evLI P ops K ps ops.toList env w
        | false => False
      | true => False
    | _ => False
  | .s pa pb, c, K, env, w => match c with
    | .seq a b => evI P pa a (fun e env' w' => match e with
      | .normal => evI P pb b K env' w'
      | .exit id => K (.exit id) env' w'
      | .goto l => K (.goto l) env' w'
      | .ret => K .ret env' w'
      | .panic ch => K (.panic ch) env' w'
      | .outgrown => K .outgrown env' w') env w
    | _ => False
  | .c pa pb, c, K, env, w => match c with
    | .cond x a b => match evO env x with
      | .b t => match t with
        | true => evI P pa a K env w
        | false => evI P pb b K env w
      | .v (.bool t) => (t = true → evI P pa a K env w) ∧ (t = false → evI P pb b K env w)
      | .v _ => False
    | _ => False
  | .b p, c, K, env, w => match c with
    | .block id a => evI P p a (fun e env' w' => match e with
      | .exit id' => (match id' == id with
        | true => K .normal env' w'
        | false => K (.exit id') env' w')
      | .normal => K .normal env' w'
      | .goto l => K (.goto l) env' w'
      | .ret => K .ret env' w'
      | .panic ch => K (.panic ch) env' w'
      | .outgrown => K .outgrown env' w') env w
    | _ => False
  | .l ss p, c, K, env, w => match c with
    | .loop a => match slotsIn (writes a) ss with
      | true => ∃ (I : Fn (World → Prop) ss) (μ : Fn (World → Nat) ss),
        (match unS ss env with
          | some xs => ap ss I xs w
          | none => False) ∧
        All ss fun xs => ∀ w', ap ss I xs w' → ∀ g : Nat → Value, evI P p a (fun e env' w'' => match e with
          | .normal => (match unS ss env' with
            | some ys => ap ss I ys w'' ∧ ap ss μ ys w'' < ap ss μ xs w'
            | none => False)
          | .exit id => K (.exit id) env' w''
          | .goto l => K (.goto l) env' w''
          | .ret => K .ret env' w''
          | .panic ch => K (.panic ch) env' w''
          | .outgrown => K .outgrown env' w'') (reb (writes a) (slotVal ss xs) g 0 env) w'
      | false => False
    | _ => False
  | _, _, _, _, _ => False
theorem wpIn_loop_typed {F0 : Fence} {n0 : Nat} {P : Program} {Q : Exit → Act → World → Prop} {c : Code} {σ : Type} (F : σ → Act) (I : σ → World → Prop) (μ : σ → World → Nat)
    (round : ∀ s w, I s w → c.wpIn F0 n0 P (Exit.then (fun a' w' => ∃ s', a' = F s' ∧ I s' w' ∧ μ s' w' < μ s w) Q) (F s) w) (s : σ) (w : World) (h : I s w) : (Code.loop c).wpIn F0 n0 P Q (F s) w := by
  intro b k cs hro hb hr
  have key : ∀ n s w, μ s w = n → I s w → ∃ e a' w', Q e a' w' ∧ ArrivesIn (Machine.fenced P F0) P (lone (b.atR (F s) (.code c :: .inLoop c :: k)) cs w) b k cs e a' w' := by
    intro n
    induction n using Nat.strongRecOn with
    | _ n ih =>
      intro s w hn hI
      obtain ⟨e, a₁, w₁, hq, harr⟩ := round s w hI b (.inLoop c :: k) cs hro hb hr
      cases e with
      | normal =>
        obtain ⟨s', rfl, hI₁, hlt⟩ := hq
        obtain ⟨e₂, a₂, w₂, hq₂, harr₂⟩ := ih (μ s' w₁) (hn ▸ hlt) s' w₁ rfl hI₁
        exact ⟨e₂, a₂, w₂, hq₂, .of_steps (StepsIn.trans harr (.one (fenced_calm hb hr rfl) stepR_inLoop)) harr₂⟩
      | exit id => exact ⟨_, a₁, w₁, hq, .pass (x := .inLoop c) rfl (fun _ _ => .inl (by simp)) harr⟩
      | goto l => exact ⟨_, a₁, w₁, hq, .pass (x := .inLoop c) rfl (fun _ _ => .inl (by simp)) harr⟩
      | ret => exact ⟨_, a₁, w₁, hq, .pass (x := .inLoop c) rfl (fun _ _ => .inl (by simp)) harr⟩
      | panic ch => exact ⟨_, a₁, w₁, hq, .pass (x := .inLoop c) rfl (fun _ _ => .inl (by simp)) harr⟩
      | outgrown => exact ⟨_, a₁, w₁, hq, .pass (x := .inLoop c) rfl (fun _ _ => .inl (by simp)) harr⟩
  obtain ⟨e, a', w', hq, harr⟩ := key _ s w rfl h
  exact ⟨e, a', w', hq, .of_steps (.one (fenced_calm hb hr rfl) stepR_loop) harr⟩

section
variable {P : Program} {ds : List Deferred} {r : Option Nat} {n : Nat}
theorem evLI_sound {ops : Array Oper} {S : List Nat} {env0 : Env} {K : Exit → Env → World → Prop} {Q : Exit → Act → World → Prop} (hK : ∀ e env' w', K e env' w' → Ag S env0 env' → Q e (act ds env') w') :
    ∀ (ps : List OpP) (os : List Oper) (env : Env) (w : World), (∀ o ∈ os, ∀ c, o.op ≠ .defer c) → (∀ o ∈ os, ∀ d, o.dst = some d → d ∈ S) → Ag S env0 env → evLI P ops K ps os env w → wpListIn (Rd r) n P ops Q os (act ds env) w
  | _, [], env, w, _, _, ha, h => by cases ‹List OpP› <;> exact hK _ _ _ h ha
  | [], _ :: _, _, _, _, _, _, h => h.elim
  | p :: ps, o :: os, env, w, hd, hS, ha, h => by
    have ih := evLI_sound (ops := ops) hK ps os
    have hdos : ∀ o' ∈ os, ∀ c, o'.op ≠ .defer c := fun o' ho' => hd o' (List.mem_cons_of_mem _ ho')
    have hos : ∀ o' ∈ os, ∀ d, o'.dst = some d → d ∈ S := fun o' ho' => hS o' (List.mem_cons_of_mem _ ho')
    have hod : ∀ k, o.dst = some k → k ∈ S := hS o List.mem_cons_self
    have exec : ∀ env1, act ds env1 = act ds env → Ag S env0 env1 → evOpI P p o env1 w (fun v w' => evLI P ops K ps os (put env1 o.dst v) w') (fun ch w' => K (.panic ch) env1 w') →
        o.wpIn (Rd r) n P (act ds env) w (wpListIn (Rd r) n P ops Q os) Q := by
      intro env1 he ha1 h1
      rw [← he]
      exact evOpI_sound (r := r) (n := n) (hd _ List.mem_cons_self) h1 (fun v w' hh => ih _ _ hdos hos (ha1.trans (Ag.put env1 o.dst v hod)) hh) (fun ch w' hh => hK _ _ _ hh ha1)
    have skip : ∀ env1, act ds env1 = act ds env → Ag S env0 env1 → evLI P ops K ps os (put env1 o.dst u0) w → wpListIn (Rd r) n P ops Q os ((act ds env).put o.dst undef) w := by
      intro env1 he ha1 h1
      rw [← he]
      have := act_put ds env1 o.dst u0
      simp only [EV.val, u0] at this
      rw [this]
      exact ih _ _ hdos hos (ha1.trans (Ag.put env1 o.dst _ hod)) h1
    simp only [evLI] at h
    unfold wpListIn
    split at h
    · rename_i hg
      rw [if_pos (by simp [Region.wanted, hg])]
      exact (exec env rfl ha h)
    · rename_i j want hg
      split at h
      · exact h.elim
      · rename_i d hd
        have hwant := wanted_some (ds := ds) (env := env) hg hd
        split at h
        · rename_i t ht
          simp only [ht, EV.val] at hwant
          split at h
          · rename_i htw
            rw [htw] at hwant
            rw [if_pos hwant]
            exact (exec env rfl ha h)
          · rename_i htw
            rw [htw] at hwant
            rw [if_neg (by simp [hwant])]
            exact ⟨fun _ _ => trivial, skip env rfl ha h⟩
        · rename_i t ht
          simp only [ht, EV.val] at hwant
          by_cases htw : t = want
          · subst htw
            have hv : (env.getD d u0).val = (EV.b t).val := by rw [ht]; rfl
            rw [if_pos (by simp [hwant])]
            exact (exec _ (act_set hv) (ha.trans (Ag.set hv)) (h.1 rfl))
          · have htn : t = !want := by cases t <;> cases want <;> simp_all
            have hv : (env.getD d u0).val = (EV.b (!want)).val := by rw [ht, htn]; rfl
            rw [if_neg (by rw [hwant]; simp [htw])]
            exact ⟨fun _ _ => trivial, skip _ (act_set hv) (ha.trans (Ag.set hv)) (h.2 htn)⟩
        · rename_i x hx ht
          have hw0 : Region.wanted o (yielded ops (act ds env).tmps) = false := by
            rw [hwant, ht]
            simp only [EV.val]
          rw [if_neg (by simp [hw0])]
          exact ⟨fun _ _ => trivial, skip env rfl ha h⟩
theorem evI_sound : ∀ (p : Pl) (c : Code) (K : Exit → Env → World → Prop) (Q : Exit → Act → World → Prop) (env : Env) (w : World),
    (∀ e env' w', K e env' w' → Ag (writes c) env env' → Q e (act ds env') w') → evI P p c K env w → c.wpIn (Rd r) n P Q (act ds env) w
  | .z, c, K, Q, env, w, hK, h => by
    cases c with
    | skip => exact wpIn_skip (hK _ _ _ h (Ag.refl _ _))
    | label l => exact wpIn_label (hK _ _ _ h (Ag.refl _ _))
    | exit id => exact wpIn_exit (hK _ _ _ h (Ag.refl _ _))
    | ret => exact wpIn_ret (hK _ _ _ h (Ag.refl _ _))
    | _ => exact h.elim
  | .r ps, c, K, Q, env, w, hK, h => by
    cases c with
    | region id ops draw =>
      have hS : ∀ o ∈ ops.toList, ∀ d, o.dst = some d → d ∈ writes (.region id ops draw) := fun o ho d hd => List.mem_filterMap.2 ⟨o, ho, hd⟩
      cases draw with
      | false =>
        simp only [evI] at h
        split at h
        · rename_i hnd
          exact wpIn_region_list (evLI_sound (S := writes (.region id ops false)) (env0 := env) hK ps ops.toList env w (noDef_spec hnd) hS (Ag.refl _ _) h)
        · exact h.elim
      | true => exact h.elim
    | _ => exact h.elim
  | .s pa pb, c, K, Q, env, w, hK, h => by
    cases c with
    | seq a b =>
      refine wpIn_seq (evI_sound pa a _ _ env w ?_ h)
      intro e env' w' hk hag
      have hag' : Ag (writes (.seq a b)) env env' := hag.mono fun i hi => List.mem_append_left _ hi
      cases e with
      | normal =>
        exact evI_sound pb b K Q env' w' (fun e env2 w2 h2 hag2 => hK _ _ _ h2 (hag'.trans (hag2.mono fun i hi => List.mem_append_right _ hi))) hk
      | exit id => exact hK _ _ _ hk hag'
      | goto l => exact hK _ _ _ hk hag'
      | ret => exact hK _ _ _ hk hag'
      | panic ch => exact hK _ _ _ hk hag'
      | outgrown => exact hK _ _ _ hk hag'
    | _ => exact h.elim
  | .c pa pb, c, K, Q, env, w, hK, h => by
    cases c with
    | cond x a b =>
      have hl : ∀ e env' w', K e env' w' → Ag (writes a) env env' → Q e (act ds env') w' := fun e env' w' hk hag => hK _ _ _ hk (hag.mono fun i hi => List.mem_append_left _ hi)
      have hr : ∀ e env' w', K e env' w' → Ag (writes b) env env' → Q e (act ds env') w' := fun e env' w' hk hag => hK _ _ _ hk (hag.mono fun i hi => List.mem_append_right _ hi)
      simp only [evI] at h
      split at h
      · rename_i t hx
        have hc : (act ds env).eval x = .bool t := by rw [act_eval, rho, hx]; rfl
        split at h
        · exact wpIn_cond hc (evI_sound pa a K Q env w hl h)
        · exact wpIn_cond hc (evI_sound pb b K Q env w hr h)
      · rename_i t hx
        have hc : (act ds env).eval x = .bool t := by rw [act_eval, rho, hx]; rfl
        exact wpIn_cond_split hc (fun ht => evI_sound pa a K Q env w hl (h.1 ht)) (fun ht => evI_sound pb b K Q env w hr (h.2 ht))
      · exact h.elim
    | _ => exact h.elim
  | .b p, c, K, Q, env, w, hK, h => by
    cases c with
    | block id a =>
      refine wpIn_block (evI_sound p a _ _ env w ?_ h)
      intro e env' w' hk hag
      cases e with
      | exit id' =>
        simp only at hk
        simp only [Exit.inBlock]
        split at hk
        · rename_i hh; rw [if_pos (by simpa using hh)]; exact hK _ _ _ hk hag
        · rename_i hh; rw [if_neg (by simpa using hh)]; exact hK _ _ _ hk hag
      | normal => exact hK _ _ _ hk hag
      | goto l => exact hK _ _ _ hk hag
      | ret => exact hK _ _ _ hk hag
      | panic ch => exact hK _ _ _ hk hag
      | outgrown => exact hK _ _ _ hk hag
    | _ => exact h.elim
  | .l ss p, c, K, Q, env, w, hK, h => by
    cases c with
    | loop a =>
      simp only [evI] at h
      split at h
      · rename_i hin
        obtain ⟨I, μ, h0, h1⟩ := h
        split at h0
        · rename_i xs0 hu0
          have e0 : act ds env = act ds (reb (writes a) (slotVal ss xs0) (fun i => (env.getD i u0).val) 0 env) := (reb_act (Ag.refl _ _) hu0).symm
          rw [e0]
          refine wpIn_loop_typed (σ := TS ss × (Nat → Value)) (fun s => act ds (reb (writes a) (slotVal ss s.1) s.2 0 env)) (fun s w => ap ss I s.1 w) (fun s w => ap ss μ s.1 w) ?_ (xs0, fun i => (env.getD i u0).val) w h0
          rintro ⟨xs, g⟩ w' hI
          have hag0 : Ag (writes a) env (reb (writes a) (slotVal ss xs) g 0 env) := reb_ag (slotsIn_spec hin xs)
          refine evI_sound p a _ _ _ w' ?_ (h1.out xs w' hI g)
          intro e env' w2 hk hag
          have hag' : Ag (writes a) env env' := hag0.trans hag
          cases e with
          | normal =>
            simp only at hk
            split at hk
            · rename_i ys hu
              exact ⟨(ys, fun i => (env'.getD i u0).val), (reb_act hag' hu).symm, hk.1, hk.2⟩
            · exact hk.elim
          | exit id => exact hK _ _ _ hk hag'
          | goto l => exact hK _ _ _ hk hag'
          | ret => exact hK _ _ _ hk hag'
          | panic ch => exact hK _ _ _ hk hag'
          | outgrown => exact hK _ _ _ hk hag'
        · exact h0.elim
      · exact h.elim
    | _ => exact h.elim
  | .g _ _, _, _, _, _, _, _, h => h.elim
  | .x _ _, _, _, _, _, _, _, h => h.elim
  | .j _ _ _, _, _, _, _, _, _, h => h.elim
end
def VCI (P : Program) (fn : Func) (pl : Pl) (r : Rs) (args : List Value) (w : World) (K : r.T → World → Prop) (Kp : List PanicEntry → World → Prop) : Prop :=
  evI P pl (code fn) (top P fn.results.toList r K Kp) (args.map EV.v ++ List.replicate (fn.ntmps - args.length) u0) w
/-- A call of a function that calls yield. -/
theorem callI_of {P : Program} {f : FuncId} {fn : Func} (hf : P.funcs[f]? = some fn) (hb : fn.body.isSome = true) {pl : Pl} {r : Rs} (hr : r.fine = true) {args : List Value} {w : World} {K : r.T → World → Prop}
    (h : VCI P fn pl r args w K noP) : CallT r P f args w K := by
  obtain ⟨c, hc⟩ := Option.isSome_iff_exists.1 hb
  have hcode : code fn = c := by simp [code, hc]
  unfold VCI at h
  rw [hcode] at h
  refine calls_of_rd (r := none) (n := 0) (callsIn_of_wp hf hc trivial ?_)
  have he : act [] (args.map EV.v ++ List.replicate (fn.ntmps - args.length) u0) = { tmps := args.toArray ++ Array.replicate (fn.ntmps - args.toArray.size) undef, defers := [] } := by
    simp only [act, Act.mk.injEq, and_true]
    rw [← Array.toList_inj]
    have e2 : (EV.val ∘ EV.v) = id := rfl
    simp [u0, EV.val, e2]
  rw [← he]
  refine evI_sound pl c _ _ _ w ?_ h
  intro e env' w' hk _
  cases e with
  | normal =>
    obtain ⟨x, hx, hr⟩ := results_run (ds := []) hr hk
    exact ⟨rfl, _, hr, ⟨x, rfl, hx⟩⟩
  | ret =>
    obtain ⟨x, hx, hr⟩ := results_run (ds := []) hr hk
    exact ⟨rfl, _, hr, ⟨x, rfl, hx⟩⟩
  | panic ch => exact hk.elim
  | exit id => exact hk.elim
  | goto l => exact hk.elim
  | outgrown => exact hk.elim
/-- Whatever lies from H on lies as it lay. -/
def KeepsHi (H : Nat) (A B : World) : Prop := A.heap.size ≤ B.heap.size ∧ ∀ k, H ≤ k → k < A.heap.size → B.heap[k]? = A.heap[k]?
theorem KeepsHi.refl (H : Nat) (A : World) : KeepsHi H A A := ⟨Nat.le_refl _, fun _ _ _ => rfl⟩
theorem KeepsHi.trans {H : Nat} {A B C : World} (h : KeepsHi H A B) (k : KeepsHi H B C) : KeepsHi H A C := ⟨Nat.le_trans h.1 k.1, fun i hi hl => (k.2 i hi (Nat.lt_of_lt_of_le hl h.1)).trans (h.2 i hi hl)⟩
def bPost {α : Type} (H : Nat) (I Ix : List α → World → Prop) (xs : List α) (W : World) : Exit → Act → World → Prop
  | .normal, _, W' => Below W.heap.size W W' ∧ I xs W'
  | .ret, _, W' => KeepsHi H W W' ∧ Ix xs W'
  | _, _, _ => False
theorem below_putObj {H : Nat} {W : World} {l : Nat} {o : Obj} (hl : H ≤ l) : Below H W (W.putObj l o) :=
  ⟨rfl, rfl, rfl, by simp, fun k hk => World.putObj_heap_other (by omega)⟩
/-- A range over a function whose iterator may write what it has laid itself. -/
theorem rf_law {α : Type} {P : Program} {n : Nat} {g : Operand} {ps : Array Tmp} {assign body : Code} {Q : Exit → Act → World → Prop} {a : Act} {w : World} {gf : Nat} {lb : Array Value}
    (hg : a.eval g = .func (.func gf) #[] lb) (eg : ∀ args w, (callFunc gf args).run P w = .ok (.enter gf args) w) {encs : α → Array Value} (hps : ∀ x, (encs x).size = ps.size) (ok : α → Prop)
    (I Ix : List α → World → Prop) (hI : ∀ s A B, I s A → Below w.heap.size A B → I s B) (hIx : ∀ s A B, Ix s A → Below w.heap.size A B → Ix s B) (h0 : I [] w) (xs : List α) (a₁ : α → Act)
    (hseq : ∀ (l : Nat) (W : World) (J Jx : List α → World → Prop), Below w.heap.size w W → W.heap.size = w.heap.size + 2 → (∀ s A B, J s A → Below W.heap.size A B → J s B) → (∀ s A B, Jx s A → Below W.heap.size A B → Jx s B) →
      (∀ pre x W1, ok x → J pre W1 → W.heap.size ≤ W1.heap.size → YieldAt Fence.wide 0 P l (encs x) W1 fun e W' => (e = .returned (.bool true) ∧ J (pre ++ [x]) W' ∧ Below W1.heap.size W1 W') ∨ (e = .returned (.bool false) ∧ Jx (pre ++ [x]) W')) → J [] W →
      Calls P gf (#[.func (.yield l) #[] #[]] ++ lb) W fun e W' => (∃ v, e = .returned v) ∧ (J xs W' ∨ ∃ pre, pre <+: xs ∧ Jx pre W'))
    (hassign : ∀ (l : Nat) (x : α) (W : World) (K : Act → World → Prop), K (a₁ x) W → assign.wpIn (Rd (some l)) 0 P (Exit.then K (fun _ _ _ => False)) { tmps := (ps.zip (encs x)).foldl (fun t (p, v) => t.setIfInBounds p v) a.tmps, defers := [] } W)
    (hbody : ∀ (l : Nat) (pre : List α) (x : α) (W : World), ok x → I pre W → w.heap.size + 2 ≤ W.heap.size → body.wpIn (Rd (some l)) 0 P (bPost w.heap.size I Ix (pre ++ [x]) W) (a₁ x) W)
    (hdone : ∀ W, I xs W → W.heap[w.heap.size]? = some (.deferred (some [])) → Q .normal { a with defers := { target := .collected w.heap.size, args := #[] } :: a.defers } W)
    (hstop : ∀ pre W, pre <+: xs → Ix pre W → W.heap[w.heap.size]? = some (.deferred (some [])) → Q .ret { a with defers := { target := .collected w.heap.size, args := #[] } :: a.defers } W) :
    (Code.rangeFunc g ps assign body).wpIn Fence.wide n P Q a w := by
  refine wpIn_rangeFunc ?_
  intro fn hfn
  obtain ⟨rec, hrec⟩ : ∃ rec : LoopState → Option Code → Loop, rec = fun st pe => { state := st, pending := pe, fn, tmps := a.tmps, params := ps, assign, body, defers := w.heap.size } := ⟨_, rfl⟩
  obtain ⟨W1, hW1⟩ : ∃ W1, (w.alloc (.deferred (some []))).alloc (.loop (rec .ready none)) = W1 := ⟨_, rfl⟩
  have hL1 : W1.heap[w.heap.size + 1]? = some (.loop (rec .ready none)) := by
    rw [← hW1]; have := World.alloc_heap_new (w.alloc (.deferred (some []))) (.loop (rec .ready none)); rwa [World.size_alloc] at this
  have hK1 : W1.heap[w.heap.size]? = some (.deferred (some [])) := by
    rw [← hW1]; exact (Below.heap_alloc _ _ _ (by simp)).trans (World.alloc_heap_new w _)
  have hb1 : Below w.heap.size w W1 := by
    rw [← hW1]; exact ((Below.refl _ w).alloc (Nat.le_refl _) _).alloc (by simp) _
  have hs1 : W1.heap.size = w.heap.size + 2 := by rw [← hW1]; simp
  have hI1 : I [] W1 := hI _ _ _ h0 hb1
  refine ⟨w.heap.size + 1, [{ target := .collected w.heap.size, args := #[] }], W1, { target := .fn (.func gf) lb, args := #[.func (.yield (w.heap.size + 1)) #[] #[]] }, W1, gf,
    #[.func (.yield (w.heap.size + 1)) #[] #[]] ++ lb, W1, ?_, ?_, fun _ _ => trivial, ?_, fun hh => by simp [Fence.wide] at hh, ?_⟩
  · rw [← hW1, hrec]; exact run_enterLoop_outer _ _ _ _ _
  · simp only [resolve, hg]
    simp [go_sem]
  · simp [invoke, go_sem, eg]
  · have kb : ∀ {k : Nat} {o : Obj} {A B : World}, k < W1.heap.size → A.heap[k]? = some o → Below W1.heap.size A B → B.heap[k]? = some o := fun hk h hab => (hab.block _ hk).trans h
    refine (callsIn_rd (r := none) (hseq (w.heap.size + 1) W1
      (fun pre W => I pre W ∧ W.heap[w.heap.size + 1]? = some (.loop (rec .ready none)) ∧ W.heap[w.heap.size]? = some (.deferred (some [])))
      (fun pre W => Ix pre W ∧ W.heap[w.heap.size + 1]? = some (.loop (rec .done (some .ret))) ∧ W.heap[w.heap.size]? = some (.deferred (some [])))
      hb1 hs1 (fun s A B h hab => ⟨hI _ _ _ h.1 (hab.mono (by omega)), kb (by omega) h.2.1 hab, kb (by omega) h.2.2 hab⟩) (fun s A B h hab => ⟨hIx _ _ _ h.1 (hab.mono (by omega)), kb (by omega) h.2.1 hab, kb (by omega) h.2.2 hab⟩) ?_ ⟨hI1, hL1, hK1⟩) : CallsIn Fence.wide (n - 1) P gf _ W1 _).mono ?_
    · -- one round
      rintro pre x W hok ⟨hi, hl, hk⟩ hW
      have hlt : w.heap.size + 1 < W.heap.size := (Array.getElem?_eq_some_iff.1 hl).1
      have hy := run_yield (P := P) (args := encs x) hl (by rw [hrec]; exact hps x)
      rw [hrec] at hy
      refine ⟨fn, _, assign, body, hy, roundIn_of_wpIn hfn (hassign _ x W _ ?_)⟩
      clear hy
      refine ⟨_, run_beginRound hl (by rw [hrec]), ?_⟩
      have hl2 : (W.putObj (w.heap.size + 1) (.loop { rec .ready none with state := .busy })).heap[w.heap.size + 1]? = some (.loop { rec .ready none with state := .busy }) := World.putObj_heap_same hlt
      have hk2 : (W.putObj (w.heap.size + 1) (.loop { rec .ready none with state := .busy })).heap[w.heap.size]? = some (.deferred (some [])) := (World.putObj_heap_other (by omega)).trans hk
      refine wpIn_mono (hbody _ pre x _ hok (hI _ _ _ hi (below_putObj (by omega))) (by simp; omega)) ?_
      have fin : ∀ (jump : Option Code) (W3 : World), KeepsHi w.heap.size (W.putObj (w.heap.size + 1) (.loop { rec .ready none with state := .busy })) W3 →
          (Instr.endRound (w.heap.size + 1) jump).run P W3 = .ok (.bool jump.isNone) (W3.putObj (w.heap.size + 1) (.loop (rec (if jump.isNone then .ready else .done) jump))) ∧
          (W3.putObj (w.heap.size + 1) (.loop (rec (if jump.isNone then .ready else .done) jump))).heap[w.heap.size + 1]? = some (.loop (rec (if jump.isNone then .ready else .done) jump)) ∧
          (W3.putObj (w.heap.size + 1) (.loop (rec (if jump.isNone then .ready else .done) jump))).heap[w.heap.size]? = some (.deferred (some [])) := fun jump W3 hk3 => by
        have hsz : (W.putObj (w.heap.size + 1) (.loop { rec .ready none with state := .busy })).heap.size = W.heap.size := by simp
        have hl3 := (hk3.2 _ (by omega) (by omega)).trans hl2
        have hd3 := (hk3.2 _ (Nat.le_refl _) (by omega)).trans hk2
        have hlt3 := (Array.getElem?_eq_some_iff.1 hl3).1
        have := run_endRound (P := P) jump hl3
        rw [hrec] at this ⊢
        exact ⟨this, World.putObj_heap_same hlt3, (World.putObj_heap_other (by omega)).trans hd3⟩
      rintro e a3 W3 hp
      cases e with
      | normal =>
        obtain ⟨hb3, hi3⟩ := hp
        have hsz : (W.putObj (w.heap.size + 1) (.loop { rec .ready none with state := .busy })).heap.size = W.heap.size := by simp
        obtain ⟨hr, hl4, hk4⟩ := fin none W3 ⟨hb3.size, fun k _ hk => hb3.block k (by simpa using hk)⟩
        refine ⟨_, _, hr, .inl ⟨rfl, ⟨hI _ _ _ hi3 (below_putObj (by omega)), hl4, hk4⟩, hb3.os, hb3.tape, hb3.output, by have := hb3.size; simp only [World.putObj_size] at this ⊢; exact this, fun k hk => ?_⟩⟩
        by_cases e : k = w.heap.size + 1
        · rw [e]; exact hl4.trans hl.symm
        · rw [World.putObj_heap_other e, hb3.block k (by simpa using hk), World.putObj_heap_other e]
      | ret =>
        obtain ⟨hk3, hi3⟩ := hp
        obtain ⟨hr, hl4, hk4⟩ := fin (some .ret) W3 hk3
        exact ⟨_, _, hr, .inr ⟨rfl, hIx _ _ _ hi3 (below_putObj (by omega)), hl4, hk4⟩⟩
      | exit id => exact hp.elim
      | goto t => exact hp.elim
      | panic ch => exact hp.elim
      | outgrown => exact hp.elim
    · -- behind the iterator
      rintro e W2 ⟨⟨v, rfl⟩, (⟨hi, hl, hk⟩ | ⟨pre, hSp, hi, hl, hk⟩)⟩
      · exact ⟨none, _, by have := run_endLoop (P := P) hl (by rw [hrec]; simp); rw [hrec] at this; exact this, hdone _ (hI _ _ _ hi (below_putObj (by omega))) ((World.putObj_heap_other (by omega)).trans hk)⟩
      · exact ⟨some .ret, _, by have := run_endLoop (P := P) hl (by rw [hrec]; simp); rw [hrec] at this; exact this, wpIn_ret (hstop pre _ hSp (hIx _ _ _ hi (below_putObj (by omega))) ((World.putObj_heap_other (by omega)).trans hk))⟩
theorem enters_ok {P : Program} {f : FuncId} (hc : callable P f = true) (args : Array Value) (w : World) : (callFunc f args).run P w = .ok (.enter f args) w := by
  unfold callable at hc
  split at hc
  · rename_i fn hfn
    simp only [Bool.and_eq_true, Bool.not_eq_true', beq_eq_false_iff_ne] at hc
    have hb : fn.body ≠ none := by intro hh; simp [hh] at hc
    simp [callFunc, hfn, hc.2, hb]
  · simp at hc
/-- A call of a function that holds a range over a function. -/
theorem callM_of {P : Program} {f : FuncId} {fn : Func} {c : Code} (hf : P.funcs[f]? = some fn) (hb : fn.body = some c) {r : Rs} {args : List Value} {w : World} {K : r.T → World → Prop}
    (h : c.wpIn (Rd none) 0 P (bodyPostM (Rd none) 0 P fn (fun e w' => ∃ x, e = .returned (r.emb x) ∧ K x w')) (act [] (args.map EV.v ++ List.replicate (fn.ntmps - args.length) u0)) w) : CallT r P f args w K := by
  refine calls_of_rd (r := none) (n := 0) (callsIn_of_wp_marks hf hb trivial ?_)
  have he : act [] (args.map EV.v ++ List.replicate (fn.ntmps - args.length) u0) = { tmps := args.toArray ++ Array.replicate (fn.ntmps - args.toArray.size) undef, defers := [] } := by
    simp only [act, Act.mk.injEq, and_true]
    rw [← Array.toList_inj]
    have e2 : (EV.val ∘ EV.v) = id := rfl
    simp [u0, EV.val, e2]
  rw [← he]
  exact h
/-- What goes on alone. -/
def nK (Kn : Env → World → Prop) : Exit → Env → World → Prop
  | .normal, env, w => Kn env w
  | _, _, _ => False
theorem step_seq {P : Program} {rr : Option Nat} {a b : Code} {pl : Pl} {env : Env} {ds : List Deferred} {w : World} {Q : Exit → Act → World → Prop} (h : evI P pl a (nK fun env' w' => b.wpIn (Rd rr) 0 P Q (act ds env') w') env w) :
    (Code.seq a b).wpIn (Rd rr) 0 P Q (act ds env) w :=
  wpIn_seq (evI_sound pl a _ _ env w (fun e env' w' h _ => by cases e with | normal => exact h | _ => exact h.elim) h)
theorem step_one {P : Program} {rr : Option Nat} {a : Code} {pl : Pl} {env : Env} {ds : List Deferred} {w : World} {K : Act → World → Prop} {Q : Exit → Act → World → Prop} (h : evI P pl a (nK fun env' w' => K (act ds env') w') env w) :
    a.wpIn (Rd rr) 0 P (Exit.then K Q) (act ds env) w :=
  evI_sound pl a _ _ env w (fun e env' w' h _ => by cases e with | normal => exact h | _ => exact h.elim) h
/-- The body of a round: it goes on, or it returns. -/
def bK (K : Bool → World → Prop) : Exit → Env → World → Prop
  | .normal, _, w => K true w
  | .ret, _, w => K false w
  | _, _, _ => False
theorem step_body {α : Type} {P : Program} {rr : Option Nat} {c : Code} {pl : Pl} {env : Env} {ds : List Deferred} {w : World} {H : Nat} {I Ix : List α → World → Prop} {xs : List α}
    (h : evI P pl c (bK fun t w' => match t with | true => Below w.heap.size w w' ∧ I xs w' | false => KeepsHi H w w' ∧ Ix xs w') env w) : c.wpIn (Rd rr) 0 P (bPost H I Ix xs w) (act ds env) w :=
  evI_sound pl c _ _ env w (fun e env' w' h _ => by cases e with | normal => exact h | ret => exact h | _ => exact h.elim) h
def cL : Code → Code | .seq a _ => a | c => c
def cR : Code → Code | .seq _ b => b | c => c
def cB : Code → Code | .block _ b => b | c => c
def cAs : Code → Code | .rangeFunc _ _ a _ => a | c => c
def cBd : Code → Code | .rangeFunc _ _ _ b => b | c => c
end Go.Proofs.YteggdoigliddkaaGreatDoor.V

/- Verification conditions, printed by this session's own program (wip/vc.py) and checked by the kernel. -/
namespace Go.Proofs.YteggdoigliddkaaGreatDoor.V
open Go Go.RowKit
set_option linter.unusedVariables false
/- (spec.l20Rd).of -/
def spec.l20Rd.of.pl : Pl := (.s (.r (D 1)) (.s (.r [.d, .d, .d, .d, (.c (.o (.lf (.i .i64)))), .d, (.l (.lf .s)), .d]) .z))
def spec.l20Rd.of.vc (r : Option Addr) (list : Sl) (w : World) (K : ByteArray → World → Prop) : Prop :=
CallT (.o (.lf (.i .i64))) P0 39 [(.pointer r), (.int .i64 ((list.n : Nat) : Int))] w fun (t9 : Int) w_ =>
Ix list.a list.n t9 1 w_ fun a_t10 w__1 =>
Ld .s a_t10 w__1 fun (t11 : ByteArray) w__2 =>
K t11 w__2
theorem spec.l20Rd.of.ok {r : Option Addr} {list : Sl} {w : World} {K : ByteArray → World → Prop} (h : spec.l20Rd.of.vc r list w K) : CallT (.o (.lf .s)) P0 41 [(.pointer r), list.v] w K :=
  call_of Tryz.func41 rfl rfl (pl := spec.l20Rd.of.pl) (show VC P0 Tryz.f41 spec.l20Rd.of.pl (.o (.lf .s)) [(.pointer r), list.v] w K noP from Eq.mp (by kernel_rfl) h)
/- spec.l20Bent -/
def spec.l20Bent.pl : Pl := (.s (.r (D 1)) (.s (.r [.d, .d, .d, .d, (.c (.o (.lf (.i .i64)))), .d]) (.s (.s (.r [.d, (.c (.o (.lf (.i .i64))))]) (.b (.s (.r (D 2)) (.c (.s (.r (D 4)) (.c (.s (.g [(.q, []), (.q, []), ((.g (.o (.lf .s)) (.t (.o (.lf .s)))), []), (.q, []), ((.g (.o (.lf .sl)) .d), []), ((.h (.o (.lf .s)) (.c (.o (.lf .s)))), [4]), ((.g (.o (.lf .s)) .d), [2, 5]), (.q, []), (.q, []), (.q, []), ((.g (.o (.lf .s)) (.t (.o (.lf .s)))), []), ((.g (.o (.lf .s)) .d), [6, 10]), (.q, [11])] []) .z) .z)) (.s (.r (D 2)) (.c (.s (.r [.d, .d, (.t (.o (.lf .s))), .d]) .z) (.s (.r (D 2)) (.c (.s (.r [.d, .d, .d, (.c (.o (.lf .s))), .d, .d]) .z) .z)))))))) (.s (.r (D 2)) .z))))
def spec.l20Bent.vc (r : Option Addr) (s : ByteArray) (w : World) (K : ByteArray → World → Prop) : Prop :=
CallT (.o (.lf (.i .i64))) P0 39 [(.pointer r), (.int .i64 (IntKind.wrap .i64 ((((ByteArray.size s) : Nat) : Int) + 1)))] w fun (t10 : Int) w_ =>
CallT (.o (.lf (.i .i64))) P0 39 [(.pointer r), (.int .i64 5)] w_ fun (t12 : Int) w__1 =>
(((t12 : Int) == 0) = true → ((decide ((t10 : Int) < (((ByteArray.size s) : Nat) : Int))) = true → ∃ Sp : World → World → Prop, SpOk Sp w__1 ∧
∃ N : World → Prop, NOk N w__1 ∧
∃ G_t21 : ByteArray → World → Prop, Kept Sp G_t21 ∧
∃ G_t23 : Sl → World → Prop, Kept Sp G_t23 ∧
∃ G_t24 : ByteArray → World → Prop, Kept Sp G_t24 ∧
∃ G_t25 : ByteArray → World → Prop, Kept Sp G_t25 ∧
∃ G_t29 : ByteArray → World → Prop, Kept Sp G_t29 ∧
∃ G_t30 : ByteArray → World → Prop, Kept Sp G_t30 ∧
(∀ w__2, Sp w__1 w__2 → RunT (.o (.lf .s)) P0 (Instr.sliceAt 9 (.string s) none (some (.int .i64 t10)) none) w__2 fun (t21 : ByteArray) w__3 =>
GK (.o (.lf .s)) (Sk Sp N) w__2 G_t21 (.string t21) w__3) ∧
∀ (t21_1 : ByteArray), (∀ w__4, Sp w__1 w__4 → Nw #[(.string ⟨#[0]⟩), (.string ⟨#[49]⟩), (.string ⟨#[255]⟩), (.string ⟨#[32]⟩), (.string ⟨#[114]⟩), (.string ⟨#[16]⟩)] 9 w__4 fun a_t23 w__5 =>
GK (.o (.lf .sl)) (Sk Sp N) w__4 G_t23 (.slice (some a_t23) 6 6) w__5) ∧
∀ (t23 : Sl), (∀ w__6, Sp w__1 w__6 → N w__6 → G_t23 t23 w__6 → CallT (.o (.lf .s)) P0 41 [(.pointer r), t23.v] w__6 fun (t24 : ByteArray) w__7 =>
GK (.o (.lf .s)) Sp w__6 G_t24 (.string t24) w__7) ∧
∀ (t24_1 : ByteArray), (∀ w__8, Sp w__1 w__8 → G_t21 t21_1 w__8 → G_t24 t24_1 w__8 → (((ByteArray.size t21_1 + ByteArray.size t24_1 : Nat) : Int) ≤ IntKind.i64.max) ∧ GK (.o (.lf .s)) (Sk Sp N) w__8 G_t25 (.string (t21_1 ++ t24_1)) w__8) ∧
∀ (t25 : ByteArray), (∀ w__9, Sp w__1 w__9 → RunT (.o (.lf .s)) P0 (Instr.sliceAt 9 (.string s) (some (.int .i64 (IntKind.wrap .i64 (t10 + 1)))) none none) w__9 fun (t29 : ByteArray) w__10 =>
GK (.o (.lf .s)) (Sk Sp N) w__9 G_t29 (.string t29) w__10) ∧
∀ (t29_1 : ByteArray), (∀ w__11, Sp w__1 w__11 → G_t25 t25 w__11 → G_t29 t29_1 w__11 → (((ByteArray.size t25 + ByteArray.size t29_1 : Nat) : Int) ≤ IntKind.i64.max) ∧ GK (.o (.lf .s)) (Sk Sp N) w__11 G_t30 (.string (t25 ++ t29_1)) w__11) ∧
∀ (t30 : ByteArray), ∀ w__12, Sp w__1 w__12 → G_t21 t21_1 w__12 → G_t23 t23 w__12 → G_t24 t24_1 w__12 → G_t25 t25 w__12 → G_t29 t29_1 w__12 → G_t30 t30 w__12 → 
K t30 w__12) ∧
((decide ((t10 : Int) < (((ByteArray.size s) : Nat) : Int))) = false → K s w__1)) ∧
(((t12 : Int) == 0) = false → (((t12 : Int) == 1) = true → RunT (.o (.lf .s)) P0 (Instr.sliceAt 9 (.string s) none (some (.int .i64 t10)) none) w__1 fun (t35 : ByteArray) w__13 =>
K t35 w__13) ∧
(((t12 : Int) == 1) = false → (((t12 : Int) == 2) = true → Nw #[(.string ⟨#[0]⟩), (.string ⟨#[32]⟩), (.string ⟨#[48]⟩)] 9 w__1 fun a_t40 w__14 =>
CallT (.o (.lf .s)) P0 41 [(.pointer r), (.slice (some a_t40) 3 3)] w__14 fun (t41 : ByteArray) w__15 =>
(((ByteArray.size s + ByteArray.size t41 : Nat) : Int) ≤ IntKind.i64.max) ∧ K (s ++ t41) w__15) ∧
(((t12 : Int) == 2) = false → K s w__1)))
theorem spec.l20Bent.ok {r : Option Addr} {s : ByteArray} {w : World} {K : ByteArray → World → Prop} (h : spec.l20Bent.vc r s w K) : CallT (.o (.lf .s)) P0 40 [(.pointer r), (.string s)] w K :=
  call_of Tryz.func40 rfl rfl (pl := spec.l20Bent.pl) (show VC P0 Tryz.f40 spec.l20Bent.pl (.o (.lf .s)) [(.pointer r), (.string s)] w K noP from Eq.mp (by kernel_rfl) h)
/- impl.number -/
def impl.number.pl : Pl := (.s (.r (D 1)) (.s (.r [.d, (.c (.n [(.lf (.i .i64)), (.lf .any)])), .d, .d, .d, .d, .d]) (.s (.s (.r [.d, (.t (.o (.lf .b)))]) (.c (.s (.r (D 1)) .z) .z)) (.s (.r (D 2)) .z))))
def impl.number.vc (s : ByteArray) (w : World) (K : Int → World → Prop) : Prop :=
CallT (.n [(.lf (.i .i64)), (.lf .any)]) P0 110 [(.string s)] w fun (t7 : (Int) × (Value) × Unit) w_ =>
RunT (.o (.lf .b)) P0 (do eqGuard .neq 58 (.tmp 10) (.const .nilIface) t7.2.1 .nilIface; binOp .neq 58 t7.2.1 .nilIface) w_ fun (t11 : Bool) w__1 =>
(t11 = true → K (-1099511627776) w__1) ∧
(t11 = false → K t7.1 w__1)
theorem impl.number.ok {s : ByteArray} {w : World} {K : Int → World → Prop} (h : impl.number.vc s w K) : CallT (.o (.lf (.i .i64))) P0 91 [(.string s)] w K :=
  call_of Tryz.func91 rfl rfl (pl := impl.number.pl) (show VC P0 Tryz.f91 impl.number.pl (.o (.lf (.i .i64))) [(.string s)] w K noP from Eq.mp (by kernel_rfl) h)
/- impl.opWords -/
def impl.opWords.pl : Pl := (.s (.r (D 1)) (.s (.r (D 2)) .z))
def impl.opWords.vc  (w : World) (K : Tup (R 21 .s) → World → Prop) : Prop :=
Nw (zc P0 94) 94 w fun a_t0 w_ =>
StA P0 a_t0 [(.string ⟨#[]⟩), (.string ⟨#[109, 111, 118]⟩), (.string ⟨#[97, 100, 100]⟩), (.string ⟨#[115, 117, 98]⟩), (.string ⟨#[109, 117, 108]⟩), (.string ⟨#[97, 110, 100]⟩), (.string ⟨#[111, 114]⟩), (.string ⟨#[120, 111, 114]⟩), (.string ⟨#[115, 104, 108]⟩), (.string ⟨#[115, 104, 114]⟩), (.string ⟨#[100, 105, 118]⟩), (.string ⟨#[109, 111, 100]⟩), (.string ⟨#[115, 97, 109, 101]⟩), (.string ⟨#[111, 116, 104, 101, 114]⟩), (.string ⟨#[108, 101, 115, 115]⟩), (.string ⟨#[109, 111, 114, 101]⟩), (.string ⟨#[103, 111]⟩), (.string ⟨#[108, 111, 97, 100]⟩), (.string ⟨#[115, 116, 111, 114, 101]⟩), (.string ⟨#[99, 97, 108, 108]⟩), (.string ⟨#[101, 120, 105, 116]⟩)] w_ fun w__1 =>
LdA (R 21 .s) a_t0 w__1 fun r w__2 =>
K r w__1
theorem impl.opWords.ok  {w : World} {K : Tup (R 21 .s) → World → Prop} (h : impl.opWords.vc  w K) : CallT (.o (.ag (R 21 .s))) P0 65 [] w K :=
  call_of Tryz.func65 rfl rfl (pl := impl.opWords.pl) (show VC P0 Tryz.f65 impl.opWords.pl (.o (.ag (R 21 .s))) [] w K noP from Eq.mp (by kernel_rfl) h)
/- slices.Index[[]string,string] -/
def slices.Index_string.pl : Pl := (.s (.r (D 1)) (.s (.s (.r (D 3)) (.b (.l [(8, (.i .i64))] (.s (.r (D 1)) (.s (.c .z .z) (.s (.b (.s (.r (D 2)) (.s (.r [.d, .d, .d, .d, (.l (.lf .s)), .d]) (.c (.s (.r (D 2)) .z) .z)))) (.r (D 2)))))))) (.s (.r (D 1)) .z)))
def slices.Index_string.vc (s : Sl) (v : ByteArray) (w : World) (K : Int → World → Prop) : Prop :=
∃ (I : Int → World → Prop) (M : Int → World → Nat),
I 0 w ∧
(∀ (t8 : Int) w_, I t8 w_ → ∀ _ : Nat → Value,
((decide ((t8 : Int) < ((s.n : Nat) : Int))) = true → Ix s.a s.n t8 1 w_ fun a_t14 w__1 =>
Ld .s a_t14 w__1 fun (t15 : ByteArray) w__2 =>
((ByteArray.toList v == ByteArray.toList t15) = true → K t8 w__2) ∧
((ByteArray.toList v == ByteArray.toList t15) = false → (I (IntKind.wrap .i64 (t8 + 1)) w__2 ∧ M (IntKind.wrap .i64 (t8 + 1)) w__2 < M t8 w_))) ∧
((decide ((t8 : Int) < ((s.n : Nat) : Int))) = false → K (-1) w_))
theorem slices.Index_string.ok {s : Sl} {v : ByteArray} {w : World} {K : Int → World → Prop} (h : slices.Index_string.vc s v w K) : CallT (.o (.lf (.i .i64))) P0 88 [s.v, (.string v)] w K :=
  call_of Tryz.func88 rfl rfl (pl := slices.Index_string.pl) (show VC P0 Tryz.f88 slices.Index_string.pl (.o (.lf (.i .i64))) [s.v, (.string v)] w K noP from Eq.mp (by kernel_rfl) h)
end Go.Proofs.YteggdoigliddkaaGreatDoor.V

/- Regions: facts that say what a result is; where rules lie. -/
namespace Go.Proofs.YteggdoigliddkaaGreatDoor.V
open Go Go.RowKit
set_option linter.unusedVariables false
set_option linter.unusedSimpArgs false
/-- A fact: the result is this. -/
def eqG {α : Type} (v : α) : α → World → Prop := fun x _ => x = v
theorem exE {α : Type} {v : α} {Sp : World → World → Prop} {p : (α → World → Prop) → Prop} (h : p (eqG v)) : ∃ G, Kept Sp G ∧ p G := ⟨eqG v, fun _ _ _ h _ => h, h⟩
theorem gkE {r : Rs} {Sp : World → World → Prop} {w1 w' : World} {x : r.T} {v : Value} (hv : v = r.emb x) (h : Sp w1 w') : GK r Sp w1 (eqG x) v w' := ⟨x, hv, h, rfl⟩
theorem belOk (w : World) : SpOk (Below w.heap.size) w := ⟨fun a => Below.refl _ _, fun a b c h1 h2 => h1.trans h2, (Below.refl _ _).drew⟩
theorem keptEq {α : Type} {v : α} {Sp : World → World → Prop} : Kept Sp (eqG v) := fun _ _ _ h _ => h
theorem keptE {α : Type} {v : α} {Sp : World → World → Prop} : Kept Sp (eqG v) := fun _ _ _ h _ => h
def AtV (H : Nat) (vs : List Value) (a : Addr) (w : World) : Prop := ∃ b o, a = ⟨b, o, none⟩ ∧ b < H ∧ At w b o vs
theorem keptAv {H : Nat} {vs : List Value} : Kept (Below H) (AtV H vs) := by
  rintro a x z ⟨b, o, h1, h2, h3⟩ hxz
  refine ⟨b, o, h1, h2, fun m v hv => ?_⟩
  rw [← h3 m v hv]
  unfold World.cell?
  simp only
  rw [hxz.block b h2]
theorem bk_lt {α : Type} {k : Kd α} {w : World} {s : Sl} {xs : List α} (h : SlR k w s xs) {i : Nat} {x : α} (hx : xs[i]? = some x) {v : Value} (hv : (k.cells x)[0]? = some v) {b : Nat} (hb : s.bk = some b) : b < w.heap.size := by
  obtain ⟨b', o, ha, hA⟩ := h.at hx
  have : b' = b := by simpa [Sl.bk, ha] using hb
  subst this
  exact World.block_lt_of_cell? w _ (hA 0 v hv)
theorem ldAv {w : World} {b o : Nat} {ls : List Lf} {y : Tup ls} (h : At w b o (Tup.cells ls y)) {K : Tup ls → World → Prop} (hk : K y w) : LdA ls ⟨b, o, none⟩ w K := ⟨y, fun j v hv => by rw [add_mk]; exact h j v hv, hk⟩
theorem ixRb {α : Type} {k : Kd α} {w : World} {s : Sl} {xs : List α} {i : Int} {x : α} {sz : Nat} (h : SlR k w s xs) (hi : 0 ≤ i) (hx : xs[i.toNat]? = some x) (hsz : sz = k.ls.length) {K : Addr → World → Prop}
    (hk : ∀ b o, s.bk = some b → At w b o (k.cells x) → K ⟨b, o, none⟩ w) : Ix s.a s.n i sz w K := by
  obtain ⟨b, o, ha, hA⟩ := h.at hx
  have hl : i.toNat < xs.length := by
    rcases Nat.lt_or_ge i.toNat xs.length with h | h
    · exact h
    · simp [List.getElem?_eq_none h] at hx
  refine ⟨⟨b, o, none⟩, ha, hi, by rw [h.1]; omega, ?_⟩
  rw [add_mk, hsz]
  exact hk _ _ (by simp [Sl.bk, ha]) hA
end Go.Proofs.YteggdoigliddkaaGreatDoor.V

/- Contracts: the library's functions on texts, at this program. -/
namespace Go.Proofs.YteggdoigliddkaaGreatDoor.V
open Go Go.RowKit
set_option linter.unusedVariables false
set_option linter.unusedSimpArgs false
theorem cellB {w w' : World} {g i : Nat} {v : Value} (h : w.cell? ⟨g, i, none⟩ = some v) (hb : Below w.heap.size w w') : w'.cell? ⟨g, i, none⟩ = some v := by
  have hlt := World.block_lt_of_cell? w _ h
  rw [← h]
  unfold World.cell?
  simp only
  rw [hb.block g hlt]
/-- The table of powers is there. -/
def Tb (w : World) : Prop := Lib.TabIs P0 w "internal/strconv.uint64pow10" .u64 Lib.pow10Tab
theorem Tb.below {w w' : World} (h : Tb w) (hb : Below w.heap.size w w') : Tb w' := Go.Joins.tab_stays (g := 1) (by kernel_rfl) h hb (Nat.le_refl _)
section
variable {w : World}
theorem itoa.c {n : Int} {K : ByteArray → World → Prop} (h : Tb w) (h0 : -9223372036854775808 ≤ n) (h1 : n ≤ 9223372036854775807) (hk : ∀ w', Below w.heap.size w w' → K (bs (Lib.itoa n)) w') : CallT (.o (.lf .s)) P0 30 [.int .i64 n] w K :=
  (Tryz.strconv_Itoa n h0 h1 w h).mono fun e w' ⟨he, k, os, hw⟩ => ⟨bs (Lib.itoa n), he, hk w' (by rw [hw]; exact Lib.below_grow _ w (Nat.le_refl _) k os)⟩
/-- A Builder that holds these bytes. -/
def Bd (B b : Nat) (l : By) (w : World) : Prop := Lib.IsBuilder 55 5 B b (Lib.byteCells l) w
theorem zBd : zc P0 55 = #[.pointer none, .slice none 0 0] := by kernel_rfl
theorem Bd.new {B b : Nat} {w' : World} (hB : B ≤ b) (hc : w'.heap[b]? = some (.cells #[.pointer none, .slice none 0 0] 55 (0, 0))) : Bd B b [] w' :=
  .inl ⟨hB, .slice none 0 0, hc, ⟨rfl, .inl ⟨rfl, rfl⟩⟩, by simp [Value.ownBlock]⟩
theorem bdAt_below {B b : Nat} {p : Value} {l : By} {w' : World} (h : Lib.BuilderAt 55 5 B b p (Lib.byteCells l) w) (hb : Below w.heap.size w w') : Lib.BuilderAt 55 5 B b p (Lib.byteCells l) w' := by
  obtain ⟨hB, v, hc, ho, hn⟩ := h
  refine ⟨hB, v, (hb.block b (Array.getElem?_eq_some_iff.1 hc).1).trans hc, ?_, hn⟩
  refine ⟨ho.1, ?_⟩
  rcases ho.2 with h0 | ⟨g, cap, cur, hv, hBg, hg, r⟩
  · exact .inl h0
  · exact .inr ⟨g, cap, cur, hv, hBg, (hb.block g (Array.getElem?_eq_some_iff.1 hg).1).trans hg, r⟩
theorem Bd.below {B b : Nat} {l : By} {w' : World} (h : Bd B b l w) (hb : Below w.heap.size w w') : Bd B b l w' := h.imp (bdAt_below · hb) (bdAt_below · hb)
theorem write.c {B b : Nat} {l x : By} {K : Int × Value × Unit → World → Prop} (h : Bd B b l w) (hl : l.length + x.length ≤ 140737488355328) (hB : B ≤ w.heap.size) (hk : ∀ r w', Bd B b (l ++ x) w' → Below B w w' → K r w') :
    CallT (.n [(.lf (.i .i64)), (.lf .any)]) P0 28 [.pointer (some ⟨b, 0, none⟩), .string (bs x)] w K := by
  refine (Any.Builder_WriteString Tryz.laysB166 Tryz.laysB_X B b (Lib.byteCells l) (bs x) w h (by rw [Lib.byteCells_length, bs_size]; exact hl) hB).mono fun e w' ⟨he, h1, h2⟩ => ?_
  refine ⟨(((bs x).size : Int), .nilIface, ()), he, hk _ w' (.inr ?_) h2⟩
  rw [Lib.strCells_eq, bs_data, ← Lib.byteCells_append] at h1
  exact h1
theorem string.c {B b : Nat} {l : By} {K : ByteArray → World → Prop} (h : Bd B b l w) (hB : B ≤ w.heap.size) (hk : ∀ w', Below B w w' → K (bs l) w') : CallT (.o (.lf .s)) P0 34 [.pointer (some ⟨b, 0, none⟩)] w K :=
  (Tryz.Builder_String_any B b l w h hB).mono fun e w' ⟨he, hw⟩ => ⟨bs l, he, hk w' hw⟩
end
/-- What is known of the library's variables that texts are read by. -/
def Te (w : World) : Prop := (∃ m, w.cell? ⟨0, 0, none⟩ = some (.int .i64 m)) ∧ (∃ te pe, w.cell? ⟨4, 0, none⟩ = some (.iface te pe)) ∧ ∃ te pe, w.cell? ⟨5, 0, none⟩ = some (.iface te pe)
theorem Te.below {w w' : World} (h : Te w) (hb : Below w.heap.size w w') : Te w' := by
  obtain ⟨⟨m, h1⟩, ⟨t, p, h2⟩, ⟨t', p', h3⟩⟩ := h
  exact ⟨⟨m, cellB h1 hb⟩, ⟨t, p, cellB h2 hb⟩, ⟨t', p', cellB h3 hb⟩⟩
/-- The number of a word, or one that is none. -/
def numA (l : By) : Int := match Lib.atoiAll l with | .ok v => v | _ => -1099511627776
theorem numA_dec {u : Nat} (h : u < 9223372036854775808) : numA (Lib.decDigits u) = u := by unfold numA; rw [atoi_dec u h]
section
variable {w : World}
theorem eqIfNil {P : Program} {t : TypeId} {ms : Array (String × TypeId)} (w : World) (d : Nat) (hu : P.underlying t = some (.interface ms)) (a : TypeId) (b : Value) : (Op.equalIn (d + 1) t (.iface a b) .nilIface).run P w = .ok false w := by
  rw [Op.equalIn]; simp [run_underlying hu]
theorem eqNilNil {P : Program} {t : TypeId} {ms : Array (String × TypeId)} (w : World) (d : Nat) (hu : P.underlying t = some (.interface ms)) : (Op.equalIn (d + 1) t .nilIface .nilIface).run P w = .ok true w := by
  rw [Op.equalIn]; simp [run_underlying hu]
theorem uErr : ∃ ms, P0.underlying 58 = some (.interface ms) := ⟨_, Tryz.underlying58⟩
theorem neqNil {t : TypeId} {p : Value} {x y : Operand} {K : Bool → World → Prop} (hk : K true w) : RunT (.o (.lf .b)) P0 (do eqGuard .neq 58 x y (.iface t p) .nilIface; binOp .neq 58 (.iface t p) .nilIface) w K := by
  obtain ⟨ms, hu⟩ := uErr
  refine ⟨true, w, ?_, hk⟩
  rw [show eqGuard .neq 58 x y (.iface t p) .nilIface = pure () from rfl]
  rw [show binOp .neq 58 (.iface t p) .nilIface = (do pure (.bool (!(← Op.equalIn (9999 + 1) 58 (.iface t p) .nilIface)))) from rfl]
  simp only [Sem.run_bind, Sem.run_pure, Result.andThen_ok, eqIfNil w 9999 hu]
  rfl
theorem neqNo {x : Operand} {c : Value} {K : Bool → World → Prop} (hk : K false w) : RunT (.o (.lf .b)) P0 (do eqGuard .neq 58 x (.const c) .nilIface .nilIface; binOp .neq 58 .nilIface .nilIface) w K := by
  obtain ⟨ms, hu⟩ := uErr
  refine ⟨false, w, ?_, hk⟩
  rw [show eqGuard .neq 58 x (.const c) .nilIface .nilIface = pure () by cases x <;> rfl]
  rw [show binOp .neq 58 .nilIface .nilIface = (do pure (.bool (!(← Op.equalIn (9999 + 1) 58 .nilIface .nilIface)))) from rfl]
  simp only [Sem.run_bind, Sem.run_pure, Result.andThen_ok, eqNilNil w 9999 hu]
  rfl
theorem impl.number.c {l : By} {K : Int → World → Prop} (h : Te w) (hl : l.length ≤ 281474976710656) (hk : ∀ w', Below w.heap.size w w' → K (numA l) w') : CallT (.o (.lf (.i .i64))) P0 91 [.string (bs l)] w K := by
  refine impl.number.ok ?_
  unfold impl.number.vc
  have hs : (bs l).size ≤ 281474976710656 := by rw [bs_size]; exact hl
  obtain ⟨_, ⟨t2, p2, h2⟩, ⟨t3, p3, h3⟩⟩ := h
  unfold numA at hk
  rcases he : Lib.atoiAll l with v | _ | _
  · rw [he] at hk
    refine (Tryz.strconv_Atoi_ok (bs l) (by omega) v (by rw [bs_data]; exact he) w).mono fun e w' ⟨hr, hw⟩ => ⟨(v, .nilIface, ()), hr, ?_⟩
    have hb : Below w.heap.size w w' := by
      rcases hw with rfl | ⟨t, rfl⟩
      · exact Below.refl _ _
      · exact Go.Joins.below_bytesWorld _ w _ t (Nat.le_refl _)
    exact neqNo (And.intro (fun hc => by simp at hc) (fun _ => hk w' hb))
  · rw [he] at hk
    refine (Tryz.strconv_Atoi_syntax (bs l) hs (by rw [bs_data]; exact he) _ w h2 (.inr ⟨_, _, rfl⟩)).mono fun e w' ⟨N, hr, _, _, hb⟩ => ⟨(0, _, ()), hr, ?_⟩
    exact neqNil (And.intro (fun _ => hk w' hb) (fun hc => by simp at hc))
  · rw [he] at hk
    refine (Tryz.strconv_Atoi_range (bs l) hs (by rw [bs_data]; exact he) _ w h3 (.inr ⟨_, _, rfl⟩)).mono fun e w' ⟨N, hr, _, _, hb⟩ => ⟨(_, _, ()), hr, ?_⟩
    exact neqNil (And.intro (fun _ => hk w' hb) (fun hc => by simp at hc))
theorem cut.c {l : By} {c : UInt8} {K : ByteArray × ByteArray × Bool × Unit → World → Prop} (h : Te w) (hl : l.length < 4294967281) (hk : ∀ w', Below w.heap.size w w' → K (bs (Lib.cut l [c]).1, bs (Lib.cut l [c]).2.1, (Lib.cut l [c]).2.2, ()) w') :
    CallT (.n [(.lf .s), (.lf .s), (.lf .b)]) P0 21 [.string (bs l), .string (bs [c])] w K := by
  obtain ⟨⟨m, h1⟩, _⟩ := h
  refine (Tryz.strings_Cut (bs l) (bs [c]) m w (by rw [bs_size]; exact hl) h1).mono fun e w' ⟨he, n, hw⟩ => ⟨(bs (Lib.cut l [c]).1, bs (Lib.cut l [c]).2.1, (Lib.cut l [c]).2.2, ()), he, hk w' ?_⟩
  rw [hw]; exact Lib.below_grow _ w (Nat.le_refl _) n #[]
theorem flatS (l : List ByteArray) : (l.map Value.string).toArray.toList = l.flatMap kS.cells := by
  induction l with
  | nil => rfl
  | cons x xs ih => simpa [kS, Kd.cells, Tup.cells, Lf.emb] using ih
theorem split_size {c : UInt8} : ∀ (n : Nat) (l : By) (z : ByteArray), z ∈ Lib.splitB (bs [c]) 0 n (bs l) → z.size ≤ l.length
  | n, l, z, hz => by
    have hd := Lib.splitB_data (bs [c]) 0 n (bs l)
    have hm : z.data.toList ∈ Lib.splitK (bs [c]).data.toList 0 n (bs l).data.toList := by rw [← hd]; exact List.mem_map_of_mem hz
    have key : ∀ (n : Nat) (l y : By), y ∈ Lib.splitK [c] 0 n l → y.length ≤ l.length := by
      intro n
      induction n with
      | zero => intro l y hy; simp [Lib.splitK] at hy; rw [hy]; exact Nat.le_refl _
      | succ n ih =>
        intro l y hy
        unfold Lib.splitK at hy
        split at hy
        · simp at hy; rw [hy]; exact Nat.le_refl _
        · rcases List.mem_cons.1 hy with e | e
          · rw [e]; simp; omega
          · have := ih _ _ e
            simp at this; omega
    have := key n l _ hm
    rw [Array.length_toList] at this
    exact this
theorem split.c {l : By} {c : UInt8} {K : Sl → World → Prop} (h : Te w) (hl : l.length < 4294967281) (hk : ∀ s zs w', Below w.heap.size w w' → OwnS kS 9 w.heap.size w' s zs → zs.length ≤ l.length + 1 → (∀ z ∈ zs, z.size ≤ l.length) → (∀ ws : List By, ws ≠ [] → (∀ x ∈ ws, c ∉ x) → l = joinW c ws → zs = ws.map bs) → K s w') :
    CallT (.o (.lf .sl)) P0 57 [.string (bs l), .string (bs [c])] w K := by
  obtain ⟨⟨m, h1⟩, _⟩ := h
  refine (Tryz.strings_Split (bs l) (bs [c]) m w (by rw [bs_size]; exact hl) h1 (by rw [bs_size]; simp)).mono fun e w' ⟨he, hw⟩ => ⟨⟨some ⟨w.heap.size, 0, none⟩, _, _⟩, he, ?_⟩
  have hlen := Lib.splitB_all (bs [c]) (by rw [bs_size]; simp) 0 _ (bs l) rfl
  have hle := Lib.countB_le (bs [c]) (by rw [bs_size]; simp) (bs l).size (bs l) (Nat.le_refl _)
  rw [bs_size] at hle
  have hc : w'.heap[w.heap.size]? = some (.cells ((Lib.splitB (bs [c]) 0 (Lib.countB (bs l) (bs [c])) (bs l)).map Value.string).toArray 9 (0, 0)) := by rw [hw]; exact Array.getElem?_push_size
  have hb : Below w.heap.size w w' := by rw [hw]; exact (Below.refl _ w).alloc (Nat.le_refl _) _
  refine hk _ (Lib.splitB (bs [c]) 0 (Lib.countB (bs l) (bs [c])) (bs l)) w' hb (OwnS.lit (k := kS) (Nat.le_refl _) hc hlen.symm (flatS _) (by simp only [maxLen]; omega)) (by omega) (fun z hz => split_size _ _ z hz) fun ws hn hw2 he2 => ?_
  rw [he2]; exact split_words hn hw2
end
end Go.Proofs.YteggdoigliddkaaGreatDoor.V

/- What the listed variables give the walks; the wrap that keeps the world's shape. -/
namespace Go.Proofs.YteggdoigliddkaaGreatDoor.V
open Go Go.RowKit
set_option linter.unusedVariables false
set_option linter.unusedSimpArgs false
section
variable {H : Type} {enc : TypeId × Value → H}
theorem handed_and_shaped {a : Assume} {C : Checked} {os : Os} {f : FuncId} {fn : Func} {s : ChangeSpec} {conds : List PathCond} {apart fresh handsOn again : Bool} {X : World → Array Value → Prop}
    (hX : ∀ (w w' : World) (args : Array Value), w.heap = w'.heap → X w args → X w' args)
    (own : ownKnob C.prog.godebug = none) (started : os.Started) (noInit : C.prog.inits.idxOf? f = none) (hfn : C.prog.funcs[f]? = some fn)
    (witness : ∃ (w : World) (tape : Tape) (i : Input), w.os = os ∧ (w.forCall tape i).Shaped C.prog ∧ i.vars = [] ∧ Input.okWide C.prog (w.forCall tape i) .any w.heap.size f i ∧
      ((s.pre enc C.prog fn conds apart (w.forCall tape i).memory i.args ∧ X (w.forCall tape i).memory i.args) ∧ sizedMet enc C.prog fn (OpenSpec.ofChange s) apart (w.forCall tape i).memory i.args) ∧ a.holds C.prog (lone (Frame.enter C.prog f i.args .normal) [] (w.forCall tape i)))
    (contract : ∀ (W : World) (base : Nat) (args : Array Value) (ds gs : List (DataW H)) (before : List MemPlace),
      (∀ (j : Nat) t v, fn.params[j]? = some t → args[j]? = some v → Value.okWide C.prog W .any base t v) →
      DataW.Whole enc C.prog fn.params.toList s.vars apart W args.toList ds gs before →
      conds.all (PathCond.test C.prog ⟨fn.params.toList, ds, s.plain.varTypes C.prog, gs⟩) = true →
      (DataW.weightsEach C.prog (fn.params.toList ++ s.plain.varTypes C.prog) (ds ++ gs)).all (· ≤ reachBytes) = true → X W args → W.ShapedOpen C.prog →
      a.holds C.prog (lone (Frame.enter C.prog f args .normal) [] W) →
      Calls C.prog f args W fun e W' => ∃ v, e = .returned v ∧ s.post enc C.prog fn apart fresh handsOn again W args v W') :
    ReturnsInHanded a C os f .any (fun w args => (s.pre enc C.prog fn conds apart w args ∧ X w args) ∧ sizedMet enc C.prog fn (OpenSpec.ofChange s) apart w args) (s.post enc C.prog fn apart fresh handsOn again) := by
  refine returnsInHanded_of_calls own started noInit witness ?_
  intro w tape i _ hsh _ hok hpre hholds
  obtain ⟨_, _, _, fn', hfn', _, _, _, _, hval⟩ := hok
  have e : fn' = fn := Option.some.inj (hfn'.symm.trans hfn)
  subst e
  obtain ⟨⟨⟨ds, gs, before, hw, hc⟩, hx⟩, hz⟩ := hpre
  have hw' := DataW.Whole.of_heap (w' := w.forCall tape i) (by rfl) hw
  refine (contract (w.forCall tape i) w.heap.size i.args ds gs before hval hw' hc (hz.weights hw) (hX _ _ _ (by rfl) hx) hsh hholds).mono fun e W' ⟨v, he, hp⟩ => ?_
  subst he
  exact ChangeSpec.post_blind hp
end
theorem starErr : "*" ++ "errors.errorString" = "*errors.errorString" := by decide
theorem rowErr : ∀ u, P0.typeName? 3 u = some "*errors.errorString" → u = 173 := fun u h =>
  typeName_ptr_named (nm := "errors.errorString") (by rw [starErr]; kernel_rfl) (by kernel_rfl) (by decide) u (by rw [starErr]; exact h)
theorem tab_of {W : World} {r : List (String × DataW Unit)} (h : laidMet P0 (("internal/strconv.uint64pow10", Rows.laid_internal_strconv_uint64pow10) :: r) W) : Tb W := by
  have e : (Rows.laid_internal_strconv_uint64pow10 : DataW Unit) = Lib.tabData .u64 Lib.pow10Tab := by kernel_rfl
  rw [e] at h
  exact Lib.tabIs_of_head (g := 1) (by kernel_rfl) (by kernel_rfl) (t := 145) (e := 125) (n := 20) (by kernel_rfl) (by kernel_rfl) (by kernel_rfl) (by kernel_rfl) h
theorem err_of {W : World} {n : String} {g : Nat} {text : List UInt8} {r : List (String × DataW Unit)} (hg : P0.globalNamed n = some g) (ht : (P0.globals[g]?).map (·.type) = some 58)
    (h : laidMet P0 ((n, .iface "*errors.errorString" (.ptr (.agg [.lit (.string text)]))) :: r) W) : ∃ te pe, W.cell? ⟨g, 0, none⟩ = some (.iface te pe) := by
  obtain ⟨a, s, hv, _, _, _⟩ := laid_sentinel h hg ht Tryz.underlying58 rowErr Tryz.underlying173 Tryz.underlying175 rfl rfl Tryz.underlying9 (by kernel_rfl) (by kernel_rfl)
  exact ⟨_, _, by simpa using World.var?_cell hg hv 0⟩
end Go.Proofs.YteggdoigliddkaaGreatDoor.V

/- Verification conditions, printed by this session's own program (wip/vc.py) and checked by the kernel. -/
namespace Go.Proofs.YteggdoigliddkaaGreatDoor.V
open Go Go.RowKit
set_option linter.unusedVariables false
end Go.Proofs.YteggdoigliddkaaGreatDoor.V

/- Ops and programs of the flow, as plain data. -/
namespace Go.Proofs.YteggdoigliddkaaGreatDoor.V
open Go Go.RowKit

structure Ins where
  op : Int
  dst : Int
  src : Int
  off : Int
  imm : Int
  size : Int
  deriving DecidableEq, Inhabited
def kIns : Kd Ins := ⟨List.replicate 6 (.i .i64), fun x => (x.op, x.dst, x.src, x.off, x.imm, x.size, ())⟩
@[reducible] def Ins.t (x : Ins) : Tup (List.replicate 6 (.i .i64)) := (x.op, x.dst, x.src, x.off, x.imm, x.size, ())
def Ins.cs (x : Ins) : Array Value := #[.int .i64 x.op, .int .i64 x.dst, .int .i64 x.src, .int .i64 x.off, .int .i64 x.imm, .int .i64 x.size]
theorem nwIns {x : Ins} {t : TypeId} {w : World} {K : Addr → World → Prop}
    (hk : ∀ w', Below w.heap.size w w' → w'.heap.size = w.heap.size + 1 → w'.heap[w.heap.size]? = some (.cells x.cs t (0, 0)) → K ⟨w.heap.size, 0, none⟩ w') : Nw (Tup.cells (List.replicate 6 (.i .i64)) x.t).toArray t w K := nw hk
def szP (n : Int) : Prop := n = 1 ∨ n = 2 ∨ n = 4
def BareP (x : Ins) : Prop :=
  (1 ≤ x.op ∧ x.op ≤ 11 ∧ x.off = 0 ∧ x.size = 0 ∧ (x.src < 0 ∨ x.imm = 0)) ∨ (12 ≤ x.op ∧ x.op ≤ 15 ∧ x.size = 0 ∧ (x.src < 0 ∨ x.imm = 0)) ∨
  (x.op = 16 ∧ x.dst = 0 ∧ x.src = -1 ∧ x.imm = 0 ∧ x.size = 0) ∨ (x.op = 17 ∧ 0 ≤ x.src ∧ x.imm = 0 ∧ szP x.size) ∨ (x.op = 18 ∧ (x.src < 0 ∨ x.imm = 0) ∧ szP x.size) ∨
  (x.op = 19 ∧ x.dst = 0 ∧ x.src = -1 ∧ x.off = 0 ∧ x.size = 0 ∧ 1 ≤ x.imm ∧ x.imm ≤ 6) ∨ (x.op = 20 ∧ x.dst = 0 ∧ x.src = -1 ∧ x.off = 0 ∧ x.imm = 0 ∧ x.size = 0)
def InsP (x : Ins) : Prop := (0 ≤ x.dst ∧ x.dst ≤ 10) ∧ (-1 ≤ x.src ∧ x.src ≤ 10) ∧ (-128 ≤ x.off ∧ x.off ≤ 127) ∧ (0 ≤ x.imm ∧ x.imm ≤ 4294967295) ∧ BareP x
instance (n : Int) : Decidable (szP n) := by unfold szP; infer_instance
instance (x : Ins) : Decidable (BareP x) := by unfold BareP; infer_instance
instance (x : Ins) : Decidable (InsP x) := by unfold InsP; infer_instance
def goesP (x : Ins) : Prop := 12 ≤ x.op ∧ x.op ≤ 16
instance (x : Ins) : Decidable (goesP x) := by unfold goesP; infer_instance
/-- Where an op goes on. -/
def tgt (i : Int) (x : Ins) : Int := i + 1 + x.off
def endP (l : List Ins) : Int :=
  if 48 < l.length then 3 else match l.getLast? with
    | none => 4
    | some x => if x.op ≠ 20 ∧ x.op ≠ 16 then 4 else 0
def formGo (l : List Ins) : Nat → List Ins → Int
  | _, [] => endP l
  | i, x :: xs => if ¬ InsP x then 1 else if goesP x ∧ ¬ (0 ≤ tgt i x ∧ tgt i x ≤ (l.length : Int) - 1) then 2 else formGo l (i + 1) xs
/-- Why a program cannot be. -/
def formP (l : List Ins) : Int := formGo l 0 l
theorem kof {α : Type} {K : α → World → Prop} {x y : α} {w : World} (hk : K x w) (e : x = y) : K y w := e ▸ hk
theorem dec_eq {p : Prop} [Decidable p] {b : Bool} (h : p ↔ b = true) : decide p = b := by
  cases b <;> simp_all
end Go.Proofs.YteggdoigliddkaaGreatDoor.V

/- Contracts: ops and the form of programs. -/
namespace Go.Proofs.YteggdoigliddkaaGreatDoor.V
open Go Go.RowKit
set_option linter.unusedVariables false
set_option linter.unusedSimpArgs false

section
variable {w : World} {K : Bool → World → Prop}
theorem impl.within.c {n lo hi : Int} (hk : K (decide (lo ≤ n ∧ n ≤ hi)) w) : CallT (.o (.lf .b)) P0 36 [.int .i64 n, .int .i64 lo, .int .i64 hi] w K :=
  impl.within.ok ⟨fun h => kof hk (dec_eq (by simp at h ⊢; omega)), fun h => kof hk (dec_eq (by simp at h ⊢; omega))⟩
theorem spec.l1In.c {n lo hi : Int} (hk : K (decide (lo ≤ n ∧ n ≤ hi)) w) : CallT (.o (.lf .b)) P0 48 [.int .i64 n, .int .i64 lo, .int .i64 hi] w K :=
  spec.l1In.ok ⟨fun h => kof hk (dec_eq (by simp at h ⊢; omega)), fun h => kof hk (dec_eq (by simp at h ⊢; omega))⟩
theorem impl.numOk.c {n : Int} (hk : K (decide (0 ≤ n ∧ n ≤ 4294967295)) w) : CallT (.o (.lf .b)) P0 96 [.int .i64 n] w K := impl.numOk.ok (impl.within.c hk)
theorem impl.regOk.c {n : Int} (hk : K (decide (0 ≤ n ∧ n ≤ 10)) w) : CallT (.o (.lf .b)) P0 71 [.int .i64 n] w K := impl.regOk.ok (impl.within.c hk)
theorem impl.kind.reckons.c {n : Int} (hk : K (decide (1 ≤ n ∧ n ≤ 11)) w) : CallT (.o (.lf .b)) P0 66 [.int .i64 n] w K := impl.kind.reckons.ok (impl.within.c hk)
theorem impl.kind.asks.c {n : Int} (hk : K (decide (12 ≤ n ∧ n ≤ 15)) w) : CallT (.o (.lf .b)) P0 69 [.int .i64 n] w K := impl.kind.asks.ok (impl.within.c hk)
theorem impl.kind.goes.c {n : Int} (hk : K (decide (12 ≤ n ∧ n ≤ 16)) w) : CallT (.o (.lf .b)) P0 31 [.int .i64 n] w K := impl.kind.goes.ok (impl.within.c hk)
theorem spec.l1Alu.c {n : Int} (hk : K (decide (1 ≤ n ∧ n ≤ 11)) w) : CallT (.o (.lf .b)) P0 97 [.int .i64 n] w K := spec.l1Alu.ok (spec.l1In.c hk)
theorem spec.l1Jump.c {n : Int} (hk : K (decide (12 ≤ n ∧ n ≤ 15)) w) : CallT (.o (.lf .b)) P0 46 [.int .i64 n] w K := spec.l1Jump.ok (spec.l1In.c hk)
theorem impl.sizeOk.c {n : Int} (hk : K (decide (szP n)) w) : CallT (.o (.lf .b)) P0 73 [.int .i64 n] w K := by
  refine impl.sizeOk.ok ?_
  unfold impl.sizeOk.vc
  (repeat' (first | refine And.intro (fun _ => ?_) (fun _ => ?_)))
  all_goals exact kof hk (dec_eq (by simp only [InsP, BareP, szP, decide_eq_true_eq, decide_eq_false_iff_not, beq_iff_eq, beq_eq_false_iff_ne, bne_iff_ne, bne_eq_false_iff_eq, ne_eq, Bool.not_eq_true', Bool.not_eq_false', Bool.false_eq_true, iff_true, iff_false, true_and] at *; omega))
theorem impl.Ins.either.c {x : Ins} (hk : ∀ w', Below w.heap.size w w' → K (decide ((0 ≤ x.src ∧ x.src ≤ 10 ∧ x.imm = 0) ∨ (x.src = -1 ∧ 0 ≤ x.imm ∧ x.imm ≤ 4294967295))) w') : CallT (.o (.lf .b)) P0 72 [.agg (Tup.cells (R 6 (.i .i64)) x.t).toArray] w K := by
  refine impl.Ins.either.ok (nwIns fun w1 hb hs hc => ?_)
  have hk := hk w1 hb
  (repeat' (first | refine ldB hc rfl ?_ | refine impl.regOk.c ?_ | refine impl.numOk.c ?_ | refine And.intro (fun _ => ?_) (fun _ => ?_)))
  all_goals exact kof hk (dec_eq (by simp only [InsP, BareP, szP, decide_eq_true_eq, decide_eq_false_iff_not, beq_iff_eq, beq_eq_false_iff_ne, bne_iff_ne, bne_eq_false_iff_eq, ne_eq, Bool.not_eq_true', Bool.not_eq_false', Bool.false_eq_true, iff_true, iff_false, true_and] at *; omega))

theorem eqlIns {xo yo : Operand} {a0 a1 a2 a3 a4 a5 b0 b1 b2 b3 b4 b5 : Int} {cs : Array Value} (hcs : cs = #[.int .i64 a0, .int .i64 a1, .int .i64 a2, .int .i64 a3, .int .i64 a4, .int .i64 a5])
    (hk : K (decide (a0 = b0 ∧ a1 = b1 ∧ a2 = b2 ∧ a3 = b3 ∧ a4 = b4 ∧ a5 = b5)) w) :
    RunT (.o (.lf .b)) P0 (do eqGuard .eql 39 xo yo (.agg cs) (.agg #[.int .i64 b0, .int .i64 b1, .int .i64 b2, .int .i64 b3, .int .i64 b4, .int .i64 b5]); binOp .eql 39 (.agg cs) (.agg #[.int .i64 b0, .int .i64 b1, .int .i64 b2, .int .i64 b3, .int .i64 b4, .int .i64 b5])) w K := by
  subst hcs
  refine ⟨_, w, ?_, hk⟩
  have hg := run_eqGuard_agg (P := P0) w .eql 39 xo yo #[.int .i64 a0, .int .i64 a1, .int .i64 a2, .int .i64 a3, .int .i64 a4, .int .i64 a5] #[.int .i64 b0, .int .i64 b1, .int .i64 b2, .int .i64 b3, .int .i64 b4, .int .i64 b5] (by kernel_rfl)
  have ht : P0.underlying 39 = some (.struct (P0.fieldsOf 39)) := by kernel_rfl
  have hf : (P0.fieldsOf 39).toList = [Field.mk "Op" 3 0 false "" "" 0, Field.mk "Dst" 3 1 false "" "" 8, Field.mk "Src" 3 2 false "" "" 16, Field.mk "Off" 3 3 false "" "" 24, Field.mk "Imm" 3 4 false "" "" 32, Field.mk "Size" 3 5 false "" "" 40] := by kernel_rfl
  have hi : P0.underlying 3 = some (.int .i64) := by kernel_rfl
  have hag : aggT P0 3 = some false := by kernel_rfl
  have hp : ∀ (cs : Array Value) (j : Nat) (h : j < cs.size), (part 3 cs j).run P0 w = .ok cs[j] w := fun cs j h => by simp [part, run_isAgg hag, Array.getElem?_eq_getElem h]
  simp only [Sem.run_bind, hg, Result.andThen_ok, run_eql_struct, run_equalIn_agg (P := P0) w 9999 39 _ _ ht (by kernel_rfl), hf]
  by_cases e0 : a0 = b0 <;> by_cases e1 : a1 = b1 <;> by_cases e2 : a2 = b2 <;> by_cases e3 : a3 = b3 <;> by_cases e4 : a4 = b4 <;> by_cases e5 : a5 = b5 <;>
    simp [Op.eqFields, hp, run_equalIn_int (P := P0) w 9998 3 .i64 .i64 _ _ hi, e0, e1, e2, e3, e4, e5, Rs.emb, Ty.emb, Lf.emb]
set_option maxHeartbeats 2000000 in
theorem impl.InsOk.c {x : Ins} (hk : ∀ w', Below w.heap.size w w' → K (decide (InsP x)) w') : CallT (.o (.lf .b)) P0 35 [.agg (Tup.cells (R 6 (.i .i64)) x.t).toArray] w K := by
  refine impl.InsOk.ok (nwIns fun w1 hb hs hc => ?_)
  (repeat' (first | refine ldB hc rfl ?_ | refine ldAB (x := x.t) hc rfl ?_ | refine impl.within.c ?_ | refine impl.kind.reckons.c ?_ | refine impl.kind.asks.c ?_ | refine impl.regOk.c ?_ | refine impl.sizeOk.c ?_ | refine eqlIns rfl ?_ | refine And.intro (fun _ => ?_) (fun _ => ?_) | (refine impl.Ins.either.c (x := x) fun w2 hb2 => ?_; replace hc := (hb2.block _ (by omega)).trans hc; replace hb := hb.trans (hb2.mono (by omega)))))
  all_goals
    refine kof (hk _ hb) (dec_eq ?_)
    clear hk hb hc
    grind [InsP, BareP, szP]
end
end Go.Proofs.YteggdoigliddkaaGreatDoor.V

/- Contracts: why a program cannot be. -/
namespace Go.Proofs.YteggdoigliddkaaGreatDoor.V
open Go Go.RowKit
set_option linter.unusedVariables false
set_option linter.unusedSimpArgs false

section
variable {w : World} {K : Bool → World → Prop}
set_option maxHeartbeats 1000000 in
theorem spec.l1Bare.c {x : Ins} (hk : ∀ w', Below w.heap.size w w' → K (decide (BareP x)) w') : CallT (.o (.lf .b)) P0 82 [.agg (Tup.cells (R 6 (.i .i64)) x.t).toArray] w K := by
  refine spec.l1Bare.ok (nwIns fun w1 hb hs hc => ?_)
  have hk := hk w1 hb
  (repeat' (first | refine ldB hc rfl ?_ | refine ldAB (x := x.t) hc rfl ?_ | refine spec.l1In.c ?_ | refine spec.l1Alu.c ?_ | refine spec.l1Jump.c ?_ | refine eqlIns rfl ?_ | refine And.intro (fun _ => ?_) (fun _ => ?_)))
  all_goals
    refine kof hk (dec_eq ?_)
    clear hk hb hc
    grind [BareP, szP]
theorem spec.l1InsOk.c {x : Ins} (hk : ∀ w', Below w.heap.size w w' → K (decide (InsP x)) w') : CallT (.o (.lf .b)) P0 50 [.agg (Tup.cells (R 6 (.i .i64)) x.t).toArray] w K := by
  refine spec.l1InsOk.ok (nwIns fun w1 hb hs hc => ?_)
  (repeat' (first | refine ldB hc rfl ?_ | refine ldAB (x := x.t) hc rfl ?_ | refine spec.l1In.c ?_ | refine And.intro (fun _ => ?_) (fun _ => ?_) | (refine spec.l1Bare.c (x := x) fun w2 hb2 => ?_; replace hc := (hb2.block _ (by omega)).trans hc; replace hb := hb.trans (hb2.mono (by omega)))))
  all_goals
    refine kof (hk _ hb) (dec_eq ?_)
    clear hk hb hc
    grind [InsP]
end
theorem getElem?_drop_cons {α : Type} {l : List α} {k : Nat} {x : α} (h : l[k]? = some x) : l.drop k = x :: l.drop (k + 1) := by
  have hk : k < l.length := by
    rcases Nat.lt_or_ge k l.length with h1 | h1
    · exact h1
    · simp [List.getElem?_eq_none h1] at h
  rw [List.drop_eq_getElem_cons hk]
  rw [List.getElem?_eq_getElem hk] at h
  simp only [Option.some.injEq] at h
  rw [h]
theorem get_some {α : Type} {l : List α} {k : Nat} (h : k < l.length) : ∃ x, l[k]? = some x := ⟨l[k], List.getElem?_eq_getElem h⟩
theorem last_get {l : List Ins} {x : Ins} (h : l[l.length - 1]? = some x) : l.getLast? = some x := by rw [List.getLast?_eq_getElem?]; exact h
theorem i64_of {n : Int} (h0 : -9223372036854775808 ≤ n) (h1 : n ≤ 9223372036854775807) : IntKind.wrap .i64 n = n := i64_in h0 h1
section
variable {w : World} {s : Sl} {l : List Ins}
theorem impl.target.c {i : Int} {x : Ins} {K : Int → World → Prop} (h : SlR kIns w s l) (h0 : 0 ≤ i) (hx : l[i.toNat]? = some x) (hl : l.length ≤ 1048576) (ho : -128 ≤ x.off ∧ x.off ≤ 127) (hk : K (tgt i x) w) :
    CallT (.o (.lf (.i .i64))) P0 32 [s.v, .int .i64 i] w K := by
  refine impl.target.ok (ixF h h0 hx rfl (v := x.off) rfl ?_)
  have hi : i.toNat < l.length := by
    rcases Nat.lt_or_ge i.toNat l.length with h1 | h1
    · exact h1
    · simp [List.getElem?_eq_none h1] at hx
  simp (disch := omega) only [i64_of]
  exact hk
theorem endP_many (h : 48 < l.length) : endP l = 3 := by unfold endP; rw [if_pos h]
theorem endP_nil (h : l = []) : endP l = 4 := by subst h; rfl
theorem endP_last {x : Ins} (h : ¬ 48 < l.length) (hx : l[l.length - 1]? = some x) : endP l = if x.op ≠ 20 ∧ x.op ≠ 16 then 4 else 0 := by
  unfold endP; rw [if_neg h, last_get hx]
theorem spec.l1Form.c {K : Int → World → Prop} (h : SlR kIns w s l) (hl : l.length ≤ 1048576) (hk : ∀ w', Below w.heap.size w w' → K (formP l) w') :
    CallT (.o (.lf (.i .i64))) P0 19 [s.v] w K := by
  have hn := h.len
  refine spec.l1Form.ok ⟨fun i w' => ∃ k : Nat, i = k ∧ k ≤ l.length ∧ formGo l k (l.drop k) = formP l ∧ Below w.heap.size w w', fun i _ => l.length - i.toNat, ⟨0, rfl, by omega, rfl, Below.refl _ _⟩, ?_⟩
  rintro i w1 ⟨k, rfl, hkl, hf, hb⟩ _
  have h1 := h.below hb
  refine And.intro (fun hlt => ?_) (fun hge => ?_)
  · simp only [decide_eq_true_eq] at hlt
    obtain ⟨x, hx⟩ := get_some (l := l) (k := k) (by omega)
    rw [getElem?_drop_cons hx] at hf
    refine ixA h1 (by omega) (x := x) (by simpa using hx) rfl ?_
    refine spec.l1InsOk.c (x := x) fun w2 hb2 => ?_
    have h2 := h1.below hb2
    have hbb := hb.trans (hb2.mono hb.size)
    refine And.intro (fun hq => ?_) (fun hq => ?_)
    · simp at hq
      exact kof (hk _ hbb) (by rw [← hf]; simp [formGo, hq])
    · simp at hq
      have ho := hq.2.2.1
      refine ⟨fun b w3 => b = decide (goesP x) ∧ w3 = w2, ?_, ?_⟩
      · refine ixF h2 (by omega) (x := x) (by simpa using hx) rfl (v := x.op) rfl ?_
        refine spec.l1Jump.c ?_
        refine And.intro (fun hj => ?_) (fun hj => ?_)
        · exact ⟨by clear hk h1 h2 hbb hb hb2; grind [goesP], rfl⟩
        · refine ixF h2 (by omega) (x := x) (by simpa using hx) rfl (v := x.op) rfl ?_
          exact ⟨by clear hk h1 h2 hbb hb hb2; grind [goesP], rfl⟩
      · rintro b w3 ⟨rfl, rfl⟩ _
        refine And.intro (fun hg => ?_) (fun hg => ?_)
        · simp only [decide_eq_true_eq] at hg
          refine ixF h2 (by omega) (x := x) (by simpa using hx) rfl (v := x.off) rfl ?_
          simp (disch := omega) only [i64_of]
          refine spec.l1In.c ?_
          refine And.intro (fun ht => ?_) (fun ht => ?_)
          · simp only [Bool.not_eq_true', decide_eq_false_iff_not] at ht
            exact kof (hk _ hbb) (by rw [← hf]; simp only [formGo, hq, hg, tgt]; rw [if_neg (by simp), if_pos ⟨trivial, by omega⟩])
          · simp only [Bool.not_eq_false', decide_eq_true_eq] at ht
            refine ⟨⟨k + 1, by omega, by omega, ?_, hbb⟩, by omega⟩
            rw [← hf]; simp only [formGo, hq, hg, tgt]; rw [if_neg (by simp), if_neg (by omega)]
        · simp only [decide_eq_false_iff_not] at hg
          simp (disch := omega) only [i64_of]
          refine ⟨⟨k + 1, by omega, by omega, ?_, hbb⟩, by omega⟩
          rw [← hf]; simp only [formGo, hq, hg]; rw [if_neg (by simp), if_neg (by simp)]
  · simp only [decide_eq_false_iff_not] at hge
    have hkl' : k = l.length := by omega
    rw [hkl', List.drop_length] at hf
    simp only [formGo] at hf
    refine And.intro (fun hm => ?_) (fun hm => ?_)
    · simp only [decide_eq_true_eq] at hm
      exact kof (hk _ hb) (by rw [← hf, endP_many (by omega)])
    · simp only [decide_eq_false_iff_not] at hm
      refine And.intro (fun hz => ?_) (fun hz => ?_)
      · simp only [beq_iff_eq] at hz
        exact kof (hk _ hb) (by rw [← hf, endP_nil (List.eq_nil_of_length_eq_zero (by omega))])
      · simp only [beq_eq_false_iff_ne, ne_eq] at hz
        obtain ⟨x, hx⟩ := get_some (l := l) (k := l.length - 1) (by omega)
        have he := endP_last (l := l) (by omega) hx
        simp (disch := omega) only [i64_of]
        have hx' : l[((s.n : Int) - 1).toNat]? = some x := by rw [show ((s.n : Int) - 1).toNat = l.length - 1 by omega]; exact hx
        refine ixF h1 (by omega) hx' rfl (v := x.op) rfl ?_
        refine And.intro (fun h20 => ?_) (fun h20 => ?_)
        · refine ixF h1 (by omega) hx' rfl (v := x.op) rfl ?_
          refine And.intro (fun h16 => ?_) (fun h16 => ?_)
          · exact kof (hk _ hb) (by rw [← hf, he]; simp at h20 h16; simp [h20, h16])
          · exact kof (hk _ hb) (by rw [← hf, he]; simp at h20 h16; simp [h16])
        · exact kof (hk _ hb) (by rw [← hf, he]; simp at h20; simp [h20])
theorem zIns : (zc P0 39).toList.length = 6 := by kernel_rfl
/-- An op is copied into a variable of its own. -/
theorem nwStIns {x : Ins} {P : Program} {w : World} {K : Addr → World → Prop}
    (hk : ∀ w', Below w.heap.size w w' → w'.heap.size = w.heap.size + 1 → w'.heap[w.heap.size]? = some (.cells x.cs 39 (0, 0)) → K ⟨w.heap.size, 0, none⟩ w') :
    Nw (zc P0 39) 39 w (fun a w' => StA P a (Tup.cells (R 6 (.i .i64)) x.t) w' (K a)) :=
  nwSt (cs := Tup.cells (R 6 (.i .i64)) x.t) zIns (oneCell_cells kIns (by intro l hl; simp [kIns] at hl; simp [hl]) x) hk rfl
theorem impl.ProgForm.c {K : Int → World → Prop} (h : SlR kIns w s l) (hl : l.length ≤ 1048576) (hk : ∀ w', Below w.heap.size w w' → K (formP l) w') :
    CallT (.o (.lf (.i .i64))) P0 14 [s.v] w K := by
  have hn := h.len
  refine impl.ProgForm.ok ⟨fun i w' => ∃ k : Nat, i = k ∧ k ≤ l.length ∧ formGo l k (l.drop k) = formP l ∧ Below w.heap.size w w', fun i _ => l.length - i.toNat, ⟨0, rfl, by omega, rfl, Below.refl _ _⟩, ?_⟩
  rintro i w1 ⟨k, rfl, hkl, hf, hb⟩ _
  have h1 := h.below hb
  refine And.intro (fun hlt => ?_) (fun hge => ?_)
  · simp only [decide_eq_true_eq] at hlt
    obtain ⟨x, hx⟩ := get_some (l := l) (k := k) (by omega)
    rw [getElem?_drop_cons hx] at hf
    refine ixA h1 (by omega) (x := x) (by simpa using hx) rfl ?_
    refine nwStIns (x := x) fun w2 hb2 hs2 hc2 => ?_
    refine ldAB (x := x.t) hc2 rfl ?_
    refine impl.InsOk.c (x := x) fun w3 hb3 => ?_
    have hc3 := (hb3.block _ (by omega)).trans hc2
    have hb13 := hb2.trans (hb3.mono (by omega))
    have h3 := h1.below hb13
    have hbb := hb.trans (hb13.mono hb.size)
    refine And.intro (fun hq => ?_) (fun hq => ?_)
    · simp at hq
      exact kof (hk _ hbb) (by rw [← hf]; simp [formGo, hq])
    · simp at hq
      have ho := hq.2.2.1
      refine ldB hc3 (x := x.op) rfl ?_
      refine impl.kind.goes.c ?_
      refine And.intro (fun hg => ?_) (fun hg => ?_)
      · simp only [decide_eq_true_eq] at hg
        refine impl.target.c h3 (by omega) (x := x) (by simpa using hx) hl ho ?_
        simp (disch := omega) only [i64_of]
        refine impl.within.c ?_
        refine And.intro (fun ht => ?_) (fun ht => ?_)
        · simp only [Bool.not_eq_true', decide_eq_false_iff_not] at ht
          exact kof (hk _ hbb) (by rw [← hf]; simp only [formGo, hq]; rw [if_neg (by simp), if_pos ⟨hg, by omega⟩])
        · simp only [Bool.not_eq_false', decide_eq_true_eq] at ht
          refine ⟨⟨k + 1, by omega, by omega, ?_, hbb⟩, by omega⟩
          rw [← hf]; simp only [formGo, hq]; rw [if_neg (by simp), if_neg (by omega)]
      · simp only [decide_eq_false_iff_not] at hg
        simp (disch := omega) only [i64_of]
        refine ⟨⟨k + 1, by omega, by omega, ?_, hbb⟩, by omega⟩
        rw [← hf]; simp only [formGo, hq]; rw [if_neg (by simp), if_neg (fun hh => hg hh.1)]
  · simp only [decide_eq_false_iff_not] at hge
    have hkl' : k = l.length := by omega
    rw [hkl', List.drop_length] at hf
    simp only [formGo] at hf
    refine And.intro (fun hm => ?_) (fun hm => ?_)
    · simp only [decide_eq_true_eq] at hm
      exact kof (hk _ hb) (by rw [← hf, endP_many (by omega)])
    · simp only [decide_eq_false_iff_not] at hm
      refine And.intro (fun hz => ?_) (fun hz => ?_)
      · refine And.intro (fun _ => ?_) (fun hz' => ?_)
        · simp only [beq_iff_eq] at hz
          exact kof (hk _ hb) (by rw [← hf, endP_nil (List.eq_nil_of_length_eq_zero (by omega))])
        · rw [hz] at hz'; simp at hz'
      · simp only [beq_eq_false_iff_ne, ne_eq] at hz
        obtain ⟨x, hx⟩ := get_some (l := l) (k := l.length - 1) (by omega)
        have he := endP_last (l := l) (by omega) hx
        simp (disch := omega) only [i64_of]
        have hx' : l[((s.n : Int) - 1).toNat]? = some x := by rw [show ((s.n : Int) - 1).toNat = l.length - 1 by omega]; exact hx
        refine ixF h1 (by omega) hx' rfl (v := x.op) rfl ?_
        refine And.intro (fun h20 => ?_) (fun h20 => ?_)
        · refine ixF h1 (by omega) hx' rfl (v := x.op) rfl ?_
          refine And.intro (fun h16 => ?_) (fun h16 => ?_)
          · exact kof (hk _ hb) (by rw [← hf, he]; simp at h20 h16; simp [h20, h16])
          · exact kof (hk _ hb) (by rw [← hf, he]; simp at h20 h16; simp [h16])
        · exact kof (hk _ hb) (by rw [← hf, he]; simp at h20; simp [h20])
end
end Go.Proofs.YteggdoigliddkaaGreatDoor.V

/- Writes into new memory: make, an element, a field. -/
namespace Go.Proofs.YteggdoigliddkaaGreatDoor.V
open Go Go.RowKit Go.Sort
set_option linter.unusedSimpArgs false
set_option linter.unusedVariables false

theorem lt_of_get {α : Type} {l : List α} {i : Nat} {x : α} (h : l[i]? = some x) : i < l.length := (List.getElem?_eq_some_iff.1 h).1
theorem idx_apart {i i' n j : Nat} (h : i' < i) (hj : j < n) : i' * n + j < i * n := by
  have : (i' + 1) * n ≤ i * n := Nat.mul_le_mul_right n h
  rw [Nat.succ_mul] at this; omega
/-- storeCells anywhere in a block. -/
theorem run_storeCells_in (P : Program) {b : Nat} {t : TypeId} (o : Nat) : ∀ (vs : List Value) (i : Nat) (cur : Array Value) (w : World), (∀ v ∈ vs, v.oneCell' = true) → o + i + vs.length ≤ cur.size →
    w.heap[b]? = some (.cells cur t (0, 0)) → ∃ w' cur', (storeCells ⟨b, o, none⟩ vs i).run P w = .ok () w' ∧ w.grownBy w' (some b) ∧ w'.heap.size = w.heap.size ∧ w'.heap[b]? = some (.cells cur' t (0, 0)) ∧
      (∀ j v, vs[j]? = some v → cur'[o + i + j]? = some v) ∧ (∀ p, (p < o + i ∨ o + i + vs.length ≤ p) → cur'[p]? = cur[p]?)
  | [], i, cur, w, _, _, h => ⟨w, cur, by simp [storeCells], ⟨rfl, rfl, rfl, Nat.le_refl _, fun _ _ _ => rfl⟩, rfl, h, by simp, fun _ _ => rfl⟩
  | v :: vs, i, cur, w, h1, hs, h => by
    have hv := h1 v List.mem_cons_self
    simp only [List.length_cons] at hs
    have hi : o + i < cur.size := by omega
    have hc : w.cell? ⟨b, o + i, none⟩ = some cur[o + i] := by rw [cell_of h]; simp [hi]
    have hfz : w.frozen? ⟨b, o + i, none⟩ = false := by simp [World.frozen?, h]
    have hst : (store ⟨b, o + i, none⟩ v).run P w = .ok () (w.setCell ⟨b, o + i, none⟩ v) := by simp [run_store P w _ v .plain hv, hc, hfz]
    obtain ⟨w', cur', hr, hg, hsz, hh, hin, hout⟩ := run_storeCells_in P o vs (i + 1) (cur.setIfInBounds (o + i) v) (w.setCell ⟨b, o + i, none⟩ v) (fun u hu => h1 u (List.mem_cons_of_mem _ hu)) (by simp; omega) (setCell_heap h v)
    have g0 := grown_setCell w b (o + i) v
    refine ⟨w', cur', ?_, ⟨hg.os.trans g0.os, hg.tape.trans g0.tape, hg.output.trans g0.output, Nat.le_trans g0.size hg.size, fun k hk hne => (hg.block k (by simpa using hk) hne).trans (g0.block k hk hne)⟩, by rw [hsz]; simp, hh, ?_, ?_⟩
    · simp only [storeCells, Sem.run_bind, add_mk, hst, Result.andThen_ok, hr]
    · intro j u hj
      cases j with
      | zero =>
        simp only [List.getElem?_cons_zero, Option.some.injEq] at hj
        subst hj
        rw [Nat.add_zero, hout _ (.inl (by omega)), Array.getElem?_setIfInBounds_self_of_lt hi]
      | succ j =>
        have := hin j u (by simpa using hj)
        rw [show o + i + (j + 1) = o + (i + 1) + j by omega]; exact this
    · intro p hp
      simp only [List.length_cons] at hp
      rw [hout p (by omega), Array.getElem?_setIfInBounds_ne (by omega)]
section
variable {α : Type} {k : Kd α} {t : TypeId} {B : Nat} {w : World} {s : Sl} {xs : List α} {i : Int} {sz : Nat}
theorem upd {cur cur' : Array Value} {o i : Nat} {y : α} (h : ∀ i x, xs[i]? = some x → ∀ j v, (k.cells x)[j]? = some v → cur[o + i * k.ls.length + j]? = some v)
    (hin : ∀ j v, (k.cells y)[j]? = some v → cur'[o + i * k.ls.length + j]? = some v) (hout : ∀ p, (p < o + i * k.ls.length ∨ o + i * k.ls.length + k.ls.length ≤ p) → cur'[p]? = cur[p]?) :
    ∀ i' x, (xs.set i y)[i']? = some x → ∀ j v, (k.cells x)[j]? = some v → cur'[o + i' * k.ls.length + j]? = some v := by
  intro i' x hx j v hj
  have hjl := lt_of_get hj
  rw [k.cells_length] at hjl
  rcases Nat.lt_trichotomy i' i with hlt | rfl | hlt
  · rw [List.getElem?_set_ne (by omega)] at hx
    have := idx_apart hlt hjl
    rw [hout _ (.inl (by omega))]
    exact h _ _ hx _ _ hj
  · have hl := lt_of_get hx
    rw [List.getElem?_set_self (by simpa using hl)] at hx
    simp only [Option.some.injEq] at hx
    subst hx
    exact hin _ _ hj
  · rw [List.getElem?_set_ne (by omega)] at hx
    have : (i + 1) * k.ls.length ≤ i' * k.ls.length := Nat.mul_le_mul_right _ hlt
    rw [Nat.succ_mul] at this
    rw [hout _ (.inr (by omega))]
    exact h _ _ hx _ _ hj
theorem WrS.at (h : WrS k t B w s xs) {i : Nat} {x : α} (hx : xs[i]? = some x) (hp : 0 < k.ls.length) : ∃ b o cur, s.a = some ⟨b, o, none⟩ ∧ B ≤ b ∧ w.heap[b]? = some (.cells cur t (0, 0)) ∧
    (∀ i x, xs[i]? = some x → ∀ j v, (k.cells x)[j]? = some v → cur[o + i * k.ls.length + j]? = some v) ∧ o + i * k.ls.length + k.ls.length ≤ cur.size := by
  rcases h.2.2.2 with h0 | ⟨b, o, cur, ha, hB, hg, hc⟩
  · rw [h0.2] at hx; simp at hx
  · refine ⟨b, o, cur, ha, hB, hg, hc, ?_⟩
    have hl := k.cells_length x
    have hj : (k.cells x)[k.ls.length - 1]? = some ((k.cells x)[k.ls.length - 1]'(by omega)) := List.getElem?_eq_getElem _
    have := (Array.getElem?_eq_some_iff.1 (hc i x hx _ _ hj)).1
    omega
/-- Write an element. -/
theorem ixStA {P : Program} (h : WrS k t B w s xs) (hi : 0 ≤ i) {x : α} (hx : xs[i.toNat]? = some x) (hsz : sz = k.ls.length) (hp : 0 < k.ls.length) (h1 : ∀ l ∈ k.ls, l ≠ .any) (y : α) {vs : List Value} (hvs : vs = k.cells y) {K : World → Prop}
    (hK : ∀ w', WrS k t B w' s (xs.set i.toNat y) → w.grownBy w' s.bk → w'.heap.size = w.heap.size → K w') : Ix s.a s.n i sz w (fun a w1 => StA P a vs w1 K) := by
  obtain ⟨b, o, cur, ha, hB, hg, hc, hcs⟩ := h.at hx hp
  have hl := lt_of_get hx
  subst hsz hvs
  obtain ⟨w', cur', hr, hgr, hss, hh, hin, hout⟩ := run_storeCells_in P (o + i.toNat * k.ls.length) (k.cells y) 0 cur w (oneCell_cells k h1 y) (by rw [k.cells_length]; omega) hg
  refine ⟨_, ha, hi, by rw [h.1]; omega, w', by rw [add_mk]; exact hr, hK w' ⟨by simpa using h.1, h.2.1, h.2.2.1, .inr ⟨b, o, cur', ha, hB, hh, upd hc hin (fun p hp => hout p (by rw [k.cells_length]; exact hp))⟩⟩ (by simpa [Sl.bk, ha] using hgr) hss⟩
/-- Write a field of an element. -/
theorem ixStF (h : WrS k t B w s xs) (hi : 0 ≤ i) {x : α} (hx : xs[i.toNat]? = some x) (hsz : sz = k.ls.length) {j : Nat} (hj : j < k.ls.length) {v : Value} (hv : v.oneCell' = true) (y : α) (hy : k.cells y = (k.cells x).set j v) {K : World → Prop}
    (hK : ∀ w', WrS k t B w' s (xs.set i.toNat y) → w.grownBy w' s.bk → w'.heap.size = w.heap.size → K w') : Ix s.a s.n i sz w (fun a w1 => St (Addr.add a j) v w1 K) := by
  obtain ⟨b, o, cur, ha, hB, hg, hc, hcs⟩ := h.at hx (by omega)
  have hl := lt_of_get hx
  subst hsz
  refine ⟨_, ha, hi, by rw [h.1]; omega, hv, ⟨cur[o + i.toNat * k.ls.length + j]'(by omega), ?_⟩, ?_, ?_⟩
  · rw [add_mk, add_mk, cell_of hg]; exact Array.getElem?_eq_getElem _
  · simp [add_mk, World.frozen?, hg]
  · rw [add_mk, add_mk]
    refine hK _ ⟨by simpa using h.1, h.2.1, h.2.2.1, .inr ⟨b, o, _, ha, hB, setCell_heap hg v, upd hc ?_ ?_⟩⟩ (by simpa [Sl.bk, ha] using grown_setCell w b _ v) (by simp)
    · intro j' u hu
      rw [hy] at hu
      by_cases he : j' = j
      · subst he
        rw [List.getElem?_set_self (by rw [k.cells_length]; exact hj)] at hu
        rw [Array.getElem?_setIfInBounds_self_of_lt (by omega)]; exact hu
      · rw [List.getElem?_set_ne (by omega)] at hu
        rw [Array.getElem?_setIfInBounds_ne (by omega)]
        exact hc _ _ hx _ _ hu
    · intro p hp
      exact Array.getElem?_setIfInBounds_ne (by omega)
theorem ixStL (h : WrS k t B w s xs) (hi : 0 ≤ i) {x : α} (hx : xs[i.toNat]? = some x) (hsz : sz = k.ls.length) (hl : k.ls.length = 1) {v : Value} (hv : v.oneCell' = true) (y : α) (hy : k.cells y = [v]) {K : World → Prop}
    (hK : ∀ w', WrS k t B w' s (xs.set i.toNat y) → w.grownBy w' s.bk → w'.heap.size = w.heap.size → K w') : Ix s.a s.n i sz w (fun a w1 => St a v w1 K) := by
  have := ixStF (j := 0) h hi hx hsz (by omega) hv y (by
    have := k.cells_length x
    match hh : k.cells x, this with
    | [u], _ => simp [hy]
    | [], h => simp [hl] at h
    | _ :: _ :: _, h => simp [hl] at h) hK
  simpa [Addr.add] using this
/-- An element type, for make. -/
structure Mk (P : Program) (tS t : TypeId) (k : Kd α) (bytes : Nat) (z0 : α) : Prop where
  elem : P.underlying tS = some (.slice t)
  info : ∃ i z, P.info? t = some i ∧ i.zero = some z ∧ i.size = k.ls.length ∧ i.bytes = bytes ∧ z.cells.toList = k.cells z0
theorem mkS {P : Program} {tS : TypeId} {bytes : Nat} {z0 : α} (hM : Mk P tS t k bytes z0) {n : Nat} (hb : n * bytes ≤ 281474976710656) (hm : n ≤ maxLen) {K : Sl → World → Prop}
    (hK : ∀ s w', Below w.heap.size w w' → WrS k t w.heap.size w' s (List.replicate n z0) → K s w') :
    RunT (.o (.lf .sl)) P (Instr.makeSlice tS (.int .i64 (n : Int)) (.int .i64 (n : Int))) w K := by
  obtain ⟨i, z, hi, hz, hsz, hbs, hzc⟩ := hM.info
  have hm' : (n : Int) ≤ 9223372036854775807 := by simp only [maxLen] at hm; omega
  have hbb : (i.bytes : Int) * (n : Int) ≤ 281474976710656 := by
    have h : ((n * bytes : Nat) : Int) ≤ 281474976710656 := by omega
    rw [Int.natCast_mul] at h
    rw [hbs, Int.mul_comm]; exact h
  have hr := run_make (P := P) w tS t i z hM.elem hi hz .i64 .i64 n n (by omega) (Int.le_refl _) hbb hm'
  refine ⟨⟨some ⟨w.heap.size, 0, none⟩, n, n⟩, _, hr, hK _ _ ((Below.refl _ _).alloc (Nat.le_refl _) _) ⟨by rw [List.length_replicate], Nat.le_refl _, hm, .inr ⟨w.heap.size, 0, _, rfl, Nat.le_refl _, heap_alloc_new w _, ?_⟩⟩⟩
  intro i' x hx j v hj
  have hjl := lt_of_get hj
  rw [k.cells_length] at hjl
  have hil := lt_of_get hx
  simp only [List.length_replicate] at hil
  rw [List.getElem?_replicate_of_lt hil] at hx
  simp only [Option.some.injEq] at hx
  subst hx
  have hlt : i' * k.ls.length + j < n * k.ls.length := idx_apart hil hjl
  have hzs : z.cells.size = k.ls.length := by rw [← Array.length_toList, hzc, k.cells_length]
  have hmod : (i' * k.ls.length + j) % k.ls.length = j := by rw [Nat.add_comm, Nat.add_mul_mod_self_right, Nat.mod_eq_of_lt hjl]
  simp only [madeCells, Nat.zero_add, Int.toNat_natCast, hsz, hzs]
  rw [Array.getElem?_map, Array.getElem?_range, if_pos hlt]
  simp only [Option.map_some, hmod]
  rw [getElem!_pos z.cells j (by omega)]
  rw [← hzc, Array.getElem?_toList, Array.getElem?_eq_getElem (by omega)] at hj
  exact hj
theorem set_next {l zs : List α} {n : Nat} {x : α} (hx : l[n]? = some x) (hz : zs.length = l.length - n) : (l.take n ++ zs).set n x = l.take (n + 1) ++ zs.tail := by
  have hl := lt_of_get hx
  match zs, hz with
  | [], hz => simp at hz; omega
  | z :: zs, _ =>
    rw [List.set_append_right _ _ (by simp; omega)]
    simp only [List.length_take, Nat.min_eq_left (Nat.le_of_lt hl), Nat.sub_self, List.set_cons_zero, List.tail_cons]
    rw [List.take_add_one, hx]
    simp
theorem grown_refl (w : World) (row : Option Nat) : w.grownBy w row := ⟨rfl, rfl, rfl, Nat.le_refl _, fun _ _ _ => rfl⟩
theorem grown_trans {w w1 w2 : World} {row : Option Nat} (h : w.grownBy w1 row) (h2 : w1.grownBy w2 row) : w.grownBy w2 row :=
  ⟨h2.os.trans h.os, h2.tape.trans h.tape, h2.output.trans h.output, Nat.le_trans h.size h2.size, fun k hk hne => (h2.block k (Nat.lt_of_lt_of_le hk h.size) hne).trans (h.block k hk hne)⟩
end
end Go.Proofs.YteggdoigliddkaaGreatDoor.V

/- Contracts: the laws' own helpers (sizes, copies, comparisons, marks). -/
namespace Go.Proofs.YteggdoigliddkaaGreatDoor.V
open Go Go.RowKit
set_option linter.unusedVariables false
set_option linter.unusedSimpArgs false
theorem bk_ge {t : TypeId} {B : Nat} {α : Type} {k : Kd α} {w : World} {s : Sl} {xs : List α} (h : WrS k t B w s xs) : ∀ b, s.bk = some b → B ≤ b := fun b hb => (h.blk hb).1
theorem elI1 : Mk P0 34 3 kI 8 0 := ⟨by kernel_rfl, ⟨_, _, Option.eq_some_of_isSome (by kernel_rfl), Option.eq_some_of_isSome (by kernel_rfl), by kernel_rfl, by kernel_rfl, by kernel_rfl⟩⟩
theorem mkIns : Mk P0 22 39 kIns 48 ⟨0, 0, 0, 0, 0, 0⟩ := ⟨by kernel_rfl, ⟨_, _, Option.eq_some_of_isSome (by kernel_rfl), Option.eq_some_of_isSome (by kernel_rfl), by kernel_rfl, by kernel_rfl, by kernel_rfl⟩⟩
theorem noAny6 : ∀ l ∈ kIns.ls, l ≠ Lf.any := by intro l hl; simp [kIns, List.mem_replicate] at hl; simp [hl]
theorem kIns6 : kIns.ls.length = 6 := rfl
def marks (k : Int) (n : Nat) : List Int := (List.range n).map fun (i : Nat) => k + (i : Int)
theorem marks_get (k : Int) {n i : Nat} (h : i < n) : (marks k n)[i]? = some (k + (i : Int)) := by simp [marks, h]
theorem marks_length (k : Int) (n : Nat) : (marks k n).length = n := by simp [marks]
theorem marks_succ (k : Int) (n : Nat) : marks k (n + 1) = marks k n ++ [k + (n : Int)] := by simp [marks, List.range_succ]
section
variable {w : World} {s : Sl} {l : List Ins}
set_option maxHeartbeats 1000000 in
theorem laws.eqIns.c {x y : Ins} {K : Bool → World → Prop} (hk : ∀ w', Below w.heap.size w w' → K (decide (x = y)) w') : CallT (.o (.lf .b)) P0 24 [.agg (Tup.cells (R 6 (.i .i64)) x.t).toArray, .agg (Tup.cells (R 6 (.i .i64)) y.t).toArray] w K := by
  refine laws.eqIns.ok (nwIns fun w1 hb1 hs1 hc1 => nwIns fun w2 hb2 hs2 hc2 => ?_)
  have hc1 := (hb2.block _ (by omega)).trans hc1
  have hk := hk w2 (hb1.trans (hb2.mono hb1.size))
  rcases x with ⟨x0, x1, x2, x3, x4, x5⟩
  rcases y with ⟨y0, y1, y2, y3, y4, y5⟩
  refine ldB hc1 (x := x0) rfl (ldB hc2 (x := y0) rfl ?_)
  refine And.intro (fun h => kof hk (by simp at h; simp [h])) (fun h0 => ?_)
  refine ldB hc1 (x := x1) rfl (ldB hc2 (x := y1) rfl ?_)
  refine And.intro (fun h => kof hk (by simp at h; simp [h])) (fun h1 => ?_)
  refine ldB hc1 (x := x2) rfl (ldB hc2 (x := y2) rfl ?_)
  refine And.intro (fun h => kof hk (by simp at h; simp [h])) (fun h2 => ?_)
  refine ldB hc1 (x := x3) rfl (ldB hc2 (x := y3) rfl ?_)
  refine And.intro (fun h => kof hk (by simp at h; simp [h])) (fun h3 => ?_)
  refine ldB hc1 (x := x4) rfl (ldB hc2 (x := y4) rfl ?_)
  refine And.intro (fun h => kof hk (by simp at h; simp [h])) (fun h4 => ?_)
  refine ldB hc1 (x := x5) rfl (ldB hc2 (x := y5) rfl ?_)
  refine And.intro (fun h => kof hk (by simp at h; simp [h])) (fun h5 => kof hk (by simp at h0 h1 h2 h3 h4 h5; simp [h0, h1, h2, h3, h4, h5]))
end
theorem bne_len {a b : Nat} : (((a : Nat) : Int) != (b : Int)) = true ↔ a ≠ b := by simp; omega
theorem take_ext {α : Type} {xs ys : List α} (hl : xs.length = ys.length) (h : ∀ (i : Nat) x, xs[i]? = some x → ys[i]? = some x) : xs = ys := by
  refine List.ext_getElem? fun i => ?_
  rcases Nat.lt_or_ge i xs.length with hi | hi
  · rw [List.getElem?_eq_getElem hi, h i _ (List.getElem?_eq_getElem hi)]
  · rw [List.getElem?_eq_none hi, List.getElem?_eq_none (by omega)]
section
variable {w : World} {a b : Sl} {xs ys : List Int}
end
section
variable {w : World} {a b : Sl} {xs ys : List Ins}
theorem laws.eqInsS.c {K : Bool → World → Prop} (ha : SlR kIns w a xs) (hb : SlR kIns w b ys) (hk : ∀ w', Below w.heap.size w w' → K (decide (xs = ys)) w') : CallT (.o (.lf .b)) P0 8 [a.v, b.v] w K := by
  have hna := ha.len; have hnb := hb.len; have hm := ha.max
  refine laws.eqInsS.ok ?_
  unfold laws.eqInsS.vc
  refine And.intro (fun h => kof (hk _ (Below.refl _ _)) ?_) (fun h => ?_)
  · rw [bne_len] at h
    simp only [decide_eq_false_iff_not]; rintro rfl; omega
  · have hle : xs.length = ys.length := by simp at h; omega
    refine ⟨fun i w' => ∃ n : Nat, i = n ∧ n ≤ xs.length ∧ (∀ j < n, xs[j]? = ys[j]?) ∧ Below w.heap.size w w', fun i _ => xs.length - i.toNat, ⟨0, rfl, by omega, by simp, Below.refl _ _⟩, ?_⟩
    rintro i w1 ⟨n, rfl, hn, hE, hb1⟩ _
    refine And.intro (fun hlt => ?_) (fun hge => ?_)
    · simp only [decide_eq_true_eq] at hlt
      obtain ⟨x, hx⟩ := get_some (l := xs) (k := n) (by omega)
      obtain ⟨y, hy⟩ := get_some (l := ys) (k := n) (by omega)
      refine qixA (ha.below hb1) (i := n) (by omega) (x := x) (by simpa using hx) rfl ?_
      refine qixA (hb.below hb1) (i := n) (by omega) (x := y) (by simpa using hy) rfl ?_
      refine qcl (decide (x = y)) (fun w2 hb2 => laws.eqIns.c fun w3 hb3 => ⟨rfl, hb2.trans (hb3.mono hb2.size)⟩) ?_
      intro w2 hb2
      have hbb := hb1.trans (hb2.mono hb1.size)
      refine And.intro (fun hne => kof (hk _ hbb) ?_) (fun he => ?_)
      · simp at hne
        simp only [decide_eq_false_iff_not]; rintro rfl; rw [hx] at hy; simp at hy; exact hne hy
      · simp at he
        simp (disch := omega) only [i64_of]
        refine ⟨⟨n + 1, by omega, by omega, fun j hj => ?_, hbb⟩, by omega⟩
        rcases Nat.lt_or_ge j n with h1 | h1
        · exact hE j h1
        · obtain rfl : j = n := by omega
          rw [hx, hy, he]
    · simp only [decide_eq_false_iff_not] at hge
      refine kof (hk _ hb1) ?_
      simp only [decide_eq_true_eq]
      exact take_ext hle fun j x hx => by rw [← hE j (by have := lt_of_get hx; omega)]; exact hx
theorem laws.markInsS.c {t : TypeId} {B : Nat} {k : Int} {K : Int → World → Prop} (ha : WrS kIns t B w a xs) (hk0 : 0 ≤ k ∧ k ≤ 1099511627776) (hl : xs.length ≤ 1099511627776)
    (hk : ∀ w', w.grownBy w' a.bk → K (k + 6 * xs.length) w') : CallT (.o (.lf (.i .i64))) P0 9 [a.v, .int .i64 k] w K := by
  have hna := ha.len
  refine laws.markInsS.ok ⟨fun k' i w' => ∃ (n : Nat) (zs : List Ins), i = n ∧ k' = k + 6 * n ∧ n ≤ xs.length ∧ zs.length = xs.length ∧ WrS kIns t B w' a zs ∧ w.grownBy w' a.bk, fun _ i _ => xs.length - i.toNat,
    ⟨0, xs, rfl, by omega, by omega, rfl, ha, grown_refl _ _⟩, ?_⟩
  rintro k' i w1 ⟨n, zs, rfl, rfl, hn, hz, ha1, hg1⟩ _
  refine And.intro (fun hlt => ?_) (fun hge => ?_)
  · simp only [decide_eq_true_eq] at hlt
    simp (disch := omega) only [i64_of]
    have step : ∀ (w2 : World) (zs : List Ins) (j : Nat) (v : Int) (f : Ins → Ins) (K : World → Prop), zs.length = xs.length → WrS kIns t B w2 a zs → w.grownBy w2 a.bk → j < 6 → (∀ x, kIns.cells (f x) = (kIns.cells x).set j (.int .i64 v)) →
        (∀ w' zs', zs'.length = xs.length → WrS kIns t B w' a zs' → w.grownBy w' a.bk → K w') → Ix a.a a.n n 6 w2 (fun ad w1 => St (Addr.add ad j) (.int .i64 v) w1 K) := by
      intro w2 zs j v f K hz ha2 hg2 hj hf hK
      obtain ⟨x, hx⟩ := get_some (l := zs) (k := n) (by omega)
      exact ixStF ha2 (i := n) (by omega) (x := x) (by simpa using hx) rfl hj rfl (f x) (hf x) fun w3 ha3 hg3 hs3 => hK w3 _ (by simpa using hz) ha3 (grown_trans hg2 hg3)
    refine step w1 zs 0 _ (fun x => { x with op := k + 6 * n }) _ hz ha1 hg1 (by decide) (fun _ => rfl) fun w2 zs2 hz2 ha2 hg2 => ?_
    refine step w2 zs2 1 _ (fun x => { x with dst := k + 6 * n + 1 }) _ hz2 ha2 hg2 (by decide) (fun _ => rfl) fun w3 zs3 hz3 ha3 hg3 => ?_
    refine step w3 zs3 2 _ (fun x => { x with src := k + 6 * n + 1 + 1 }) _ hz3 ha3 hg3 (by decide) (fun _ => rfl) fun w4 zs4 hz4 ha4 hg4 => ?_
    refine step w4 zs4 3 _ (fun x => { x with off := k + 6 * n + 1 + 1 + 1 }) _ hz4 ha4 hg4 (by decide) (fun _ => rfl) fun w5 zs5 hz5 ha5 hg5 => ?_
    refine step w5 zs5 4 _ (fun x => { x with imm := k + 6 * n + 1 + 1 + 1 + 1 }) _ hz5 ha5 hg5 (by decide) (fun _ => rfl) fun w6 zs6 hz6 ha6 hg6 => ?_
    refine step w6 zs6 5 _ (fun x => { x with size := k + 6 * n + 1 + 1 + 1 + 1 + 1 }) _ hz6 ha6 hg6 (by decide) (fun _ => rfl) fun w7 zs7 hz7 ha7 hg7 => ?_
    exact ⟨⟨n + 1, zs7, by omega, by omega, by omega, hz7, ha7, hg7⟩, by omega⟩
  · simp only [decide_eq_false_iff_not] at hge
    obtain rfl : n = xs.length := by omega
    exact hk _ hg1
end
end Go.Proofs.YteggdoigliddkaaGreatDoor.V

/- Contracts: rules; the laws' helpers for them. -/
namespace Go.Proofs.YteggdoigliddkaaGreatDoor.V
open Go Go.RowKit
set_option linter.unusedVariables false
set_option linter.unusedSimpArgs false
structure Rule where
  at_ : Int
  op : Int
  num : Int
  verdict : Int
  key : Int
  deriving DecidableEq, Inhabited
def kRule : Kd Rule := ⟨List.replicate 5 (.i .i64), fun x => (x.at_, x.op, x.num, x.verdict, x.key, ())⟩
@[reducible] def Rule.t (x : Rule) : Tup (List.replicate 5 (.i .i64)) := (x.at_, x.op, x.num, x.verdict, x.key, ())
def Rule.cs (x : Rule) : Array Value := #[.int .i64 x.at_, .int .i64 x.op, .int .i64 x.num, .int .i64 x.verdict, .int .i64 x.key]
theorem nwRule {x : Rule} {t : TypeId} {w : World} {K : Addr → World → Prop}
    (hk : ∀ w', Below w.heap.size w w' → w'.heap.size = w.heap.size + 1 → w'.heap[w.heap.size]? = some (.cells x.cs t (0, 0)) → K ⟨w.heap.size, 0, none⟩ w') : Nw (Tup.cells (List.replicate 5 (.i .i64)) x.t).toArray t w K := nw hk
theorem noAnyRule : ∀ l ∈ kRule.ls, l ≠ Lf.any := by intro l hl; simp [kRule, List.mem_replicate] at hl; simp [hl]
section
variable {w : World} {s : Sl} {l : List Rule}
end
section
variable {w : World} {a b : Sl} {xs ys : List Rule}
end
end Go.Proofs.YteggdoigliddkaaGreatDoor.V

/- Sets of whole numbers: maps from int to bool, all of whose values are true. -/
namespace Go.Proofs.YteggdoigliddkaaGreatDoor.V
open Go Go.RowKit Go.Maps
set_option linter.unusedSimpArgs false
set_option linter.unusedVariables false

theorem keyI : Keyed P0 3 := int_keyed (q := .i64) (by kernel_rfl)
theorem zeroB (w : World) : (zeroValue 4).run P0 w = .ok (.bool false) w := by kernel_rfl
theorem plainElem_bool_inv {H : Type} {P : Program} {e : TypeId} (he : P.underlying e = some .bool) {v : Value} {z : DataW H × List MemPlace} (h : plainElem P e v = some z) : ∃ t, v = .bool t ∧ z = (.lit (.bool t), []) := by
  unfold plainElem at h
  rw [he] at h
  cases v <;> simp at h
  exact ⟨_, rfl, h.symm⟩
abbrev uM : P0.underlying 90 = some (.map 3 4) := by kernel_rfl
abbrev uB : P0.underlying 4 = some .bool := by kernel_rfl
abbrev uI : P0.underlying 3 = some (.int .i64) := by kernel_rfl
/-- The map's keys are the list's members. -/
def Keys (D : DataW Unit) (S : List Int) : Prop := S.Nodup ∧ (∀ x, x ∈ S ↔ has D (.int .i64 x) = true) ∧ ∀ x, D.atKey (.int .i64 x) (.lit (.bool false)) = .lit (.bool (decide (x ∈ S)))
theorem renorm {w : World} {b n : Nat} {D : DataW Unit} {S : List Int} (h : w.ownsMap P0 3 (plainElem P0 4) b n D) (hS : Keys D S) : w.ownsMap P0 3 (plainElem P0 4) b S.length D := by
  obtain ⟨es, hD, hpw, _⟩ := h.entries keyI
  obtain ⟨es', hD', hko⟩ := h.keysOf
  obtain rfl : es = es' := by rw [hD] at hD'; simpa using hD'
  subst hD
  have hp := perm_intKeys (H := Unit) hpw (fun p hp => by obtain ⟨v, hv⟩ := hko p hp; obtain ⟨x, _, hx, _⟩ := keyOf_i64 uI hv; exact ⟨x, hx⟩) hS.1 hS.2.1
  have hl : S.length = es.length := by rw [hp.length_eq]; simp [intKeys]
  obtain ⟨ens, clock, hb, F, hs, hE⟩ := h
  refine ⟨ens, clock, hb, F, ?_, hE⟩
  rw [hl]
  simp only [DataW.map.injEq] at hE
  rw [hE, length_sorted]; simp
def SetM (B : Nat) (w : World) (m : Option Nat) (S : List Int) : Prop :=
  ∃ b D, m = some b ∧ B ≤ b ∧ w.ownsMap (H := Unit) P0 3 (plainElem P0 4) b S.length D ∧ Keys D S
theorem SetM.kept {B : Nat} {w w' : World} {m row : Option Nat} {S : List Int} (h : SetM B w m S) (hg : w.grownBy w' row) (hne : m ≠ row) : SetM B w' m S := by
  obtain ⟨b, D, rfl, hB, ho, hk⟩ := h
  exact ⟨b, D, rfl, hB, ho.kept hg hne, hk⟩
theorem SetM.below {B : Nat} {w w' : World} {m : Option Nat} {S : List Int} (h : SetM B w m S) (hb : Below w.heap.size w w') : SetM B w' m S := h.kept (grown_of_below hb) (by obtain ⟨b, D, rfl, _⟩ := h; simp)
theorem SetM.low {B B' : Nat} {w : World} {m : Option Nat} {S : List Int} (h : SetM B w m S) (hB : B' ≤ B) : SetM B' w m S := by
  obtain ⟨b, D, rfl, hB', r⟩ := h
  exact ⟨b, D, rfl, Nat.le_trans hB hB', r⟩
theorem SetM.blk {B : Nat} {w : World} {m : Option Nat} {S : List Int} (h : SetM B w m S) {b : Nat} (hb : m = some b) : B ≤ b ∧ b < w.heap.size := by
  obtain ⟨b', D, rfl, hB', ho, _⟩ := h
  simp only [Option.some.injEq] at hb; subst hb
  exact ⟨hB', ho.lt⟩
theorem SetM.nodup {B : Nat} {w : World} {m : Option Nat} {S : List Int} (h : SetM B w m S) : S.Nodup := by
  obtain ⟨b, D, rfl, hB', ho, hk⟩ := h
  exact hk.1
/-- Put into a set. -/
def ins (x : Int) (S : List Int) : List Int := if x ∈ S then S else S ++ [x]
theorem mem_ins {x y : Int} {S : List Int} : y ∈ ins x S ↔ y = x ∨ y ∈ S := by
  unfold ins
  split
  · rename_i h
    constructor
    · exact .inr
    · rintro (rfl | h')
      · exact h
      · exact h'
  · simp [or_comm]
theorem nodup_ins {x : Int} {S : List Int} (h : S.Nodup) : (ins x S).Nodup := by
  unfold ins
  split
  · exact h
  · rename_i hx
    exact List.nodup_append.2 ⟨h, by simp, fun a ha b hb => by simp at hb; subst hb; exact fun e => hx (e ▸ ha)⟩
theorem mapNew {w : World} {K : Option Nat → World → Prop} (hk : ∀ m w', SetM w.heap.size w' m [] → Below w.heap.size w w' → w'.heap.size = w.heap.size + 1 → K m w') : RunT (.o (.lf .m)) P0 (Instr.makeMap 90 none) w K :=
  ⟨some w.heap.size, _, run_makeMap _ w, hk _ _ ⟨_, .map [], rfl, Nat.le_refl _, World.ownsMap_made w P0 _ _, by simp [Keys, has, DataW.atKey]⟩ ((Below.refl _ _).alloc (Nat.le_refl _) _) (by simp)⟩
section
variable {B : Nat} {w : World} {m : Option Nat} {S : List Int}
theorem mapPut {x : Int} (h : SetM B w m S) (hx : (Lit.int .i64 x).wf = true) (hS : S.length < maxLen) {K : World → Prop} (hk : ∀ w', SetM B w' m (ins x S) → w.grownBy w' m → K w') :
    RunU P0 (Instr.mapUpdate 90 (.map m) (.int .i64 x) (.bool true)) w K := by
  obtain ⟨b, D, rfl, hB, ho, hK⟩ := h
  obtain ⟨w', hr, ho', hg⟩ := ho.update keyI uM hS (keyOf_int_mk uI hx) (plainElem_bool uB true)
  have hkey : WideAt.IsKeyLit (.int .i64 x) := keyI.key (keyOf_int_mk uI hx)
  have hK' : Keys (D.put (.int .i64 x) (.lit (.bool true))) (ins x S) := by
    refine ⟨nodup_ins hK.1, fun y => ?_, fun y => ?_⟩
    · rw [mem_ins]
      by_cases hy : y = x
      · subst hy; simp [has_put_same ho.isMap hkey]
      · rw [has_put_other (by simpa using hy), ← hK.2.1 y]; simp [hy]
    · by_cases hy : y = x
      · subst hy; rw [atKey_put_same ho.isMap hkey]; simp [mem_ins]
      · rw [atKey_put_other (by simpa using hy), hK.2.2 y]; simp [mem_ins, hy]
  exact ⟨w', hr, hk _ ⟨b, _, rfl, hB, renorm ho' hK', hK'⟩ hg⟩
theorem mapGet {x : Int} (h : SetM B w m S) (hx : (Lit.int .i64 x).wf = true) {K : Bool → World → Prop} (hk : K (decide (x ∈ S)) w) :
    RunT (.o (.lf .b)) P0 (Instr.lookup 90 (.map m) (.int .i64 x) false) w K := by
  obtain ⟨b, D, rfl, hB, ho, hK⟩ := h
  obtain ⟨v, ps, hr, hv⟩ := ho.lookup keyI uM (zeroB w) (plainElem_bool uB false) (keyOf_int_mk uI hx)
  rw [hK.2.2 x] at hv
  obtain ⟨t, rfl, ht⟩ := plainElem_bool_inv uB hv
  simp only [Prod.mk.injEq, DataW.lit.injEq, Lit.bool.injEq] at ht
  obtain ⟨rfl, _⟩ := ht
  exact ⟨_, _, hr, hk⟩
theorem mapLen (h : SetM B w m S) {t : TypeId} {K : Int → World → Prop} (hk : K (S.length : Int) w) : RunT (.o (.lf (.i .i64))) P0 (Builtin.len_ #[90] t #[.map m]) w K := by
  obtain ⟨b, D, rfl, hB, ho, hK⟩ := h
  have hsz : size D = S.length := by
    obtain ⟨es, hD, hpw, _⟩ := ho.entries keyI
    obtain ⟨es', hD', hko⟩ := ho.keysOf
    obtain rfl : es = es' := by rw [hD] at hD'; simpa using hD'
    subst hD
    have hp := perm_intKeys (H := Unit) hpw (fun p hp => by obtain ⟨v, hv⟩ := hko p hp; obtain ⟨x, _, hx, _⟩ := keyOf_i64 uI hv; exact ⟨x, hx⟩) hK.1 hK.2.1
    rw [hp.length_eq]; simp [intKeys, size]
  have := ho.len uM t
  rw [hsz] at this
  exact ⟨_, _, this, hk⟩
/-- A loop over a set: the members that have come. -/
def RgM (B Br : Nat) (w : World) (m : Option Nat) (a : Addr) (S ss : List Int) : Prop :=
  ∃ b r D left cnt, m = some b ∧ B ≤ b ∧ a = ⟨r, 0, none⟩ ∧ Br ≤ r ∧ w.ranges (H := Unit) P0 3 (plainElem P0 4) b r S.length D left cnt ∧ Keys D S ∧ CollectedI D left ss
def rgl (w : World) (m : Option Nat) (a : Addr) : Nat := w.rangeLeft (m.getD 0) a.block
theorem RgM.set {Br : Nat} {a : Addr} {ss : List Int} (h : RgM B Br w m a S ss) : SetM B w m S := by
  obtain ⟨b, r, D, left, cnt, rfl, hB, rfl, hBr, hr, hK, hc⟩ := h
  exact ⟨b, D, rfl, hB, hr.owns, hK⟩
theorem RgM.kept {Br : Nat} {a : Addr} {ss : List Int} {w' : World} {row : Option Nat} (h : RgM B Br w m a S ss) (hg : w.grownBy w' row) (h1 : m ≠ row) (h2 : some a.block ≠ row) : RgM B Br w' m a S ss ∧ rgl w' m a = rgl w m a := by
  obtain ⟨b, r, D, left, cnt, rfl, hB, rfl, hBr, hr, hK, hc⟩ := h
  have hr' := hr.kept hg h1 h2
  exact ⟨⟨b, r, D, left, cnt, rfl, hB, rfl, hBr, hr', hK, hc⟩, by show w'.rangeLeft b r = w.rangeLeft b r; rw [hr.left_eq, hr'.left_eq]⟩
theorem RgM.blk {Br : Nat} {a : Addr} {ss : List Int} (h : RgM B Br w m a S ss) : Br ≤ a.block ∧ a.block < w.heap.size := by
  obtain ⟨b, r, D, left, cnt, rfl, hB, rfl, hBr, hr, hK, hc⟩ := h
  exact ⟨hBr, hr.lt⟩
theorem RgM.nodup {Br : Nat} {a : Addr} {ss : List Int} (h : RgM B Br w m a S ss) : ss.Nodup ∧ ∀ x ∈ ss, x ∈ S := by
  obtain ⟨b, r, D, left, cnt, rfl, hB, rfl, hBr, hr, hK, hc⟩ := h
  exact ⟨hc.1, fun x hx => (hK.2.1 x).2 ((hc.2 x).1 hx).1⟩
theorem mapRange (h : SetM B w m S) {K : Addr → World → Prop} (hk : ∀ a w', RgM B w.heap.size w' m a S [] → Below w.heap.size w w' → K a w') : RunT (.o (.lf .ad)) P0 (Instr.range 90 (.map m)) w K := by
  obtain ⟨b, D, rfl, hB, ho, hK⟩ := h
  obtain ⟨w', hr, hrg, hg, hs⟩ := ho.range keyI uM
  exact ⟨_, w', hr, hk _ _ ⟨b, _, D, _, _, rfl, hB, rfl, Nat.le_refl _, hrg, hK, CollectedI.start D⟩ ((Below.refl _ _).grown hg (Nat.le_refl _) (by simp))⟩
theorem mapNext {Br : Nat} {a : Addr} {ss : List Int} (h : RgM B Br w m a S ss) {t : TypeId} {Kt : (Int × Bool × Unit) → World → Prop} {Kf : World → Prop}
    (ht : ∀ x u w', x ∈ S → x ∉ ss → (Lit.int .i64 x).wf = true → RgM B Br w' m a S (ss ++ [x]) → w.grownBy w' (some a.block) → rgl w' m a < rgl w m a → Kt (x, u, ()) w') (hf : ss.Perm S → Kf w) :
    Nx P0 (.pointer (some a)) false t w (fun more rest w' => (more = true → RunT (.n [(.lf (.i .i64)), (.lf .b)]) P0 (Instr.entry (.pointer (some a))) w' Kt) ∧ (more = false → Kf w')) := by
  obtain ⟨b, r, D, left, cnt, rfl, hB, rfl, hBr, hr, hK, hc⟩ := h
  rcases hr.next keyI t with ⟨_, hl, hrun⟩ | ⟨key, v, kl, y, w', cnt', hkey, hlk, hv, hat, hrun, hr', hlt, hg, hs, hent⟩
  · refine ⟨false, [], w, hrun, by simp, fun _ => hf ?_⟩
    refine (List.perm_ext_iff_of_nodup hc.1 hK.1).2 fun x => ?_
    rw [hc.2 x, hl, ← hK.2.1 x]; simp
  · obtain ⟨x, rfl, rfl, hw⟩ := keyOf_i64 uI hkey
    obtain ⟨u, rfl, _⟩ := plainElem_bool_inv uB hv
    refine ⟨true, [.int .i64 x, .bool u], w', hrun, fun _ => ⟨(x, u, ()), w', hent, ht x u w' ?_ ?_ hw ⟨b, r, D, _, cnt', rfl, hB, rfl, hBr, hr', hK, hc.step hlk hat⟩ hg ?_⟩, by simp⟩
    · exact (hK.2.1 x).2 (has_true_of_atKey hat)
    · intro hx
      have := ((hc.2 x).1 hx).2
      rw [hlk] at this; simp at this
    · show w'.rangeLeft b r < w.rangeLeft b r
      rw [hr.left_eq, hr'.left_eq]; exact hlt
end
/-- make of no element, with room. -/
theorem mkO {w : World} {n : Nat} (hm : n ≤ 17592186044416) {K : Sl → World → Prop} (hk : ∀ s w', OwnS kI 3 w.heap.size w' s [] → Below w.heap.size w w' → K s w') :
    RunT (.o (.lf .sl)) P0 (Instr.makeSlice 34 (.int .i64 0) (.int .i64 (n : Int))) w K := by
  obtain ⟨i, z, hi, hz, hsz, hby, hzs⟩ := elI.info
  obtain ⟨w', hr, ho, hg⟩ := run_make_own (P := P0) w w.heap.size 34 3 i z kI.ls.length elI.elem hi hz hsz .i64 .i64 n (by rw [hby]; omega) (by simp only [maxLen]; omega) (Nat.le_refl _)
  exact ⟨⟨_, 0, n⟩, w', hr, hk _ _ ⟨rfl, ho⟩ ((Below.refl _ _).grown hg (Nat.le_refl _) (by simp))⟩
end Go.Proofs.YteggdoigliddkaaGreatDoor.V

/- Rows of bits, what is collected from them, and sorted sets. -/
namespace Go.Proofs.YteggdoigliddkaaGreatDoor.V
open Go Go.RowKit Go.Maps
set_option linter.unusedSimpArgs false
set_option linter.unusedVariables false

def bits (n : Nat) (f : Nat → Bool) : List Bool := (List.range n).map f
theorem bits_get {n i : Nat} {f : Nat → Bool} (h : i < n) : (bits n f)[i]? = some (f i) := by simp [bits, h]
theorem bits_length (n : Nat) (f : Nat → Bool) : (bits n f).length = n := by simp [bits]
theorem bits_set {n j : Nat} {f : Nat → Bool} : (bits n f).set j true = bits n (fun i => f i || decide (i = j)) := by
  refine List.ext_getElem? fun i => ?_
  rcases Nat.lt_or_ge i n with hi | hi
  · by_cases hj : j = i
    · subst hj
      rw [List.getElem?_set_self (by simpa [bits_length] using hi), bits_get hi]; simp
    · rw [List.getElem?_set_ne hj, bits_get hi, bits_get hi]; simp; intro e; exact absurd e.symm hj
  · rw [List.getElem?_eq_none (by simp [bits_length, hi]), List.getElem?_eq_none (by simp [bits_length, hi])]
theorem bits_rep (n : Nat) : List.replicate n false = bits n (fun _ => false) := by
  refine List.ext_getElem? fun i => ?_
  rcases Nat.lt_or_ge i n with hi | hi
  · rw [bits_get hi, List.getElem?_replicate_of_lt hi]
  · rw [List.getElem?_eq_none (by simp [hi]), List.getElem?_eq_none (by simp [bits_length, hi])]
/-- The places at which a bit is set, ascending. -/
def picks (n : Nat) (f : Nat → Bool) : List Int := ((List.range n).filter f).map fun i : Nat => (i : Int)
theorem picks_succ (n : Nat) (f : Nat → Bool) : picks (n + 1) f = if f n = true then picks n f ++ [(n : Int)] else picks n f := by
  unfold picks
  rw [List.range_succ, List.filter_append, List.map_append]
  split
  · rename_i h; simp [h]
  · rename_i h; simp [h]
theorem picks_le (n : Nat) (f : Nat → Bool) : (picks n f).length ≤ n := by
  unfold picks
  rw [List.length_map]
  exact Nat.le_trans (List.length_filter_le _ _) (by simp)
theorem mem_picks {n : Nat} {f : Nat → Bool} {x : Int} : x ∈ picks n f ↔ ∃ i : Nat, x = i ∧ i < n ∧ f i = true := by
  unfold picks
  simp only [List.mem_map, List.mem_filter, List.mem_range]
  constructor
  · rintro ⟨i, ⟨h1, h2⟩, rfl⟩; exact ⟨i, rfl, h1, h2⟩
  · rintro ⟨i, rfl, h1, h2⟩; exact ⟨i, ⟨h1, h2⟩, rfl⟩
theorem picks_asc (n : Nat) (f : Nat → Bool) : (picks n f).Pairwise (· < ·) := by
  induction n with
  | zero => exact List.Pairwise.nil
  | succ n ih =>
    rw [picks_succ]
    split
    · refine List.pairwise_append.2 ⟨ih, by simp, fun a ha b hb => ?_⟩
      obtain ⟨i, rfl, hi, _⟩ := mem_picks.1 ha
      simp at hb; omega
    · exact ih
theorem picks_nodup (n : Nat) (f : Nat → Bool) : (picks n f).Nodup := (picks_asc n f).imp fun h => by omega
theorem picks_congr {n : Nat} {f g : Nat → Bool} (h : ∀ i, i < n → f i = g i) : picks n f = picks n g := by
  unfold picks
  rw [List.filter_congr fun x hx => h x (List.mem_range.1 hx)]
theorem sorted_id {xs : List Int} (h : xs.Pairwise (· < ·)) : sorted xs = xs := by
  unfold sorted
  exact List.mergeSort_of_pairwise (h.imp fun h => by simp; omega)
theorem sorted_perm' {xs ys : List Int} (h : xs.Perm ys) : sorted xs = sorted ys := mergeSort_of_perm_i h
theorem sorted_length (xs : List Int) : (sorted xs).length = xs.length := by simp [sorted]
theorem sorted_eq {S : List Int} {n : Nat} {f : Nat → Bool} (h : S.Nodup) (hS : ∀ x, x ∈ S ↔ ∃ i : Nat, x = i ∧ i < n ∧ f i = true) : sorted S = picks n f := by
  rw [← sorted_id (picks_asc n f)]
  exact sorted_perm' ((List.perm_ext_iff_of_nodup h (picks_nodup n f)).2 fun x => by rw [hS, mem_picks])
theorem mkB : Mk P0 80 4 kB 1 false := ⟨by kernel_rfl, ⟨_, _, Option.eq_some_of_isSome (by kernel_rfl), Option.eq_some_of_isSome (by kernel_rfl), by kernel_rfl, by kernel_rfl, by kernel_rfl⟩⟩
theorem nodup_nat : ∀ (n : Nat) (l : List Nat), l.Nodup → (∀ x ∈ l, x < n) → l.length ≤ n
  | 0, l, _, h => by
    cases l with
    | nil => simp
    | cons x l => exact absurd (h x List.mem_cons_self) (by omega)
  | n + 1, l, hl, h => by
    by_cases hm : n ∈ l
    · have := nodup_nat n (l.erase n) (hl.erase n) (fun x hx => by have h1 := (List.Nodup.mem_erase_iff hl).1 hx; have := h x h1.2; have := h1.1; omega)
      rw [List.length_erase_of_mem hm] at this
      omega
    · have := nodup_nat n l hl (fun x hx => by have := h x hx; have : x ≠ n := fun e => hm (e ▸ hx); omega)
      omega
/-- A nodup list of places below n is no longer than n. -/
theorem nodup_le {S : List Int} {n : Nat} (h : S.Nodup) (hS : ∀ x ∈ S, 0 ≤ x ∧ x < (n : Int)) : S.length ≤ n := by
  have h1 : (S.map Int.toNat).Nodup := by
    refine List.pairwise_map.2 (List.Pairwise.imp_of_mem (fun {a b} ha hb hne e => hne ?_) h)
    have := hS a ha; have := hS b hb; omega
  have := nodup_nat n _ h1 (fun x hx => by obtain ⟨y, hy, rfl⟩ := List.mem_map.1 hx; have := hS y hy; omega)
  simpa using this
/-- The loop that collects places. -/
theorem collect {isS out0 : Sl} {n m : Nat} {f : Nat → Bool} {w : World} {B : Nat} {K : Sl → World → Prop} (h : SlR kB w isS (bits m f)) (hn : n ≤ m) (hm : n ≤ 1048600) (ho : OwnS kI 3 B w out0 []) (hB : B ≤ w.heap.size)
    (hsep : ∀ b o, isS.a = some ⟨b, o, none⟩ → b < w.heap.size ∧ ∀ b', out0.bk = some b' → b ≠ b')
    (hk : ∀ out w', OwnS kI 3 B w' out (picks n f) → (∀ B', B' ≤ B → Below B' w w') → K out w') :
    ∃ (I : Sl → Int → World → Prop) (M : Sl → Int → World → Nat), I out0 0 w ∧ (∀ (out : Sl) (i : Int) w1, I out i w1 → ∀ _ : Nat → Value,
      ((decide ((i : Int) < (n : Int))) = true → Ix isS.a isS.n i 1 w1 fun a w2 => Ld .b a w2 fun (t : Bool) w3 =>
        (t = true → Nw #[(.int .i64 i)] 3 w3 fun a w4 => RunT (.o (.lf .sl)) P0 (Builtin.append_ #[34, 34] 34 #[out.v, (.slice (some a) 1 1)]) w4 fun (t75 : Sl) w5 =>
          (I t75 (IntKind.wrap .i64 (i + 1)) w5 ∧ M t75 (IntKind.wrap .i64 (i + 1)) w5 < M out i w1)) ∧
        (t = false → (I out (IntKind.wrap .i64 (i + 1)) w3 ∧ M out (IntKind.wrap .i64 (i + 1)) w3 < M out i w1))) ∧
      ((decide ((i : Int) < (n : Int))) = false → K out w1)) := by
  refine ⟨fun out i w' => ∃ j : Nat, i = j ∧ j ≤ n ∧ OwnS kI 3 B w' out (picks j f) ∧ SlR kB w' isS (bits m f) ∧ w.heap.size ≤ w'.heap.size ∧ (∀ B', B' ≤ B → Below B' w w') ∧
      (∀ b o, isS.a = some ⟨b, o, none⟩ → ∀ b', out.bk = some b' → b ≠ b'), fun _ i _ => n - i.toNat,
    ⟨0, rfl, by omega, by simpa [picks] using ho, h, Nat.le_refl _, fun B' hB' => (Below.refl _ _), fun b o hb => (hsep b o hb).2⟩, ?_⟩
  rintro out i w1 ⟨j, rfl, hj, ho1, h1, hs1, hb1, hsep1⟩ _
  refine And.intro (fun hlt => ?_) (fun hge => ?_)
  · simp only [decide_eq_true_eq] at hlt
    refine ixL h1 (i := j) (by omega) (x := f j) (by rw [Int.toNat_natCast]; exact bits_get (by omega)) rfl (l := .b) (v := f j) rfl ?_
    have hp := picks_le j f
    refine And.intro (fun hf => ?_) (fun hf => ?_)
    · refine ap1 elI ho1 (j : Int) rfl (by omega) (by omega) (by omega) fun s' w' ho' hg' hbk => ?_
      rw [i64_in (by omega) (by omega)]
      refine ⟨⟨j + 1, by omega, by omega, by rw [picks_succ, if_pos hf]; exact ho', h1.kept2 hg' (fun b o hb e => hsep1 b o hb b ((ob_bk out).symm.trans e) rfl), Nat.le_trans hs1 hg'.size, ?_, ?_⟩, by simp only; omega⟩
      · intro B' hB'
        exact (hb1 B' hB').grown hg' (by omega) (fun b hb => by have := (ho1.blk hb).1; omega)
      · intro b o hb b' hb' e
        rcases hbk b' ((ob_bk s').trans hb') with h2 | h2
        · exact hsep1 b o hb b' ((ob_bk out).symm.trans h2) e
        · have := (hsep b o hb).1; omega
    · rw [i64_in (by omega) (by omega)]
      exact ⟨⟨j + 1, by omega, by omega, by rw [picks_succ, if_neg (by simp [hf])]; exact ho1, h1, hs1, hb1, hsep1⟩, by simp only; omega⟩
  · simp only [decide_eq_false_iff_not] at hge
    obtain rfl : j = n := by omega
    exact hk _ _ ho1 hb1
end Go.Proofs.YteggdoigliddkaaGreatDoor.V

/- Verification conditions, printed by this session's own program (wip/vc.py) and checked by the kernel. -/
namespace Go.Proofs.YteggdoigliddkaaGreatDoor.V
open Go Go.RowKit
set_option linter.unusedVariables false
/- (impl.places).sorted -/
def impl.places.sorted.pl : Pl := (.s (.r (D 1)) (.s (.r [.d, (.t (.o (.lf (.i .i64)))), (.t (.o (.lf .sl))), .d]) (.s (.s (.r [.d, (.t (.o (.lf .ad)))]) (.b (.l [(3, .sl)] (.s (.r (D 2)) (.s (.c .z .z) (.b (.s (.r [(.t (.n [(.lf (.i .i64)), (.lf .b)])), .d, .d]) (.r [.d, .d, .d, (.t (.o (.lf .sl))), .d])))))))) (.s (.r [.d, (.c .z)]) (.s (.r (D 2)) .z)))))
def impl.places.sorted.vc (p : Option Nat) (w : World) (K : Sl → World → Prop) : Prop :=
RunT (.o (.lf (.i .i64))) P0 (Builtin.len_ #[90] 3 #[(.map p)]) w fun (t6 : Int) w_ =>
RunT (.o (.lf .sl)) P0 (Instr.makeSlice 34 (.int .i64 0) (.int .i64 t6)) w_ fun (t7 : Sl) w__1 =>
RunT (.o (.lf .ad)) P0 (Instr.range 90 (.map p)) w__1 fun (t9 : Addr) w__2 =>
∃ (I : Sl → World → Prop) (M : Sl → World → Nat),
I t7 w__2 ∧
(∀ (out : Sl) w__3, I out w__3 → ∀ _ : Nat → Value,
Nx P0 (.pointer (some t9)) false 0 w__3 fun more rest w__4 =>
(more = true → RunT (.n [(.lf (.i .i64)), (.lf .b)]) P0 (Instr.entry (.pointer (some t9))) w__4 fun (t12 : (Int) × (Bool) × Unit) w__5 =>
Nw #[(.int .i64 t12.1)] 3 w__5 fun a_t16 w__6 =>
RunT (.o (.lf .sl)) P0 (Builtin.append_ #[34, 34] 34 #[out.v, (.slice (some a_t16) 1 1)]) w__6 fun (t17 : Sl) w__7 =>
(I t17 w__7 ∧ M t17 w__7 < M out w__3)) ∧
(more = false → CallT .z P0 92 [out.v] w__4 fun (u : Unit) w__8 =>
K out w__8))
theorem impl.places.sorted.ok {p : Option Nat} {w : World} {K : Sl → World → Prop} (h : impl.places.sorted.vc p w K) : CallT (.o (.lf .sl)) P0 60 [(.map p)] w K :=
  call_of Tryz.func60 rfl rfl (pl := impl.places.sorted.pl) (show VC P0 Tryz.f60 impl.places.sorted.pl (.o (.lf .sl)) [(.map p)] w K noP from Eq.mp (by kernel_rfl) h)
end Go.Proofs.YteggdoigliddkaaGreatDoor.V

/- Contracts: the places to which an op may lead. -/
namespace Go.Proofs.YteggdoigliddkaaGreatDoor.V
open Go Go.RowKit
set_option linter.unusedVariables false
set_option linter.unusedSimpArgs false

/-- The places to which an op may lead, ascending. -/
def nextX (i : Int) (x : Ins) : List Int :=
  if x.op = 20 then [] else if x.op = 16 then [tgt i x] else if 12 ≤ x.op ∧ x.op ≤ 15 then (if x.off = 0 then [i + 1] else if x.off < 0 then [tgt i x, i + 1] else [i + 1, tgt i x]) else [i + 1]
theorem sorted2 (a b : Int) : sorted [a, b] = if a ≤ b then [a, b] else [b, a] := by
  unfold sorted
  by_cases h : a ≤ b <;> simp [List.mergeSort, List.MergeSort.Internal.splitInTwo, h, List.merge]
theorem compact2 (a b : Int) : Lib.compact [a, b] = if a = b then [a] else [a, b] := by
  by_cases h : a = b
  · subst h; simp [Lib.compact, Lib.compactUpTo, Lib.keeps, List.range_succ, List.filter]
  · have h' : b ≠ a := fun e => h e.symm
    simp [Lib.compact, Lib.compactUpTo, Lib.keeps, List.range_succ, List.filter, h, h']
section
variable {w : World} {s : Sl} {l : List Ins}
end
end Go.Proofs.YteggdoigliddkaaGreatDoor.V

/- Contracts: spec.FlowNext and impl.FlowNext, and the law ExactFlowNext. -/
namespace Go.Proofs.YteggdoigliddkaaGreatDoor.V
open Go Go.RowKit
set_option linter.unusedVariables false
set_option linter.unusedSimpArgs false
theorem formGo_ins {all : List Ins} : ∀ {m : Nat} {l : List Ins}, formGo all m l = 0 → ∀ x ∈ l, InsP x
  | _, [], _, x, hx => by simp at hx
  | m, y :: l, h, x, hx => by
    simp only [formGo] at h
    split at h
    · simp at h
    · rename_i hy
      split at h
      · simp at h
      · rcases List.mem_cons.1 hx with rfl | hx
        · exact Classical.not_not.1 hy
        · exact formGo_ins h x hx
theorem formP_ins {l : List Ins} (h : formP l = 0) {x : Ins} (hx : x ∈ l) : InsP x := formGo_ins h x hx
/-- What both sides answer. -/
def flowNext (l : List Ins) (i : Int) : List Int :=
  if formP l ≠ 0 ∨ ¬ (0 ≤ i ∧ i ≤ (l.length : Int) - 1) then [] else match l[i.toNat]? with | some x => nextX i x | none => []
section
variable {w : World} {s : Sl} {l : List Ins}
theorem nextX_length (i : Int) (x : Ins) : (nextX i x).length ≤ 2 := by unfold nextX; split <;> (try split) <;> (try split) <;> (try split) <;> (try split) <;> simp
theorem flowNext_length (l : List Ins) (i : Int) : (flowNext l i).length ≤ 2 := by
  unfold flowNext
  split
  · simp
  · split
    · exact nextX_length _ _
    · simp
end
end Go.Proofs.YteggdoigliddkaaGreatDoor.V

/- Contracts: sorted sets, and where blocks begin. -/
namespace Go.Proofs.YteggdoigliddkaaGreatDoor.V
open Go Go.RowKit
set_option linter.unusedVariables false
set_option linter.unusedSimpArgs false
theorem wf_i64 {x : Int} (h0 : -9223372036854775808 ≤ x) (h1 : x ≤ 9223372036854775807) : (Lit.int .i64 x).wf = true := WalkArith.wf_i64 ⟨h0, h1⟩
theorem ins_le {x : Int} {S : List Int} {n : Nat} (h : S.length ≤ n) : (ins x S).length ≤ n + 1 := by
  unfold ins
  split
  · omega
  · rw [List.length_append]; simp; exact h
section
variable {w : World} {s : Sl} {l : List Ins}
theorem impl.places.sorted.c {B : Nat} {m : Option Nat} {S : List Int} {K : Sl → World → Prop} (h : SetM B w m S) (hS : S.length ≤ 1048600)
    (hk : ∀ r w', Below w.heap.size w w' → OwnS kI 3 w.heap.size w' r (sorted S) → K r w') : CallT (.o (.lf .sl)) P0 60 [.map m] w K := by
  refine impl.places.sorted.ok (mapLen h ?_)
  refine mkO (by omega) fun o w1 ho1 hb1 => ?_
  have h1 := h.below hb1
  refine mapRange h1 fun a w2 hr2 hb2 => ?_
  have hsz := hb1.size
  refine ⟨fun out w' => ∃ ss, OwnS kI 3 w.heap.size w' out ss ∧ RgM B w1.heap.size w' m a S ss ∧ Below w.heap.size w w' ∧ out.bk ≠ some a.block ∧ w1.heap.size ≤ w'.heap.size, fun out w' => rgl w' m a,
    ⟨[], ho1.below hb2, hr2, hb1.trans (hb2.mono hsz), fun e => by have := (ho1.blk ((ob_bk o).trans e)).2; have := hr2.blk.1; omega, hb2.size⟩, ?_⟩
  rintro out w3 ⟨ss, ho3, hr3, hb3, hne, hs3⟩ _
  refine mapNext hr3 (fun x u w4 hx hnx hw hr4 hg4 hlt => ?_) (fun hp => ?_)
  · have ho4 := ho3.kept hg4 (fun b hb e => hne (by rw [← ob_bk, e]; exact hb.symm))
    have hnd := hr4.nodup
    have hlen : (ss ++ [x]).length ≤ S.length := by
      have h1 := hnd.1
      exact (List.Nodup.length_le_of_subset h1 hnd.2)
    simp only [List.length_append, List.length_cons, List.length_nil] at hlen
    have hs4 := hg4.size
    refine ap1 elI ho4 x rfl (by omega) (by omega) (by have := hb3.size; omega) fun s' w5 ho5 hg5 hbk => ?_
    have hm : m ≠ out.bk := fun e => by
      have h2 := hr4.set
      cases m with
      | none => obtain ⟨b, D, hb, _⟩ := h2; simp at hb
      | some b =>
        have h3 := (h.blk rfl).2
        have h4 := (ho4.blk ((ob_bk out).trans e.symm)).1
        omega
    have hg5' := hg5
    rw [ob_bk] at hg5'
    obtain ⟨hr5, hl5⟩ := hr4.kept hg5' hm (Ne.symm hne)
    refine ⟨⟨_, ho5, hr5, ?_, ?_, Nat.le_trans hs3 (Nat.le_trans hs4 hg5.size)⟩, by show rgl w5 m a < rgl w3 m a; omega⟩
    · refine ((hb3.grown hg4 hb3.size (fun b hb => ?_))).grown hg5 (by have := hb3.size; omega) (fun b hb => (ho4.blk hb).1)
      simp only [Option.some.injEq] at hb
      have := hr3.blk.1; omega
    · intro e
      rcases hbk _ ((ob_bk s').trans e) with h2 | h2
      · exact hne ((ob_bk out).symm.trans h2)
      · have := hr4.blk.2; omega
  · have hlen := hp.length_eq
    refine sort_own ho3 (by omega) fun w4 ho4 hg4 => ?_
    rw [sorted_perm' hp] at ho4
    exact hk _ _ (hb3.grown hg4 hb3.size (fun b hb => (ho3.blk hb).1)) ho4
/-- A block begins here, so far as the first n ops say. -/
def begins (l : List Ins) (n : Nat) (i : Int) : Prop := i = 0 ∨ ∃ j x, j < n ∧ l[j]? = some x ∧ ((goesP x ∧ (tgt j x = i ∨ (j : Int) + 1 = i)) ∨ (x.op = 20 ∧ (j : Int) + 1 = i))
theorem begins_zero (l : List Ins) (i : Int) : begins l 0 i ↔ i = 0 := by
  unfold begins
  constructor
  · rintro (h | ⟨j, x, h, _⟩)
    · exact h
    · omega
  · exact .inl
theorem begins_succ {l : List Ins} {n : Nat} {x : Ins} (hx : l[n]? = some x) (i : Int) : begins l (n + 1) i ↔ begins l n i ∨ (goesP x ∧ (tgt n x = i ∨ (n : Int) + 1 = i)) ∨ (x.op = 20 ∧ (n : Int) + 1 = i) := by
  unfold begins
  constructor
  · rintro (h | ⟨j, y, hj, hy, h⟩)
    · exact .inl (.inl h)
    · by_cases e : j = n
      · subst e; rw [hx] at hy; simp only [Option.some.injEq] at hy; subst hy; exact .inr h
      · exact .inl (.inr ⟨j, y, by omega, hy, h⟩)
  · rintro ((h | ⟨j, y, hj, hy, h⟩) | h)
    · exact .inl h
    · exact .inr ⟨j, y, by omega, hy, h⟩
    · exact .inr ⟨n, x, by omega, hx, h⟩
open Classical in
noncomputable def flowBlocks (l : List Ins) : List Int := if formP l ≠ 0 then [] else picks l.length fun i => decide (begins l l.length i)
theorem formGo_tgt {all : List Ins} : ∀ {m : Nat} {l : List Ins}, formGo all m l = 0 → ∀ j x, l[j]? = some x → goesP x → 0 ≤ tgt (m + j : Nat) x ∧ tgt (m + j : Nat) x ≤ (all.length : Int) - 1
  | _, [], _, j, x, hx, _ => by simp at hx
  | m, y :: l, h, j, x, hx, hg => by
    simp only [formGo] at h
    split at h
    · simp at h
    · split at h
      · simp at h
      · rename_i hn
        cases j with
        | zero =>
          simp only [List.getElem?_cons_zero, Option.some.injEq] at hx
          subst hx
          simp only [hg, true_and] at hn
          simpa using Classical.not_not.1 (fun e => hn (by simpa using e))
        | succ j =>
          have := formGo_tgt h j x (by simpa using hx) hg
          rw [show m + (j + 1) = m + 1 + j by omega]; exact this
theorem formP_tgt {l : List Ins} (h : formP l = 0) {j : Nat} {x : Ins} (hx : l[j]? = some x) (hg : goesP x) : 0 ≤ tgt j x ∧ tgt j x ≤ (l.length : Int) - 1 := by
  have := formGo_tgt h j x hx hg; rwa [Nat.zero_add] at this
theorem formGo_end {all : List Ins} : ∀ {m : Nat} {l : List Ins}, formGo all m l = 0 → endP all = 0
  | _, [], h => by simpa [formGo] using h
  | m, y :: l, h => by
    simp only [formGo] at h
    split at h
    · simp at h
    · split at h
      · simp at h
      · exact formGo_end h
theorem formP_size {l : List Ins} (h : formP l = 0) : 0 < l.length ∧ l.length ≤ 48 := by
  have h1 := formGo_end (all := l) h
  constructor
  · cases l with
    | nil => simp [endP_nil rfl] at h1
    | cons => simp
  · rcases Nat.lt_or_ge 48 l.length with h2 | h2
    · rw [endP_many h2] at h1; simp at h1
    · exact h2
/-- Set a bit of a row. -/
theorem stBit {B : Nat} {w : World} {r : Sl} {n : Nat} {f : Nat → Bool} {i : Int} (h : WrS kB 4 B w r (bits n f)) (h0 : 0 ≤ i) (h1 : i < n) {K : World → Prop}
    (hk : ∀ w', WrS kB 4 B w' r (bits n fun j => f j || decide (j = i.toNat)) → w.grownBy w' r.bk → K w') : Ix r.a r.n i 1 w fun a w1 => St a (.bool true) w1 K :=
  ixStL h h0 (x := f i.toNat) (bits_get (by omega)) rfl rfl rfl true rfl fun w' hw hg _ => hk w' (by rw [bits_set] at hw; exact hw) hg
theorem flowBlocks_length (l : List Ins) : (flowBlocks l).length ≤ 48 := by
  unfold flowBlocks
  split
  · simp
  · rename_i h
    have h1 := formP_size (l := l) (Classical.not_not.1 h)
    exact Nat.le_trans (picks_le _ _) h1.2
end
end Go.Proofs.YteggdoigliddkaaGreatDoor.V

/- Contracts: which rules are ok, on both sides; what they cut bytes at. -/
namespace Go.Proofs.YteggdoigliddkaaGreatDoor.V
open Go Go.RowKit
set_option linter.unusedVariables false
set_option linter.unusedSimpArgs false
def RuleP (x : Rule) : Prop := (0 ≤ x.at_ ∧ x.at_ ≤ 11) ∧ (12 ≤ x.op ∧ x.op ≤ 15) ∧ (0 ≤ x.num ∧ x.num ≤ 255) ∧ (0 ≤ x.verdict ∧ x.verdict ≤ 2) ∧ (0 ≤ x.key ∧ x.key ≤ 4294967295) ∧ (x.key = 0 ∨ x.verdict = 2)
instance (x : Rule) : Decidable (RuleP x) := by unfold RuleP; infer_instance
def RulesP (l : List Rule) : Prop := l.length ≤ 6 ∧ ∀ x ∈ l, RuleP x
instance (l : List Rule) : Decidable (RulesP l) := by unfold RulesP; infer_instance
section
variable {w : World} {s : Sl} {l : List Rule} {K : Bool → World → Prop}
end
/-! compact of a sorted list -/
theorem compact_asc (d : Array Int) (hd : ∀ i j, i ≤ j → j < d.size → d[i]! ≤ d[j]!) : ∀ m, m ≤ d.size → (Lib.compactUpTo d m).Pairwise (· < ·) ∧ ∀ x, x ∈ Lib.compactUpTo d m ↔ ∃ j, j < m ∧ d[j]! = x := by
  intro m
  induction m with
  | zero => intro _; simp [Lib.compactUpTo]
  | succ m ih =>
    intro hm
    obtain ⟨h1, h2⟩ := ih (by omega)
    rw [Lib.compactUpTo_succ]
    by_cases hk : Lib.keeps d m = true
    · rw [if_pos hk]
      have hk' : m = 0 ∨ d[m]! ≠ d[m - 1]! := by simpa [Lib.keeps] using hk
      constructor
      · refine List.pairwise_append.2 ⟨h1, by simp, fun a ha b hb => ?_⟩
        simp only [List.mem_singleton] at hb; subst hb
        obtain ⟨j, hj, rfl⟩ := (h2 a).1 ha
        have e1 := hd j (m - 1) (by omega) (by omega)
        have e2 := hd (m - 1) m (by omega) (by omega)
        rcases hk' with h | h <;> omega
      · intro x
        rw [List.mem_append, h2, List.mem_singleton]
        constructor
        · rintro (⟨j, hj, rfl⟩ | rfl)
          · exact ⟨j, by omega, rfl⟩
          · exact ⟨m, by omega, rfl⟩
        · rintro ⟨j, hj, rfl⟩
          rcases Nat.lt_or_ge j m with h | h
          · exact .inl ⟨j, h, rfl⟩
          · obtain rfl : j = m := by omega
            exact .inr rfl
    · rw [if_neg hk, List.append_nil]
      have hk' : m ≠ 0 ∧ d[m]! = d[m - 1]! := by simpa [Lib.keeps] using hk
      refine ⟨h1, fun x => ?_⟩
      rw [h2]
      constructor
      · rintro ⟨j, hj, rfl⟩; exact ⟨j, by omega, rfl⟩
      · rintro ⟨j, hj, rfl⟩
        rcases Nat.lt_or_ge j m with h | h
        · exact ⟨j, h, rfl⟩
        · obtain rfl : j = m := by omega
          exact ⟨j - 1, by omega, hk'.2.symm⟩
theorem sorted_le (xs : List Int) : (sorted xs).Pairwise (· ≤ ·) := by
  have := List.pairwise_mergeSort (le := fun x y : Int => decide (x ≤ y)) (by intro a b c; simp; omega) (by intro a b; simp; omega) xs
  exact this.imp fun h => by simpa using h
theorem mem_sorted' {x : Int} {xs : List Int} : x ∈ sorted xs ↔ x ∈ xs := by unfold sorted; exact List.mem_mergeSort
theorem compact_sorted {xs : List Int} {n : Nat} {f : Nat → Bool} (h : ∀ x, x ∈ xs ↔ ∃ i : Nat, x = i ∧ i < n ∧ f i = true) : Lib.compact (sorted xs) = picks n f := by
  have hd : ∀ i j, i ≤ j → j < (sorted xs).toArray.size → (sorted xs).toArray[i]! ≤ (sorted xs).toArray[j]! := by
    intro i j hij hj
    have hj' : j < (sorted xs).length := by simpa using hj
    rw [getElem!_pos _ i (by simp; omega), getElem!_pos _ j (by simp; omega)]
    rcases Nat.lt_or_ge i j with hlt | hge
    · exact List.pairwise_iff_getElem.1 (sorted_le xs) i j (by omega) hj' hlt
    · obtain rfl : i = j := by omega
      exact Int.le_refl _
  obtain ⟨h1, h2⟩ := compact_asc _ hd (sorted xs).length (by simp)
  have hc : Lib.compact (sorted xs) = Lib.compactUpTo (sorted xs).toArray (sorted xs).length := rfl
  rw [← hc] at h1 h2
  rw [← sorted_id h1]
  refine sorted_eq (h1.imp fun h => by omega) fun x => ?_
  rw [h2, ← h, ← mem_sorted']
  constructor
  · rintro ⟨j, hj, rfl⟩
    rw [getElem!_pos _ j (by simpa using hj)]
    simp
  · intro hx
    obtain ⟨j, hj⟩ := List.getElem?_of_mem hx
    have hl := lt_of_get hj
    refine ⟨j, hl, ?_⟩
    rw [getElem!_pos _ j (by simpa using hl)]
    rw [List.getElem?_eq_getElem hl] at hj
    simpa using hj
/-! what rules cut bytes at -/
def hits (rs : List Rule) (at_ n : Int) : Prop := n = 0 ∨ ∃ r ∈ rs, r.at_ = at_ ∧ (r.num = n ∨ r.num + 1 = n)
theorem hits_nil (at_ n : Int) : hits [] at_ n ↔ n = 0 := by simp [hits]
theorem hits_snoc (rs : List Rule) (r : Rule) (at_ n : Int) : hits (rs ++ [r]) at_ n ↔ hits rs at_ n ∨ (r.at_ = at_ ∧ (r.num = n ∨ r.num + 1 = n)) := by
  unfold hits
  constructor
  · rintro (h | ⟨q, hq, h⟩)
    · exact .inl (.inl h)
    · rcases List.mem_append.1 hq with h1 | h1
      · exact .inl (.inr ⟨q, h1, h⟩)
      · simp at h1; subst h1; exact .inr h
  · rintro ((h | ⟨q, hq, h⟩) | h)
    · exact .inl h
    · exact .inr ⟨q, List.mem_append.2 (.inl hq), h⟩
    · exact .inr ⟨r, by simp, h⟩
open Classical in
noncomputable def cuts (a b : List Rule) (at_ : Int) : List Int := picks 256 fun n => decide (hits (a ++ b) at_ n)
section
variable {w : World} {s sa sb : Sl} {la lb : List Rule} {K : Sl → World → Prop}
theorem kSl_lit {w : World} {x y : Sl} {t : TypeId} {w' : World} (hc : w'.heap[w.heap.size]? = some (.cells #[x.v, y.v] t (0, 0))) : SlR kSl w' ⟨some ⟨w.heap.size, 0, none⟩, 2, 2⟩ [x, y] :=
  (OwnS.lit (k := kSl) (t := t) (B := 0) (xs := [x, y]) (Nat.zero_le _) hc rfl rfl (by simp [maxLen])).read
/-- How many pieces, after so many bytes. -/
noncomputable def many (a b : List Rule) : Nat → Int
  | 0 => 1
  | n + 1 => IntKind.wrap .i64 (many a b n * ((cuts a b n).length : Int))
noncomputable def pieces (a b : List Rule) : Int := many a b 12
noncomputable def samePieces (a b : List Rule) : Int := if RulesP a ∧ RulesP b then pieces a b else -1
end
end Go.Proofs.YteggdoigliddkaaGreatDoor.V

/- Verification conditions, printed by this session's own program (wip/vc.py) and checked by the kernel. -/
namespace Go.Proofs.YteggdoigliddkaaGreatDoor.V
open Go Go.RowKit
set_option linter.unusedVariables false
end Go.Proofs.YteggdoigliddkaaGreatDoor.V

/- Contracts: two rows of rules are the same. -/
namespace Go.Proofs.YteggdoigliddkaaGreatDoor.V
open Go Go.RowKit
set_option linter.unusedVariables false
set_option linter.unusedSimpArgs false
section
variable {w : World} {a b : Sl} {xs ys : List Rule}
end
end Go.Proofs.YteggdoigliddkaaGreatDoor.V

/- Verification conditions, printed by this session's own program (wip/vc.py) and checked by the kernel. -/
namespace Go.Proofs.YteggdoigliddkaaGreatDoor.V
open Go Go.RowKit
set_option linter.unusedVariables false
/- spec.l20Open -/
def spec.l20Open.pl : Pl := (.s (.r (D 1)) (.s (.s (.r (D 3)) (.c (.r [.d, (.t (.o (.lf .sl))), .d]) .z)) (.s (.r (D 4)) .z)))
def spec.l20Open.vc (code : Sl) (w : World) (K : Option Addr → World → Prop) : Prop :=
((decide ((((code.n : Nat) : Int) : Int) > 2000)) = true → RunT (.o (.lf .sl)) P0 (Instr.sliceAt 28 code.v none (some (.int .i64 2000)) none) w fun (t7 : Sl) w_ =>
Nw #[t7.v, (.int .i64 0)] 100 w_ fun a_t10 w__1 =>
K (some a_t10) w__1) ∧
((decide ((((code.n : Nat) : Int) : Int) > 2000)) = false → Nw #[code.v, (.int .i64 0)] 100 w fun a_t10_1 w__2 =>
K (some a_t10_1) w__2)
theorem spec.l20Open.ok {code : Sl} {w : World} {K : Option Addr → World → Prop} (h : spec.l20Open.vc code w K) : CallT (.o (.lf .p)) P0 37 [code.v] w K :=
  call_of Tryz.func37 rfl rfl (pl := spec.l20Open.pl) (show VC P0 Tryz.f37 spec.l20Open.pl (.o (.lf .p)) [code.v] w K noP from Eq.mp (by kernel_rfl) h)
/- (spec.l20Rd).pick -/
def spec.l20Rd.pick.pl : Pl := (.s (.r (D 1)) (.s (.r [.d, .d, .n, .d, (.l (.lf (.i .i64))), .d, .n, .d, .d]) (.j [] (.s (.r [.d, .d, (.sp .d), .d, .n, .d, (.l (.lf .sl)), .d, .d, .d]) (.c (.s (.r (D 1)) .z) .z)) (.s (.r [.d, .n, .d, (.l (.lf (.i .i64))), .d, .d]) (.s (.s (.r [.d, .d, .n, .d, (.l (.lf .sl)), .d, .d]) (.c (.s (.r [.d, .n, .d, (.l (.lf .sl)), .d, .d, (.l (.lf (.i .u8))), .d, .d, .d, .d]) .z) .z)) (.s (.r [.d, .n, .d, (.l (.lf .sl)), .d, .d, .n, .d, (.l (.lf .sl)), .d, .d, .d, (.l (.lf (.i .u8))), .d, .d, .d, .n, .d, (.l (.lf .sl)), .d, .d, .d, .d, .n, .d, (.l (.lf .sl)), .d, .d, .d, (.l (.lf (.i .u8))), .d, .d, .d, .d, .d, .d, .d, .d, .n, .d, (.l (.lf .sl)), .d, .d, .d, .d, .d]) (.s (.r (D 5)) (.s (.r (D 4)) .z))))))))
def spec.l20Rd.pick.vc (r : Option Addr) (n : Int) (w : World) (K : Int → World → Prop) : Prop :=
Nc r w fun a_t9 w_ =>
Ld (.i .i64) (Addr.add a_t9 1) w_ fun (t11 : Int) w__1 =>
Nc r w__1 fun a_t13 w__2 =>
St (Addr.add a_t13 1) (.int .i64 (IntKind.wrap .i64 (t11 + 1))) w__2 fun w__3 =>
∃ J : World → Prop,
(((decide ((n : Int) < 1)) = true → K 0 w__3) ∧
((decide ((n : Int) < 1)) = false → Nc r w__3 fun a_t19 w__4 =>
Ld .sl (Addr.add a_t19 0) w__4 fun (t21 : Sl) w__5 =>
(((((t21.n : Nat) : Int) : Int) == 0) = true → K 0 w__5) ∧
(((((t21.n : Nat) : Int) : Int) == 0) = false → J w__5))) ∧
(∀  w__6, J w__6 → ∀ _ : Nat → Value,
Nc r w__6 fun a_t26 w__7 =>
Ld (.i .i64) (Addr.add a_t26 1) w__7 fun (t28 : Int) w__8 =>
Nc r w__8 fun a_t32 w__9 =>
Ld .sl (Addr.add a_t32 0) w__9 fun (t34 : Sl) w__10 =>
((decide (((IntKind.wrap .i64 (t28 - 1)) : Int) < ((t34.n : Nat) : Int))) = true → Nc r w__10 fun a_t38 w__11 =>
Ld .sl (Addr.add a_t38 0) w__11 fun (t40 : Sl) w__12 =>
Ix t40.a t40.n (IntKind.wrap .i64 (t28 - 1)) 1 w__12 fun a_t42 w__13 =>
Ld (.i .u8) a_t42 w__13 fun (t43 : Int) w__14 =>
(n : Int) ≠ 0 ∧ K (Int.tmod (IntKind.wrap .i64 t43) n) w__14) ∧
((decide (((IntKind.wrap .i64 (t28 - 1)) : Int) < ((t34.n : Nat) : Int))) = false → ∃ a_t48, r = some a_t48 ∧ QLd .sl (Addr.add a_t48 0) (fun w' => Below (World.heap w__10).size w__10 w') fun (t50 : Sl) =>
∃ a_t53, r = some a_t53 ∧ QLd .sl (Addr.add a_t53 0) (fun w' => Below (World.heap w__10).size w__10 w') fun (t55 : Sl) =>
(((t55.n : Nat) : Int) : Int) ≠ 0 ∧ QIx t50.a t50.n (Int.tmod (IntKind.wrap .i64 (t28 - 1)) ((t55.n : Nat) : Int)) 1 fun a_t58 =>
QLd (.i .u8) a_t58 (fun w' => Below (World.heap w__10).size w__10 w') fun (t59 : Int) =>
∃ a_t63, r = some a_t63 ∧ QLd .sl (Addr.add a_t63 0) (fun w' => Below (World.heap w__10).size w__10 w') fun (t65 : Sl) =>
∃ a_t70, r = some a_t70 ∧ QLd .sl (Addr.add a_t70 0) (fun w' => Below (World.heap w__10).size w__10 w') fun (t72 : Sl) =>
(((t72.n : Nat) : Int) : Int) ≠ 0 ∧ QIx t65.a t65.n (Int.tmod (IntKind.wrap .i64 ((IntKind.wrap .i64 ((IntKind.wrap .i64 (t28 - 1)) * 7)) + 3)) ((t72.n : Nat) : Int)) 1 fun a_t75 =>
QLd (.i .u8) a_t75 (fun w' => Below (World.heap w__10).size w__10 w') fun (t76 : Int) =>
∃ a_t85, r = some a_t85 ∧ QLd .sl (Addr.add a_t85 0) (fun w' => Below (World.heap w__10).size w__10 w') fun (t87 : Sl) =>
(((t87.n : Nat) : Int) : Int) ≠ 0 ∧ ∀ w__15, Below (World.heap w__10).size w__10 w__15 →
(64 : Int) ≠ 0 ∧ (n : Int) ≠ 0 ∧ K (Int.tmod (iXor .i64 (IntKind.wrap .i64 ((IntKind.wrap .i64 ((IntKind.wrap .i64 ((IntKind.wrap .i64 ((IntKind.wrap .i64 t59) * 131)) + (IntKind.wrap .i64 ((IntKind.wrap .i64 t76) * 1117)))) + (IntKind.wrap .i64 ((IntKind.wrap .i64 (t28 - 1)) * 29)))) + (IntKind.wrap .i64 ((IntKind.wrap .i64 (Int.tdiv (IntKind.wrap .i64 (t28 - 1)) ((t87.n : Nat) : Int))) * 53)))) (IntKind.wrap .i64 (Int.tdiv (IntKind.wrap .i64 ((IntKind.wrap .i64 ((IntKind.wrap .i64 ((IntKind.wrap .i64 ((IntKind.wrap .i64 t59) * 131)) + (IntKind.wrap .i64 ((IntKind.wrap .i64 t76) * 1117)))) + (IntKind.wrap .i64 ((IntKind.wrap .i64 (t28 - 1)) * 29)))) + (IntKind.wrap .i64 ((IntKind.wrap .i64 (Int.tdiv (IntKind.wrap .i64 (t28 - 1)) ((t87.n : Nat) : Int))) * 53)))) 64))) n) w__15))
theorem spec.l20Rd.pick.ok {r : Option Addr} {n : Int} {w : World} {K : Int → World → Prop} (h : spec.l20Rd.pick.vc r n w K) : CallT (.o (.lf (.i .i64))) P0 39 [(.pointer r), (.int .i64 n)] w K :=
  call_of Tryz.func39 rfl rfl (pl := spec.l20Rd.pick.pl) (show VC P0 Tryz.f39 spec.l20Rd.pick.pl (.o (.lf (.i .i64))) [(.pointer r), (.int .i64 n)] w K noP from Eq.mp (by kernel_rfl) h)
/- (spec.l20Rd).one -/
def spec.l20Rd.one.pl : Pl := (.s (.r (D 1)) (.s (.r [.d, .d, .d, .d, (.c (.o (.lf (.i .i64)))), .d, (.l (.lf (.i .i64))), .d]) .z))
def spec.l20Rd.one.vc (r : Option Addr) (list : Sl) (w : World) (K : Int → World → Prop) : Prop :=
CallT (.o (.lf (.i .i64))) P0 39 [(.pointer r), (.int .i64 ((list.n : Nat) : Int))] w fun (t9 : Int) w_ =>
Ix list.a list.n t9 1 w_ fun a_t10 w__1 =>
Ld (.i .i64) a_t10 w__1 fun (t11 : Int) w__2 =>
K t11 w__2
theorem spec.l20Rd.one.ok {r : Option Addr} {list : Sl} {w : World} {K : Int → World → Prop} (h : spec.l20Rd.one.vc r list w K) : CallT (.o (.lf (.i .i64))) P0 78 [(.pointer r), list.v] w K :=
  call_of Tryz.func78 rfl rfl (pl := spec.l20Rd.one.pl) (show VC P0 Tryz.f78 spec.l20Rd.one.pl (.o (.lf (.i .i64))) [(.pointer r), list.v] w K noP from Eq.mp (by kernel_rfl) h)
/- spec.l20Imm -/
def spec.l20Imm.pl : Pl := (.s (.r (D 1)) (.s (.r [.d, .d, (.c (.o (.lf (.i .i64)))), .d]) .z))
def spec.l20Imm.vc (r : Option Addr) (w : World) (K : Int → World → Prop) : Prop :=
Nw #[(.int .i64 0), (.int .i64 1), (.int .i64 2), (.int .i64 3), (.int .i64 7), (.int .i64 8), (.int .i64 15), (.int .i64 31), (.int .i64 100), (.int .i64 255), (.int .i64 65535), (.int .i64 2147483647), (.int .i64 2147483648), (.int .i64 4294967295)] 3 w fun a_t4 w_ =>
CallT (.o (.lf (.i .i64))) P0 78 [(.pointer r), (.slice (some a_t4) 14 14)] w_ fun (t5 : Int) w__1 =>
K t5 w__1
theorem spec.l20Imm.ok {r : Option Addr} {w : World} {K : Int → World → Prop} (h : spec.l20Imm.vc r w K) : CallT (.o (.lf (.i .i64))) P0 77 [(.pointer r)] w K :=
  call_of Tryz.func77 rfl rfl (pl := spec.l20Imm.pl) (show VC P0 Tryz.f77 spec.l20Imm.pl (.o (.lf (.i .i64))) [(.pointer r)] w K noP from Eq.mp (by kernel_rfl) h)
/- spec.l20Alu -/
def spec.l20Alu.pl : Pl := (.s (.r (D 1)) (.s (.r [.d, (.c (.o (.lf (.i .i64)))), .d, .d, .d, (.c (.o (.lf (.i .i64)))), .d, (.c (.o (.lf (.i .i64)))), .d, .d, .d]) (.s (.s (.r [.d, (.c (.o (.lf (.i .i64)))), .d]) (.c (.s (.r [.d, .d, (.c (.o (.lf (.i .i64)))), .d, .d]) (.r (D 2))) .z)) (.s (.r [(.l (.ag (R 6 (.i .i64)))), .d]) .z))))
def spec.l20Alu.vc (r : Option Addr) (w : World) (K : Tup (R 6 (.i .i64)) → World → Prop) : Prop :=
Nw (zc P0 39) 39 w fun a_t2 w_ =>
CallT (.o (.lf (.i .i64))) P0 39 [(.pointer r), (.int .i64 11)] w_ fun (t5 : Int) w__1 =>
Nw #[(.int .i64 0), (.int .i64 6), (.int .i64 7), (.int .i64 8)] 3 w__1 fun a_t8 w__2 =>
CallT (.o (.lf (.i .i64))) P0 78 [(.pointer r), (.slice (some a_t8) 4 4)] w__2 fun (t9 : Int) w__3 =>
CallT (.o (.lf (.i .i64))) P0 77 [(.pointer r)] w__3 fun (t11 : Int) w__4 =>
Nw (zc P0 39) 39 w__4 fun a_x w__5 =>
StA P0 a_x [(.int .i64 (IntKind.wrap .i64 (1 + t5))), (.int .i64 t9), (.int .i64 (-1)), (.int .i64 0), (.int .i64 t11), (.int .i64 0)] w__5 fun w__6 =>
CallT (.o (.lf (.i .i64))) P0 39 [(.pointer r), (.int .i64 2)] w__6 fun (t14 : Int) w__7 =>
(((t14 : Int) == 0) = true → Nw #[(.int .i64 0), (.int .i64 6), (.int .i64 7), (.int .i64 8)] 3 w__7 fun a_t17 w__8 =>
CallT (.o (.lf (.i .i64))) P0 78 [(.pointer r), (.slice (some a_t17) 4 4)] w__8 fun (t18 : Int) w__9 =>
St (Addr.add a_x 2) (.int .i64 t18) w__9 fun w__10 =>
St (Addr.add a_x 4) (.int .i64 0) w__10 fun w__11 =>
LdA (R 6 (.i .i64)) a_x w__11 fun (t21 : Tup (R 6 (.i .i64))) w__12 =>
StA P0 a_t2 (Tup.cells (R 6 (.i .i64)) t21) w__12 fun w__13 =>
LdA (R 6 (.i .i64)) a_t2 w__13 fun r_1 w__14 =>
K r_1 w__13) ∧
(((t14 : Int) == 0) = false → LdA (R 6 (.i .i64)) a_x w__7 fun (t21_1 : Tup (R 6 (.i .i64))) w__15 =>
StA P0 a_t2 (Tup.cells (R 6 (.i .i64)) t21_1) w__15 fun w__16 =>
LdA (R 6 (.i .i64)) a_t2 w__16 fun r_2 w__17 =>
K r_2 w__16)
theorem spec.l20Alu.ok {r : Option Addr} {w : World} {K : Tup (R 6 (.i .i64)) → World → Prop} (h : spec.l20Alu.vc r w K) : CallT (.o (.ag (R 6 (.i .i64)))) P0 79 [(.pointer r)] w K :=
  call_of Tryz.func79 rfl rfl (pl := spec.l20Alu.pl) (show VC P0 Tryz.f79 spec.l20Alu.pl (.o (.ag (R 6 (.i .i64)))) [(.pointer r)] w K noP from Eq.mp (by kernel_rfl) h)
/- spec.l20Lines -/
def spec.l20Lines.pl : Pl := (.s (.r (D 1)) (.s (.r (D 17)) .z))
def spec.l20Lines.vc  (w : World) (K : Sl → World → Prop) : Prop :=
Nw #[(.string ⟨#[109, 111, 118, 32, 114, 48, 32, 49]⟩), (.string ⟨#[101, 120, 105, 116]⟩)] 9 w fun a_t1 w_ =>
Nw #[(.string ⟨#[108, 111, 97, 100, 49, 32, 114, 50, 32, 114, 49, 32, 48]⟩), (.string ⟨#[109, 111, 118, 32, 114, 48, 32, 48]⟩), (.string ⟨#[108, 101, 115, 115, 32, 114, 50, 32, 49, 48, 32, 49]⟩), (.string ⟨#[109, 111, 118, 32, 114, 48, 32, 49]⟩), (.string ⟨#[101, 120, 105, 116]⟩)] 9 w_ fun a_t2 w__1 =>
Nw #[(.string ⟨#[108, 111, 97, 100, 49, 32, 114, 54, 32, 114, 49, 32, 48]⟩), (.string ⟨#[97, 110, 100, 32, 114, 54, 32, 51]⟩), (.string ⟨#[109, 111, 118, 32, 114, 49, 32, 48]⟩), (.string ⟨#[109, 111, 118, 32, 114, 50, 32, 114, 54]⟩), (.string ⟨#[99, 97, 108, 108, 32, 108, 111, 111, 107]⟩), (.string ⟨#[111, 116, 104, 101, 114, 32, 114, 48, 32, 48, 32, 50]⟩), (.string ⟨#[109, 111, 118, 32, 114, 48, 32, 48]⟩), (.string ⟨#[101, 120, 105, 116]⟩), (.string ⟨#[108, 111, 97, 100, 49, 32, 114, 51, 32, 114, 48, 32, 48]⟩), (.string ⟨#[97, 100, 100, 32, 114, 51, 32, 49]⟩), (.string ⟨#[115, 116, 111, 114, 101, 49, 32, 114, 48, 32, 48, 32, 114, 51]⟩), (.string ⟨#[109, 111, 118, 32, 114, 48, 32, 49]⟩), (.string ⟨#[101, 120, 105, 116]⟩)] 9 w__1 fun a_t3 w__2 =>
Nw #[(.string ⟨#[108, 111, 97, 100, 52, 32, 114, 50, 32, 114, 49, 32, 48]⟩), (.string ⟨#[115, 116, 111, 114, 101, 52, 32, 114, 49, 48, 32, 45, 52, 32, 114, 50]⟩), (.string ⟨#[108, 111, 97, 100, 49, 32, 114, 48, 32, 114, 49, 48, 32, 45, 51]⟩), (.string ⟨#[97, 110, 100, 32, 114, 48, 32, 49]⟩), (.string ⟨#[101, 120, 105, 116]⟩)] 9 w__2 fun a_t4 w__3 =>
Nw #[(.string ⟨#[108, 111, 97, 100, 49, 32, 114, 49, 32, 114, 49, 32, 48]⟩), (.string ⟨#[99, 97, 108, 108, 32, 102, 105, 110, 100]⟩), (.string ⟨#[115, 97, 109, 101, 32, 114, 48, 32, 48, 32, 52]⟩), (.string ⟨#[109, 111, 118, 32, 114, 49, 32, 114, 48]⟩), (.string ⟨#[99, 97, 108, 108, 32, 100, 114, 111, 112]⟩), (.string ⟨#[109, 111, 118, 32, 114, 48, 32, 49]⟩), (.string ⟨#[101, 120, 105, 116]⟩), (.string ⟨#[109, 111, 118, 32, 114, 48, 32, 48]⟩), (.string ⟨#[101, 120, 105, 116]⟩)] 9 w__3 fun a_t5 w__4 =>
Nw #[(.string ⟨#[108, 111, 97, 100, 49, 32, 114, 49, 32, 114, 49, 32, 48]⟩), (.string ⟨#[99, 97, 108, 108, 32, 115, 101, 110, 100]⟩), (.string ⟨#[109, 111, 118, 32, 114, 48, 32, 50]⟩), (.string ⟨#[101, 120, 105, 116]⟩)] 9 w__4 fun a_t6 w__5 =>
Nw #[(.string ⟨#[109, 111, 118, 32, 114, 54, 32, 48]⟩), (.string ⟨#[97, 100, 100, 32, 114, 54, 32, 49]⟩), (.string ⟨#[108, 101, 115, 115, 32, 114, 54, 32, 53, 32, 45, 50]⟩), (.string ⟨#[109, 111, 118, 32, 114, 48, 32, 114, 54]⟩), (.string ⟨#[101, 120, 105, 116]⟩)] 9 w__5 fun a_t7 w__6 =>
Nw #[(.string ⟨#[108, 111, 97, 100, 49, 32, 114, 50, 32, 114, 49, 32, 48]⟩), (.string ⟨#[97, 110, 100, 32, 114, 50, 32, 55]⟩), (.string ⟨#[109, 111, 118, 32, 114, 51, 32, 114, 49]⟩), (.string ⟨#[97, 100, 100, 32, 114, 51, 32, 114, 50]⟩), (.string ⟨#[108, 111, 97, 100, 49, 32, 114, 48, 32, 114, 51, 32, 48]⟩), (.string ⟨#[101, 120, 105, 116]⟩)] 9 w__6 fun a_t8 w__7 =>
Nw #[(.string ⟨#[99, 97, 108, 108, 32, 114, 97, 110, 100]⟩), (.string ⟨#[109, 111, 100, 32, 114, 48, 32, 51]⟩), (.string ⟨#[101, 120, 105, 116]⟩)] 9 w__7 fun a_t9 w__8 =>
Nw #[(.string ⟨#[108, 111, 97, 100, 50, 32, 114, 50, 32, 114, 49, 32, 52]⟩), (.string ⟨#[109, 111, 118, 32, 114, 48, 32, 114, 50]⟩), (.string ⟨#[115, 104, 114, 32, 114, 48, 32, 52]⟩), (.string ⟨#[120, 111, 114, 32, 114, 48, 32, 50, 53, 53]⟩), (.string ⟨#[100, 105, 118, 32, 114, 48, 32, 51]⟩), (.string ⟨#[101, 120, 105, 116]⟩)] 9 w__8 fun a_t10 w__9 =>
Nw #[(.string ⟨#[108, 111, 97, 100, 49, 32, 114, 54, 32, 114, 49, 32, 48]⟩), (.string ⟨#[109, 111, 118, 32, 114, 49, 32, 49]⟩), (.string ⟨#[109, 111, 118, 32, 114, 50, 32, 114, 54]⟩), (.string ⟨#[109, 111, 118, 32, 114, 51, 32, 55]⟩), (.string ⟨#[99, 97, 108, 108, 32, 112, 117, 116]⟩), (.string ⟨#[101, 120, 105, 116]⟩)] 9 w__9 fun a_t11 w__10 =>
Nw #[(.string ⟨#[108, 111, 97, 100, 49, 32, 114, 49, 32, 114, 49, 32, 49]⟩), (.string ⟨#[99, 97, 108, 108, 32, 102, 105, 110, 100]⟩), (.string ⟨#[109, 111, 118, 32, 114, 54, 32, 114, 48]⟩), (.string ⟨#[111, 116, 104, 101, 114, 32, 114, 54, 32, 48, 32, 50]⟩), (.string ⟨#[109, 111, 118, 32, 114, 48, 32, 48]⟩), (.string ⟨#[101, 120, 105, 116]⟩), (.string ⟨#[109, 111, 118, 32, 114, 49, 32, 114, 54]⟩), (.string ⟨#[99, 97, 108, 108, 32, 100, 114, 111, 112]⟩), (.string ⟨#[109, 111, 118, 32, 114, 48, 32, 50]⟩), (.string ⟨#[101, 120, 105, 116]⟩)] 9 w__10 fun a_t12 w__11 =>
Nw #[(.string ⟨#[108, 111, 97, 100, 49, 32, 114, 50, 32, 114, 49, 32, 48]⟩), (.string ⟨#[109, 111, 114, 101, 32, 114, 50, 32, 55, 32, 50]⟩), (.string ⟨#[115, 116, 111, 114, 101, 49, 32, 114, 49, 48, 32, 45, 49, 32, 114, 50]⟩), (.string ⟨#[103, 111, 32, 49]⟩), (.string ⟨#[115, 116, 111, 114, 101, 49, 32, 114, 49, 48, 32, 45, 49, 32, 48]⟩), (.string ⟨#[108, 111, 97, 100, 49, 32, 114, 48, 32, 114, 49, 48, 32, 45, 49]⟩), (.string ⟨#[101, 120, 105, 116]⟩)] 9 w__11 fun a_t13 w__12 =>
Nw #[(.string ⟨#[108, 111, 97, 100, 49, 32, 114, 50, 32, 114, 49, 32, 48]⟩), (.string ⟨#[108, 101, 115, 115, 32, 114, 50, 32, 57, 32, 49]⟩), (.string ⟨#[109, 111, 118, 32, 114, 50, 32, 56]⟩), (.string ⟨#[109, 111, 118, 32, 114, 51, 32, 114, 49, 48]⟩), (.string ⟨#[115, 117, 98, 32, 114, 51, 32, 49, 54]⟩), (.string ⟨#[115, 116, 111, 114, 101, 52, 32, 114, 51, 32, 48, 32, 49]⟩), (.string ⟨#[115, 116, 111, 114, 101, 52, 32, 114, 51, 32, 52, 32, 50]⟩), (.string ⟨#[115, 116, 111, 114, 101, 52, 32, 114, 51, 32, 56, 32, 51]⟩), (.string ⟨#[97, 100, 100, 32, 114, 51, 32, 114, 50]⟩), (.string ⟨#[108, 111, 97, 100, 49, 32, 114, 48, 32, 114, 51, 32, 48]⟩), (.string ⟨#[101, 120, 105, 116]⟩)] 9 w__12 fun a_t14 w__13 =>
Nw #[(.string ⟨#[108, 111, 97, 100, 49, 32, 114, 50, 32, 114, 49, 32, 48]⟩), (.string ⟨#[109, 117, 108, 32, 114, 50, 32, 49, 48, 48, 48]⟩), (.string ⟨#[109, 111, 118, 32, 114, 48, 32, 114, 50]⟩), (.string ⟨#[109, 111, 114, 101, 32, 114, 48, 32, 49, 48, 48, 48, 48, 48, 32, 49]⟩), (.string ⟨#[115, 117, 98, 32, 114, 48, 32, 49]⟩), (.string ⟨#[101, 120, 105, 116]⟩)] 9 w__13 fun a_t15 w__14 =>
Nw #[(.slice (some a_t1) 2 2), (.slice (some a_t2) 5 5), (.slice (some a_t3) 13 13), (.slice (some a_t4) 5 5), (.slice (some a_t5) 9 9), (.slice (some a_t6) 4 4), (.slice (some a_t7) 5 5), (.slice (some a_t8) 6 6), (.slice (some a_t9) 3 3), (.slice (some a_t10) 6 6), (.slice (some a_t11) 6 6), (.slice (some a_t12) 10 10), (.slice (some a_t13) 7 7), (.slice (some a_t14) 11 11), (.slice (some a_t15) 6 6)] 35 w__14 fun a_t16 w__15 =>
K ⟨(some a_t16), 15, 15⟩ w__15
theorem spec.l20Lines.ok  {w : World} {K : Sl → World → Prop} (h : spec.l20Lines.vc  w K) : CallT (.o (.lf .sl)) P0 75 [] w K :=
  call_of Tryz.func75 rfl rfl (pl := spec.l20Lines.pl) (show VC P0 Tryz.f75 spec.l20Lines.pl (.o (.lf .sl)) [] w K noP from Eq.mp (by kernel_rfl) h)
/- spec.l20Read -/
def spec.l20Read.pl : Pl := (.s (.r (D 1)) (.s (.r (D 2)) (.s (.s (.r (D 1)) (.b (.l [(3, .sl), (4, (.i .i64))] (.s (.s (.r (D 4)) (.c .z .z)) (.s (.b (.s (.r [.d, .d, .d, (.l (.lf .s)), (.c (.n [(.ag (R 6 (.i .i64))), (.lf .b)])), .d, .d, .d, .d, .d, .d]) (.r [.d, (.l (.ag (R 6 (.i .i64)))), .d, (.t (.o (.lf .sl))), .d]))) (.r (D 3))))))) (.s (.r (D 2)) .z))))
def spec.l20Read.vc (list : Sl) (w : World) (K : Sl → World → Prop) : Prop :=
Nw #[] 39 w fun a_t7 w_ =>
∃ (I : Sl → Int → World → Prop) (M : Sl → Int → World → Nat),
I ⟨(some a_t7), 0, 0⟩ 0 w_ ∧
(∀ (out : Sl) (i : Int) w__1, I out i w__1 → ∀ _ : Nat → Value,
((decide ((i : Int) < ((list.n : Nat) : Int))) = true → Ix list.a list.n i 1 w__1 fun a_t17 w__2 =>
Ld .s a_t17 w__2 fun (t18 : ByteArray) w__3 =>
CallT (.n [(.ag (R 6 (.i .i64))), (.lf .b)]) P0 47 [(.string t18)] w__3 fun (t19 : (Tup (R 6 (.i .i64))) × (Bool) × Unit) w__4 =>
Nw (zc P0 39) 39 w__4 fun a_x w__5 =>
StA P0 a_x (Tup.cells (R 6 (.i .i64)) t19.1) w__5 fun w__6 =>
LdA (R 6 (.i .i64)) a_x w__6 fun (t23 : Tup (R 6 (.i .i64))) w__7 =>
Nw #[(.int .i64 t23.1), (.int .i64 t23.2.1), (.int .i64 t23.2.2.1), (.int .i64 t23.2.2.2.1), (.int .i64 t23.2.2.2.2.1), (.int .i64 t23.2.2.2.2.2.1)] 39 w__7 fun a_t24 w__8 =>
RunT (.o (.lf .sl)) P0 (Builtin.append_ #[22, 22] 22 #[out.v, (.slice (some a_t24) 1 1)]) w__8 fun (t25 : Sl) w__9 =>
(I t25 (IntKind.wrap .i64 (i + 1)) w__9 ∧ M t25 (IntKind.wrap .i64 (i + 1)) w__9 < M out i w__1)) ∧
((decide ((i : Int) < ((list.n : Nat) : Int))) = false → K out w__1))
theorem spec.l20Read.ok {list : Sl} {w : World} {K : Sl → World → Prop} (h : spec.l20Read.vc list w K) : CallT (.o (.lf .sl)) P0 76 [list.v] w K :=
  call_of Tryz.func76 rfl rfl (pl := spec.l20Read.pl) (show VC P0 Tryz.f76 spec.l20Read.pl (.o (.lf .sl)) [list.v] w K noP from Eq.mp (by kernel_rfl) h)
/- spec.l20Make -/
def spec.l20Make.pl : Pl := (.s (.r (D 1)) (.s (.r [.d, (.c (.o (.lf .sl))), .d]) (.s (.r [.d, (.c (.o (.lf (.i .i64)))), .d, .d]) (.s (.b (.l [(3, .sl)] (.s (.s (.r (D 5)) (.c .z .z)) (.b (.s (.r (D 6)) (.s (.r [.d, (.c (.o (.lf (.i .i64))))]) (.b (.j [(29, .b)] (.s (.r (D 2)) (.c .z (.r (D 2)))) (.c (.s (.r [.d, (.c (.o (.lf (.i .i64)))), .d, .d, .d, (.c (.o (.lf (.i .i64)))), .d, (.c (.o (.lf (.i .i64)))), .d, .d, (.c (.o (.lf (.i .i64)))), .d, .d, .d]) (.s (.s (.r [.d, (.c (.o (.lf (.i .i64)))), .d]) (.c (.s (.r [.d, .d, (.c (.o (.lf (.i .i64)))), .d, .d]) (.r (D 2))) .z)) (.r [.d, (.l (.ag (R 6 (.i .i64)))), .d, (.t (.o (.lf .sl))), .d]))) (.s (.r (D 2)) (.c (.r [.d, .d, .d, (.c (.o (.lf (.i .i64)))), .d, .d, (.c (.o (.lf (.i .i64)))), .d, .d, (.c (.o (.lf (.i .i64)))), .d, .d, (.t (.o (.lf .sl))), .d]) (.s (.r (D 2)) (.c (.r [.d, .d, .d, (.c (.o (.lf (.i .i64)))), .d, .d, (.c (.o (.lf (.i .i64)))), .d, .d, (.c (.o (.lf (.i .i64)))), .d, .d, (.c (.o (.lf (.i .i64)))), .d, .d, (.t (.o (.lf .sl))), .d]) (.r [.d, .d, (.c (.o (.ag (R 6 (.i .i64))))), .d, (.t (.o (.lf .sl))), .d])))))))))))))) (.s (.r [.d, .d, .d, (.t (.o (.lf .sl))), .d]) .z)))))
def spec.l20Make.vc (r : Option Addr) (w : World) (K : Sl → World → Prop) : Prop :=
Nw #[(.string ⟨#[109, 111, 118, 32, 114, 48, 32, 49]⟩), (.string ⟨#[108, 111, 97, 100, 49, 32, 114, 54, 32, 114, 49, 32, 48]⟩), (.string ⟨#[108, 111, 97, 100, 52, 32, 114, 55, 32, 114, 49, 32, 52]⟩), (.string ⟨#[109, 111, 118, 32, 114, 56, 32, 53]⟩)] 9 w fun a_t7 w_ =>
CallT (.o (.lf .sl)) P0 76 [(.slice (some a_t7) 4 4)] w_ fun (t8 : Sl) w__1 =>
CallT (.o (.lf (.i .i64))) P0 39 [(.pointer r), (.int .i64 14)] w__1 fun (t10 : Int) w__2 =>
∃ (I : Sl → World → Prop) (M : Sl → World → Nat),
I t8 w__2 ∧
(∀ (out : Sl) w__3, I out w__3 → ∀ _ : Nat → Value,
((decide ((((out.n : Nat) : Int) : Int) < (IntKind.wrap .i64 ((IntKind.wrap .i64 (4 + t10)) + 4)))) = true → CallT (.o (.lf (.i .i64))) P0 39 [(.pointer r), (.int .i64 7)] w__3 fun (t23 : Int) w__4 =>
∃ J : Bool → World → Prop,
((((t23 : Int) == 0) = true → J ((t23 : Int) == 0) w__4) ∧
(((t23 : Int) == 0) = false → J ((t23 : Int) == 1) w__4)) ∧
(∀ (t29 : Bool) w__5, J t29 w__5 → ∀ _ : Nat → Value,
(t29 = true → CallT (.o (.lf (.i .i64))) P0 39 [(.pointer r), (.int .i64 4)] w__5 fun (t33 : Int) w__6 =>
Nw #[(.int .i64 0), (.int .i64 6), (.int .i64 7), (.int .i64 8)] 3 w__6 fun a_t36 w__7 =>
CallT (.o (.lf (.i .i64))) P0 78 [(.pointer r), (.slice (some a_t36) 4 4)] w__7 fun (t37 : Int) w__8 =>
CallT (.o (.lf (.i .i64))) P0 77 [(.pointer r)] w__8 fun (t39 : Int) w__9 =>
CallT (.o (.lf (.i .i64))) P0 39 [(.pointer r), (.int .i64 (IntKind.wrap .i64 ((IntKind.wrap .i64 ((IntKind.wrap .i64 (4 + t10)) + 4)) - ((out.n : Nat) : Int))))] w__9 fun (t42 : Int) w__10 =>
Nw (zc P0 39) 39 w__10 fun a_x w__11 =>
StA P0 a_x [(.int .i64 (IntKind.wrap .i64 (12 + t33))), (.int .i64 t37), (.int .i64 (-1)), (.int .i64 t42), (.int .i64 t39), (.int .i64 0)] w__11 fun w__12 =>
CallT (.o (.lf (.i .i64))) P0 39 [(.pointer r), (.int .i64 3)] w__12 fun (t45 : Int) w__13 =>
(((t45 : Int) == 0) = true → Nw #[(.int .i64 0), (.int .i64 6), (.int .i64 7), (.int .i64 8)] 3 w__13 fun a_t48 w__14 =>
CallT (.o (.lf (.i .i64))) P0 78 [(.pointer r), (.slice (some a_t48) 4 4)] w__14 fun (t49 : Int) w__15 =>
St (Addr.add a_x 2) (.int .i64 t49) w__15 fun w__16 =>
St (Addr.add a_x 4) (.int .i64 0) w__16 fun w__17 =>
LdA (R 6 (.i .i64)) a_x w__17 fun (t53 : Tup (R 6 (.i .i64))) w__18 =>
Nw #[(.int .i64 t53.1), (.int .i64 t53.2.1), (.int .i64 t53.2.2.1), (.int .i64 t53.2.2.2.1), (.int .i64 t53.2.2.2.2.1), (.int .i64 t53.2.2.2.2.2.1)] 39 w__18 fun a_t54 w__19 =>
RunT (.o (.lf .sl)) P0 (Builtin.append_ #[22, 22] 22 #[out.v, (.slice (some a_t54) 1 1)]) w__19 fun (t55 : Sl) w__20 =>
(I t55 w__20 ∧ M t55 w__20 < M out w__3)) ∧
(((t45 : Int) == 0) = false → LdA (R 6 (.i .i64)) a_x w__13 fun (t53_1 : Tup (R 6 (.i .i64))) w__21 =>
Nw #[(.int .i64 t53_1.1), (.int .i64 t53_1.2.1), (.int .i64 t53_1.2.2.1), (.int .i64 t53_1.2.2.2.1), (.int .i64 t53_1.2.2.2.2.1), (.int .i64 t53_1.2.2.2.2.2.1)] 39 w__21 fun a_t54_1 w__22 =>
RunT (.o (.lf .sl)) P0 (Builtin.append_ #[22, 22] 22 #[out.v, (.slice (some a_t54_1) 1 1)]) w__22 fun (t55_1 : Sl) w__23 =>
(I t55_1 w__23 ∧ M t55_1 w__23 < M out w__3))) ∧
(t29 = false → (((t23 : Int) == 2) = true → Nw #[(.int .i64 0), (.int .i64 6), (.int .i64 7), (.int .i64 8)] 3 w__5 fun a_t60 w__24 =>
CallT (.o (.lf (.i .i64))) P0 78 [(.pointer r), (.slice (some a_t60) 4 4)] w__24 fun (t61 : Int) w__25 =>
Nw #[(.int .i64 (-4)), (.int .i64 (-8)), (.int .i64 (-2))] 3 w__25 fun a_t63 w__26 =>
CallT (.o (.lf (.i .i64))) P0 78 [(.pointer r), (.slice (some a_t63) 3 3)] w__26 fun (t64 : Int) w__27 =>
Nw #[(.int .i64 1), (.int .i64 2)] 3 w__27 fun a_t66 w__28 =>
CallT (.o (.lf (.i .i64))) P0 78 [(.pointer r), (.slice (some a_t66) 2 2)] w__28 fun (t67 : Int) w__29 =>
Nw #[(.int .i64 18), (.int .i64 10), (.int .i64 t61), (.int .i64 t64), (.int .i64 0), (.int .i64 t67)] 39 w__29 fun a_t69 w__30 =>
RunT (.o (.lf .sl)) P0 (Builtin.append_ #[22, 22] 22 #[out.v, (.slice (some a_t69) 1 1)]) w__30 fun (t70 : Sl) w__31 =>
(I t70 w__31 ∧ M t70 w__31 < M out w__3)) ∧
(((t23 : Int) == 2) = false → (((t23 : Int) == 3) = true → Nw #[(.int .i64 0), (.int .i64 6), (.int .i64 8)] 3 w__5 fun a_t75 w__32 =>
CallT (.o (.lf (.i .i64))) P0 78 [(.pointer r), (.slice (some a_t75) 3 3)] w__32 fun (t76 : Int) w__33 =>
Nw #[(.int .i64 1), (.int .i64 10), (.int .i64 1)] 3 w__33 fun a_t78 w__34 =>
CallT (.o (.lf (.i .i64))) P0 78 [(.pointer r), (.slice (some a_t78) 3 3)] w__34 fun (t79 : Int) w__35 =>
Nw #[(.int .i64 0), (.int .i64 3), (.int .i64 8)] 3 w__35 fun a_t81 w__36 =>
CallT (.o (.lf (.i .i64))) P0 78 [(.pointer r), (.slice (some a_t81) 3 3)] w__36 fun (t82 : Int) w__37 =>
Nw #[(.int .i64 1), (.int .i64 2), (.int .i64 4)] 3 w__37 fun a_t84 w__38 =>
CallT (.o (.lf (.i .i64))) P0 78 [(.pointer r), (.slice (some a_t84) 3 3)] w__38 fun (t85 : Int) w__39 =>
Nw #[(.int .i64 17), (.int .i64 t76), (.int .i64 t79), (.int .i64 t82), (.int .i64 0), (.int .i64 t85)] 39 w__39 fun a_t87 w__40 =>
RunT (.o (.lf .sl)) P0 (Builtin.append_ #[22, 22] 22 #[out.v, (.slice (some a_t87) 1 1)]) w__40 fun (t88 : Sl) w__41 =>
(I t88 w__41 ∧ M t88 w__41 < M out w__3)) ∧
(((t23 : Int) == 3) = false → CallT (.o (.ag (R 6 (.i .i64)))) P0 79 [(.pointer r)] w__5 fun (t26 : Tup (R 6 (.i .i64))) w__42 =>
Nw #[(.int .i64 t26.1), (.int .i64 t26.2.1), (.int .i64 t26.2.2.1), (.int .i64 t26.2.2.2.1), (.int .i64 t26.2.2.2.2.1), (.int .i64 t26.2.2.2.2.2.1)] 39 w__42 fun a_t27 w__43 =>
RunT (.o (.lf .sl)) P0 (Builtin.append_ #[22, 22] 22 #[out.v, (.slice (some a_t27) 1 1)]) w__43 fun (t28 : Sl) w__44 =>
(I t28 w__44 ∧ M t28 w__44 < M out w__3)))))) ∧
((decide ((((out.n : Nat) : Int) : Int) < (IntKind.wrap .i64 ((IntKind.wrap .i64 (4 + t10)) + 4)))) = false → Nw #[(.int .i64 20), (.int .i64 0), (.int .i64 (-1)), (.int .i64 0), (.int .i64 0), (.int .i64 0)] 39 w__3 fun a_t91 w__45 =>
RunT (.o (.lf .sl)) P0 (Builtin.append_ #[22, 22] 22 #[out.v, (.slice (some a_t91) 1 1)]) w__45 fun (t92 : Sl) w__46 =>
K t92 w__46))
theorem spec.l20Make.ok {r : Option Addr} {w : World} {K : Sl → World → Prop} (h : spec.l20Make.vc r w K) : CallT (.o (.lf .sl)) P0 74 [(.pointer r)] w K :=
  call_of Tryz.func74 rfl rfl (pl := spec.l20Make.pl) (show VC P0 Tryz.f74 spec.l20Make.pl (.o (.lf .sl)) [(.pointer r)] w K noP from Eq.mp (by kernel_rfl) h)
/- spec.l20Prog -/
def spec.l20Prog.pl : Pl := (.s (.r (D 1)) (.s (.r [.d, (.c (.o (.lf .sl))), .d]) (.j [(3, .sl)] (.s (.r [.d, (.c (.o (.lf (.i .i64)))), .d]) (.c (.s (.r [(.c (.o (.lf .sl))), .d]) (.r [.d, .d, .d, .d, (.c (.o (.lf (.i .i64)))), .d, (.l (.lf .sl)), (.c (.o (.lf .sl))), .d])) .z)) (.s (.s (.r [.d, (.c (.o (.lf (.i .i64)))), .d]) (.c (.s (.r [.d, .d, .d, (.c (.o (.lf (.i .i64)))), .d]) (.s (.r [.d, (.c (.o (.lf (.i .i64))))]) (.b (.s (.r (D 2)) (.c (.r [.d, .d, .d, (.c (.o (.lf (.i .i64)))), .d, .d, .d]) (.s (.r (D 2)) (.c (.r [.d, .d, .d, .d, (.c (.o (.lf (.i .i64)))), .d, .d, .d]) (.s (.r (D 2)) (.c (.r [.d, .d, .d, (.c (.o (.lf (.i .i64)))), .d, .d, .d]) (.s (.r (D 2)) (.c (.r [.d, .d, .d, (.c (.o (.lf (.i .i64)))), .d, .d, .d]) (.s (.r (D 2)) (.c (.r [.d, .d, .d, (.c (.o (.lf (.i .i64)))), .d, .d, .d, .d]) (.s (.g [((.g (.o (.lf .sl)) .d), []), (.q, []), (.q, []), ((.g (.o (.lf .sl)) (.t (.o (.lf .sl)))), []), ((.g (.o (.lf .sl)) (.t (.o (.lf .sl)))), [0, 3]), (.q, []), ((.h (.o (.ag (R 6 (.i .i64)))) (.c (.o (.ag (R 6 (.i .i64)))))), []), ((.g (.o (.lf .sl)) .d), [6]), ((.g (.o (.lf .sl)) (.t (.o (.lf .sl)))), [4, 7]), (.q, []), (.q, []), ((.g (.o (.lf .sl)) (.t (.o (.lf .sl)))), []), ((.g (.o (.lf .sl)) (.t (.o (.lf .sl)))), [8, 11]), (.q, [12])] []) .z)))))))))))))) .z)) (.s (.r (D 2)) .z)))))
def spec.l20Prog.vc (r : Option Addr) (w : World) (K : Sl → World → Prop) : Prop :=
CallT (.o (.lf .sl)) P0 74 [(.pointer r)] w fun (t7 : Sl) w_ =>
∃ J : Sl → World → Prop,
(CallT (.o (.lf (.i .i64))) P0 39 [(.pointer r), (.int .i64 2)] w_ fun (t9 : Int) w__1 =>
(((t9 : Int) == 0) = true → CallT (.o (.lf .sl)) P0 75 [] w__1 fun (t11 : Sl) w__2 =>
CallT (.o (.lf (.i .i64))) P0 39 [(.pointer r), (.int .i64 ((t11.n : Nat) : Int))] w__2 fun (t16 : Int) w__3 =>
Ix t11.a t11.n t16 1 w__3 fun a_t17 w__4 =>
Ld .sl a_t17 w__4 fun (t18 : Sl) w__5 =>
CallT (.o (.lf .sl)) P0 76 [t18.v] w__5 fun (t19 : Sl) w__6 =>
J t19 w__6) ∧
(((t9 : Int) == 0) = false → J t7 w__1)) ∧
(∀ (out : Sl) w__7, J out w__7 → ∀ _ : Nat → Value,
CallT (.o (.lf (.i .i64))) P0 39 [(.pointer r), (.int .i64 4)] w__7 fun (t21 : Int) w__8 =>
(((t21 : Int) == 0) = true → CallT (.o (.lf (.i .i64))) P0 39 [(.pointer r), (.int .i64 ((out.n : Nat) : Int))] w__8 fun (t26 : Int) w__9 =>
CallT (.o (.lf (.i .i64))) P0 39 [(.pointer r), (.int .i64 6)] w__9 fun (t28 : Int) w__10 =>
(((t28 : Int) == 0) = true → CallT (.o (.lf (.i .i64))) P0 77 [(.pointer r)] w__10 fun (t47 : Int) w__11 =>
Ix out.a out.n t26 6 w__11 fun a_t48 w__12 =>
St (Addr.add a_t48 4) (.int .i64 t47) w__12 fun w__13 =>
K out w__13) ∧
(((t28 : Int) == 0) = false → (((t28 : Int) == 1) = true → Nw #[(.int .i64 (-1)), (.int .i64 0), (.int .i64 1), (.int .i64 2), (.int .i64 (-2)), (.int .i64 12), (.int .i64 200)] 3 w__10 fun a_t55 w__14 =>
CallT (.o (.lf (.i .i64))) P0 78 [(.pointer r), (.slice (some a_t55) 7 7)] w__14 fun (t56 : Int) w__15 =>
Ix out.a out.n t26 6 w__15 fun a_t57 w__16 =>
St (Addr.add a_t57 3) (.int .i64 t56) w__16 fun w__17 =>
K out w__17) ∧
(((t28 : Int) == 1) = false → (((t28 : Int) == 2) = true → CallT (.o (.lf (.i .i64))) P0 39 [(.pointer r), (.int .i64 12)] w__10 fun (t64 : Int) w__18 =>
Ix out.a out.n t26 6 w__18 fun a_t65 w__19 =>
St (Addr.add a_t65 1) (.int .i64 t64) w__19 fun w__20 =>
K out w__20) ∧
(((t28 : Int) == 2) = false → (((t28 : Int) == 3) = true → CallT (.o (.lf (.i .i64))) P0 39 [(.pointer r), (.int .i64 22)] w__10 fun (t72 : Int) w__21 =>
Ix out.a out.n t26 6 w__21 fun a_t73 w__22 =>
St (Addr.add a_t73 0) (.int .i64 t72) w__22 fun w__23 =>
K out w__23) ∧
(((t28 : Int) == 3) = false → (((t28 : Int) == 4) = true → CallT (.o (.lf (.i .i64))) P0 39 [(.pointer r), (.int .i64 12)] w__10 fun (t80 : Int) w__24 =>
Ix out.a out.n t26 6 w__24 fun a_t82 w__25 =>
St (Addr.add a_t82 2) (.int .i64 (IntKind.wrap .i64 (t80 - 1))) w__25 fun w__26 =>
K out w__26) ∧
(((t28 : Int) == 4) = false → ∃ Sp : World → World → Prop, SpOk Sp w__10 ∧
∃ N : World → Prop, NOk N w__10 ∧
∃ G_t29 : Sl → World → Prop, Kept Sp G_t29 ∧
∃ G_t32 : Sl → World → Prop, Kept Sp G_t32 ∧
∃ G_t33 : Sl → World → Prop, Kept Sp G_t33 ∧
∃ G_t35 : Tup (R 6 (.i .i64)) → World → Prop, Kept Sp G_t35 ∧
∃ G_t36 : Sl → World → Prop, Kept Sp G_t36 ∧
∃ G_t37 : Sl → World → Prop, Kept Sp G_t37 ∧
∃ G_t40 : Sl → World → Prop, Kept Sp G_t40 ∧
∃ G_t41 : Sl → World → Prop, Kept Sp G_t41 ∧
(∀ w__27, Sp w__10 w__27 → Nw #[] 39 w__27 fun a_t29 w__28 =>
GK (.o (.lf .sl)) (Sk Sp N) w__27 G_t29 (.slice (some a_t29) 0 0) w__28) ∧
∀ (t29 : Sl), (∀ w__29, Sp w__10 w__29 → RunT (.o (.lf .sl)) P0 (Instr.sliceAt 22 out.v none (some (.int .i64 t26)) none) w__29 fun (t32 : Sl) w__30 =>
GK (.o (.lf .sl)) (Sk Sp N) w__29 G_t32 t32.v w__30) ∧
∀ (t32_1 : Sl), (∀ w__31, Sp w__10 w__31 → G_t29 t29 w__31 → G_t32 t32_1 w__31 → RunT (.o (.lf .sl)) P0 (Builtin.append_ #[22, 22] 22 #[t29.v, t32_1.v]) w__31 fun (t33 : Sl) w__32 =>
GK (.o (.lf .sl)) (Sk Sp N) w__31 G_t33 t33.v w__32) ∧
∀ (t33_1 : Sl), (∀ w__33, Sp w__10 w__33 → N w__33 → CallT (.o (.ag (R 6 (.i .i64)))) P0 79 [(.pointer r)] w__33 fun (t35 : Tup (R 6 (.i .i64))) w__34 =>
GK (.o (.ag (R 6 (.i .i64)))) Sp w__33 G_t35 (.agg (Tup.cells (R 6 (.i .i64)) t35).toArray) w__34) ∧
∀ (t35_1 : Tup (R 6 (.i .i64))), (∀ w__35, Sp w__10 w__35 → G_t35 t35_1 w__35 → Nw #[(.int .i64 t35_1.1), (.int .i64 t35_1.2.1), (.int .i64 t35_1.2.2.1), (.int .i64 t35_1.2.2.2.1), (.int .i64 t35_1.2.2.2.2.1), (.int .i64 t35_1.2.2.2.2.2.1)] 39 w__35 fun a_t36 w__36 =>
GK (.o (.lf .sl)) (Sk Sp N) w__35 G_t36 (.slice (some a_t36) 1 1) w__36) ∧
∀ (t36 : Sl), (∀ w__37, Sp w__10 w__37 → G_t33 t33_1 w__37 → G_t36 t36 w__37 → RunT (.o (.lf .sl)) P0 (Builtin.append_ #[22, 22] 22 #[t33_1.v, t36.v]) w__37 fun (t37 : Sl) w__38 =>
GK (.o (.lf .sl)) (Sk Sp N) w__37 G_t37 t37.v w__38) ∧
∀ (t37_1 : Sl), (∀ w__39, Sp w__10 w__39 → RunT (.o (.lf .sl)) P0 (Instr.sliceAt 22 out.v (some (.int .i64 t26)) none none) w__39 fun (t40 : Sl) w__40 =>
GK (.o (.lf .sl)) (Sk Sp N) w__39 G_t40 t40.v w__40) ∧
∀ (t40_1 : Sl), (∀ w__41, Sp w__10 w__41 → G_t37 t37_1 w__41 → G_t40 t40_1 w__41 → RunT (.o (.lf .sl)) P0 (Builtin.append_ #[22, 22] 22 #[t37_1.v, t40_1.v]) w__41 fun (t41 : Sl) w__42 =>
GK (.o (.lf .sl)) (Sk Sp N) w__41 G_t41 t41.v w__42) ∧
∀ (t41_1 : Sl), ∀ w__43, Sp w__10 w__43 → G_t29 t29 w__43 → G_t32 t32_1 w__43 → G_t33 t33_1 w__43 → G_t35 t35_1 w__43 → G_t36 t36 w__43 → G_t37 t37_1 w__43 → G_t40 t40_1 w__43 → G_t41 t41_1 w__43 → 
K t41_1 w__43)))))) ∧
(((t21 : Int) == 0) = false → K out w__8))
theorem spec.l20Prog.ok {r : Option Addr} {w : World} {K : Sl → World → Prop} (h : spec.l20Prog.vc r w K) : CallT (.o (.lf .sl)) P0 38 [(.pointer r)] w K :=
  call_of Tryz.func38 rfl rfl (pl := spec.l20Prog.pl) (show VC P0 Tryz.f38 spec.l20Prog.pl (.o (.lf .sl)) [(.pointer r)] w K noP from Eq.mp (by kernel_rfl) h)
/- spec.l1Num -/
def spec.l1Num.pl : Pl := (.s (.r (D 1)) (.s (.r (D 1)) (.s (.s (.r (D 1)) (.b (.l [(3, (.i .i64)), (4, (.i .i64))] (.s (.s (.r (D 4)) (.c .z .z)) (.s (.b (.j [] (.s (.r [.d, .d, .d, .d, (.sp .d), .d, .d, .d, .d, .d, (.sp .d), .d, .d, .d]) (.c (.s (.r (D 1)) .z) .z)) (.r (D 9)))) (.r (D 3))))))) (.s (.s (.r [.d, .d, .d, (.sp .d), .d, .d, .d, (.sp .d), .d, .d, .d, .d, .d]) (.c (.s (.r (D 1)) .z) .z)) (.s (.r (D 2)) .z)))))
def spec.l1Num.vc (s : ByteArray) (w : World) (K : Int → World → Prop) : Prop :=
∃ (I : Int → Int → World → Prop) (M : Int → Int → World → Nat),
I 0 0 w ∧
(∀ (n : Int) (i : Int) w_, I n i w_ → ∀ _ : Nat → Value,
((decide ((i : Int) < (((ByteArray.size s) : Nat) : Int))) = true → ∃ J : World → Prop,
(Sx s i w_ fun t13 w__1 =>
((decide ((t13 : Int) < 48)) = true → K (-1) w__1) ∧
((decide ((t13 : Int) < 48)) = false → Sx s i w__1 fun t18 w__2 =>
((decide ((t18 : Int) > 57)) = true → K (-1) w__2) ∧
((decide ((t18 : Int) > 57)) = false → ((decide ((i : Int) ≥ 10)) = true → K (-1) w__2) ∧
((decide ((i : Int) ≥ 10)) = false → J w__2)))) ∧
(∀  w__3, J w__3 → ∀ _ : Nat → Value,
Sx s i w__3 fun t29 w__4 =>
(I (IntKind.wrap .i64 ((IntKind.wrap .i64 (n * 10)) + (IntKind.wrap .i64 (IntKind.wrap .u8 (t29 - 48))))) (IntKind.wrap .i64 (i + 1)) w__4 ∧ M (IntKind.wrap .i64 ((IntKind.wrap .i64 (n * 10)) + (IntKind.wrap .i64 (IntKind.wrap .u8 (t29 - 48))))) (IntKind.wrap .i64 (i + 1)) w__4 < M n i w_))) ∧
((decide ((i : Int) < (((ByteArray.size s) : Nat) : Int))) = false → ((((((ByteArray.size s) : Nat) : Int) : Int) == 0) = true → K (-1) w_) ∧
((((((ByteArray.size s) : Nat) : Int) : Int) == 0) = false → ((decide (((((ByteArray.size s) : Nat) : Int) : Int) > 1)) = true → Sx s 0 w_ fun t42 w__5 =>
(((t42 : Int) == 48) = true → K (-1) w__5) ∧
(((t42 : Int) == 48) = false → K n w__5)) ∧
((decide (((((ByteArray.size s) : Nat) : Int) : Int) > 1)) = false → K n w_))))
theorem spec.l1Num.ok {s : ByteArray} {w : World} {K : Int → World → Prop} (h : spec.l1Num.vc s w K) : CallT (.o (.lf (.i .i64))) P0 49 [(.string s)] w K :=
  call_of Tryz.func49 rfl rfl (pl := spec.l1Num.pl) (show VC P0 Tryz.f49 spec.l1Num.pl (.o (.lf (.i .i64))) [(.string s)] w K noP from Eq.mp (by kernel_rfl) h)
/- spec.l1Cut -/
def spec.l1Cut.pl : Pl := (.s (.r (D 1)) (.s (.r (D 2)) (.s (.r (D 1)) (.s (.s (.r (D 1)) (.b (.l [(7, .sl), (8, (.i .i64)), (9, (.i .i64))] (.j [] (.s (.r [.d, .d, .d, .d, (.sp .d), .d, .d, .d, .d, .d]) (.c .z .z)) (.s (.b (.s (.r (D 5)) (.c (.s (.r [.d, .d, .d, .d, (.t (.o (.lf .s))), .d, (.t (.o (.lf .sl))), .d]) (.r (D 3))) .z))) (.r (D 3))))))) (.s (.r [.d, .d, .d, (.t (.o (.lf .s))), .d, (.t (.o (.lf .sl))), .d]) .z)))))
def spec.l1Cut.vc (s : ByteArray) (b : Int) (most : Int) (w : World) (K : Sl → World → Prop) : Prop :=
Nw #[] 9 w fun a_t10 w_ =>
∃ (I : Sl → Int → Int → World → Prop) (M : Sl → Int → Int → World → Nat),
I ⟨(some a_t10), 0, 0⟩ 0 0 w_ ∧
(∀ (out : Sl) (from_ : Int) (i : Int) w__1, I out from_ i w__1 → ∀ _ : Nat → Value,
∃ J : World → Prop,
(((decide ((i : Int) < (((ByteArray.size s) : Nat) : Int))) = true → ((decide ((((out.n : Nat) : Int) : Int) < most)) = true → J w__1) ∧
((decide ((((out.n : Nat) : Int) : Int) < most)) = false → RunT (.o (.lf .s)) P0 (Instr.sliceAt 9 (.string s) (some (.int .i64 from_)) none none) w__1 fun (t40 : ByteArray) w__2 =>
Nw #[(.string t40)] 9 w__2 fun a_t41 w__3 =>
RunT (.o (.lf .sl)) P0 (Builtin.append_ #[35, 35] 35 #[out.v, (.slice (some a_t41) 1 1)]) w__3 fun (t42 : Sl) w__4 =>
K t42 w__4)) ∧
((decide ((i : Int) < (((ByteArray.size s) : Nat) : Int))) = false → RunT (.o (.lf .s)) P0 (Instr.sliceAt 9 (.string s) (some (.int .i64 from_)) none none) w__1 fun (t40_1 : ByteArray) w__5 =>
Nw #[(.string t40_1)] 9 w__5 fun a_t41_1 w__6 =>
RunT (.o (.lf .sl)) P0 (Builtin.append_ #[35, 35] 35 #[out.v, (.slice (some a_t41_1) 1 1)]) w__6 fun (t42_1 : Sl) w__7 =>
K t42_1 w__7)) ∧
(∀  w__8, J w__8 → ∀ _ : Nat → Value,
Sx s i w__8 fun t25 w__9 =>
(((t25 : Int) == b) = true → RunT (.o (.lf .s)) P0 (Instr.sliceAt 9 (.string s) (some (.int .i64 from_)) (some (.int .i64 i)) none) w__9 fun (t32 : ByteArray) w__10 =>
Nw #[(.string t32)] 9 w__10 fun a_t33 w__11 =>
RunT (.o (.lf .sl)) P0 (Builtin.append_ #[35, 35] 35 #[out.v, (.slice (some a_t33) 1 1)]) w__11 fun (t34 : Sl) w__12 =>
(I t34 (IntKind.wrap .i64 (i + 1)) (IntKind.wrap .i64 (i + 1)) w__12 ∧ M t34 (IntKind.wrap .i64 (i + 1)) (IntKind.wrap .i64 (i + 1)) w__12 < M out from_ i w__1)) ∧
(((t25 : Int) == b) = false → (I out from_ (IntKind.wrap .i64 (i + 1)) w__9 ∧ M out from_ (IntKind.wrap .i64 (i + 1)) w__9 < M out from_ i w__1))))
theorem spec.l1Cut.ok {s : ByteArray} {b : Int} {most : Int} {w : World} {K : Sl → World → Prop} (h : spec.l1Cut.vc s b most w K) : CallT (.o (.lf .sl)) P0 42 [(.string s), (.int .u8 b), (.int .i64 most)] w K :=
  call_of Tryz.func42 rfl rfl (pl := spec.l1Cut.pl) (show VC P0 Tryz.f42 spec.l1Cut.pl (.o (.lf .sl)) [(.string s), (.int .u8 b), (.int .i64 most)] w K noP from Eq.mp (by kernel_rfl) h)
/- spec.l1Find -/
def spec.l1Find.pl : Pl := (.s (.r (D 1)) (.s (.s (.r (D 1)) (.b (.l [(5, (.i .i64))] (.s (.s (.r (D 4)) (.c .z .z)) (.s (.b (.s (.r [.d, .d, .d, (.l (.lf .s)), .d, .d]) (.c (.s (.r (D 2)) .z) .z))) (.r (D 3))))))) (.s (.r (D 1)) .z)))
def spec.l1Find.vc (list : Sl) (s : ByteArray) (w : World) (K : Int → World → Prop) : Prop :=
∃ (I : Int → World → Prop) (M : Int → World → Nat),
I 0 w ∧
(∀ (i : Int) w_, I i w_ → ∀ _ : Nat → Value,
((decide ((i : Int) < ((list.n : Nat) : Int))) = true → Ix list.a list.n i 1 w_ fun a_t14 w__1 =>
Ld .s a_t14 w__1 fun (t15 : ByteArray) w__2 =>
((ByteArray.toList t15 == ByteArray.toList s) = true → K i w__2) ∧
((ByteArray.toList t15 == ByteArray.toList s) = false → (I (IntKind.wrap .i64 (i + 1)) w__2 ∧ M (IntKind.wrap .i64 (i + 1)) w__2 < M i w_))) ∧
((decide ((i : Int) < ((list.n : Nat) : Int))) = false → K (-1) w_))
theorem spec.l1Find.ok {list : Sl} {s : ByteArray} {w : World} {K : Int → World → Prop} (h : spec.l1Find.vc list s w K) : CallT (.o (.lf (.i .i64))) P0 44 [list.v, (.string s)] w K :=
  call_of Tryz.func44 rfl rfl (pl := spec.l1Find.pl) (show VC P0 Tryz.f44 spec.l1Find.pl (.o (.lf (.i .i64))) [list.v, (.string s)] w K noP from Eq.mp (by kernel_rfl) h)
/- spec.l1Words -/
def spec.l1Words.pl : Pl := (.s (.r (D 1)) (.s (.r (D 2)) .z))
def spec.l1Words.vc  (w : World) (K : Sl → World → Prop) : Prop :=
Nw #[(.string ⟨#[]⟩), (.string ⟨#[109, 111, 118]⟩), (.string ⟨#[97, 100, 100]⟩), (.string ⟨#[115, 117, 98]⟩), (.string ⟨#[109, 117, 108]⟩), (.string ⟨#[97, 110, 100]⟩), (.string ⟨#[111, 114]⟩), (.string ⟨#[120, 111, 114]⟩), (.string ⟨#[115, 104, 108]⟩), (.string ⟨#[115, 104, 114]⟩), (.string ⟨#[100, 105, 118]⟩), (.string ⟨#[109, 111, 100]⟩), (.string ⟨#[115, 97, 109, 101]⟩), (.string ⟨#[111, 116, 104, 101, 114]⟩), (.string ⟨#[108, 101, 115, 115]⟩), (.string ⟨#[109, 111, 114, 101]⟩), (.string ⟨#[103, 111]⟩), (.string ⟨#[108, 111, 97, 100]⟩), (.string ⟨#[115, 116, 111, 114, 101]⟩), (.string ⟨#[99, 97, 108, 108]⟩), (.string ⟨#[101, 120, 105, 116]⟩)] 9 w fun a_t1 w_ =>
K ⟨(some a_t1), 21, 21⟩ w_
theorem spec.l1Words.ok  {w : World} {K : Sl → World → Prop} (h : spec.l1Words.vc  w K) : CallT (.o (.lf .sl)) P0 45 [] w K :=
  call_of Tryz.func45 rfl rfl (pl := spec.l1Words.pl) (show VC P0 Tryz.f45 spec.l1Words.pl (.o (.lf .sl)) [] w K noP from Eq.mp (by kernel_rfl) h)
/- spec.l1Calls -/
def spec.l1Calls.pl : Pl := (.s (.r (D 1)) (.s (.r (D 2)) .z))
def spec.l1Calls.vc  (w : World) (K : Sl → World → Prop) : Prop :=
Nw #[(.string ⟨#[]⟩), (.string ⟨#[108, 111, 111, 107]⟩), (.string ⟨#[112, 117, 116]⟩), (.string ⟨#[102, 105, 110, 100]⟩), (.string ⟨#[100, 114, 111, 112]⟩), (.string ⟨#[114, 97, 110, 100]⟩), (.string ⟨#[115, 101, 110, 100]⟩)] 9 w fun a_t1 w_ =>
K ⟨(some a_t1), 7, 7⟩ w_
theorem spec.l1Calls.ok  {w : World} {K : Sl → World → Prop} (h : spec.l1Calls.vc  w K) : CallT (.o (.lf .sl)) P0 100 [] w K :=
  call_of Tryz.func100 rfl rfl (pl := spec.l1Calls.pl) (show VC P0 Tryz.f100 spec.l1Calls.pl (.o (.lf .sl)) [] w K noP from Eq.mp (by kernel_rfl) h)
/- spec.l1Dec -/
def spec.l1Dec.pl : Pl := (.s (.r (D 1)) (.s (.s (.r (D 2)) (.c (.s (.r (D 1)) .z) .z)) (.s (.s (.r (D 2)) (.c (.s (.r [.d, .d, (.c (.o (.lf .s))), .d, .d]) .z) .z)) (.s (.s (.r (D 2)) (.c (.s (.r [.d, .d, .d, .d, (.t (.o (.lf .s))), .d]) .z) .z)) (.s (.g [(.q, []), (.q, []), ((.g (.o (.lf .s)) (.c (.o (.lf .s)))), []), (.q, []), (.q, []), (.q, []), (.q, []), ((.g (.o (.lf .sl)) .d), []), ((.g (.o (.lf .s)) (.t (.o (.lf .s)))), [7]), ((.g (.o (.lf .s)) .d), [2, 8]), (.q, [9])] []) .z)))))
def spec.l1Dec.vc (n : Int) (w : World) (K : ByteArray → World → Prop) : Prop :=
((decide ((n : Int) < (-9223372036854775807))) = true → K ⟨#[45, 57, 50, 50, 51, 51, 55, 50, 48, 51, 54, 56, 53, 52, 55, 55, 53, 56, 48, 56]⟩ w) ∧
((decide ((n : Int) < (-9223372036854775807))) = false → ((decide ((n : Int) < 0)) = true → CallT (.o (.lf .s)) P0 43 [(.int .i64 (IntKind.wrap .i64 (0 - n)))] w fun (t9 : ByteArray) w_ =>
(((ByteArray.size (⟨#[45]⟩ : ByteArray) + ByteArray.size t9 : Nat) : Int) ≤ IntKind.i64.max) ∧ K ((⟨#[45]⟩ : ByteArray) ++ t9) w_) ∧
((decide ((n : Int) < 0)) = false → ((decide ((n : Int) < 10)) = true → Nw #[(.int .u8 (IntKind.wrap .u8 (IntKind.wrap .i64 (48 + n))))] 5 w fun a_t16 w__1 =>
RunT (.o (.lf .s)) P0 (convert 28 9 (.slice (some a_t16) 1 1)) w__1 fun (t17 : ByteArray) w__2 =>
K t17 w__2) ∧
((decide ((n : Int) < 10)) = false → ∃ Sp : World → World → Prop, SpOk Sp w ∧
∃ G_t20 : ByteArray → World → Prop, Kept Sp G_t20 ∧
∃ G_t25 : Sl → World → Prop, Kept Sp G_t25 ∧
∃ G_t26 : ByteArray → World → Prop, Kept Sp G_t26 ∧
∃ G_t27 : ByteArray → World → Prop, Kept Sp G_t27 ∧
(10 : Int) ≠ 0 ∧ (∀ w__3, Sp w w__3 → CallT (.o (.lf .s)) P0 43 [(.int .i64 (IntKind.wrap .i64 (Int.tdiv n 10)))] w__3 fun (t20 : ByteArray) w__4 =>
GK (.o (.lf .s)) Sp w__3 G_t20 (.string t20) w__4) ∧
∀ (t20_1 : ByteArray), (10 : Int) ≠ 0 ∧ (∀ w__5, Sp w w__5 → Nw #[(.int .u8 (IntKind.wrap .u8 (IntKind.wrap .i64 (48 + (Int.tmod n 10)))))] 5 w__5 fun a_t25 w__6 =>
GK (.o (.lf .sl)) Sp w__5 G_t25 (.slice (some a_t25) 1 1) w__6) ∧
∀ (t25 : Sl), (∀ w__7, Sp w w__7 → G_t25 t25 w__7 → RunT (.o (.lf .s)) P0 (convert 28 9 t25.v) w__7 fun (t26 : ByteArray) w__8 =>
GK (.o (.lf .s)) Sp w__7 G_t26 (.string t26) w__8) ∧
∀ (t26_1 : ByteArray), (∀ w__9, Sp w w__9 → G_t20 t20_1 w__9 → G_t26 t26_1 w__9 → (((ByteArray.size t20_1 + ByteArray.size t26_1 : Nat) : Int) ≤ IntKind.i64.max) ∧ GK (.o (.lf .s)) Sp w__9 G_t27 (.string (t20_1 ++ t26_1)) w__9) ∧
∀ (t27 : ByteArray), ∀ w__10, Sp w w__10 → G_t20 t20_1 w__10 → G_t25 t25 w__10 → G_t26 t26_1 w__10 → G_t27 t27 w__10 → 
K t27 w__10)))
theorem spec.l1Dec.ok {n : Int} {w : World} {K : ByteArray → World → Prop} (h : spec.l1Dec.vc n w K) : CallT (.o (.lf .s)) P0 43 [(.int .i64 n)] w K :=
  call_of Tryz.func43 rfl rfl (pl := spec.l1Dec.pl) (show VC P0 Tryz.f43 spec.l1Dec.pl (.o (.lf .s)) [(.int .i64 n)] w K noP from Eq.mp (by kernel_rfl) h)
/- spec.l1Reg -/
def spec.l1Reg.pl : Pl := (.s (.r (D 1)) (.s (.s (.r (D 2)) (.c (.s (.r [.d, (.c (.o (.lf .s))), .d, .d]) .z) .z)) (.s (.r [.d, (.c (.o (.lf .s))), .d]) .z)))
def spec.l1Reg.vc (src : Int) (imm : Int) (w : World) (K : ByteArray → World → Prop) : Prop :=
((decide ((src : Int) ≥ 0)) = true → CallT (.o (.lf .s)) P0 43 [(.int .i64 src)] w fun (t8 : ByteArray) w_ =>
(((ByteArray.size (⟨#[114]⟩ : ByteArray) + ByteArray.size t8 : Nat) : Int) ≤ IntKind.i64.max) ∧ K ((⟨#[114]⟩ : ByteArray) ++ t8) w_) ∧
((decide ((src : Int) ≥ 0)) = false → CallT (.o (.lf .s)) P0 43 [(.int .i64 imm)] w fun (t11 : ByteArray) w__1 =>
K t11 w__1)
theorem spec.l1Reg.ok {src : Int} {imm : Int} {w : World} {K : ByteArray → World → Prop} (h : spec.l1Reg.vc src imm w K) : CallT (.o (.lf .s)) P0 101 [(.int .i64 src), (.int .i64 imm)] w K :=
  call_of Tryz.func101 rfl rfl (pl := spec.l1Reg.pl) (show VC P0 Tryz.f101 spec.l1Reg.pl (.o (.lf .s)) [(.int .i64 src), (.int .i64 imm)] w K noP from Eq.mp (by kernel_rfl) h)
/- spec.l1Line -/
def spec.l1Line.pl : Pl := (.s (.r (D 2)) (.s (.g [((.g (.o (.lf .sl)) (.c (.o (.lf .sl)))), []), (.q, []), ((.g (.o (.lf (.i .i64))) (.l (.lf (.i .i64)))), []), ((.g (.o (.lf .ad)) .d), [0, 2]), ((.g (.o (.lf .s)) (.l (.lf .s))), [3]), (.q, [4])] []) (.s (.r [.d, (.l (.lf (.i .i64))), (.c (.o (.lf .s))), .d, .d]) (.s (.b (.s (.r [.d, (.l (.lf (.i .i64))), (.c (.o (.lf .b))), .d]) (.c (.s (.r [.d, .d, .d, .d, .d, (.l (.lf (.i .i64))), .d, (.l (.lf (.i .i64))), (.c (.o (.lf .s))), .d, .d]) .z) (.s (.r [.d, (.l (.lf (.i .i64))), (.c (.o (.lf .b))), .d]) (.c (.s (.r [.d, .d, .d, .d, .d, (.l (.lf (.i .i64))), .d, (.l (.lf (.i .i64))), (.c (.o (.lf .s))), .d, .d, .d, (.l (.lf (.i .i64))), (.c (.o (.lf .s))), .d, .d]) .z) (.s (.r [.d, (.l (.lf (.i .i64))), .d, .d]) (.c (.s (.r [.d, .d, .d, (.l (.lf (.i .i64))), (.c (.o (.lf .s))), .d, .d]) .z) (.s (.r [.d, (.l (.lf (.i .i64))), .d, .d]) (.c (.s (.r [.d, .d, (.l (.lf (.i .i64))), (.c (.o (.lf .s))), .d, .d, .d, .d, .d, (.l (.lf (.i .i64))), (.c (.o (.lf .s))), .d, .d, .d, (.l (.lf (.i .i64))), (.c (.o (.lf .s))), .d, .d]) .z) (.s (.r [.d, (.l (.lf (.i .i64))), .d, .d]) (.c (.s (.r [.d, .d, (.l (.lf (.i .i64))), (.c (.o (.lf .s))), .d, .d, .d, .d, .d, (.l (.lf (.i .i64))), (.c (.o (.lf .s))), .d, .d, .d, (.l (.lf (.i .i64))), .d, (.l (.lf (.i .i64))), (.c (.o (.lf .s))), .d, .d]) .z) (.s (.r [.d, (.l (.lf (.i .i64))), .d, .d]) (.c (.s (.g [(.q, []), ((.g (.o (.lf .s)) .d), []), ((.g (.o (.lf .sl)) (.c (.o (.lf .sl)))), []), (.q, []), ((.g (.o (.lf (.i .i64))) (.l (.lf (.i .i64)))), []), ((.g (.o (.lf .ad)) .d), [2, 4]), ((.g (.o (.lf .s)) (.l (.lf .s))), [5]), ((.g (.o (.lf .s)) .d), [1, 6]), (.q, [7])] []) .z) .z))))))))))))) (.s (.r (D 2)) .z)))))
def spec.l1Line.vc (x : Tup (R 6 (.i .i64))) (w : World) (K : ByteArray → World → Prop) : Prop :=
Nw (Tup.cells (R 6 (.i .i64)) x).toArray 39 w fun a_x w_ =>
∃ Sp : World → World → Prop, SpOk Sp w_ ∧
∃ G_t5 : Sl → World → Prop, Kept Sp G_t5 ∧
∃ G_t7 : Int → World → Prop, Kept Sp G_t7 ∧
∃ G_t8 : Addr → World → Prop, Kept Sp G_t8 ∧
∃ G_t9 : ByteArray → World → Prop, Kept Sp G_t9 ∧
(∀ w__1, Sp w_ w__1 → CallT (.o (.lf .sl)) P0 45 [] w__1 fun (t5 : Sl) w__2 =>
GK (.o (.lf .sl)) Sp w__1 G_t5 t5.v w__2) ∧
∀ (t5_1 : Sl), (∀ w__3, Sp w_ w__3 → Ld (.i .i64) (Addr.add a_x 0) w__3 fun (t7 : Int) w__4 =>
GK (.o (.lf (.i .i64))) Sp w__3 G_t7 (.int .i64 t7) w__4) ∧
∀ (t7_1 : Int), (∀ w__5, Sp w_ w__5 → G_t5 t5_1 w__5 → G_t7 t7_1 w__5 → Ix t5_1.a t5_1.n t7_1 1 w__5 fun a_t8 w__6 =>
GK (.o (.lf .ad)) Sp w__5 G_t8 (.pointer (some a_t8)) w__6) ∧
∀ (t8 : Addr), (∀ w__7, Sp w_ w__7 → G_t8 t8 w__7 → Ld .s t8 w__7 fun (t9 : ByteArray) w__8 =>
GK (.o (.lf .s)) Sp w__7 G_t9 (.string t9) w__8) ∧
∀ (t9_1 : ByteArray), ∀ w__9, Sp w_ w__9 → G_t5 t5_1 w__9 → G_t7 t7_1 w__9 → G_t8 t8 w__9 → G_t9 t9_1 w__9 → 
Ld (.i .i64) (Addr.add a_x 1) w__9 fun (t11 : Int) w__10 =>
CallT (.o (.lf .s)) P0 43 [(.int .i64 t11)] w__10 fun (t12 : ByteArray) w__11 =>
(((ByteArray.size (⟨#[32, 114]⟩ : ByteArray) + ByteArray.size t12 : Nat) : Int) ≤ IntKind.i64.max) ∧ Ld (.i .i64) (Addr.add a_x 0) w__11 fun (t16 : Int) w__12 =>
CallT (.o (.lf .b)) P0 97 [(.int .i64 t16)] w__12 fun (t17 : Bool) w__13 =>
(t17 = true → (((ByteArray.size t9_1 + ByteArray.size ((⟨#[32, 114]⟩ : ByteArray) ++ t12) : Nat) : Int) ≤ IntKind.i64.max) ∧ (((ByteArray.size (t9_1 ++ ((⟨#[32, 114]⟩ : ByteArray) ++ t12)) + ByteArray.size (⟨#[32]⟩ : ByteArray) : Nat) : Int) ≤ IntKind.i64.max) ∧ Ld (.i .i64) (Addr.add a_x 2) w__13 fun (t23 : Int) w__14 =>
Ld (.i .i64) (Addr.add a_x 4) w__14 fun (t25 : Int) w__15 =>
CallT (.o (.lf .s)) P0 101 [(.int .i64 t23), (.int .i64 t25)] w__15 fun (t26 : ByteArray) w__16 =>
(((ByteArray.size ((t9_1 ++ ((⟨#[32, 114]⟩ : ByteArray) ++ t12)) ++ (⟨#[32]⟩ : ByteArray)) + ByteArray.size t26 : Nat) : Int) ≤ IntKind.i64.max) ∧ K (((t9_1 ++ ((⟨#[32, 114]⟩ : ByteArray) ++ t12)) ++ (⟨#[32]⟩ : ByteArray)) ++ t26) w__16) ∧
(t17 = false → Ld (.i .i64) (Addr.add a_x 0) w__13 fun (t30 : Int) w__17 =>
CallT (.o (.lf .b)) P0 46 [(.int .i64 t30)] w__17 fun (t31 : Bool) w__18 =>
(t31 = true → (((ByteArray.size t9_1 + ByteArray.size ((⟨#[32, 114]⟩ : ByteArray) ++ t12) : Nat) : Int) ≤ IntKind.i64.max) ∧ (((ByteArray.size (t9_1 ++ ((⟨#[32, 114]⟩ : ByteArray) ++ t12)) + ByteArray.size (⟨#[32]⟩ : ByteArray) : Nat) : Int) ≤ IntKind.i64.max) ∧ QLd (.i .i64) (Addr.add a_x 2) (fun w' => Below (World.heap w__18).size w__18 w') fun (t37 : Int) =>
QLd (.i .i64) (Addr.add a_x 4) (fun w' => Below (World.heap w__18).size w__18 w') fun (t39 : Int) =>
QCl (.o (.lf .s)) P0 101 [(.int .i64 t37), (.int .i64 t39)] (fun w' => Below (World.heap w__18).size w__18 w') fun (t40 : ByteArray) =>
(((ByteArray.size ((t9_1 ++ ((⟨#[32, 114]⟩ : ByteArray) ++ t12)) ++ (⟨#[32]⟩ : ByteArray)) + ByteArray.size t40 : Nat) : Int) ≤ IntKind.i64.max) ∧ (((ByteArray.size (((t9_1 ++ ((⟨#[32, 114]⟩ : ByteArray) ++ t12)) ++ (⟨#[32]⟩ : ByteArray)) ++ t40) + ByteArray.size (⟨#[32]⟩ : ByteArray) : Nat) : Int) ≤ IntKind.i64.max) ∧ QLd (.i .i64) (Addr.add a_x 3) (fun w' => Below (World.heap w__18).size w__18 w') fun (t44 : Int) =>
QCl (.o (.lf .s)) P0 43 [(.int .i64 t44)] (fun w' => Below (World.heap w__18).size w__18 w') fun (t45 : ByteArray) =>
(((ByteArray.size ((((t9_1 ++ ((⟨#[32, 114]⟩ : ByteArray) ++ t12)) ++ (⟨#[32]⟩ : ByteArray)) ++ t40) ++ (⟨#[32]⟩ : ByteArray)) + ByteArray.size t45 : Nat) : Int) ≤ IntKind.i64.max) ∧ ∀ w__19, Below (World.heap w__18).size w__18 w__19 →
K (((((t9_1 ++ ((⟨#[32, 114]⟩ : ByteArray) ++ t12)) ++ (⟨#[32]⟩ : ByteArray)) ++ t40) ++ (⟨#[32]⟩ : ByteArray)) ++ t45) w__19) ∧
(t31 = false → Ld (.i .i64) (Addr.add a_x 0) w__18 fun (t49 : Int) w__20 =>
(((t49 : Int) == 16) = true → (((ByteArray.size t9_1 + ByteArray.size (⟨#[32]⟩ : ByteArray) : Nat) : Int) ≤ IntKind.i64.max) ∧ Ld (.i .i64) (Addr.add a_x 3) w__20 fun (t54 : Int) w__21 =>
CallT (.o (.lf .s)) P0 43 [(.int .i64 t54)] w__21 fun (t55 : ByteArray) w__22 =>
(((ByteArray.size (t9_1 ++ (⟨#[32]⟩ : ByteArray)) + ByteArray.size t55 : Nat) : Int) ≤ IntKind.i64.max) ∧ K ((t9_1 ++ (⟨#[32]⟩ : ByteArray)) ++ t55) w__22) ∧
(((t49 : Int) == 16) = false → Ld (.i .i64) (Addr.add a_x 0) w__20 fun (t59 : Int) w__23 =>
(((t59 : Int) == 17) = true → QLd (.i .i64) (Addr.add a_x 5) (fun w' => Below (World.heap w__23).size w__23 w') fun (t63 : Int) =>
QCl (.o (.lf .s)) P0 43 [(.int .i64 t63)] (fun w' => Below (World.heap w__23).size w__23 w') fun (t64 : ByteArray) =>
(((ByteArray.size t9_1 + ByteArray.size t64 : Nat) : Int) ≤ IntKind.i64.max) ∧ (((ByteArray.size (t9_1 ++ t64) + ByteArray.size ((⟨#[32, 114]⟩ : ByteArray) ++ t12) : Nat) : Int) ≤ IntKind.i64.max) ∧ (((ByteArray.size ((t9_1 ++ t64) ++ ((⟨#[32, 114]⟩ : ByteArray) ++ t12)) + ByteArray.size (⟨#[32, 114]⟩ : ByteArray) : Nat) : Int) ≤ IntKind.i64.max) ∧ QLd (.i .i64) (Addr.add a_x 2) (fun w' => Below (World.heap w__23).size w__23 w') fun (t70 : Int) =>
QCl (.o (.lf .s)) P0 43 [(.int .i64 t70)] (fun w' => Below (World.heap w__23).size w__23 w') fun (t71 : ByteArray) =>
(((ByteArray.size (((t9_1 ++ t64) ++ ((⟨#[32, 114]⟩ : ByteArray) ++ t12)) ++ (⟨#[32, 114]⟩ : ByteArray)) + ByteArray.size t71 : Nat) : Int) ≤ IntKind.i64.max) ∧ (((ByteArray.size ((((t9_1 ++ t64) ++ ((⟨#[32, 114]⟩ : ByteArray) ++ t12)) ++ (⟨#[32, 114]⟩ : ByteArray)) ++ t71) + ByteArray.size (⟨#[32]⟩ : ByteArray) : Nat) : Int) ≤ IntKind.i64.max) ∧ QLd (.i .i64) (Addr.add a_x 3) (fun w' => Below (World.heap w__23).size w__23 w') fun (t75 : Int) =>
QCl (.o (.lf .s)) P0 43 [(.int .i64 t75)] (fun w' => Below (World.heap w__23).size w__23 w') fun (t76 : ByteArray) =>
(((ByteArray.size (((((t9_1 ++ t64) ++ ((⟨#[32, 114]⟩ : ByteArray) ++ t12)) ++ (⟨#[32, 114]⟩ : ByteArray)) ++ t71) ++ (⟨#[32]⟩ : ByteArray)) + ByteArray.size t76 : Nat) : Int) ≤ IntKind.i64.max) ∧ ∀ w__24, Below (World.heap w__23).size w__23 w__24 →
K ((((((t9_1 ++ t64) ++ ((⟨#[32, 114]⟩ : ByteArray) ++ t12)) ++ (⟨#[32, 114]⟩ : ByteArray)) ++ t71) ++ (⟨#[32]⟩ : ByteArray)) ++ t76) w__24) ∧
(((t59 : Int) == 17) = false → Ld (.i .i64) (Addr.add a_x 0) w__23 fun (t80 : Int) w__25 =>
(((t80 : Int) == 18) = true → QLd (.i .i64) (Addr.add a_x 5) (fun w' => Below (World.heap w__25).size w__25 w') fun (t84 : Int) =>
QCl (.o (.lf .s)) P0 43 [(.int .i64 t84)] (fun w' => Below (World.heap w__25).size w__25 w') fun (t85 : ByteArray) =>
(((ByteArray.size t9_1 + ByteArray.size t85 : Nat) : Int) ≤ IntKind.i64.max) ∧ (((ByteArray.size (t9_1 ++ t85) + ByteArray.size ((⟨#[32, 114]⟩ : ByteArray) ++ t12) : Nat) : Int) ≤ IntKind.i64.max) ∧ (((ByteArray.size ((t9_1 ++ t85) ++ ((⟨#[32, 114]⟩ : ByteArray) ++ t12)) + ByteArray.size (⟨#[32]⟩ : ByteArray) : Nat) : Int) ≤ IntKind.i64.max) ∧ QLd (.i .i64) (Addr.add a_x 3) (fun w' => Below (World.heap w__25).size w__25 w') fun (t91 : Int) =>
QCl (.o (.lf .s)) P0 43 [(.int .i64 t91)] (fun w' => Below (World.heap w__25).size w__25 w') fun (t92 : ByteArray) =>
(((ByteArray.size (((t9_1 ++ t85) ++ ((⟨#[32, 114]⟩ : ByteArray) ++ t12)) ++ (⟨#[32]⟩ : ByteArray)) + ByteArray.size t92 : Nat) : Int) ≤ IntKind.i64.max) ∧ (((ByteArray.size ((((t9_1 ++ t85) ++ ((⟨#[32, 114]⟩ : ByteArray) ++ t12)) ++ (⟨#[32]⟩ : ByteArray)) ++ t92) + ByteArray.size (⟨#[32]⟩ : ByteArray) : Nat) : Int) ≤ IntKind.i64.max) ∧ QLd (.i .i64) (Addr.add a_x 2) (fun w' => Below (World.heap w__25).size w__25 w') fun (t96 : Int) =>
QLd (.i .i64) (Addr.add a_x 4) (fun w' => Below (World.heap w__25).size w__25 w') fun (t98 : Int) =>
QCl (.o (.lf .s)) P0 101 [(.int .i64 t96), (.int .i64 t98)] (fun w' => Below (World.heap w__25).size w__25 w') fun (t99 : ByteArray) =>
(((ByteArray.size (((((t9_1 ++ t85) ++ ((⟨#[32, 114]⟩ : ByteArray) ++ t12)) ++ (⟨#[32]⟩ : ByteArray)) ++ t92) ++ (⟨#[32]⟩ : ByteArray)) + ByteArray.size t99 : Nat) : Int) ≤ IntKind.i64.max) ∧ ∀ w__26, Below (World.heap w__25).size w__25 w__26 →
K ((((((t9_1 ++ t85) ++ ((⟨#[32, 114]⟩ : ByteArray) ++ t12)) ++ (⟨#[32]⟩ : ByteArray)) ++ t92) ++ (⟨#[32]⟩ : ByteArray)) ++ t99) w__26) ∧
(((t80 : Int) == 18) = false → Ld (.i .i64) (Addr.add a_x 0) w__25 fun (t103 : Int) w__27 =>
(((t103 : Int) == 19) = true → ∃ Sp_1 : World → World → Prop, SpOk Sp_1 w__27 ∧
∃ G_t106 : ByteArray → World → Prop, Kept Sp_1 G_t106 ∧
∃ G_t107 : Sl → World → Prop, Kept Sp_1 G_t107 ∧
∃ G_t109 : Int → World → Prop, Kept Sp_1 G_t109 ∧
∃ G_t110 : Addr → World → Prop, Kept Sp_1 G_t110 ∧
∃ G_t111 : ByteArray → World → Prop, Kept Sp_1 G_t111 ∧
∃ G_t112 : ByteArray → World → Prop, Kept Sp_1 G_t112 ∧
(∀ w__28, Sp_1 w__27 w__28 → (((ByteArray.size t9_1 + ByteArray.size (⟨#[32]⟩ : ByteArray) : Nat) : Int) ≤ IntKind.i64.max) ∧ GK (.o (.lf .s)) Sp_1 w__28 G_t106 (.string (t9_1 ++ (⟨#[32]⟩ : ByteArray))) w__28) ∧
∀ (t106 : ByteArray), (∀ w__29, Sp_1 w__27 w__29 → CallT (.o (.lf .sl)) P0 100 [] w__29 fun (t107 : Sl) w__30 =>
GK (.o (.lf .sl)) Sp_1 w__29 G_t107 t107.v w__30) ∧
∀ (t107_1 : Sl), (∀ w__31, Sp_1 w__27 w__31 → Ld (.i .i64) (Addr.add a_x 4) w__31 fun (t109 : Int) w__32 =>
GK (.o (.lf (.i .i64))) Sp_1 w__31 G_t109 (.int .i64 t109) w__32) ∧
∀ (t109_1 : Int), (∀ w__33, Sp_1 w__27 w__33 → G_t107 t107_1 w__33 → G_t109 t109_1 w__33 → Ix t107_1.a t107_1.n t109_1 1 w__33 fun a_t110 w__34 =>
GK (.o (.lf .ad)) Sp_1 w__33 G_t110 (.pointer (some a_t110)) w__34) ∧
∀ (t110 : Addr), (∀ w__35, Sp_1 w__27 w__35 → G_t110 t110 w__35 → Ld .s t110 w__35 fun (t111 : ByteArray) w__36 =>
GK (.o (.lf .s)) Sp_1 w__35 G_t111 (.string t111) w__36) ∧
∀ (t111_1 : ByteArray), (∀ w__37, Sp_1 w__27 w__37 → G_t106 t106 w__37 → G_t111 t111_1 w__37 → (((ByteArray.size t106 + ByteArray.size t111_1 : Nat) : Int) ≤ IntKind.i64.max) ∧ GK (.o (.lf .s)) Sp_1 w__37 G_t112 (.string (t106 ++ t111_1)) w__37) ∧
∀ (t112 : ByteArray), ∀ w__38, Sp_1 w__27 w__38 → G_t106 t106 w__38 → G_t107 t107_1 w__38 → G_t109 t109_1 w__38 → G_t110 t110 w__38 → G_t111 t111_1 w__38 → G_t112 t112 w__38 → 
K t112 w__38) ∧
(((t103 : Int) == 19) = false → K t9_1 w__27))))))
theorem spec.l1Line.ok {x : Tup (R 6 (.i .i64))} {w : World} {K : ByteArray → World → Prop} (h : spec.l1Line.vc x w K) : CallT (.o (.lf .s)) P0 81 [(.agg (Tup.cells (R 6 (.i .i64)) x).toArray)] w K :=
  call_of Tryz.func81 rfl rfl (pl := spec.l1Line.pl) (show VC P0 Tryz.f81 spec.l1Line.pl (.o (.lf .s)) [(.agg (Tup.cells (R 6 (.i .i64)) x).toArray)] w K noP from Eq.mp (by kernel_rfl) h)
/- spec.l1Signed -/
def spec.l1Signed.pl : Pl := (.s (.r (D 1)) (.s (.s (.r [.d, .d, .d, (.sp .d), .d, .d, .d, .d]) (.c (.s (.r [.d, (.t (.o (.lf .s))), (.c (.o (.lf (.i .i64)))), .d]) (.s (.s (.r (D 2)) (.c (.s (.r (D 1)) .z) .z)) (.s (.r (D 3)) .z))) .z)) (.s (.r [.d, (.c (.o (.lf (.i .i64)))), .d]) (.s (.s (.r (D 2)) (.c (.s (.r (D 1)) .z) .z)) (.s (.r (D 2)) .z)))))
def spec.l1Signed.vc (s : ByteArray) (w : World) (K : Int → World → Prop) : Prop :=
((decide (((((ByteArray.size s) : Nat) : Int) : Int) > 1)) = true → Sx s 0 w fun t10 w_ =>
(((t10 : Int) == 45) = true → RunT (.o (.lf .s)) P0 (Instr.sliceAt 9 (.string s) (some (.int .i64 1)) none none) w_ fun (t14 : ByteArray) w__1 =>
CallT (.o (.lf (.i .i64))) P0 49 [(.string t14)] w__1 fun (t15 : Int) w__2 =>
((decide ((t15 : Int) < 1)) = true → K 1000 w__2) ∧
((decide ((t15 : Int) < 1)) = false → K (IntKind.wrap .i64 (0 - t15)) w__2)) ∧
(((t10 : Int) == 45) = false → CallT (.o (.lf (.i .i64))) P0 49 [(.string s)] w_ fun (t21 : Int) w__3 =>
((decide ((t21 : Int) < 0)) = true → K 1000 w__3) ∧
((decide ((t21 : Int) < 0)) = false → K t21 w__3))) ∧
((decide (((((ByteArray.size s) : Nat) : Int) : Int) > 1)) = false → CallT (.o (.lf (.i .i64))) P0 49 [(.string s)] w fun (t21_1 : Int) w__4 =>
((decide ((t21_1 : Int) < 0)) = true → K 1000 w__4) ∧
((decide ((t21_1 : Int) < 0)) = false → K t21_1 w__4))
theorem spec.l1Signed.ok {s : ByteArray} {w : World} {K : Int → World → Prop} (h : spec.l1Signed.vc s w K) : CallT (.o (.lf (.i .i64))) P0 99 [(.string s)] w K :=
  call_of Tryz.func99 rfl rfl (pl := spec.l1Signed.pl) (show VC P0 Tryz.f99 spec.l1Signed.pl (.o (.lf (.i .i64))) [(.string s)] w K noP from Eq.mp (by kernel_rfl) h)
/- spec.l1ReadReg -/
def spec.l1ReadReg.pl : Pl := (.s (.r (D 2)) (.s (.s (.r [.d, .d, .d, (.sp .d), .d, .d, .d, .d]) (.c (.s (.r [.d, (.t (.o (.lf .s))), (.c (.o (.lf (.i .i64)))), .d]) (.s (.s (.r (D 2)) (.c (.r (D 1)) .z)) (.s (.r (D 3)) .z))) .z)) (.s (.r [.d, (.c (.o (.lf (.i .i64)))), .d, .d]) .z)))
def spec.l1ReadReg.vc (s : ByteArray) (w : World) (K : (Int) × (Int) × Unit → World → Prop) : Prop :=
((decide (((((ByteArray.size s) : Nat) : Int) : Int) > 1)) = true → Sx s 0 w fun t10 w_ =>
(((t10 : Int) == 114) = true → RunT (.o (.lf .s)) P0 (Instr.sliceAt 9 (.string s) (some (.int .i64 1)) none none) w_ fun (t14 : ByteArray) w__1 =>
CallT (.o (.lf (.i .i64))) P0 49 [(.string t14)] w__1 fun (t15 : Int) w__2 =>
((decide ((t15 : Int) < 0)) = true → K (99, (0, ())) w__2) ∧
((decide ((t15 : Int) < 0)) = false → K (t15, (0, ())) w__2)) ∧
(((t10 : Int) == 114) = false → CallT (.o (.lf (.i .i64))) P0 49 [(.string s)] w_ fun (t20 : Int) w__3 =>
K ((-1), (t20, ())) w__3)) ∧
((decide (((((ByteArray.size s) : Nat) : Int) : Int) > 1)) = false → CallT (.o (.lf (.i .i64))) P0 49 [(.string s)] w fun (t20_1 : Int) w__4 =>
K ((-1), (t20_1, ())) w__4)
theorem spec.l1ReadReg.ok {s : ByteArray} {w : World} {K : (Int) × (Int) × Unit → World → Prop} (h : spec.l1ReadReg.vc s w K) : CallT (.n [(.lf (.i .i64)), (.lf (.i .i64))]) P0 98 [(.string s)] w K :=
  call_of Tryz.func98 rfl rfl (pl := spec.l1ReadReg.pl) (show VC P0 Tryz.f98 spec.l1ReadReg.pl (.n [(.lf (.i .i64)), (.lf (.i .i64))]) [(.string s)] w K noP from Eq.mp (by kernel_rfl) h)
/- spec.l1Read -/
def spec.l1Read.pl : Pl := (.s (.r (D 1)) (.s (.g [((.g (.o (.lf .sl)) (.c (.o (.lf .sl)))), []), (.q, []), ((.g (.o (.lf .ad)) .d), []), ((.g (.o (.lf .s)) (.l (.lf .s))), [2]), ((.g (.o (.lf (.i .i64))) (.c (.o (.lf (.i .i64))))), [0, 3]), ((.g (.o (.ag (R 6 (.i .i64)))) .d), [4]), ((.g (.o (.lf .ad)) .d), [])] [.d]) (.s (.s (.r (D 1)) (.b (.l [(4, (.i .i64))] (.s (.s (.r (D 2)) (.c .z .z)) (.s (.b (.j [(43, .b)] (.r [.d, .d, (.l (.lf .s)), .d, (.c (.o (.lf .s))), .d, .d, (.sp .d), .d, .d, (.l (.lf .s)), .d, (.c (.o (.lf .s))), .d, .d, .d]) (.c (.s (.g [((.g (.o (.lf .sl)) (.c (.o (.lf .sl)))), []), (.q, []), ((.g (.o (.lf .ad)) .d), []), ((.g (.o (.lf .s)) (.l (.lf .s))), [2]), (.q, []), ((.g (.o (.lf .ad)) .d), []), ((.g (.o (.lf .s)) (.l (.lf .s))), [5]), (.q, [6]), (.q, [6]), ((.g (.o (.lf .s)) (.t (.o (.lf .s)))), [3, 6]), ((.g (.o (.lf (.i .i64))) (.c (.o (.lf (.i .i64))))), [0, 9]), (.q, [])] [.d]) (.r (D 3))) .z))) (.r (D 3))))))) (.s (.r (D 3)) (.j [] (.b (.j [(60, .b)] (.r [.d, (.l (.lf (.i .i64))), (.c (.o (.lf .b))), (.sp .d), .d, .d, .d, (.sp .d), .d, (.l (.lf (.i .i64))), (.c (.o (.lf .b))), (.sp .d), .d, .d, .d, .d, .d]) (.c (.s (.r [.d, .d, (.l (.lf .s)), (.c (.n [(.lf (.i .i64)), (.lf (.i .i64))])), .d, .d, .d, .d, .d]) (.s (.r [.d, .d, (.l (.lf .s)), (.c (.n [(.lf (.i .i64)), (.lf (.i .i64))])), .d, .d, .d, .d, .d]) (.s (.r (D 3)) (.s (.r (D 3)) (.s (.r (D 3)) (.s (.r (D 2)) (.c (.r [.d, .d, (.l (.lf .s)), (.c (.o (.lf (.i .i64)))), .d, .d]) .z))))))) (.j [(104, .b)] (.r [.d, (.l (.lf (.i .i64))), .d, (.sp .d), .d, .d, .d, .d]) (.c (.r [.d, .d, (.l (.lf .s)), (.c (.o (.lf (.i .i64)))), .d, .d]) (.j [(117, .b)] (.r [.d, (.l (.lf (.i .i64))), .d, (.sp .d), .d, .d, .d, .d]) (.c (.s (.r [.d, .d, (.l (.lf .s)), (.c (.n [(.lf (.i .i64)), (.lf (.i .i64))])), .d, .d, .d, .d, .d]) (.s (.r [.d, .d, (.l (.lf .s)), (.c (.n [(.lf (.i .i64)), (.lf (.i .i64))])), .d, .d, .d, .d, .d]) (.s (.r (D 3)) (.s (.r (D 3)) (.r [.d, .d, (.l (.lf .s)), (.c (.o (.lf (.i .i64)))), .d, .d]))))) (.j [(148, .b)] (.r [.d, (.l (.lf (.i .i64))), .d, (.sp .d), .d, .d, .d, .d]) (.c (.s (.r [.d, .d, (.l (.lf .s)), (.c (.n [(.lf (.i .i64)), (.lf (.i .i64))])), .d, .d, .d, .d, .d]) (.s (.r [.d, .d, (.l (.lf .s)), (.c (.n [(.lf (.i .i64)), (.lf (.i .i64))])), .d, .d, .d, .d, .d]) (.s (.r (D 3)) (.s (.r [.d, .d, (.l (.lf .s)), (.c (.o (.lf (.i .i64)))), .d, .d]) (.s (.r (D 3)) (.r (D 3))))))) (.s (.r [.d, (.l (.lf (.i .i64))), .d, (.sp .d), .d, .d, .d, .d]) (.c (.g [((.g (.o (.lf .sl)) (.c (.o (.lf .sl)))), []), (.q, []), ((.g (.o (.lf .ad)) .d), []), ((.g (.o (.lf .s)) (.l (.lf .s))), [2]), ((.g (.o (.lf (.i .i64))) (.c (.o (.lf (.i .i64))))), [0, 3]), (.q, [])] [.d]) .z))))))))))) (.s (.r [(.l (.ag (R 6 (.i .i64)))), .d]) .z))))))
def spec.l1Read.vc (w_ : Sl) (w : World) (K : Tup (R 6 (.i .i64)) → World → Prop) : Prop :=
Nw (zc P0 39) 39 w fun a_t2 w__1 =>
∃ Sp : World → World → Prop, SpOk Sp w__1 ∧
∃ G_t18 : Sl → World → Prop, Kept Sp G_t18 ∧
∃ G_t20 : Addr → World → Prop, Kept Sp G_t20 ∧
∃ G_t21 : ByteArray → World → Prop, Kept Sp G_t21 ∧
∃ G_t22 : Int → World → Prop, Kept Sp G_t22 ∧
∃ G_t23 : Tup (R 6 (.i .i64)) → World → Prop, Kept Sp G_t23 ∧
∃ G_x : Addr → World → Prop, Kept Sp G_x ∧
(∀ w__2, Sp w__1 w__2 → CallT (.o (.lf .sl)) P0 45 [] w__2 fun (t18 : Sl) w__3 =>
GK (.o (.lf .sl)) Sp w__2 G_t18 t18.v w__3) ∧
∀ (t18_1 : Sl), (∀ w__4, Sp w__1 w__4 → Ix w_.a w_.n 0 1 w__4 fun a_t20 w__5 =>
GK (.o (.lf .ad)) Sp w__4 G_t20 (.pointer (some a_t20)) w__5) ∧
∀ (t20 : Addr), (∀ w__6, Sp w__1 w__6 → G_t20 t20 w__6 → Ld .s t20 w__6 fun (t21 : ByteArray) w__7 =>
GK (.o (.lf .s)) Sp w__6 G_t21 (.string t21) w__7) ∧
∀ (t21_1 : ByteArray), (∀ w__8, Sp w__1 w__8 → G_t18 t18_1 w__8 → G_t21 t21_1 w__8 → CallT (.o (.lf (.i .i64))) P0 44 [t18_1.v, (.string t21_1)] w__8 fun (t22 : Int) w__9 =>
GK (.o (.lf (.i .i64))) Sp w__8 G_t22 (.int .i64 t22) w__9) ∧
∀ (t22_1 : Int), (∀ w__10, Sp w__1 w__10 → G_t22 t22_1 w__10 → GK (.o (.ag (R 6 (.i .i64)))) Sp w__10 G_t23 (.agg #[(.int .i64 t22_1), (.int .i64 0), (.int .i64 (-1)), (.int .i64 0), (.int .i64 0), (.int .i64 0)]) w__10) ∧
∀ (t23 : Tup (R 6 (.i .i64))), (∀ w__11, Sp w__1 w__11 → Nw (zc P0 39) 39 w__11 fun a_x w__12 =>
GK (.o (.lf .ad)) Sp w__11 G_x (.pointer (some a_x)) w__12) ∧
∀ (x : Addr), ∀ w__13, Sp w__1 w__13 → G_t18 t18_1 w__13 → G_t20 t20 w__13 → G_t21 t21_1 w__13 → G_t22 t22_1 w__13 → G_t23 t23 w__13 → G_x x w__13 → 
StA P0 x (Tup.cells (R 6 (.i .i64)) t23) w__13 fun w__14 =>
∃ (I : Int → World → Prop) (M : Int → World → Nat),
I 1 w__14 ∧
(∀ (size : Int) w__15, I size w__15 → ∀ _ : Nat → Value,
((decide ((size : Int) ≤ 4)) = true → ∃ J : Bool → World → Prop,
(QIx w_.a w_.n 0 1 fun a_t29 =>
QLd .s a_t29 (fun w' => Below (World.heap w__15).size w__15 w') fun (t30 : ByteArray) =>
QCl (.o (.lf .s)) P0 43 [(.int .i64 size)] (fun w' => Below (World.heap w__15).size w__15 w') fun (t32 : ByteArray) =>
(((ByteArray.size (⟨#[108, 111, 97, 100]⟩ : ByteArray) + ByteArray.size t32 : Nat) : Int) ≤ IntKind.i64.max) ∧ ((ByteArray.toList t30 == ByteArray.toList ((⟨#[108, 111, 97, 100]⟩ : ByteArray) ++ t32)) = true → ∀ w__16, Below (World.heap w__15).size w__15 w__16 →
J true w__16) ∧
((ByteArray.toList t30 == ByteArray.toList ((⟨#[108, 111, 97, 100]⟩ : ByteArray) ++ t32)) = false → QIx w_.a w_.n 0 1 fun a_t37 =>
QLd .s a_t37 (fun w' => Below (World.heap w__15).size w__15 w') fun (t38 : ByteArray) =>
QCl (.o (.lf .s)) P0 43 [(.int .i64 size)] (fun w' => Below (World.heap w__15).size w__15 w') fun (t40 : ByteArray) =>
(((ByteArray.size (⟨#[115, 116, 111, 114, 101]⟩ : ByteArray) + ByteArray.size t40 : Nat) : Int) ≤ IntKind.i64.max) ∧ ∀ w__16, Below (World.heap w__15).size w__15 w__16 →
J (ByteArray.toList t38 == ByteArray.toList ((⟨#[115, 116, 111, 114, 101]⟩ : ByteArray) ++ t40)) w__16)) ∧
(∀ (t43 : Bool) w__17, J t43 w__17 → ∀ _ : Nat → Value,
(t43 = true → ∃ Sp_1 : World → World → Prop, SpOk Sp_1 w__17 ∧
∃ G_t44 : Sl → World → Prop, Kept Sp_1 G_t44 ∧
∃ G_t46 : Addr → World → Prop, Kept Sp_1 G_t46 ∧
∃ G_t47 : ByteArray → World → Prop, Kept Sp_1 G_t47 ∧
∃ G_t49 : Addr → World → Prop, Kept Sp_1 G_t49 ∧
∃ G_t50 : ByteArray → World → Prop, Kept Sp_1 G_t50 ∧
∃ G_t53 : ByteArray → World → Prop, Kept Sp_1 G_t53 ∧
∃ G_t54 : Int → World → Prop, Kept Sp_1 G_t54 ∧
(∀ w__18, Sp_1 w__17 w__18 → CallT (.o (.lf .sl)) P0 45 [] w__18 fun (t44 : Sl) w__19 =>
GK (.o (.lf .sl)) Sp_1 w__18 G_t44 t44.v w__19) ∧
∀ (t44_1 : Sl), (∀ w__20, Sp_1 w__17 w__20 → Ix w_.a w_.n 0 1 w__20 fun a_t46 w__21 =>
GK (.o (.lf .ad)) Sp_1 w__20 G_t46 (.pointer (some a_t46)) w__21) ∧
∀ (t46 : Addr), (∀ w__22, Sp_1 w__17 w__22 → G_t46 t46 w__22 → Ld .s t46 w__22 fun (t47 : ByteArray) w__23 =>
GK (.o (.lf .s)) Sp_1 w__22 G_t47 (.string t47) w__23) ∧
∀ (t47_1 : ByteArray), (∀ w__24, Sp_1 w__17 w__24 → Ix w_.a w_.n 0 1 w__24 fun a_t49 w__25 =>
GK (.o (.lf .ad)) Sp_1 w__24 G_t49 (.pointer (some a_t49)) w__25) ∧
∀ (t49 : Addr), (∀ w__26, Sp_1 w__17 w__26 → G_t49 t49 w__26 → Ld .s t49 w__26 fun (t50 : ByteArray) w__27 =>
GK (.o (.lf .s)) Sp_1 w__26 G_t50 (.string t50) w__27) ∧
∀ (t50_1 : ByteArray), (∀ w__28, Sp_1 w__17 w__28 → G_t47 t47_1 w__28 → G_t50 t50_1 w__28 → RunT (.o (.lf .s)) P0 (Instr.sliceAt 9 (.string t47_1) none (some (.int .i64 (IntKind.wrap .i64 ((((ByteArray.size t50_1) : Nat) : Int) - 1)))) none) w__28 fun (t53 : ByteArray) w__29 =>
GK (.o (.lf .s)) Sp_1 w__28 G_t53 (.string t53) w__29) ∧
∀ (t53_1 : ByteArray), (∀ w__30, Sp_1 w__17 w__30 → G_t44 t44_1 w__30 → G_t53 t53_1 w__30 → CallT (.o (.lf (.i .i64))) P0 44 [t44_1.v, (.string t53_1)] w__30 fun (t54 : Int) w__31 =>
GK (.o (.lf (.i .i64))) Sp_1 w__30 G_t54 (.int .i64 t54) w__31) ∧
∀ (t54_1 : Int), ∀ w__32, Sp_1 w__17 w__32 → G_t44 t44_1 w__32 → G_t46 t46 w__32 → G_t47 t47_1 w__32 → G_t49 t49 w__32 → G_t50 t50_1 w__32 → G_t53 t53_1 w__32 → G_t54 t54_1 w__32 → 
St (Addr.add x 0) (.int .i64 t54_1) w__32 fun w__33 =>
St (Addr.add x 5) (.int .i64 size) w__33 fun w__34 =>
(I (IntKind.wrap .i64 (size * 2)) w__34 ∧ M (IntKind.wrap .i64 (size * 2)) w__34 < M size w__15)) ∧
(t43 = false → (I (IntKind.wrap .i64 (size * 2)) w__17 ∧ M (IntKind.wrap .i64 (size * 2)) w__17 < M size w__15)))) ∧
((decide ((size : Int) ≤ 4)) = false → ∃ J_1 : World → Prop,
(∃ J_2 : Bool → World → Prop,
(Ld (.i .i64) (Addr.add x 0) w__15 fun (t62 : Int) w__35 =>
CallT (.o (.lf .b)) P0 97 [(.int .i64 t62)] w__35 fun (t63 : Bool) w__36 =>
(t63 = true → (((((w_.n : Nat) : Int) : Int) == 3) = true → J_2 true w__36) ∧
(((((w_.n : Nat) : Int) : Int) == 3) = false → Ld (.i .i64) (Addr.add x 0) w__36 fun (t70 : Int) w__37 =>
CallT (.o (.lf .b)) P0 46 [(.int .i64 t70)] w__37 fun (t71 : Bool) w__38 =>
(t71 = true → J_2 ((((w_.n : Nat) : Int) : Int) == 4) w__38) ∧
(t71 = false → J_2 false w__38))) ∧
(t63 = false → Ld (.i .i64) (Addr.add x 0) w__36 fun (t70_1 : Int) w__39 =>
CallT (.o (.lf .b)) P0 46 [(.int .i64 t70_1)] w__39 fun (t71_1 : Bool) w__40 =>
(t71_1 = true → J_2 ((((w_.n : Nat) : Int) : Int) == 4) w__40) ∧
(t71_1 = false → J_2 false w__40))) ∧
(∀ (t60 : Bool) w__41, J_2 t60 w__41 → ∀ _ : Nat → Value,
(t60 = true → Ix w_.a w_.n 1 1 w__41 fun a_t79 w__42 =>
Ld .s a_t79 w__42 fun (t80 : ByteArray) w__43 =>
CallT (.n [(.lf (.i .i64)), (.lf (.i .i64))]) P0 98 [(.string t80)] w__43 fun (t81 : (Int) × (Int) × Unit) w__44 =>
Ix w_.a w_.n 2 1 w__44 fun a_t86 w__45 =>
Ld .s a_t86 w__45 fun (t87 : ByteArray) w__46 =>
CallT (.n [(.lf (.i .i64)), (.lf (.i .i64))]) P0 98 [(.string t87)] w__46 fun (t88 : (Int) × (Int) × Unit) w__47 =>
St (Addr.add x 1) (.int .i64 t81.1) w__47 fun w__48 =>
St (Addr.add x 2) (.int .i64 t88.1) w__48 fun w__49 =>
St (Addr.add x 4) (.int .i64 t88.2.1) w__49 fun w__50 =>
(((((w_.n : Nat) : Int) : Int) == 4) = true → Ix w_.a w_.n 3 1 w__50 fun a_t100 w__51 =>
Ld .s a_t100 w__51 fun (t101 : ByteArray) w__52 =>
CallT (.o (.lf (.i .i64))) P0 99 [(.string t101)] w__52 fun (t102 : Int) w__53 =>
St (Addr.add x 3) (.int .i64 t102) w__53 fun w__54 =>
J_1 w__54) ∧
(((((w_.n : Nat) : Int) : Int) == 4) = false → J_1 w__50)) ∧
(t60 = false → ∃ J_3 : Bool → World → Prop,
(Ld (.i .i64) (Addr.add x 0) w__41 fun (t106 : Int) w__55 =>
(((t106 : Int) == 16) = true → J_3 ((((w_.n : Nat) : Int) : Int) == 2) w__55) ∧
(((t106 : Int) == 16) = false → J_3 false w__55)) ∧
(∀ (t104 : Bool) w__56, J_3 t104 w__56 → ∀ _ : Nat → Value,
(t104 = true → Ix w_.a w_.n 1 1 w__56 fun a_t113 w__57 =>
Ld .s a_t113 w__57 fun (t114 : ByteArray) w__58 =>
CallT (.o (.lf (.i .i64))) P0 99 [(.string t114)] w__58 fun (t115 : Int) w__59 =>
St (Addr.add x 3) (.int .i64 t115) w__59 fun w__60 =>
J_1 w__60) ∧
(t104 = false → ∃ J_4 : Bool → World → Prop,
(Ld (.i .i64) (Addr.add x 0) w__56 fun (t119 : Int) w__61 =>
(((t119 : Int) == 17) = true → J_4 ((((w_.n : Nat) : Int) : Int) == 4) w__61) ∧
(((t119 : Int) == 17) = false → J_4 false w__61)) ∧
(∀ (t117 : Bool) w__62, J_4 t117 w__62 → ∀ _ : Nat → Value,
(t117 = true → Ix w_.a w_.n 1 1 w__62 fun a_t127 w__63 =>
Ld .s a_t127 w__63 fun (t128 : ByteArray) w__64 =>
CallT (.n [(.lf (.i .i64)), (.lf (.i .i64))]) P0 98 [(.string t128)] w__64 fun (t129 : (Int) × (Int) × Unit) w__65 =>
Ix w_.a w_.n 2 1 w__65 fun a_t134 w__66 =>
Ld .s a_t134 w__66 fun (t135 : ByteArray) w__67 =>
CallT (.n [(.lf (.i .i64)), (.lf (.i .i64))]) P0 98 [(.string t135)] w__67 fun (t136 : (Int) × (Int) × Unit) w__68 =>
St (Addr.add x 1) (.int .i64 t129.1) w__68 fun w__69 =>
St (Addr.add x 2) (.int .i64 t136.1) w__69 fun w__70 =>
Ix w_.a w_.n 3 1 w__70 fun a_t144 w__71 =>
Ld .s a_t144 w__71 fun (t145 : ByteArray) w__72 =>
CallT (.o (.lf (.i .i64))) P0 99 [(.string t145)] w__72 fun (t146 : Int) w__73 =>
St (Addr.add x 3) (.int .i64 t146) w__73 fun w__74 =>
J_1 w__74) ∧
(t117 = false → ∃ J_5 : Bool → World → Prop,
(Ld (.i .i64) (Addr.add x 0) w__62 fun (t150 : Int) w__75 =>
(((t150 : Int) == 18) = true → J_5 ((((w_.n : Nat) : Int) : Int) == 4) w__75) ∧
(((t150 : Int) == 18) = false → J_5 false w__75)) ∧
(∀ (t148 : Bool) w__76, J_5 t148 w__76 → ∀ _ : Nat → Value,
(t148 = true → Ix w_.a w_.n 1 1 w__76 fun a_t158 w__77 =>
Ld .s a_t158 w__77 fun (t159 : ByteArray) w__78 =>
CallT (.n [(.lf (.i .i64)), (.lf (.i .i64))]) P0 98 [(.string t159)] w__78 fun (t160 : (Int) × (Int) × Unit) w__79 =>
Ix w_.a w_.n 3 1 w__79 fun a_t165 w__80 =>
Ld .s a_t165 w__80 fun (t166 : ByteArray) w__81 =>
CallT (.n [(.lf (.i .i64)), (.lf (.i .i64))]) P0 98 [(.string t166)] w__81 fun (t167 : (Int) × (Int) × Unit) w__82 =>
St (Addr.add x 1) (.int .i64 t160.1) w__82 fun w__83 =>
Ix w_.a w_.n 2 1 w__83 fun a_t173 w__84 =>
Ld .s a_t173 w__84 fun (t174 : ByteArray) w__85 =>
CallT (.o (.lf (.i .i64))) P0 99 [(.string t174)] w__85 fun (t175 : Int) w__86 =>
St (Addr.add x 3) (.int .i64 t175) w__86 fun w__87 =>
St (Addr.add x 2) (.int .i64 t167.1) w__87 fun w__88 =>
St (Addr.add x 4) (.int .i64 t167.2.1) w__88 fun w__89 =>
J_1 w__89) ∧
(t148 = false → Ld (.i .i64) (Addr.add x 0) w__76 fun (t183 : Int) w__90 =>
(((t183 : Int) == 19) = true → (((((w_.n : Nat) : Int) : Int) == 2) = true → ∃ Sp_2 : World → World → Prop, SpOk Sp_2 w__90 ∧
∃ G_t189 : Sl → World → Prop, Kept Sp_2 G_t189 ∧
∃ G_t191 : Addr → World → Prop, Kept Sp_2 G_t191 ∧
∃ G_t192 : ByteArray → World → Prop, Kept Sp_2 G_t192 ∧
∃ G_t193 : Int → World → Prop, Kept Sp_2 G_t193 ∧
(∀ w__91, Sp_2 w__90 w__91 → CallT (.o (.lf .sl)) P0 100 [] w__91 fun (t189 : Sl) w__92 =>
GK (.o (.lf .sl)) Sp_2 w__91 G_t189 t189.v w__92) ∧
∀ (t189_1 : Sl), (∀ w__93, Sp_2 w__90 w__93 → Ix w_.a w_.n 1 1 w__93 fun a_t191 w__94 =>
GK (.o (.lf .ad)) Sp_2 w__93 G_t191 (.pointer (some a_t191)) w__94) ∧
∀ (t191 : Addr), (∀ w__95, Sp_2 w__90 w__95 → G_t191 t191 w__95 → Ld .s t191 w__95 fun (t192 : ByteArray) w__96 =>
GK (.o (.lf .s)) Sp_2 w__95 G_t192 (.string t192) w__96) ∧
∀ (t192_1 : ByteArray), (∀ w__97, Sp_2 w__90 w__97 → G_t189 t189_1 w__97 → G_t192 t192_1 w__97 → CallT (.o (.lf (.i .i64))) P0 44 [t189_1.v, (.string t192_1)] w__97 fun (t193 : Int) w__98 =>
GK (.o (.lf (.i .i64))) Sp_2 w__97 G_t193 (.int .i64 t193) w__98) ∧
∀ (t193_1 : Int), ∀ w__99, Sp_2 w__90 w__99 → G_t189 t189_1 w__99 → G_t191 t191 w__99 → G_t192 t192_1 w__99 → G_t193 t193_1 w__99 → 
St (Addr.add x 4) (.int .i64 t193_1) w__99 fun w__100 =>
J_1 w__100) ∧
(((((w_.n : Nat) : Int) : Int) == 2) = false → J_1 w__90)) ∧
(((t183 : Int) == 19) = false → J_1 w__90)))))))))) ∧
(∀  w__101, J_1 w__101 → ∀ _ : Nat → Value,
LdA (R 6 (.i .i64)) x w__101 fun (t195 : Tup (R 6 (.i .i64))) w__102 =>
StA P0 a_t2 (Tup.cells (R 6 (.i .i64)) t195) w__102 fun w__103 =>
LdA (R 6 (.i .i64)) a_t2 w__103 fun r w__104 =>
K r w__103)))
theorem spec.l1Read.ok {w_ : Sl} {w : World} {K : Tup (R 6 (.i .i64)) → World → Prop} (h : spec.l1Read.vc w_ w K) : CallT (.o (.ag (R 6 (.i .i64)))) P0 80 [w_.v] w K :=
  call_of Tryz.func80 rfl rfl (pl := spec.l1Read.pl) (show VC P0 Tryz.f80 spec.l1Read.pl (.o (.ag (R 6 (.i .i64)))) [w_.v] w K noP from Eq.mp (by kernel_rfl) h)
/- spec.LineGet -/
def spec.LineGet.pl : Pl := (.s (.r (D 2)) (.s (.r [.d, (.c (.o (.lf .sl))), (.c (.o (.ag (R 6 (.i .i64))))), .d, .d]) (.s (.s (.r [(.l (.ag (R 6 (.i .i64)))), (.c (.o (.lf .b))), .d, (.sp .d), (.l (.ag (R 6 (.i .i64)))), (.c (.o (.lf .s))), .d, .d, .d]) (.c (.s (.r (D 3)) .z) .z)) (.s (.r [(.l (.ag (R 6 (.i .i64)))), .d, .d]) .z))))
def spec.LineGet.vc (s : ByteArray) (w : World) (K : (Tup (R 6 (.i .i64))) × (Bool) × Unit → World → Prop) : Prop :=
Nw (zc P0 39) 39 w fun a_t2 w_ =>
CallT (.o (.lf .sl)) P0 42 [(.string s), (.int .u8 32), (.int .i64 5)] w_ fun (t6 : Sl) w__1 =>
CallT (.o (.ag (R 6 (.i .i64)))) P0 80 [t6.v] w__1 fun (t7 : Tup (R 6 (.i .i64))) w__2 =>
Nw (zc P0 39) 39 w__2 fun a_x w__3 =>
StA P0 a_x (Tup.cells (R 6 (.i .i64)) t7) w__3 fun w__4 =>
LdA (R 6 (.i .i64)) a_x w__4 fun (t8 : Tup (R 6 (.i .i64))) w__5 =>
CallT (.o (.lf .b)) P0 50 [(.agg (Tup.cells (R 6 (.i .i64)) t8).toArray)] w__5 fun (t9 : Bool) w__6 =>
((!t9) = true → StA P0 a_t2 [(.int .i64 0), (.int .i64 0), (.int .i64 0), (.int .i64 0), (.int .i64 0), (.int .i64 0)] w__6 fun w__7 =>
LdA (R 6 (.i .i64)) a_t2 w__7 fun r w__8 =>
K (r, (false, ())) w__7) ∧
((!t9) = false → LdA (R 6 (.i .i64)) a_x w__6 fun (t12 : Tup (R 6 (.i .i64))) w__9 =>
CallT (.o (.lf .s)) P0 81 [(.agg (Tup.cells (R 6 (.i .i64)) t12).toArray)] w__9 fun (t13 : ByteArray) w__10 =>
((!(ByteArray.toList t13 == ByteArray.toList s)) = true → StA P0 a_t2 [(.int .i64 0), (.int .i64 0), (.int .i64 0), (.int .i64 0), (.int .i64 0), (.int .i64 0)] w__10 fun w__11 =>
LdA (R 6 (.i .i64)) a_t2 w__11 fun r_1 w__12 =>
K (r_1, (false, ())) w__11) ∧
((!(ByteArray.toList t13 == ByteArray.toList s)) = false → LdA (R 6 (.i .i64)) a_x w__10 fun (t18 : Tup (R 6 (.i .i64))) w__13 =>
StA P0 a_t2 (Tup.cells (R 6 (.i .i64)) t18) w__13 fun w__14 =>
LdA (R 6 (.i .i64)) a_t2 w__14 fun r_2 w__15 =>
K (r_2, (true, ())) w__14))
theorem spec.LineGet.ok {s : ByteArray} {w : World} {K : (Tup (R 6 (.i .i64))) × (Bool) × Unit → World → Prop} (h : spec.LineGet.vc s w K) : CallT (.n [(.ag (R 6 (.i .i64))), (.lf .b)]) P0 47 [(.string s)] w K :=
  call_of Tryz.func47 rfl rfl (pl := spec.LineGet.pl) (show VC P0 Tryz.f47 spec.LineGet.pl (.n [(.ag (R 6 (.i .i64))), (.lf .b)]) [(.string s)] w K noP from Eq.mp (by kernel_rfl) h)
/- spec.DrawProgForm -/
def spec.DrawProgForm.pl : Pl := (.s (.r (D 1)) (.s (.r [.d, (.c (.o (.lf .p))), .d]) (.s (.r [.d, (.c (.o (.lf .sl))), .d]) (.s (.s (.r [.d, (.c (.o (.lf (.i .i64))))]) (.b (.s (.r (D 2)) (.c (.s (.r [.d, .d, .d, .d, (.t (.o (.lf .sl))), .d]) .z) (.s (.r (D 2)) (.c (.b (.l [(4, .sl)] (.s (.s (.r [.d, .d, .d, (.c (.o (.lf (.i .i64)))), .d, .d]) (.c .z .z)) (.b (.r [.d, .d, .d, (.t (.o (.lf .sl))), .d]))))) (.s (.r (D 2)) (.c (.s (.r (D 1)) .z) .z)))))))) (.s (.r (D 2)) .z)))))
def spec.DrawProgForm.vc (code : Sl) (w : World) (K : Sl → World → Prop) : Prop :=
CallT (.o (.lf .p)) P0 37 [code.v] w fun (t6 : Option Addr) w_ =>
CallT (.o (.lf .sl)) P0 38 [(.pointer t6)] w_ fun (t8 : Sl) w__1 =>
CallT (.o (.lf (.i .i64))) P0 39 [(.pointer t6), (.int .i64 8)] w__1 fun (t10 : Int) w__2 =>
(((t10 : Int) == 0) = true → RunT (.o (.lf .sl)) P0 (Instr.sliceAt 22 t8.v none (some (.int .i64 (IntKind.wrap .i64 (((t8.n : Nat) : Int) - 1)))) none) w__2 fun (t17 : Sl) w__3 =>
K t17 w__3) ∧
(((t10 : Int) == 0) = false → (((t10 : Int) == 1) = true → ∃ (I : Sl → World → Prop) (M : Sl → World → Nat),
I t8 w__2 ∧
(∀ (list : Sl) w__4, I list w__4 → ∀ _ : Nat → Value,
CallT (.o (.lf (.i .i64))) P0 39 [(.pointer t6), (.int .i64 2)] w__4 fun (t23 : Int) w__5 =>
((decide ((((list.n : Nat) : Int) : Int) < (IntKind.wrap .i64 (48 + t23)))) = true → Nw #[(.int .i64 20), (.int .i64 0), (.int .i64 (-1)), (.int .i64 0), (.int .i64 0), (.int .i64 0)] 39 w__5 fun a_t28 w__6 =>
RunT (.o (.lf .sl)) P0 (Builtin.append_ #[22, 22] 22 #[list.v, (.slice (some a_t28) 1 1)]) w__6 fun (t29 : Sl) w__7 =>
(I t29 w__7 ∧ M t29 w__7 < M list w__4)) ∧
((decide ((((list.n : Nat) : Int) : Int) < (IntKind.wrap .i64 (48 + t23)))) = false → K list w__5))) ∧
(((t10 : Int) == 1) = false → (((t10 : Int) == 2) = true → K ⟨none, 0, 0⟩ w__2) ∧
(((t10 : Int) == 2) = false → K t8 w__2)))
theorem spec.DrawProgForm.ok {code : Sl} {w : World} {K : Sl → World → Prop} (h : spec.DrawProgForm.vc code w K) : CallT (.o (.lf .sl)) P0 25 [code.v] w K :=
  call_of Tryz.func25 rfl rfl (pl := spec.DrawProgForm.pl) (show VC P0 Tryz.f25 spec.DrawProgForm.pl (.o (.lf .sl)) [code.v] w K noP from Eq.mp (by kernel_rfl) h)
end Go.Proofs.YteggdoigliddkaaGreatDoor.V

/- Contracts: places that are led to, on both sides. -/
namespace Go.Proofs.YteggdoigliddkaaGreatDoor.V
open Go Go.RowKit
set_option linter.unusedVariables false
set_option linter.unusedSimpArgs false
/-- An op leads from one place to another that is not left out. -/
def Step (l : List Ins) (but x y : Int) : Prop := ∃ i, 0 ≤ x ∧ l[x.toNat]? = some i ∧ y ∈ nextX x i ∧ y ≠ but
inductive Pth (l : List Ins) (but a : Int) : Int → Prop
  | one {y : Int} : Step l but a y → Pth l but a y
  | more {x y : Int} : Pth l but a x → Step l but x y → Pth l but a y
theorem Pth.head {l : List Ins} {but a c : Int} (h : Pth l but a c) : ∃ y, Step l but a y ∧ (c = y ∨ Pth l but y c) := by
  induction h with
  | one h => exact ⟨_, h, .inl rfl⟩
  | more h1 h2 ih =>
    obtain ⟨y, hy, h | h⟩ := ih
    · subst h; exact ⟨_, hy, .inr (.one h2)⟩
    · exact ⟨y, hy, .inr (.more h h2)⟩
theorem Pth.cons {l : List Ins} {but a y c : Int} (h : Step l but a y) (h2 : Pth l but y c) : Pth l but a c := by
  induction h2 with
  | one h' => exact .more (.one h) h'
  | more _ h' ih => exact .more ih h'
theorem formP_last {l : List Ins} (h : formP l = 0) {x : Ins} (hx : l[l.length - 1]? = some x) : x.op = 20 ∨ x.op = 16 := by
  have h1 := formGo_end (all := l) h
  have h2 := formP_size h
  rw [endP_last (by omega) hx] at h1
  split at h1
  · simp at h1
  · omega
theorem nextX_in {l : List Ins} (h : formP l = 0) {i : Nat} {x : Ins} (hx : l[i]? = some x) {y : Int} (hy : y ∈ nextX i x) : 0 ≤ y ∧ y < l.length := by
  have hi := lt_of_get hx
  have hn : x.op ≠ 20 → x.op ≠ 16 → i + 1 < l.length := fun h20 h16 => by
    rcases Nat.lt_or_ge (i + 1) l.length with h1 | h1
    · exact h1
    · have : i = l.length - 1 := by omega
      have := formP_last h (this ▸ hx)
      omega
  have ht : goesP x → 0 ≤ tgt i x ∧ tgt i x ≤ (l.length : Int) - 1 := fun hg => formP_tgt h hx hg
  unfold nextX at hy
  split at hy
  · simp at hy
  · rename_i h20
    split at hy
    · rename_i h16
      simp at hy; have := ht (by unfold goesP; omega); omega
    · rename_i h16
      have := hn h20 h16
      split at hy
      · rename_i hj
        have := ht (by unfold goesP; omega)
        split at hy
        · simp at hy; omega
        · split at hy <;> (simp at hy; omega)
      · simp at hy; omega
theorem Step.rng {l : List Ins} (h : formP l = 0) {but x y : Int} (hs : Step l but x y) : 0 ≤ y ∧ y < l.length := by
  obtain ⟨i, h0, hi, hy, _⟩ := hs
  have := nextX_in h hi (y := y)
  rw [show ((x.toNat : Nat) : Int) = x by omega] at this
  exact this hy
theorem Pth.rng {l : List Ins} (h : formP l = 0) {but x y : Int} (hs : Pth l but x y) : 0 ≤ y ∧ y < l.length := by
  cases hs with
  | one h1 => exact h1.rng h
  | more _ h1 => exact h1.rng h
/-- What a spreading does to a set. -/
structure Spr (l : List Ins) (but a : Int) (S S' : List Int) : Prop where
  sub : ∀ x ∈ S, x ∈ S'
  sound : ∀ x ∈ S', x ∈ S ∨ Pth l but a x
  clos : ∀ x, (x = a ∨ (x ∈ S' ∧ x ∉ S)) → ∀ y, Step l but x y → y ∈ S'
theorem Spr.all {l : List Ins} {but a : Int} {S S' : List Int} (h : Spr l but a S S') (hS : ∀ x ∈ S, x = a) (x : Int) : x ∈ S' ↔ x ∈ S ∨ Pth l but a x := by
  refine ⟨h.sound x, ?_⟩
  rintro (hx | hx)
  · exact h.sub x hx
  · induction hx with
    | one h1 => exact h.clos a (.inl rfl) _ h1
    | more _ h2 ih =>
      rename_i z y _
      by_cases hz : z ∈ S
      · exact h.clos z (.inl (hS z hz)) _ h2
      · exact h.clos z (.inr ⟨ih, hz⟩) _ h2
theorem ins_all {p : Int → Prop} {y : Int} {S : List Int} (h : ∀ z ∈ S, p z) (hy : p y) : ∀ z ∈ ins y S, p z := fun z hz => by
  rcases mem_ins.1 hz with h1 | h1
  · subst h1; exact hy
  · exact h z h1
theorem SetM.cells {B : Nat} {w : World} {m : Option Nat} {S : List Int} (h : SetM B w m S) {b : Nat} (hb : m = some b) {o : Nat} {v : Value} (hc : w.cell? ⟨b, o, none⟩ = some v) : False := by
  obtain ⟨b', D, hb', _, ⟨es, clock, hh, _⟩, _⟩ := h
  rw [hb] at hb'
  simp only [Option.some.injEq] at hb'; subst hb'
  simp [World.cell?, hh] at hc
section
variable {α : Type} {k : Kd α} {w w' : World} {s : Sl} {xs : List α} {B : Nat} {m : Option Nat} {S : List Int}
theorem SlR.keptM (h : SlR k w s xs) (hm : SetM B w m S) (hg : w.grownBy w' m) (hp : 0 < k.ls.length) : SlR k w' s xs := by
  by_cases hne : xs = []
  · exact ⟨h.1, h.2.1, h.2.2.1, .inl hne⟩
  · refine h.kept2 hg fun b o hb e => ?_
    obtain ⟨x, hx⟩ := get_some (l := xs) (k := 0) (List.length_pos_iff.2 hne)
    obtain ⟨b', o', ha, hA⟩ := h.at hx
    rw [ha] at hb
    simp only [Option.some.injEq, Addr.mk.injEq, and_true] at hb
    have hl := k.cells_length x
    have := hA 0 _ (List.getElem?_eq_getElem (by omega))
    exact hm.cells (by rw [e, ← hb.1]) this
theorem WrS.keptM {t : TypeId} {B' : Nat} (h : WrS k t B' w s xs) (hm : SetM B w m S) (hg : w.grownBy w' m) : WrS k t B' w' s xs := by
  refine h.kept hg fun b hb e => ?_
  rcases h.2.2.2 with h0 | ⟨b', o, cur, ha, _, hh, _⟩
  · simp [Sl.bk, h0.1] at e
  · simp only [Sl.bk, ha, Option.map_some, Option.some.injEq] at e
    subst e
    obtain ⟨b2, D, hb', _, ⟨es, clock, hh', _⟩, _⟩ := hm
    rw [hb] at hb'
    simp only [Option.some.injEq] at hb'; subst hb'
    rw [hh] at hh'; simp at hh'
end
section
variable {w : World} {s : Sl} {l : List Ins}
/-- Op 0 leads here. -/
def Rch (l : List Ins) (x : Int) : Prop := x = 0 ∨ Pth l (-1) 0 x
theorem Rch.rng (hq : formP l = 0) {x : Int} (h : Rch l x) : 0 ≤ x ∧ x < l.length := by
  rcases h with rfl | h
  · have := (formP_size hq).1; omega
  · exact h.rng hq
open Classical in
noncomputable def flowReach (l : List Ins) : List Int := if formP l ≠ 0 then [] else picks l.length fun i => decide (Rch l i)
theorem flowReach_length (l : List Ins) : (flowReach l).length ≤ 48 := by
  unfold flowReach
  split
  · simp
  · rename_i h
    have h1 := formP_size (l := l) (Classical.not_not.1 h)
    exact Nat.le_trans (picks_le _ _) h1.2
/-- What spec.l12Reach marks. -/
def RchF (l : List Ins) (a but x : Int) : Prop := a ≠ but ∧ (x = a ∨ Pth l but a x)
end
end Go.Proofs.YteggdoigliddkaaGreatDoor.V

/- Contracts: FlowReach, FlowAhead, FlowRound on both sides. -/
namespace Go.Proofs.YteggdoigliddkaaGreatDoor.V
open Go Go.RowKit
set_option linter.unusedVariables false
set_option linter.unusedSimpArgs false
section
variable {w : World} {s : Sl} {l : List Ins}
/-- Each way to b goes over a. -/
def Ahead (l : List Ins) (a b : Int) : Prop := formP l = 0 ∧ Rch l a ∧ Rch l b ∧ (a = b ∨ a = 0 ∨ ¬ (b = 0 ∨ Pth l a 0 b))
open Classical in
noncomputable def flowRound (l : List Ins) : List Int := if formP l ≠ 0 then [] else picks l.length fun i => decide (Rch l i ∧ Pth l (-1) i i)
theorem flowRound_length (l : List Ins) : (flowRound l).length ≤ 48 := by
  unfold flowRound
  split
  · simp
  · rename_i h
    have h1 := formP_size (l := l) (Classical.not_not.1 h)
    exact Nat.le_trans (picks_le _ _) h1.2
theorem getElem_flowReach {k : Nat} {x : Int} (h : (flowReach l)[k]? = some x) : formP l = 0 ∧ Rch l x := by
  have := List.mem_of_getElem? h
  unfold flowReach at this
  split at this
  · simp at this
  · rename_i hq
    obtain ⟨i, rfl, _, hi⟩ := mem_picks.1 this
    exact ⟨Classical.not_not.1 hq, by simpa using hi⟩
end
end Go.Proofs.YteggdoigliddkaaGreatDoor.V

/- Contracts: texts of ops, as far as the draws ask: each comes to its end, and what it hands back is well formed. -/
namespace Go.Proofs.YteggdoigliddkaaGreatDoor.V
open Go Go.RowKit
set_option linter.unusedVariables false
set_option linter.unusedSimpArgs false
theorem sxAny {s : ByteArray} {i : Int} {w : World} {K : Int → World → Prop} (h0 : 0 ≤ i) (h1 : i < s.size) (hk : ∀ b : Int, 0 ≤ b → b ≤ 255 → K b w) : Sx s i w K := by
  have hi : i.toNat < s.size := by omega
  refine ⟨h0, s[i.toNat], by rw [getElem?_pos s i.toNat hi], hk _ (by omega) ?_⟩
  have := (s[i.toNat]).toNat_lt
  omega
theorem elS : El P0 35 9 kS 16 := ⟨by kernel_rfl, ⟨_, _, Option.eq_some_of_isSome (by kernel_rfl), Option.eq_some_of_isSome (by kernel_rfl), by kernel_rfl, by kernel_rfl, by kernel_rfl⟩, by decide, by intro l hl; simp [kS] at hl; simp [hl]⟩
theorem uStr : P0.underlying 9 = some .string := by kernel_rfl
/-- A string of one byte. -/
def b1 (x : Int) : ByteArray := strOfNums [x]
theorem b1_size (x : Int) : (b1 x).size = 1 := rfl
theorem conv1 {w : World} {b : Nat} {x : Int} {t : TypeId} {K : ByteArray → World → Prop} (h : w.heap[b]? = some (.cells #[.int .u8 x] t (0, 0))) (hk : K (b1 x) w) :
    RunT (.o (.lf .s)) P0 (convert 28 9 (.slice (some ⟨b, 0, none⟩) 1 1)) w K := by
  have hr := run_convert_bytes_arg (P := P0) w 28 5 (by kernel_rfl) (by kernel_rfl) b 0 1 1 [x] rfl (fun i hi => by
    obtain rfl : i = 0 := by omega
    rw [cell_of h]; rfl) 9 uStr
  exact ⟨_, w, hr, hk⟩
/-- A number's figures. -/
def decN (n : Nat) : ByteArray := if n < 10 then b1 (48 + (n : Int)) else decN (n / 10) ++ b1 (48 + ((n % 10 : Nat) : Int))
termination_by n
decreasing_by omega
theorem decN_size : ∀ (k n : Nat), n < 10 ^ (k + 1) → (decN n).size ≤ k + 1
  | 0, n, h => by rw [decN, if_pos (by simpa using h)]; rw [b1_size]; omega
  | k + 1, n, h => by
    rw [decN]
    split
    · rw [b1_size]; omega
    · rw [ByteArray.size_append, b1_size]
      have := decN_size k (n / 10) (by rw [Nat.pow_succ] at h; omega)
      omega
/-- A number as it is written. -/
def dec (n : Int) : ByteArray := if n < 0 then (⟨#[45]⟩ : ByteArray) ++ decN (-n).toNat else decN n.toNat
theorem dec_size {n : Int} (h : -1000000000000000000 < n ∧ n < 1000000000000000000) : (dec n).size ≤ 19 := by
  unfold dec
  split
  · rw [ByteArray.size_append]
    have := decN_size 17 (-n).toNat (by have : (10 : Nat) ^ (17 + 1) = 1000000000000000000 := by decide
                                        omega)
    show 1 + _ ≤ 19
    omega
  · have := decN_size 17 n.toNat (by have : (10 : Nat) ^ (17 + 1) = 1000000000000000000 := by decide
                                     omega)
    omega
theorem u8_of {x : Int} (h0 : 0 ≤ x) (h1 : x ≤ 255) : IntKind.wrap .u8 x = x := by
  rw [IntKind.wrap_u8]; omega
section
variable {w : World} {s : ByteArray}
theorem spec.l1Num.c {K : Int → World → Prop} (hs : s.size < 4611686018427387904) (hk : ∀ n, K n w) : CallT (.o (.lf (.i .i64))) P0 49 [.string s] w K := by
  refine spec.l1Num.ok ⟨fun n i w' => ∃ k : Nat, i = k ∧ k ≤ s.size ∧ w' = w, fun _ i _ => s.size - i.toNat, ⟨0, rfl, by omega, rfl⟩, ?_⟩
  rintro n i w1 ⟨k, rfl, hk1, rfl⟩ _
  refine And.intro (fun hlt => ?_) (fun hge => ?_)
  · simp only [decide_eq_true_eq] at hlt
    refine ⟨fun w' => w' = w1, ?_, ?_⟩
    · refine sxAny (by omega) (by omega) fun b hb0 hb1 => ?_
      refine And.intro (fun _ => hk _) (fun _ => ?_)
      refine sxAny (by omega) (by omega) fun b hb0 hb1 => ?_
      exact And.intro (fun _ => hk _) (fun _ => And.intro (fun _ => hk _) (fun _ => rfl))
    · rintro w2 rfl _
      refine sxAny (by omega) (by omega) fun b hb0 hb1 => ?_
      rw [i64_of (n := (k : Int) + 1) (by omega) (by omega)]
      exact ⟨⟨k + 1, by omega, by omega, rfl⟩, by simp only; omega⟩
  · refine And.intro (fun _ => hk _) (fun h0 => ?_)
    refine And.intro (fun h1 => ?_) (fun _ => hk _)
    simp only [decide_eq_true_eq] at h1
    refine sxAny (by omega) (by omega) fun b hb0 hb1 => ?_
    exact And.intro (fun _ => hk _) (fun _ => hk _)
theorem spec.l1Find.c {l : Sl} {xs : List ByteArray} {K : Int → World → Prop} (h : SlR kS w l xs) (hk : ∀ n, K n w) : CallT (.o (.lf (.i .i64))) P0 44 [l.v, .string s] w K := by
  have hn := h.len; have hm := h.max
  refine spec.l1Find.ok ⟨fun i w' => ∃ k : Nat, i = k ∧ k ≤ xs.length ∧ w' = w, fun i _ => xs.length - i.toNat, ⟨0, rfl, by omega, rfl⟩, ?_⟩
  rintro i w1 ⟨k, rfl, hk1, rfl⟩ _
  refine And.intro (fun hlt => ?_) (fun hge => hk _)
  simp only [decide_eq_true_eq] at hlt
  obtain ⟨x, hx⟩ := get_some (l := xs) (k := k) (by omega)
  refine ixL h (i := k) (by omega) (x := x) (by simpa using hx) rfl (l := .s) (v := x) rfl ?_
  refine And.intro (fun _ => hk _) (fun _ => ?_)
  rw [i64_of (n := (k : Int) + 1) (by omega) (by omega)]
  exact ⟨⟨k + 1, by omega, by omega, rfl⟩, by simp only; omega⟩
theorem spec.l1Words.c {K : Sl → World → Prop} (hk : ∀ r w' xs, Below w.heap.size w w' → SlR kS w' r xs → xs.length = 21 → (∀ y ∈ xs, y.size ≤ 8) → K r w') : CallT (.o (.lf .sl)) P0 45 [] w K := by
  refine spec.l1Words.ok (nw fun w1 hb hs hc => ?_)
  refine hk _ _ _ hb (OwnS.lit (k := kS) (B := 0) (xs := [_, _, _, _, _, _, _, _, _, _, _, _, _, _, _, _, _, _, _, _, _]) (Nat.zero_le _) hc rfl rfl (by simp [maxLen])).read rfl ?_
  decide
theorem spec.l1Calls.c {K : Sl → World → Prop} (hk : ∀ r w' xs, Below w.heap.size w w' → SlR kS w' r xs → xs.length = 7 → (∀ y ∈ xs, y.size ≤ 8) → K r w') : CallT (.o (.lf .sl)) P0 100 [] w K := by
  refine spec.l1Calls.ok (nw fun w1 hb hs hc => ?_)
  refine hk _ _ _ hb (OwnS.lit (k := kS) (B := 0) (xs := [_, _, _, _, _, _, _]) (Nat.zero_le _) hc rfl rfl (by simp [maxLen])).read rfl ?_
  decide
end
theorem spBelow (w : World) : SpOk (fun a b : World => Below a.heap.size a b) w := ⟨fun a => Below.refl _ _, fun a b c h1 h2 => h1.trans (h2.mono h1.size), Below.drew (Below.refl _ _)⟩
theorem keptT {Sp : World → World → Prop} {α : Type} {p : α → Prop} : Kept Sp (fun x _ => p x) := fun _ _ _ h _ => h
theorem gk {r : Rs} {Sp : World → World → Prop} {w1 : World} {G : r.T → World → Prop} {w' : World} (x : r.T) (h : Sp w1 w') (hG : G x w') : GK r Sp w1 G (r.emb x) w' := ⟨x, rfl, h, hG⟩
theorem spec.l1Dec.c' : ∀ (m : Nat) {n : Int} {w : World} {K : ByteArray → World → Prop}, n.toNat = m → 0 ≤ n → n ≤ 1000000000000000000 → (∀ w', Below w.heap.size w w' → K (decN m) w') → CallT (.o (.lf .s)) P0 43 [.int .i64 n] w K := by
  intro m
  induction m using Nat.strongRecOn with
  | _ m ih =>
    intro n w K hm h0 h1 hk
    refine spec.l1Dec.ok (And.intro (fun h => by simp only [decide_eq_true_eq] at h; omega) (fun _ => And.intro (fun h => by simp only [decide_eq_true_eq] at h; omega) (fun _ => And.intro (fun h => ?_) (fun h => ?_))))
    · simp only [decide_eq_true_eq] at h
      rw [i64_of (by omega) (by omega), u8_of (by omega) (by omega)]
      refine nw fun w1 hb hs hc => conv1 hc (kof (hk w1 hb) ?_)
      rw [decN, if_pos (by omega), show ((m : Nat) : Int) = n by omega]
    · simp only [decide_eq_false_iff_not] at h
      have hd : decN m = decN (m / 10) ++ b1 (48 + ((m % 10 : Nat) : Int)) := by rw [decN, if_neg (by omega)]
      have hsz := decN_size 19 (m / 10) (by have : (10 : Nat) ^ (19 + 1) = 100000000000000000000 := by decide
                                            omega)
      have hmod : 48 + Int.tmod n 10 = 48 + ((m % 10 : Nat) : Int) := by rw [Int.tmod_eq_emod_of_nonneg h0]; omega
      refine ⟨fun a b => Below a.heap.size a b, spBelow w, fun r _ => r = decN (m / 10), keptT, fun t w' => ∃ b, t = ⟨some ⟨b, 0, none⟩, 1, 1⟩ ∧ w'.heap[b]? = some (.cells #[.int .u8 (48 + ((m % 10 : Nat) : Int))] 5 (0, 0)), ?_, fun r _ => r = b1 (48 + ((m % 10 : Nat) : Int)), keptT, fun r _ => r = decN m, keptT, by decide, fun w1 hb1 => ?_, ?_⟩
      · rintro t a b ⟨bb, rfl, hh⟩ hab
        exact ⟨bb, rfl, (hab.block _ (Array.getElem?_eq_some_iff.1 hh).1).trans hh⟩
      · have hq : IntKind.wrap .i64 (Int.tdiv n 10) = n / 10 := by
          rw [Int.tdiv_eq_ediv_of_nonneg h0]; exact i64_of (by omega) (by omega)
        rw [hq]
        exact ih (m / 10) (by omega) (by omega) (by omega) (by omega) fun w' hb => ⟨_, rfl, hb, rfl⟩
      · intro t20
        refine ⟨by decide, fun w1 hb1 => ?_, ?_⟩
        · rw [hmod, i64_of (by omega) (by omega), u8_of (by omega) (by omega)]
          exact nw fun w2 hb hs hc => ⟨⟨some ⟨w1.heap.size, 0, none⟩, 1, 1⟩, rfl, hb, _, rfl, hc⟩
        · intro t25
          refine ⟨fun w1 hb1 hG => ?_, ?_⟩
          · obtain ⟨b, rfl, hc⟩ := hG
            exact conv1 hc ⟨_, rfl, Below.refl _ _, rfl⟩
          · intro t26
            refine ⟨fun w1 hb1 h20 h26 => ?_, ?_⟩
            · rw [h20, h26]
              refine ⟨?_, _, rfl, Below.refl _ _, hd.symm⟩
              have : IntKind.i64.max = 9223372036854775807 := rfl
              rw [b1_size]; omega
            · intro t27 w' hb' _ _ _ h27
              exact kof (hk _ hb') h27.symm
theorem spec.l1Dec.c {n : Int} {w : World} {K : ByteArray → World → Prop} (h : -1000000000000000000 < n ∧ n < 1000000000000000000) (hk : ∀ w', Below w.heap.size w w' → K (dec n) w') : CallT (.o (.lf .s)) P0 43 [.int .i64 n] w K := by
  rcases Int.lt_or_le n 0 with h0 | h0
  · have hsz := decN_size 17 (-n).toNat (by have : (10 : Nat) ^ (17 + 1) = 1000000000000000000 := by decide
                                            omega)
    refine spec.l1Dec.ok (And.intro (fun h => by simp only [decide_eq_true_eq] at h; omega) (fun _ => And.intro (fun _ => ?_) (fun h => by simp only [decide_eq_false_iff_not] at h; omega)))
    rw [i64_of (by omega) (by omega)]
    refine spec.l1Dec.c' _ rfl (by omega) (by omega) fun w1 hb => ⟨?_, kof (hk w1 hb) ?_⟩
    · have : IntKind.i64.max = 9223372036854775807 := rfl
      rw [show (0 - n).toNat = (-n).toNat by omega]
      show ((1 + _ : Nat) : Int) ≤ _
      omega
    · unfold dec; rw [if_pos h0, show (0 - n).toNat = (-n).toNat by omega]
  · exact spec.l1Dec.c' _ rfl h0 (by omega) fun w1 hb => kof (hk w1 hb) (by unfold dec; rw [if_neg (by omega)])
theorem imax : IntKind.i64.max = 9223372036854775807 := rfl
/-- A register, or a number, as it is written. -/
def regS (src imm : Int) : ByteArray := if 0 ≤ src then (⟨#[114]⟩ : ByteArray) ++ dec src else dec imm
theorem regS_size {src imm : Int} (h1 : -1 ≤ src ∧ src ≤ 1000) (h2 : 0 ≤ imm ∧ imm ≤ 4294967295) : (regS src imm).size ≤ 20 := by
  unfold regS
  split
  · rw [ByteArray.size_append]
    have := dec_size (n := src) (by omega)
    show 1 + _ ≤ 20
    omega
  · have := dec_size (n := imm) (by omega); omega
theorem spec.l1Reg.c {src imm : Int} {w : World} {K : ByteArray → World → Prop} (h1 : -1 ≤ src ∧ src ≤ 1000) (h2 : 0 ≤ imm ∧ imm ≤ 4294967295) (hk : ∀ w', Below w.heap.size w w' → K (regS src imm) w') : CallT (.o (.lf .s)) P0 101 [.int .i64 src, .int .i64 imm] w K := by
  refine spec.l1Reg.ok (And.intro (fun h => ?_) (fun h => ?_))
  · simp only [decide_eq_true_eq] at h
    have := dec_size (n := src) (by omega)
    refine spec.l1Dec.c (by omega) fun w1 hb => ⟨?_, kof (hk w1 hb) (by unfold regS; rw [if_pos (by omega)])⟩
    rw [imax]; show ((1 + _ : Nat) : Int) ≤ _; omega
  · simp only [decide_eq_false_iff_not] at h
    exact spec.l1Dec.c (by omega) fun w1 hb => kof (hk w1 hb) (by unfold regS; rw [if_neg (by omega)])
theorem szS (a b : ByteArray) (n : Nat) (h : a.size + b.size ≤ n) (hn : n ≤ 1000) : ((a.size + b.size : Nat) : Int) ≤ IntKind.i64.max := by rw [imax]; omega
set_option maxHeartbeats 2000000 in
theorem spec.l1Line.c {x : Ins} {w : World} {K : ByteArray → World → Prop} (hp : InsP x) (hk : ∀ r w', Below w.heap.size w w' → K r w') : CallT (.o (.lf .s)) P0 81 [.agg (Tup.cells (R 6 (.i .i64)) x.t).toArray] w K := by
  have hop : 1 ≤ x.op ∧ x.op ≤ 20 := by have := hp.2.2.2.2; grind [BareP, szP]
  have hdst := hp.1
  have hsrc := hp.2.1
  have hoff := hp.2.2.1
  have himm := hp.2.2.2.1
  have hsize : (x.op = 17 ∨ x.op = 18) → 0 ≤ x.size ∧ x.size ≤ 4 := by have := hp.2.2.2.2; grind [BareP, szP]
  have hcall : x.op = 19 → 1 ≤ x.imm ∧ x.imm ≤ 6 := by have := hp.2.2.2.2; grind [BareP, szP]
  refine spec.l1Line.ok (nwIns fun w1 hb1 hs1 hc1 => ?_)
  have at1 : ∀ {w' : World}, Below w1.heap.size w1 w' → w'.heap[w.heap.size]? = some (.cells x.cs 39 (0, 0)) := fun hb => (hb.block _ (by omega)).trans hc1
  refine ⟨fun a b => Below a.heap.size a b, spBelow w1, fun r w' => ∃ xs, SlR kS w' r xs ∧ xs.length = 21 ∧ ∀ y ∈ xs, y.size ≤ 8, ?_, fun v _ => v = x.op, keptT, fun a w' => ∃ y : ByteArray, w'.cell? a = some (.string y) ∧ y.size ≤ 8, ?_, fun y _ => y.size ≤ 8, keptT, fun w2 hb2 => ?_, fun t5 => ⟨fun w2 hb2 => ?_, fun t7 => ⟨fun w2 hb2 h5 h7 => ?_, fun t8 => ⟨fun w2 hb2 h8 => ?_, fun t9 w2 hb2 _ _ _ h9 => ?_⟩⟩⟩⟩
  · rintro r a b ⟨xs, h, hr⟩ hab; exact ⟨xs, h.below hab, hr⟩
  · rintro r a b ⟨y, h, hr⟩ hab; exact ⟨y, by rw [hab.cell (World.block_lt_of_cell? a _ h)]; exact h, hr⟩
  · exact spec.l1Words.c fun r w3 xs hb3 hr hl hy => ⟨r, rfl, hb3, xs, hr, hl, hy⟩
  · exact ldB (at1 hb2) (x := x.op) rfl ⟨x.op, rfl, Below.refl _ _, rfl⟩
  · obtain ⟨xs, hr, hl, hy⟩ := h5
    subst h7
    obtain ⟨y, hyx⟩ := get_some (l := xs) (k := x.op.toNat) (by omega)
    refine ixR hr (by omega) hyx rfl fun b o hA => ⟨⟨b, o, none⟩, rfl, Below.refl _ _, y, ?_, hy y (List.mem_of_getElem? hyx)⟩
    exact hA 0 (.string y) rfl
  · obtain ⟨y, hc, hy⟩ := h8
    exact ⟨y, hc, y, rfl, Below.refl _ _, hy⟩
  · have bb2 : Below w.heap.size w w2 := hb1.trans (hb2.mono hb1.size)
    have hs12 := hb2.size
    have ddst := dec_size (n := x.dst) (by omega)
    have dsrc := dec_size (n := x.src) (by omega)
    have doff := dec_size (n := x.off) (by omega)
    have dimm := dec_size (n := x.imm) (by omega)
    have dreg := regS_size (src := x.src) (imm := x.imm) (by omega) himm
    have kk : ∀ {w' : World} (r : ByteArray), Below w2.heap.size w2 w' → K r w' := fun r hb => hk _ _ (bb2.trans (hb.mono bb2.size))
    have c2 : ∀ {w' : World}, Below w2.heap.size w2 w' → w'.heap[w.heap.size]? = some (.cells x.cs 39 (0, 0)) := fun hb => at1 (hb2.trans (hb.mono hb2.size))
    have s1 : (⟨#[32]⟩ : ByteArray).size = 1 := rfl
    have s2 : (⟨#[32, 114]⟩ : ByteArray).size = 2 := rfl
    have qdec : ∀ (n : Int) {C : World → Prop} {K : ByteArray → Prop}, (-1000000000000000000 < n ∧ n < 1000000000000000000) → (∀ w4 w5, C w4 → Below w4.heap.size w4 w5 → C w5) → K (dec n) → QCl (.o (.lf .s)) P0 43 [.int .i64 n] C K :=
      fun n C K hn hC hK => qcl _ (fun w4 hb4 => spec.l1Dec.c hn fun w5 hb5 => ⟨rfl, hC _ _ hb4 hb5⟩) hK
    have qreg : ∀ {C : World → Prop} {K : ByteArray → Prop}, (∀ w4 w5, C w4 → Below w4.heap.size w4 w5 → C w5) → K (regS x.src x.imm) → QCl (.o (.lf .s)) P0 101 [.int .i64 x.src, .int .i64 x.imm] C K :=
      fun {C K} hC hK => qcl _ (fun w4 hb4 => spec.l1Reg.c (by omega) himm fun w5 hb5 => ⟨rfl, hC _ _ hb4 hb5⟩) hK
    have cl : ∀ {w3 : World} (w4 w5 : World), Below w3.heap.size w3 w4 → Below w4.heap.size w4 w5 → Below w3.heap.size w3 w5 := fun w4 w5 h1 h2 => h1.trans (h2.mono h1.size)
    refine ldB (c2 (Below.refl _ _)) (x := x.dst) rfl ?_
    refine spec.l1Dec.c (by omega) fun w3 hb3 => ⟨szS _ _ 30 (by rw [s2]; omega) (by omega), ?_⟩
    refine ldB (c2 hb3) (x := x.op) rfl (spec.l1Alu.c ?_)
    refine And.intro (fun _ => ?_) (fun _ => ?_)
    · refine ⟨szS _ _ 50 (by (try simp only [ByteArray.size_append, s1, s2]); omega) (by omega), szS _ _ 60 (by (try simp only [ByteArray.size_append, s1, s2]); omega) (by omega), ?_⟩
      refine ldB (c2 hb3) (x := x.src) rfl (ldB (c2 hb3) (x := x.imm) rfl ?_)
      refine spec.l1Reg.c (by omega) himm fun w4 hb4 => ⟨szS _ _ 100 (by (try simp only [ByteArray.size_append, s1, s2]); omega) (by omega), kk _ (hb3.trans (hb4.mono hb3.size))⟩
    · refine ldB (c2 hb3) (x := x.op) rfl (spec.l1Jump.c ?_)
      refine And.intro (fun _ => ?_) (fun _ => ?_)
      · refine ⟨szS _ _ 50 (by (try simp only [ByteArray.size_append, s1, s2]); omega) (by omega), szS _ _ 60 (by (try simp only [ByteArray.size_append, s1, s2]); omega) (by omega), ?_⟩
        refine qldB (c2 hb3) (x := x.src) rfl ?_
        refine qldB (c2 hb3) (x := x.imm) rfl ?_
        refine qreg cl ?_
        refine ⟨szS _ _ 100 (by (try simp only [ByteArray.size_append, s1, s2]); omega) (by omega), szS _ _ 100 (by (try simp only [ByteArray.size_append, s1, s2]); omega) (by omega), ?_⟩
        refine qldB (c2 hb3) (x := x.off) rfl ?_
        refine qdec x.off (by omega) cl ⟨szS _ _ 200 (by (try simp only [ByteArray.size_append, s1, s2]); omega) (by omega), fun w4 hb4 => kk _ (hb3.trans (hb4.mono hb3.size))⟩
      · refine ldB (c2 hb3) (x := x.op) rfl ?_
        refine And.intro (fun _ => ?_) (fun _ => ?_)
        · refine ⟨szS _ _ 50 (by (try simp only [ByteArray.size_append, s1, s2]); omega) (by omega), ldB (c2 hb3) (x := x.off) rfl ?_⟩
          exact spec.l1Dec.c (by omega) fun w4 hb4 => ⟨szS _ _ 100 (by (try simp only [ByteArray.size_append, s1, s2]); omega) (by omega), kk _ (hb3.trans (hb4.mono hb3.size))⟩
        · refine ldB (c2 hb3) (x := x.op) rfl ?_
          refine And.intro (fun h17 => ?_) (fun _ => ?_)
          · simp only [beq_iff_eq] at h17
            have hz := hsize (.inl h17)
            have dsz := dec_size (n := x.size) (by omega)
            refine qldB (c2 hb3) (x := x.size) rfl ?_
            refine qdec x.size (by omega) cl ?_
            refine ⟨szS _ _ 50 (by (try simp only [ByteArray.size_append, s1, s2]); omega) (by omega), szS _ _ 100 (by (try simp only [ByteArray.size_append, s1, s2]); omega) (by omega), szS _ _ 100 (by (try simp only [ByteArray.size_append, s1, s2]); omega) (by omega), ?_⟩
            refine qldB (c2 hb3) (x := x.src) rfl ?_
            refine qdec x.src (by omega) cl ?_
            refine ⟨szS _ _ 200 (by (try simp only [ByteArray.size_append, s1, s2]); omega) (by omega), szS _ _ 200 (by (try simp only [ByteArray.size_append, s1, s2]); omega) (by omega), ?_⟩
            refine qldB (c2 hb3) (x := x.off) rfl ?_
            refine qdec x.off (by omega) cl ⟨szS _ _ 200 (by (try simp only [ByteArray.size_append, s1, s2]); omega) (by omega), fun w4 hb4 => kk _ (hb3.trans (hb4.mono hb3.size))⟩
          · refine ldB (c2 hb3) (x := x.op) rfl ?_
            refine And.intro (fun h18 => ?_) (fun _ => ?_)
            · simp only [beq_iff_eq] at h18
              have hz := hsize (.inr h18)
              have dsz := dec_size (n := x.size) (by omega)
              refine qldB (c2 hb3) (x := x.size) rfl ?_
              refine qdec x.size (by omega) cl ?_
              refine ⟨szS _ _ 50 (by (try simp only [ByteArray.size_append, s1, s2]); omega) (by omega), szS _ _ 100 (by (try simp only [ByteArray.size_append, s1, s2]); omega) (by omega), szS _ _ 100 (by (try simp only [ByteArray.size_append, s1, s2]); omega) (by omega), ?_⟩
              refine qldB (c2 hb3) (x := x.off) rfl ?_
              refine qdec x.off (by omega) cl ?_
              refine ⟨szS _ _ 200 (by (try simp only [ByteArray.size_append, s1, s2]); omega) (by omega), szS _ _ 200 (by (try simp only [ByteArray.size_append, s1, s2]); omega) (by omega), ?_⟩
              refine qldB (c2 hb3) (x := x.src) rfl ?_
              refine qldB (c2 hb3) (x := x.imm) rfl ?_
              refine qreg cl ⟨szS _ _ 200 (by (try simp only [ByteArray.size_append, s1, s2]); omega) (by omega), fun w4 hb4 => kk _ (hb3.trans (hb4.mono hb3.size))⟩
            · refine ldB (c2 hb3) (x := x.op) rfl ?_
              refine And.intro (fun h19 => ?_) (fun _ => kk _ hb3)
              simp only [beq_iff_eq] at h19
              have hci := hcall h19
              refine ⟨fun a b => Below a.heap.size a b, spBelow w3, fun r _ => r.size ≤ 20, keptT, fun r w' => ∃ xs, SlR kS w' r xs ∧ xs.length = 7 ∧ ∀ y ∈ xs, y.size ≤ 8, ?_, fun v _ => v = x.imm, keptT, fun a w' => ∃ y : ByteArray, w'.cell? a = some (.string y) ∧ y.size ≤ 8, ?_, fun y _ => y.size ≤ 8, keptT, fun y _ => True, keptT,
                fun w4 hb4 => ⟨szS _ _ 50 (by simp only [s1]; omega) (by omega), _, rfl, Below.refl _ _, by simp only [ByteArray.size_append, s1]; omega⟩, fun t106 => ⟨fun w4 hb4 => ?_, fun t107 => ⟨fun w4 hb4 => ?_, fun t109 => ⟨fun w4 hb4 h107 h109 => ?_, fun t110 => ⟨fun w4 hb4 h110 => ?_, fun t111 => ⟨fun w4 hb4 h106 h111 => ?_, fun t112 w4 hb4 _ _ _ _ _ _ => kk _ (hb3.trans (hb4.mono hb3.size))⟩⟩⟩⟩⟩⟩
              · rintro r a b ⟨xs, h, hr⟩ hab; exact ⟨xs, h.below hab, hr⟩
              · rintro r a b ⟨y, h, hr⟩ hab; exact ⟨y, by rw [hab.cell (World.block_lt_of_cell? a _ h)]; exact h, hr⟩
              · exact spec.l1Calls.c fun r w5 xs hb5 hr hl hy => ⟨r, rfl, hb5, xs, hr, hl, hy⟩
              · exact ldB (c2 (hb3.trans (hb4.mono hb3.size))) (x := x.imm) rfl ⟨x.imm, rfl, Below.refl _ _, rfl⟩
              · obtain ⟨xs, hr, hl, hy⟩ := h107
                subst h109
                obtain ⟨y, hyx⟩ := get_some (l := xs) (k := x.imm.toNat) (by omega)
                refine ixR hr (by omega) hyx rfl fun b o hA => ⟨⟨b, o, none⟩, rfl, Below.refl _ _, y, ?_, hy y (List.mem_of_getElem? hyx)⟩
                exact hA 0 (.string y) rfl
              · obtain ⟨y, hc, hy⟩ := h110
                exact ⟨y, hc, y, rfl, Below.refl _ _, hy⟩
              · exact ⟨szS _ _ 50 (by omega) (by omega), _, rfl, Below.refl _ _, trivial⟩
end Go.Proofs.YteggdoigliddkaaGreatDoor.V

/- Contracts: how lines of ops are read, as far as the draws ask. -/
namespace Go.Proofs.YteggdoigliddkaaGreatDoor.V
open Go Go.RowKit
set_option linter.unusedVariables false
set_option linter.unusedSimpArgs false
section
variable {w : World} {s : ByteArray}
/-- A part of a text. -/
theorem sub {lo hi : Option Int} {a b : Int} (hlo : a = lo.getD 0) (hhi : b = hi.getD (s.size : Int)) (h0 : 0 ≤ a) (h1 : a ≤ b) (h2 : b ≤ s.size) (h3 : s.size < 4611686018427387904) {K : ByteArray → World → Prop} (hk : ∀ r : ByteArray, (r.size : Int) = b - a → K r w) :
    RunT (.o (.lf .s)) P0 (Instr.sliceAt 9 (.string s) (lo.map (.int .i64)) (hi.map (.int .i64)) none) w K := by
  have hu := uStr
  have hs : ∀ i j : Nat, i ≤ j → j ≤ s.size → (s.extract i j).size = j - i := fun i j h1 h2 => by rw [ByteArray.size_extract]; omega
  cases lo with
  | none =>
    cases hi with
    | none =>
      simp only [Option.getD_none] at hlo hhi
      refine ⟨s, w, ?_, hk s (by omega)⟩
      simp [Instr.sliceAt, Instr.slice, underlying, hu, Instr.sliceBounds, Instr.sliceBound, asIntOf]
      rfl
    | some h =>
      simp only [Option.getD_none, Option.getD_some] at hlo hhi
      subst hlo hhi
      refine ⟨s.extract 0 b.toNat, w, ?_, hk _ (by rw [hs _ _ (by omega) (by omega)]; omega)⟩
      simp [Instr.sliceAt, Instr.slice, underlying, hu, Instr.sliceBounds, Instr.sliceBound, asIntOf, h1, h2]
      rfl
  | some l =>
    cases hi with
    | none =>
      simp only [Option.getD_none, Option.getD_some] at hlo hhi
      subst hlo hhi
      refine ⟨s.extract a.toNat s.size, w, ?_, hk _ (by rw [hs _ _ (by omega) (by omega)]; omega)⟩
      simp [Instr.sliceAt, Instr.slice, underlying, hu, Instr.sliceBounds, Instr.sliceBound, asIntOf, h0, h1]
      rfl
    | some h =>
      simp only [Option.getD_some] at hlo hhi
      subst hlo hhi
      refine ⟨s.extract a.toNat b.toNat, w, ?_, hk _ (by rw [hs _ _ (by omega) (by omega)]; omega)⟩
      have hb0 : 0 ≤ b := by omega
      have hmx : a ≤ max b 0 := by omega
      simp [Instr.sliceAt, Instr.slice, underlying, hu, Instr.sliceBounds, Instr.sliceBound, asIntOf, h0, h1, h2, hb0, hmx]
      rfl
theorem spec.l1Signed.c {K : Int → World → Prop} (hs : s.size < 4611686018427387904) (hk : ∀ n, K n w) : CallT (.o (.lf (.i .i64))) P0 99 [.string s] w K := by
  refine spec.l1Signed.ok (And.intro (fun h => ?_) (fun _ => spec.l1Num.c hs fun n => And.intro (fun _ => hk _) (fun _ => hk _)))
  simp only [decide_eq_true_eq] at h
  refine sxAny (by omega) (by omega) fun b _ _ => ?_
  refine And.intro (fun _ => ?_) (fun _ => spec.l1Num.c hs fun n => And.intro (fun _ => hk _) (fun _ => hk _))
  refine sub (lo := some 1) (hi := none) (a := 1) (b := s.size) rfl rfl (by omega) (by omega) (by omega) hs fun r hr => ?_
  exact spec.l1Num.c (by omega) fun n => And.intro (fun _ => hk _) (fun _ => hk _)
theorem spec.l1ReadReg.c {K : (Int × Int × Unit) → World → Prop} (hs : s.size < 4611686018427387904) (hk : ∀ n, K n w) : CallT (.n [(.lf (.i .i64)), (.lf (.i .i64))]) P0 98 [.string s] w K := by
  refine spec.l1ReadReg.ok (And.intro (fun h => ?_) (fun _ => spec.l1Num.c hs fun n => hk _))
  simp only [decide_eq_true_eq] at h
  refine sxAny (by omega) (by omega) fun b _ _ => ?_
  refine And.intro (fun _ => ?_) (fun _ => spec.l1Num.c hs fun n => hk _)
  refine sub (lo := some 1) (hi := none) (a := 1) (b := s.size) rfl rfl (by omega) (by omega) (by omega) hs fun r hr => ?_
  exact spec.l1Num.c (by omega) fun n => And.intro (fun _ => hk _) (fun _ => hk _)
theorem spec.l1Cut.c {b most : Int} {K : Sl → World → Prop} (hs : s.size < 4611686018427387904) (hm : 0 ≤ most ∧ most ≤ 1000) (hk : ∀ r w' xs, Below w.heap.size w w' → SlR kS w' r xs → 1 ≤ xs.length → (∀ y ∈ xs, y.size ≤ s.size) → K r w') :
    CallT (.o (.lf .sl)) P0 42 [.string s, .int .u8 b, .int .i64 most] w K := by
  refine spec.l1Cut.ok (nw fun w0 hb0 hs0 hc0 => ?_)
  have ho0 : OwnS kS 9 w.heap.size w0 ⟨some ⟨w.heap.size, 0, none⟩, 0, 0⟩ [] := OwnS.lit (Nat.le_refl _) hc0 rfl rfl (by simp)
  refine ⟨fun out fr i w' => ∃ (k f : Nat) (xs : List ByteArray), i = k ∧ fr = f ∧ f ≤ k ∧ k ≤ s.size ∧ OwnS kS 9 w.heap.size w' out xs ∧ (∀ y ∈ xs, y.size ≤ s.size) ∧ (xs.length : Int) ≤ most ∧ Below w.heap.size w w', fun _ _ i _ => s.size - i.toNat,
    ⟨0, 0, [], rfl, rfl, by omega, by omega, ho0, by simp, by simpa using hm.1, hb0⟩, ?_⟩
  rintro out fr i w1 ⟨k, f, xs, rfl, rfl, hfk, hks, ho, hy, hl, hb1⟩ _
  have hn := ho.len
  have last : RunT (.o (.lf .s)) P0 (Instr.sliceAt 9 (.string s) (some (.int .i64 (f : Int))) none none) w1 fun (t40 : ByteArray) w2 =>
      Nw #[(.string t40)] 9 w2 fun a w3 => RunT (.o (.lf .sl)) P0 (Builtin.append_ #[35, 35] 35 #[out.v, (.slice (some a) 1 1)]) w3 fun (t42 : Sl) w4 => K t42 w4 := by
    refine sub (lo := some (f : Int)) (hi := none) (a := f) (b := s.size) rfl rfl (by omega) (by omega) (by omega) hs fun r hr => ?_
    refine ap1 elS ho r rfl (by omega) (by omega) hb1.size fun o' w' ho' hg' _ => ?_
    refine hk o' w' _ (hb1.grown hg' hb1.size (fun b hb => (ho.blk hb).1)) ho'.read (by simp) (fun y hyy => ?_)
    rcases List.mem_append.1 hyy with h | h
    · exact hy y h
    · simp at h; subst h; omega
  refine ⟨fun w' => w' = w1 ∧ k < s.size ∧ (xs.length : Int) < most, ?_, ?_⟩
  · refine And.intro (fun h1 => And.intro (fun h2 => ?_) (fun _ => last)) (fun _ => last)
    simp only [decide_eq_true_eq] at h1 h2
    exact ⟨rfl, by omega, by omega⟩
  · rintro w2 ⟨rfl, hlt, hlm⟩ _
    refine sxAny (by omega) (by omega) fun c _ _ => ?_
    rw [i64_of (n := (k : Int) + 1) (by omega) (by omega)]
    refine And.intro (fun _ => ?_) (fun _ => ?_)
    · refine sub (lo := some (f : Int)) (hi := some (k : Int)) (a := f) (b := k) rfl rfl (by omega) (by omega) (by omega) hs fun r hr => ?_
      refine ap1 elS ho r rfl (by omega) (by omega) hb1.size fun o' w' ho' hg' _ => ?_
      refine ⟨⟨k + 1, k + 1, _, by omega, by omega, by omega, by omega, ho', fun y hyy => ?_, by simp; omega, hb1.grown hg' hb1.size (fun b hb => (ho.blk hb).1)⟩, by simp only; omega⟩
      rcases List.mem_append.1 hyy with h | h
      · exact hy y h
      · simp at h; subst h; omega
    · exact ⟨⟨k + 1, f, xs, by omega, rfl, by omega, by omega, ho, hy, hl, hb1⟩, by simp only; omega⟩
end
end Go.Proofs.YteggdoigliddkaaGreatDoor.V
