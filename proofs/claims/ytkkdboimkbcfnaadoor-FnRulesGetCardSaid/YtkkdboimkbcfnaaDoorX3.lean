/- Texts of one proof, put together in build order by pack.py (the last one states what is proved). -/
import Derived.TacticsInMore
import Derived.RangeFuncIn
import Derived.RangeFuncLeaves
import Derived.RangeFuncSeq
import Derived.RangeFuncWrites
import Derived.Lib.SmallJoins
import Derived.Lib.AppendIntMem
import Derived.Test.YtkkdboimkbcfnaaDoorRows
import Derived.Handed
import Derived.HandedShaped
import Derived.Stop.LaidErr
import Derived.Lib.LaidTab
import Derived.Lay
import Derived.Laws.StructEq
import Derived.Laws.MakeOwn
import Derived.Maps.Range
import Derived.Lib.SlKeysI
import Derived.WalkArith
import Derived.Lib.AppendZerosOnto
import Derived.Lib.SlicesCompact
import Derived.Test.YtkkdboimkbcfnaaDoorX2
/- The verification-condition generator within fences: rounds of a range over a function, calls of yield. -/
namespace Go.Proofs.YtkkdboimkbcfnaaDoor.V
open Go Go.RowKit

/-- The wide fence, within a round or not. -/
def Rd (r : Option Nat) : Fence := { Fence.wide with round := r }
section
variable {P : Program} {r : Option Nat} {n : Nat}
theorem callsIn_rd {f : FuncId} {args : Array Value} {w : World} {R : Ending → World → Prop} (h : Calls P f args w R) : CallsIn (Rd r) n P f args w R :=
  ⟨trivial, fun cs _ => let ⟨e, w', fr, hr, s, x⟩ := h cs; ⟨e, w', fr, hr, comesIn_wide.2 s, x⟩⟩
theorem calls_of_rd {f : FuncId} {args : Array Value} {w : World} {R : Ending → World → Prop} (h : CallsIn (Rd r) n P f args w R) : Calls P f args w R :=
  fun cs => let ⟨e, w', fr, hr, s, x⟩ := h.2 cs (fun _ h => by simp [Rd, Fence.wide] at h); ⟨e, w', fr, hr, comesIn_wide.1 s, x⟩
theorem rowsIn_rd {row : String} {args : Array Value} {w : World} {R : Value → World → Prop} (h : Rows P row args w R) : RowsIn (Rd r) n P row args w R :=
  fun c cs _ => let ⟨v, w', hr, s⟩ := h c cs; ⟨v, w', hr, stepsIn_wide.2 s⟩
theorem roundIn_rd {m m' : Nat} {l : Nat} {f : FuncId} {tmps : Array Value} {assign body : Code} {w : World} {R : Ending → World → Prop} (h : RoundIn Fence.wide m P l f tmps assign body w R) : RoundIn (Rd r) m' P l f tmps assign body w R :=
  ⟨trivial, fun c cs _ => h.2 c cs (fun _ h => by simp [Fence.wide] at h)⟩
theorem op_in {o : Oper} {a : Act} {w : World} {next : Act → World → Prop} {Q : Exit → Act → World → Prop} (hd : ∀ c, o.op ≠ .defer c) (h : o.wp P a w next Q) : o.wpIn (Rd r) n P a w next Q := by
  refine ⟨fun _ _ => trivial, ?_⟩
  rw [Oper.semAt_eq _ _ _ hd]
  unfold Oper.wp at h
  generalize (execOp a.eval o).run P w = res at *
  cases res with
  | ok x w' =>
    cases x <;> simp only [Oper.upon] at h
    case value v => exact h
    case skip => exact h
    case defer d => exact h
    case enter f args => exact ⟨fun hh => by simp [Rd, Fence.wide] at hh, callsIn_rd h⟩
    case row row args => exact ⟨fun hh => by simp [Rd, Fence.wide] at hh, rowsIn_rd h⟩
  | halt x w' => cases x <;> simp only [Oper.upon] at h; exact h
end
/-- A call of yield. -/
def YldT (P : Program) (l : Nat) (args : List Value) (w : World) (K : Bool → World → Prop) : Prop :=
  YieldAt Fence.wide 0 P l args.toArray w (fun e w' => ∃ b, e = .returned (.bool b) ∧ K b w')
def evOpI (P : Program) (pl : OpP) (o : Oper) (env : Env) (w : World) (K : EV → World → Prop) (Q : List PanicEntry → World → Prop) : Prop :=
  match pl with
  | .y => match o.op with
    | .call { callee := .value x, args, .. } => match rho env x with
      | .func (.yield l) ⟨[]⟩ _ => YldT P l (args.toList.map (rho env)) w fun b w => K (.v (.bool b)) w
      | _ => False
    | _ => False
  | p => evOp P p o env w K Q
section
variable {P : Program} {r : Option Nat} {n : Nat} {ds : List Deferred} {o : Oper} {env : Env} {w : World} {K : EV → World → Prop} {Q : List PanicEntry → World → Prop}
variable {next : Act → World → Prop} {Q' : Exit → Act → World → Prop}
theorem evOpI_sound {pl : OpP} (hd : ∀ c, o.op ≠ .defer c) (h : evOpI P pl o env w K Q) (hK : ∀ v w', K v w' → next (act ds (put env o.dst v)) w')
    (hQ : ∀ ch w', Q ch w' → Q' (.panic ch) (act ds env) w') : o.wpIn (Rd r) n P (act ds env) w next Q' := by
  cases pl with
  | y =>
    refine ⟨fun _ _ => trivial, ?_⟩
    rw [Oper.semAt_eq _ _ _ hd, act_eval]
    obtain ⟨dst, op, type, pos, after, guard⟩ := o
    cases op <;> simp only [evOpI] at h <;> try exact h.elim
    rename_i c
    obtain ⟨callee, as1, ats⟩ := c
    cases callee <;> simp only at h <;> try exact h.elim
    rename_i x
    split at h
    · rename_i l c0 hx
      obtain ⟨fn, tmps, assign, body, hy, hR⟩ := h
      have e1 : (as1.toList.map (rho env)).toArray = as1.map (rho env) := by simp [← Array.toList_map]
      rw [e1] at hy
      have hrun : (execOp (rho env) { dst, op := .call { callee := .value x, args := as1, argTypes := ats }, type, pos, after, guard }).run P w = .ok (.round l fn tmps assign body) w := by
        simp [execOp, resolve, Deferred.ofValue, hx, invoke, hy]
      rw [hrun]
      refine ⟨fun hh => by simp [Rd, Fence.wide] at hh, roundIn_rd (hR.mono ?_)⟩
      rintro e w' ⟨b, rfl, hk⟩
      have := act_put ds env dst (.v (.bool b))
      simp only [EV.val] at this
      simp only [this]
      exact hK _ _ hk
    · exact h.elim
  | _ => exact op_in hd (evOp_sound h hK hQ)
end
def evLI (P : Program) (ops : Array Oper) (K : Exit → Env → World → Prop) : List OpP → List Oper → Env → World → Prop
  | _, [], env, w => K .normal env w
  | [], _ :: _, _, _ => False
  | p :: ps, o :: os, env, w =>
    match o.guard with
    | none => evOpI P p o env w (fun v w' => evLI P ops K ps os (put env o.dst v) w') (fun ch w' => K (.panic ch) env w')
    | some (j, want) =>
      match (ops.toList[j]?).bind (·.dst) with
      | none => False
      | some d => match env.getD d u0 with
        | .b t => match t == want with
          | true => evOpI P p o env w (fun v w' => evLI P ops K ps os (put env o.dst v) w') (fun ch w' => K (.panic ch) env w')
          | false => evLI P ops K ps os (put env o.dst u0) w
        | .v (.bool t) =>
          (t = want → evOpI P p o (env.set d (.b want)) w (fun v w' => evLI P ops K ps os (put (env.set d (.b want)) o.dst v) w') (fun ch w' => K (.panic ch) (env.set d (.b want)) w')) ∧
          (t = (!want) → evLI P ops K ps os (put (env.set d (.b (!want))) o.dst u0) w)
        | .v _ => evLI P ops K ps os (put env o.dst u0) w
def noDef : List Oper → Bool
  | [] => true
  | o :: os => (match o.op with | .defer _ => false | _ => true) && noDef os
theorem noDef_spec : ∀ {os : List Oper}, noDef os = true → ∀ o ∈ os, ∀ c, o.op ≠ .defer c
  | [], _, o, ho, _ => by simp at ho
  | o' :: os, h, o, ho, c => by
    simp only [noDef, Bool.and_eq_true] at h
    rcases List.mem_cons.1 ho with rfl | ho
    · intro e; rw [e] at h; simp at h
    · exact noDef_spec h.2 o ho c
def evI (P : Program) : Pl → Code → (Exit → Env → World → Prop) → Env → World → Prop
  | .z, c, K, env, w => match c with
    | .skip => K .normal env w
    | .label _ => K .normal env w
    | .exit id => K (.exit id) env w
    | .ret => K .ret env w
    | _ => False
  | .r ps, c, K, env, w => match c with
    | .region _ ops draw => match draw with
      | false => match noDef ops.toList with
        | true => evLI P ops K ps ops.toList env w
        | false => False
      | true => False
    | _ => False
  | .s pa pb, c, K, env, w => match c with
    | .seq a b => evI P pa a (fun e env' w' => match e with
      | .normal => evI P pb b K env' w'
      | .exit id => K (.exit id) env' w'
      | .goto l => K (.goto l) env' w'
      | .ret => K .ret env' w'
      | .panic ch => K (.panic ch) env' w'
      | .outgrown => K .outgrown env' w') env w
    | _ => False
  | .c pa pb, c, K, env, w => match c with
    | .cond x a b => match evO env x with
      | .b t => match t with
        | true => evI P pa a K env w
        | false => evI P pb b K env w
      | .v (.bool t) => (t = true → evI P pa a K env w) ∧ (t = false → evI P pb b K env w)
      | .v _ => False
    | _ => False
  | .b p, c, K, env, w => match c with
    | .block id a => evI P p a (fun e env' w' => match e with
      | .exit id' => (match id' == id with
        | true => K .normal env' w'
        | false => K (.exit id') env' w')
      | .normal => K .normal env' w'
      | .goto l => K (.goto l) env' w'
      | .ret => K .ret env' w'
      | .panic ch => K (.panic ch) env' w'
      | .outgrown => K .outgrown env' w') env w
    | _ => False
  | .l ss p, c, K, env, w => match c with
    | .loop a => match slotsIn (writes a) ss with
      | true => ∃ (I : Fn (World → Prop) ss) (μ : Fn (World → Nat) ss),
        (match unS ss env with
          | some xs => ap ss I xs w
          | none => False) ∧
        All ss fun xs => ∀ w', ap ss I xs w' → ∀ g : Nat → Value, evI P p a (fun e env' w'' => match e with
          | .normal => (match unS ss env' with
            | some ys => ap ss I ys w'' ∧ ap ss μ ys w'' < ap ss μ xs w'
            | none => False)
          | .exit id => K (.exit id) env' w''
          | .goto l => K (.goto l) env' w''
          | .ret => K .ret env' w''
          | .panic ch => K (.panic ch) env' w''
          | .outgrown => K .outgrown env' w'') (reb (writes a) (slotVal ss xs) g 0 env) w'
      | false => False
    | _ => False
  | _, _, _, _, _ => False
theorem wpIn_loop_typed {F0 : Fence} {n0 : Nat} {P : Program} {Q : Exit → Act → World → Prop} {c : Code} {σ : Type} (F : σ → Act) (I : σ → World → Prop) (μ : σ → World → Nat)
    (round : ∀ s w, I s w → c.wpIn F0 n0 P (Exit.then (fun a' w' => ∃ s', a' = F s' ∧ I s' w' ∧ μ s' w' < μ s w) Q) (F s) w) (s : σ) (w : World) (h : I s w) : (Code.loop c).wpIn F0 n0 P Q (F s) w := by
  intro b k cs hro hb hr
  have key : ∀ n s w, μ s w = n → I s w → ∃ e a' w', Q e a' w' ∧ ArrivesIn (Machine.fenced P F0) P (lone (b.atR (F s) (.code c :: .inLoop c :: k)) cs w) b k cs e a' w' := by
    intro n
    induction n using Nat.strongRecOn with
    | _ n ih =>
      intro s w hn hI
      obtain ⟨e, a₁, w₁, hq, harr⟩ := round s w hI b (.inLoop c :: k) cs hro hb hr
      cases e with
      | normal =>
        obtain ⟨s', rfl, hI₁, hlt⟩ := hq
        obtain ⟨e₂, a₂, w₂, hq₂, harr₂⟩ := ih (μ s' w₁) (hn ▸ hlt) s' w₁ rfl hI₁
        exact ⟨e₂, a₂, w₂, hq₂, .of_steps (StepsIn.trans harr (.one (fenced_calm hb hr rfl) stepR_inLoop)) harr₂⟩
      | exit id => exact ⟨_, a₁, w₁, hq, .pass (x := .inLoop c) rfl (fun _ _ => .inl (by simp)) harr⟩
      | goto l => exact ⟨_, a₁, w₁, hq, .pass (x := .inLoop c) rfl (fun _ _ => .inl (by simp)) harr⟩
      | ret => exact ⟨_, a₁, w₁, hq, .pass (x := .inLoop c) rfl (fun _ _ => .inl (by simp)) harr⟩
      | panic ch => exact ⟨_, a₁, w₁, hq, .pass (x := .inLoop c) rfl (fun _ _ => .inl (by simp)) harr⟩
      | outgrown => exact ⟨_, a₁, w₁, hq, .pass (x := .inLoop c) rfl (fun _ _ => .inl (by simp)) harr⟩
  obtain ⟨e, a', w', hq, harr⟩ := key _ s w rfl h
  exact ⟨e, a', w', hq, .of_steps (.one (fenced_calm hb hr rfl) stepR_loop) harr⟩

section
variable {P : Program} {ds : List Deferred} {r : Option Nat} {n : Nat}
theorem evLI_sound {ops : Array Oper} {S : List Nat} {env0 : Env} {K : Exit → Env → World → Prop} {Q : Exit → Act → World → Prop} (hK : ∀ e env' w', K e env' w' → Ag S env0 env' → Q e (act ds env') w') :
    ∀ (ps : List OpP) (os : List Oper) (env : Env) (w : World), (∀ o ∈ os, ∀ c, o.op ≠ .defer c) → (∀ o ∈ os, ∀ d, o.dst = some d → d ∈ S) → Ag S env0 env → evLI P ops K ps os env w → wpListIn (Rd r) n P ops Q os (act ds env) w
  | _, [], env, w, _, _, ha, h => by cases ‹List OpP› <;> exact hK _ _ _ h ha
  | [], _ :: _, _, _, _, _, _, h => h.elim
  | p :: ps, o :: os, env, w, hd, hS, ha, h => by
    have ih := evLI_sound (ops := ops) hK ps os
    have hdos : ∀ o' ∈ os, ∀ c, o'.op ≠ .defer c := fun o' ho' => hd o' (List.mem_cons_of_mem _ ho')
    have hos : ∀ o' ∈ os, ∀ d, o'.dst = some d → d ∈ S := fun o' ho' => hS o' (List.mem_cons_of_mem _ ho')
    have hod : ∀ k, o.dst = some k → k ∈ S := hS o List.mem_cons_self
    have exec : ∀ env1, act ds env1 = act ds env → Ag S env0 env1 → evOpI P p o env1 w (fun v w' => evLI P ops K ps os (put env1 o.dst v) w') (fun ch w' => K (.panic ch) env1 w') →
        o.wpIn (Rd r) n P (act ds env) w (wpListIn (Rd r) n P ops Q os) Q := by
      intro env1 he ha1 h1
      rw [← he]
      exact evOpI_sound (r := r) (n := n) (hd _ List.mem_cons_self) h1 (fun v w' hh => ih _ _ hdos hos (ha1.trans (Ag.put env1 o.dst v hod)) hh) (fun ch w' hh => hK _ _ _ hh ha1)
    have skip : ∀ env1, act ds env1 = act ds env → Ag S env0 env1 → evLI P ops K ps os (put env1 o.dst u0) w → wpListIn (Rd r) n P ops Q os ((act ds env).put o.dst undef) w := by
      intro env1 he ha1 h1
      rw [← he]
      have := act_put ds env1 o.dst u0
      simp only [EV.val, u0] at this
      rw [this]
      exact ih _ _ hdos hos (ha1.trans (Ag.put env1 o.dst _ hod)) h1
    simp only [evLI] at h
    unfold wpListIn
    split at h
    · rename_i hg
      rw [if_pos (by simp [Region.wanted, hg])]
      exact (exec env rfl ha h)
    · rename_i j want hg
      split at h
      · exact h.elim
      · rename_i d hd
        have hwant := wanted_some (ds := ds) (env := env) hg hd
        split at h
        · rename_i t ht
          simp only [ht, EV.val] at hwant
          split at h
          · rename_i htw
            rw [htw] at hwant
            rw [if_pos hwant]
            exact (exec env rfl ha h)
          · rename_i htw
            rw [htw] at hwant
            rw [if_neg (by simp [hwant])]
            exact ⟨fun _ _ => trivial, skip env rfl ha h⟩
        · rename_i t ht
          simp only [ht, EV.val] at hwant
          by_cases htw : t = want
          · subst htw
            have hv : (env.getD d u0).val = (EV.b t).val := by rw [ht]; rfl
            rw [if_pos (by simp [hwant])]
            exact (exec _ (act_set hv) (ha.trans (Ag.set hv)) (h.1 rfl))
          · have htn : t = !want := by cases t <;> cases want <;> simp_all
            have hv : (env.getD d u0).val = (EV.b (!want)).val := by rw [ht, htn]; rfl
            rw [if_neg (by rw [hwant]; simp [htw])]
            exact ⟨fun _ _ => trivial, skip _ (act_set hv) (ha.trans (Ag.set hv)) (h.2 htn)⟩
        · rename_i x hx ht
          have hw0 : Region.wanted o (yielded ops (act ds env).tmps) = false := by
            rw [hwant, ht]
            simp only [EV.val]
          rw [if_neg (by simp [hw0])]
          exact ⟨fun _ _ => trivial, skip env rfl ha h⟩
theorem evI_sound : ∀ (p : Pl) (c : Code) (K : Exit → Env → World → Prop) (Q : Exit → Act → World → Prop) (env : Env) (w : World),
    (∀ e env' w', K e env' w' → Ag (writes c) env env' → Q e (act ds env') w') → evI P p c K env w → c.wpIn (Rd r) n P Q (act ds env) w
  | .z, c, K, Q, env, w, hK, h => by
    cases c with
    | skip => exact wpIn_skip (hK _ _ _ h (Ag.refl _ _))
    | label l => exact wpIn_label (hK _ _ _ h (Ag.refl _ _))
    | exit id => exact wpIn_exit (hK _ _ _ h (Ag.refl _ _))
    | ret => exact wpIn_ret (hK _ _ _ h (Ag.refl _ _))
    | _ => exact h.elim
  | .r ps, c, K, Q, env, w, hK, h => by
    cases c with
    | region id ops draw =>
      have hS : ∀ o ∈ ops.toList, ∀ d, o.dst = some d → d ∈ writes (.region id ops draw) := fun o ho d hd => List.mem_filterMap.2 ⟨o, ho, hd⟩
      cases draw with
      | false =>
        simp only [evI] at h
        split at h
        · rename_i hnd
          exact wpIn_region_list (evLI_sound (S := writes (.region id ops false)) (env0 := env) hK ps ops.toList env w (noDef_spec hnd) hS (Ag.refl _ _) h)
        · exact h.elim
      | true => exact h.elim
    | _ => exact h.elim
  | .s pa pb, c, K, Q, env, w, hK, h => by
    cases c with
    | seq a b =>
      refine wpIn_seq (evI_sound pa a _ _ env w ?_ h)
      intro e env' w' hk hag
      have hag' : Ag (writes (.seq a b)) env env' := hag.mono fun i hi => List.mem_append_left _ hi
      cases e with
      | normal =>
        exact evI_sound pb b K Q env' w' (fun e env2 w2 h2 hag2 => hK _ _ _ h2 (hag'.trans (hag2.mono fun i hi => List.mem_append_right _ hi))) hk
      | exit id => exact hK _ _ _ hk hag'
      | goto l => exact hK _ _ _ hk hag'
      | ret => exact hK _ _ _ hk hag'
      | panic ch => exact hK _ _ _ hk hag'
      | outgrown => exact hK _ _ _ hk hag'
    | _ => exact h.elim
  | .c pa pb, c, K, Q, env, w, hK, h => by
    cases c with
    | cond x a b =>
      have hl : ∀ e env' w', K e env' w' → Ag (writes a) env env' → Q e (act ds env') w' := fun e env' w' hk hag => hK _ _ _ hk (hag.mono fun i hi => List.mem_append_left _ hi)
      have hr : ∀ e env' w', K e env' w' → Ag (writes b) env env' → Q e (act ds env') w' := fun e env' w' hk hag => hK _ _ _ hk (hag.mono fun i hi => List.mem_append_right _ hi)
      simp only [evI] at h
      split at h
      · rename_i t hx
        have hc : (act ds env).eval x = .bool t := by rw [act_eval, rho, hx]; rfl
        split at h
        · exact wpIn_cond hc (evI_sound pa a K Q env w hl h)
        · exact wpIn_cond hc (evI_sound pb b K Q env w hr h)
      · rename_i t hx
        have hc : (act ds env).eval x = .bool t := by rw [act_eval, rho, hx]; rfl
        exact wpIn_cond_split hc (fun ht => evI_sound pa a K Q env w hl (h.1 ht)) (fun ht => evI_sound pb b K Q env w hr (h.2 ht))
      · exact h.elim
    | _ => exact h.elim
  | .b p, c, K, Q, env, w, hK, h => by
    cases c with
    | block id a =>
      refine wpIn_block (evI_sound p a _ _ env w ?_ h)
      intro e env' w' hk hag
      cases e with
      | exit id' =>
        simp only at hk
        simp only [Exit.inBlock]
        split at hk
        · rename_i hh; rw [if_pos (by simpa using hh)]; exact hK _ _ _ hk hag
        · rename_i hh; rw [if_neg (by simpa using hh)]; exact hK _ _ _ hk hag
      | normal => exact hK _ _ _ hk hag
      | goto l => exact hK _ _ _ hk hag
      | ret => exact hK _ _ _ hk hag
      | panic ch => exact hK _ _ _ hk hag
      | outgrown => exact hK _ _ _ hk hag
    | _ => exact h.elim
  | .l ss p, c, K, Q, env, w, hK, h => by
    cases c with
    | loop a =>
      simp only [evI] at h
      split at h
      · rename_i hin
        obtain ⟨I, μ, h0, h1⟩ := h
        split at h0
        · rename_i xs0 hu0
          have e0 : act ds env = act ds (reb (writes a) (slotVal ss xs0) (fun i => (env.getD i u0).val) 0 env) := (reb_act (Ag.refl _ _) hu0).symm
          rw [e0]
          refine wpIn_loop_typed (σ := TS ss × (Nat → Value)) (fun s => act ds (reb (writes a) (slotVal ss s.1) s.2 0 env)) (fun s w => ap ss I s.1 w) (fun s w => ap ss μ s.1 w) ?_ (xs0, fun i => (env.getD i u0).val) w h0
          rintro ⟨xs, g⟩ w' hI
          have hag0 : Ag (writes a) env (reb (writes a) (slotVal ss xs) g 0 env) := reb_ag (slotsIn_spec hin xs)
          refine evI_sound p a _ _ _ w' ?_ (h1.out xs w' hI g)
          intro e env' w2 hk hag
          have hag' : Ag (writes a) env env' := hag0.trans hag
          cases e with
          | normal =>
            simp only at hk
            split at hk
            · rename_i ys hu
              exact ⟨(ys, fun i => (env'.getD i u0).val), (reb_act hag' hu).symm, hk.1, hk.2⟩
            · exact hk.elim
          | exit id => exact hK _ _ _ hk hag'
          | goto l => exact hK _ _ _ hk hag'
          | ret => exact hK _ _ _ hk hag'
          | panic ch => exact hK _ _ _ hk hag'
          | outgrown => exact hK _ _ _ hk hag'
        · exact h0.elim
      · exact h.elim
    | _ => exact h.elim
  | .g _ _, _, _, _, _, _, _, h => h.elim
  | .x _ _, _, _, _, _, _, _, h => h.elim
  | .j _ _ _, _, _, _, _, _, _, h => h.elim
end
def VCI (P : Program) (fn : Func) (pl : Pl) (r : Rs) (args : List Value) (w : World) (K : r.T → World → Prop) (Kp : List PanicEntry → World → Prop) : Prop :=
  evI P pl (code fn) (top P fn.results.toList r K Kp) (args.map EV.v ++ List.replicate (fn.ntmps - args.length) u0) w
/-- A call of a function that calls yield. -/
theorem callI_of {P : Program} {f : FuncId} {fn : Func} (hf : P.funcs[f]? = some fn) (hb : fn.body.isSome = true) {pl : Pl} {r : Rs} (hr : r.fine = true) {args : List Value} {w : World} {K : r.T → World → Prop}
    (h : VCI P fn pl r args w K noP) : CallT r P f args w K := by
  obtain ⟨c, hc⟩ := Option.isSome_iff_exists.1 hb
  have hcode : code fn = c := by simp [code, hc]
  unfold VCI at h
  rw [hcode] at h
  refine calls_of_rd (r := none) (n := 0) (callsIn_of_wp hf hc trivial ?_)
  have he : act [] (args.map EV.v ++ List.replicate (fn.ntmps - args.length) u0) = { tmps := args.toArray ++ Array.replicate (fn.ntmps - args.toArray.size) undef, defers := [] } := by
    simp only [act, Act.mk.injEq, and_true]
    rw [← Array.toList_inj]
    have e2 : (EV.val ∘ EV.v) = id := rfl
    simp [u0, EV.val, e2]
  rw [← he]
  refine evI_sound pl c _ _ _ w ?_ h
  intro e env' w' hk _
  cases e with
  | normal =>
    obtain ⟨x, hx, hr⟩ := results_run (ds := []) hr hk
    exact ⟨rfl, _, hr, ⟨x, rfl, hx⟩⟩
  | ret =>
    obtain ⟨x, hx, hr⟩ := results_run (ds := []) hr hk
    exact ⟨rfl, _, hr, ⟨x, rfl, hx⟩⟩
  | panic ch => exact hk.elim
  | exit id => exact hk.elim
  | goto l => exact hk.elim
  | outgrown => exact hk.elim
/-- Whatever lies from H on lies as it lay. -/
def KeepsHi (H : Nat) (A B : World) : Prop := A.heap.size ≤ B.heap.size ∧ ∀ k, H ≤ k → k < A.heap.size → B.heap[k]? = A.heap[k]?
theorem KeepsHi.refl (H : Nat) (A : World) : KeepsHi H A A := ⟨Nat.le_refl _, fun _ _ _ => rfl⟩
theorem KeepsHi.trans {H : Nat} {A B C : World} (h : KeepsHi H A B) (k : KeepsHi H B C) : KeepsHi H A C := ⟨Nat.le_trans h.1 k.1, fun i hi hl => (k.2 i hi (Nat.lt_of_lt_of_le hl h.1)).trans (h.2 i hi hl)⟩
def bPost {α : Type} (H : Nat) (I Ix : List α → World → Prop) (xs : List α) (W : World) : Exit → Act → World → Prop
  | .normal, _, W' => Below W.heap.size W W' ∧ I xs W'
  | .ret, _, W' => KeepsHi H W W' ∧ Ix xs W'
  | _, _, _ => False
theorem below_putObj {H : Nat} {W : World} {l : Nat} {o : Obj} (hl : H ≤ l) : Below H W (W.putObj l o) :=
  ⟨rfl, rfl, rfl, by simp, fun k hk => World.putObj_heap_other (by omega)⟩
/-- A range over a function whose iterator may write what it has laid itself. -/
theorem rf_law {α : Type} {P : Program} {n : Nat} {g : Operand} {ps : Array Tmp} {assign body : Code} {Q : Exit → Act → World → Prop} {a : Act} {w : World} {gf : Nat} {lb : Array Value}
    (hg : a.eval g = .func (.func gf) #[] lb) (eg : ∀ args w, (callFunc gf args).run P w = .ok (.enter gf args) w) {encs : α → Array Value} (hps : ∀ x, (encs x).size = ps.size) (ok : α → Prop)
    (I Ix : List α → World → Prop) (hI : ∀ s A B, I s A → Below w.heap.size A B → I s B) (hIx : ∀ s A B, Ix s A → Below w.heap.size A B → Ix s B) (h0 : I [] w) (xs : List α) (a₁ : α → Act)
    (hseq : ∀ (l : Nat) (W : World) (J Jx : List α → World → Prop), Below w.heap.size w W → W.heap.size = w.heap.size + 2 → (∀ s A B, J s A → Below W.heap.size A B → J s B) → (∀ s A B, Jx s A → Below W.heap.size A B → Jx s B) →
      (∀ pre x W1, ok x → J pre W1 → W.heap.size ≤ W1.heap.size → YieldAt Fence.wide 0 P l (encs x) W1 fun e W' => (e = .returned (.bool true) ∧ J (pre ++ [x]) W' ∧ Below W1.heap.size W1 W') ∨ (e = .returned (.bool false) ∧ Jx (pre ++ [x]) W')) → J [] W →
      Calls P gf (#[.func (.yield l) #[] #[]] ++ lb) W fun e W' => (∃ v, e = .returned v) ∧ (J xs W' ∨ ∃ pre, pre <+: xs ∧ Jx pre W'))
    (hassign : ∀ (l : Nat) (x : α) (W : World) (K : Act → World → Prop), K (a₁ x) W → assign.wpIn (Rd (some l)) 0 P (Exit.then K (fun _ _ _ => False)) { tmps := (ps.zip (encs x)).foldl (fun t (p, v) => t.setIfInBounds p v) a.tmps, defers := [] } W)
    (hbody : ∀ (l : Nat) (pre : List α) (x : α) (W : World), ok x → I pre W → w.heap.size + 2 ≤ W.heap.size → body.wpIn (Rd (some l)) 0 P (bPost w.heap.size I Ix (pre ++ [x]) W) (a₁ x) W)
    (hdone : ∀ W, I xs W → W.heap[w.heap.size]? = some (.deferred (some [])) → Q .normal { a with defers := { target := .collected w.heap.size, args := #[] } :: a.defers } W)
    (hstop : ∀ pre W, pre <+: xs → Ix pre W → W.heap[w.heap.size]? = some (.deferred (some [])) → Q .ret { a with defers := { target := .collected w.heap.size, args := #[] } :: a.defers } W) :
    (Code.rangeFunc g ps assign body).wpIn Fence.wide n P Q a w := by
  refine wpIn_rangeFunc ?_
  intro fn hfn
  obtain ⟨rec, hrec⟩ : ∃ rec : LoopState → Option Code → Loop, rec = fun st pe => { state := st, pending := pe, fn, tmps := a.tmps, params := ps, assign, body, defers := w.heap.size } := ⟨_, rfl⟩
  obtain ⟨W1, hW1⟩ : ∃ W1, (w.alloc (.deferred (some []))).alloc (.loop (rec .ready none)) = W1 := ⟨_, rfl⟩
  have hL1 : W1.heap[w.heap.size + 1]? = some (.loop (rec .ready none)) := by
    rw [← hW1]; have := World.alloc_heap_new (w.alloc (.deferred (some []))) (.loop (rec .ready none)); rwa [World.size_alloc] at this
  have hK1 : W1.heap[w.heap.size]? = some (.deferred (some [])) := by
    rw [← hW1]; exact (Below.heap_alloc _ _ _ (by simp)).trans (World.alloc_heap_new w _)
  have hb1 : Below w.heap.size w W1 := by
    rw [← hW1]; exact ((Below.refl _ w).alloc (Nat.le_refl _) _).alloc (by simp) _
  have hs1 : W1.heap.size = w.heap.size + 2 := by rw [← hW1]; simp
  have hI1 : I [] W1 := hI _ _ _ h0 hb1
  refine ⟨w.heap.size + 1, [{ target := .collected w.heap.size, args := #[] }], W1, { target := .fn (.func gf) lb, args := #[.func (.yield (w.heap.size + 1)) #[] #[]] }, W1, gf,
    #[.func (.yield (w.heap.size + 1)) #[] #[]] ++ lb, W1, ?_, ?_, fun _ _ => trivial, ?_, fun hh => by simp [Fence.wide] at hh, ?_⟩
  · rw [← hW1, hrec]; exact run_enterLoop_outer _ _ _ _ _
  · simp only [resolve, hg]
    simp [go_sem]
  · simp [invoke, go_sem, eg]
  · have kb : ∀ {k : Nat} {o : Obj} {A B : World}, k < W1.heap.size → A.heap[k]? = some o → Below W1.heap.size A B → B.heap[k]? = some o := fun hk h hab => (hab.block _ hk).trans h
    refine (callsIn_rd (r := none) (hseq (w.heap.size + 1) W1
      (fun pre W => I pre W ∧ W.heap[w.heap.size + 1]? = some (.loop (rec .ready none)) ∧ W.heap[w.heap.size]? = some (.deferred (some [])))
      (fun pre W => Ix pre W ∧ W.heap[w.heap.size + 1]? = some (.loop (rec .done (some .ret))) ∧ W.heap[w.heap.size]? = some (.deferred (some [])))
      hb1 hs1 (fun s A B h hab => ⟨hI _ _ _ h.1 (hab.mono (by omega)), kb (by omega) h.2.1 hab, kb (by omega) h.2.2 hab⟩) (fun s A B h hab => ⟨hIx _ _ _ h.1 (hab.mono (by omega)), kb (by omega) h.2.1 hab, kb (by omega) h.2.2 hab⟩) ?_ ⟨hI1, hL1, hK1⟩) : CallsIn Fence.wide (n - 1) P gf _ W1 _).mono ?_
    · -- one round
      rintro pre x W hok ⟨hi, hl, hk⟩ hW
      have hlt : w.heap.size + 1 < W.heap.size := (Array.getElem?_eq_some_iff.1 hl).1
      have hy := run_yield (P := P) (args := encs x) hl (by rw [hrec]; exact hps x)
      rw [hrec] at hy
      refine ⟨fn, _, assign, body, hy, roundIn_of_wpIn hfn (hassign _ x W _ ?_)⟩
      clear hy
      refine ⟨_, run_beginRound hl (by rw [hrec]), ?_⟩
      have hl2 : (W.putObj (w.heap.size + 1) (.loop { rec .ready none with state := .busy })).heap[w.heap.size + 1]? = some (.loop { rec .ready none with state := .busy }) := World.putObj_heap_same hlt
      have hk2 : (W.putObj (w.heap.size + 1) (.loop { rec .ready none with state := .busy })).heap[w.heap.size]? = some (.deferred (some [])) := (World.putObj_heap_other (by omega)).trans hk
      refine wpIn_mono (hbody _ pre x _ hok (hI _ _ _ hi (below_putObj (by omega))) (by simp; omega)) ?_
      have fin : ∀ (jump : Option Code) (W3 : World), KeepsHi w.heap.size (W.putObj (w.heap.size + 1) (.loop { rec .ready none with state := .busy })) W3 →
          (Instr.endRound (w.heap.size + 1) jump).run P W3 = .ok (.bool jump.isNone) (W3.putObj (w.heap.size + 1) (.loop (rec (if jump.isNone then .ready else .done) jump))) ∧
          (W3.putObj (w.heap.size + 1) (.loop (rec (if jump.isNone then .ready else .done) jump))).heap[w.heap.size + 1]? = some (.loop (rec (if jump.isNone then .ready else .done) jump)) ∧
          (W3.putObj (w.heap.size + 1) (.loop (rec (if jump.isNone then .ready else .done) jump))).heap[w.heap.size]? = some (.deferred (some [])) := fun jump W3 hk3 => by
        have hsz : (W.putObj (w.heap.size + 1) (.loop { rec .ready none with state := .busy })).heap.size = W.heap.size := by simp
        have hl3 := (hk3.2 _ (by omega) (by omega)).trans hl2
        have hd3 := (hk3.2 _ (Nat.le_refl _) (by omega)).trans hk2
        have hlt3 := (Array.getElem?_eq_some_iff.1 hl3).1
        have := run_endRound (P := P) jump hl3
        rw [hrec] at this ⊢
        exact ⟨this, World.putObj_heap_same hlt3, (World.putObj_heap_other (by omega)).trans hd3⟩
      rintro e a3 W3 hp
      cases e with
      | normal =>
        obtain ⟨hb3, hi3⟩ := hp
        have hsz : (W.putObj (w.heap.size + 1) (.loop { rec .ready none with state := .busy })).heap.size = W.heap.size := by simp
        obtain ⟨hr, hl4, hk4⟩ := fin none W3 ⟨hb3.size, fun k _ hk => hb3.block k (by simpa using hk)⟩
        refine ⟨_, _, hr, .inl ⟨rfl, ⟨hI _ _ _ hi3 (below_putObj (by omega)), hl4, hk4⟩, hb3.os, hb3.tape, hb3.output, by have := hb3.size; simp only [World.putObj_size] at this ⊢; exact this, fun k hk => ?_⟩⟩
        by_cases e : k = w.heap.size + 1
        · rw [e]; exact hl4.trans hl.symm
        · rw [World.putObj_heap_other e, hb3.block k (by simpa using hk), World.putObj_heap_other e]
      | ret =>
        obtain ⟨hk3, hi3⟩ := hp
        obtain ⟨hr, hl4, hk4⟩ := fin (some .ret) W3 hk3
        exact ⟨_, _, hr, .inr ⟨rfl, hIx _ _ _ hi3 (below_putObj (by omega)), hl4, hk4⟩⟩
      | exit id => exact hp.elim
      | goto t => exact hp.elim
      | panic ch => exact hp.elim
      | outgrown => exact hp.elim
    · -- behind the iterator
      rintro e W2 ⟨⟨v, rfl⟩, (⟨hi, hl, hk⟩ | ⟨pre, hSp, hi, hl, hk⟩)⟩
      · exact ⟨none, _, by have := run_endLoop (P := P) hl (by rw [hrec]; simp); rw [hrec] at this; exact this, hdone _ (hI _ _ _ hi (below_putObj (by omega))) ((World.putObj_heap_other (by omega)).trans hk)⟩
      · exact ⟨some .ret, _, by have := run_endLoop (P := P) hl (by rw [hrec]; simp); rw [hrec] at this; exact this, wpIn_ret (hstop pre _ hSp (hIx _ _ _ hi (below_putObj (by omega))) ((World.putObj_heap_other (by omega)).trans hk))⟩
theorem enters_ok {P : Program} {f : FuncId} (hc : callable P f = true) (args : Array Value) (w : World) : (callFunc f args).run P w = .ok (.enter f args) w := by
  unfold callable at hc
  split at hc
  · rename_i fn hfn
    simp only [Bool.and_eq_true, Bool.not_eq_true', beq_eq_false_iff_ne] at hc
    have hb : fn.body ≠ none := by intro hh; simp [hh] at hc
    simp [callFunc, hfn, hc.2, hb]
  · simp at hc
/-- A call of a function that holds a range over a function. -/
theorem callM_of {P : Program} {f : FuncId} {fn : Func} {c : Code} (hf : P.funcs[f]? = some fn) (hb : fn.body = some c) {r : Rs} {args : List Value} {w : World} {K : r.T → World → Prop}
    (h : c.wpIn (Rd none) 0 P (bodyPostM (Rd none) 0 P fn (fun e w' => ∃ x, e = .returned (r.emb x) ∧ K x w')) (act [] (args.map EV.v ++ List.replicate (fn.ntmps - args.length) u0)) w) : CallT r P f args w K := by
  refine calls_of_rd (r := none) (n := 0) (callsIn_of_wp_marks hf hb trivial ?_)
  have he : act [] (args.map EV.v ++ List.replicate (fn.ntmps - args.length) u0) = { tmps := args.toArray ++ Array.replicate (fn.ntmps - args.toArray.size) undef, defers := [] } := by
    simp only [act, Act.mk.injEq, and_true]
    rw [← Array.toList_inj]
    have e2 : (EV.val ∘ EV.v) = id := rfl
    simp [u0, EV.val, e2]
  rw [← he]
  exact h
/-- What goes on alone. -/
def nK (Kn : Env → World → Prop) : Exit → Env → World → Prop
  | .normal, env, w => Kn env w
  | _, _, _ => False
theorem step_seq {P : Program} {rr : Option Nat} {a b : Code} {pl : Pl} {env : Env} {ds : List Deferred} {w : World} {Q : Exit → Act → World → Prop} (h : evI P pl a (nK fun env' w' => b.wpIn (Rd rr) 0 P Q (act ds env') w') env w) :
    (Code.seq a b).wpIn (Rd rr) 0 P Q (act ds env) w :=
  wpIn_seq (evI_sound pl a _ _ env w (fun e env' w' h _ => by cases e with | normal => exact h | _ => exact h.elim) h)
theorem step_one {P : Program} {rr : Option Nat} {a : Code} {pl : Pl} {env : Env} {ds : List Deferred} {w : World} {K : Act → World → Prop} {Q : Exit → Act → World → Prop} (h : evI P pl a (nK fun env' w' => K (act ds env') w') env w) :
    a.wpIn (Rd rr) 0 P (Exit.then K Q) (act ds env) w :=
  evI_sound pl a _ _ env w (fun e env' w' h _ => by cases e with | normal => exact h | _ => exact h.elim) h
/-- The body of a round: it goes on, or it returns. -/
def bK (K : Bool → World → Prop) : Exit → Env → World → Prop
  | .normal, _, w => K true w
  | .ret, _, w => K false w
  | _, _, _ => False
theorem step_body {α : Type} {P : Program} {rr : Option Nat} {c : Code} {pl : Pl} {env : Env} {ds : List Deferred} {w : World} {H : Nat} {I Ix : List α → World → Prop} {xs : List α}
    (h : evI P pl c (bK fun t w' => match t with | true => Below w.heap.size w w' ∧ I xs w' | false => KeepsHi H w w' ∧ Ix xs w') env w) : c.wpIn (Rd rr) 0 P (bPost H I Ix xs w) (act ds env) w :=
  evI_sound pl c _ _ env w (fun e env' w' h _ => by cases e with | normal => exact h | ret => exact h | _ => exact h.elim) h
def cL : Code → Code | .seq a _ => a | c => c
def cR : Code → Code | .seq _ b => b | c => c
def cB : Code → Code | .block _ b => b | c => c
def cAs : Code → Code | .rangeFunc _ _ a _ => a | c => c
def cBd : Code → Code | .rangeFunc _ _ _ b => b | c => c
end Go.Proofs.YtkkdboimkbcfnaaDoor.V

/- Verification conditions, printed by this session's own program (wip/vc.py) and checked by the kernel. -/
namespace Go.Proofs.YtkkdboimkbcfnaaDoor.V
open Go Go.RowKit
set_option linter.unusedVariables false
/- spec.l9Words -/
def spec.l9Words.pl : Pl := (.s (.r (D 1)) (.s (.r (D 2)) .z))
def spec.l9Words.vc  (w : World) (K : Sl → World → Prop) : Prop :=
Nw #[(.string ⟨#[100, 114, 111, 112]⟩), (.string ⟨#[107, 101, 101, 112]⟩), (.string ⟨#[115, 101, 110, 100]⟩)] 9 w fun a_t1 w_ =>
K ⟨(some a_t1), 3, 3⟩ w_
theorem spec.l9Words.ok  {w : World} {K : Sl → World → Prop} (h : spec.l9Words.vc  w K) : CallT (.o (.lf .sl)) P0 65 [] w K :=
  call_of Tryd.func65 rfl rfl (pl := spec.l9Words.pl) (show VC P0 Tryd.f65 spec.l9Words.pl (.o (.lf .sl)) [] w K noP from Eq.mp (by kernel_rfl) h)
/- spec.l9Line -/
def spec.l9Line.pl : Pl := (.s (.r (D 2)) (.s (.g [(.q, []), ((.g (.o (.lf (.i .i64))) (.l (.lf (.i .i64)))), []), ((.g (.o (.lf .s)) (.c (.o (.lf .s)))), [1]), ((.g (.o (.lf .s)) .d), [2]), ((.g (.o (.lf .s)) .d), [3]), ((.g (.o (.lf .sl)) (.c (.o (.lf .sl)))), []), (.q, []), ((.g (.o (.lf (.i .i64))) (.l (.lf (.i .i64)))), []), ((.g (.o (.lf .ad)) .d), [5, 7]), ((.g (.o (.lf .s)) (.l (.lf .s))), [8]), ((.g (.o (.lf .s)) .d), [4, 9]), ((.g (.o (.lf .s)) .d), [10]), (.q, []), ((.g (.o (.lf (.i .i64))) (.l (.lf (.i .i64)))), []), ((.g (.o (.lf .s)) (.c (.o (.lf .s)))), [13]), ((.g (.o (.lf .s)) .d), [11, 14]), ((.g (.o (.lf .s)) .d), [15]), ((.g (.o (.lf .sl)) (.c (.o (.lf .sl)))), []), (.q, []), ((.g (.o (.lf (.i .i64))) (.l (.lf (.i .i64)))), []), ((.g (.o (.lf .ad)) .d), [17, 19]), ((.g (.o (.lf .s)) (.l (.lf .s))), [20]), ((.g (.o (.lf .s)) .d), [16, 21]), (.q, [22])] []) (.s (.s (.r [.d, (.l (.lf (.i .i64))), .d]) (.c (.r [.d, .d, .d, (.l (.lf (.i .i64))), (.c (.o (.lf .s))), .d, .d]) .z)) (.s (.r (D 3)) .z))))
def spec.l9Line.vc (r : Tup (R 5 (.i .i64))) (w : World) (K : ByteArray → World → Prop) : Prop :=
Nw (Tup.cells (R 5 (.i .i64)) r).toArray 53 w fun a_r w_ =>
∃ Sp : World → World → Prop, SpOk Sp w_ ∧
∃ G_t5 : Int → World → Prop, Kept Sp G_t5 ∧
∃ G_t6 : ByteArray → World → Prop, Kept Sp G_t6 ∧
∃ G_t7 : ByteArray → World → Prop, Kept Sp G_t7 ∧
∃ G_t8 : ByteArray → World → Prop, Kept Sp G_t8 ∧
∃ G_t9 : Sl → World → Prop, Kept Sp G_t9 ∧
∃ G_t11 : Int → World → Prop, Kept Sp G_t11 ∧
∃ G_t12 : Addr → World → Prop, Kept Sp G_t12 ∧
∃ G_t13 : ByteArray → World → Prop, Kept Sp G_t13 ∧
∃ G_t14 : ByteArray → World → Prop, Kept Sp G_t14 ∧
∃ G_t15 : ByteArray → World → Prop, Kept Sp G_t15 ∧
∃ G_t17 : Int → World → Prop, Kept Sp G_t17 ∧
∃ G_t18 : ByteArray → World → Prop, Kept Sp G_t18 ∧
∃ G_t19 : ByteArray → World → Prop, Kept Sp G_t19 ∧
∃ G_t20 : ByteArray → World → Prop, Kept Sp G_t20 ∧
∃ G_t21 : Sl → World → Prop, Kept Sp G_t21 ∧
∃ G_t23 : Int → World → Prop, Kept Sp G_t23 ∧
∃ G_t24 : Addr → World → Prop, Kept Sp G_t24 ∧
∃ G_t25 : ByteArray → World → Prop, Kept Sp G_t25 ∧
∃ G_t26 : ByteArray → World → Prop, Kept Sp G_t26 ∧
(∀ w__1, Sp w_ w__1 → Ld (.i .i64) (Addr.add a_r 0) w__1 fun (t5 : Int) w__2 =>
GK (.o (.lf (.i .i64))) Sp w__1 G_t5 (.int .i64 t5) w__2) ∧
∀ (t5_1 : Int), (∀ w__3, Sp w_ w__3 → G_t5 t5_1 w__3 → CallT (.o (.lf .s)) P0 63 [(.int .i64 t5_1)] w__3 fun (t6 : ByteArray) w__4 =>
GK (.o (.lf .s)) Sp w__3 G_t6 (.string t6) w__4) ∧
∀ (t6_1 : ByteArray), (∀ w__5, Sp w_ w__5 → G_t6 t6_1 w__5 → (((ByteArray.size (⟨#[98, 121, 116, 101, 32]⟩ : ByteArray) + ByteArray.size t6_1 : Nat) : Int) ≤ IntKind.i64.max) ∧ GK (.o (.lf .s)) Sp w__5 G_t7 (.string ((⟨#[98, 121, 116, 101, 32]⟩ : ByteArray) ++ t6_1)) w__5) ∧
∀ (t7 : ByteArray), (∀ w__6, Sp w_ w__6 → G_t7 t7 w__6 → (((ByteArray.size t7 + ByteArray.size (⟨#[32]⟩ : ByteArray) : Nat) : Int) ≤ IntKind.i64.max) ∧ GK (.o (.lf .s)) Sp w__6 G_t8 (.string (t7 ++ (⟨#[32]⟩ : ByteArray))) w__6) ∧
∀ (t8 : ByteArray), (∀ w__7, Sp w_ w__7 → CallT (.o (.lf .sl)) P0 64 [] w__7 fun (t9 : Sl) w__8 =>
GK (.o (.lf .sl)) Sp w__7 G_t9 t9.v w__8) ∧
∀ (t9_1 : Sl), (∀ w__9, Sp w_ w__9 → Ld (.i .i64) (Addr.add a_r 1) w__9 fun (t11 : Int) w__10 =>
GK (.o (.lf (.i .i64))) Sp w__9 G_t11 (.int .i64 t11) w__10) ∧
∀ (t11_1 : Int), (∀ w__11, Sp w_ w__11 → G_t9 t9_1 w__11 → G_t11 t11_1 w__11 → Ix t9_1.a t9_1.n t11_1 1 w__11 fun a_t12 w__12 =>
GK (.o (.lf .ad)) Sp w__11 G_t12 (.pointer (some a_t12)) w__12) ∧
∀ (t12 : Addr), (∀ w__13, Sp w_ w__13 → G_t12 t12 w__13 → Ld .s t12 w__13 fun (t13 : ByteArray) w__14 =>
GK (.o (.lf .s)) Sp w__13 G_t13 (.string t13) w__14) ∧
∀ (t13_1 : ByteArray), (∀ w__15, Sp w_ w__15 → G_t8 t8 w__15 → G_t13 t13_1 w__15 → (((ByteArray.size t8 + ByteArray.size t13_1 : Nat) : Int) ≤ IntKind.i64.max) ∧ GK (.o (.lf .s)) Sp w__15 G_t14 (.string (t8 ++ t13_1)) w__15) ∧
∀ (t14 : ByteArray), (∀ w__16, Sp w_ w__16 → G_t14 t14 w__16 → (((ByteArray.size t14 + ByteArray.size (⟨#[32]⟩ : ByteArray) : Nat) : Int) ≤ IntKind.i64.max) ∧ GK (.o (.lf .s)) Sp w__16 G_t15 (.string (t14 ++ (⟨#[32]⟩ : ByteArray))) w__16) ∧
∀ (t15 : ByteArray), (∀ w__17, Sp w_ w__17 → Ld (.i .i64) (Addr.add a_r 2) w__17 fun (t17 : Int) w__18 =>
GK (.o (.lf (.i .i64))) Sp w__17 G_t17 (.int .i64 t17) w__18) ∧
∀ (t17_1 : Int), (∀ w__19, Sp w_ w__19 → G_t17 t17_1 w__19 → CallT (.o (.lf .s)) P0 63 [(.int .i64 t17_1)] w__19 fun (t18 : ByteArray) w__20 =>
GK (.o (.lf .s)) Sp w__19 G_t18 (.string t18) w__20) ∧
∀ (t18_1 : ByteArray), (∀ w__21, Sp w_ w__21 → G_t15 t15 w__21 → G_t18 t18_1 w__21 → (((ByteArray.size t15 + ByteArray.size t18_1 : Nat) : Int) ≤ IntKind.i64.max) ∧ GK (.o (.lf .s)) Sp w__21 G_t19 (.string (t15 ++ t18_1)) w__21) ∧
∀ (t19 : ByteArray), (∀ w__22, Sp w_ w__22 → G_t19 t19 w__22 → (((ByteArray.size t19 + ByteArray.size (⟨#[32]⟩ : ByteArray) : Nat) : Int) ≤ IntKind.i64.max) ∧ GK (.o (.lf .s)) Sp w__22 G_t20 (.string (t19 ++ (⟨#[32]⟩ : ByteArray))) w__22) ∧
∀ (t20 : ByteArray), (∀ w__23, Sp w_ w__23 → CallT (.o (.lf .sl)) P0 65 [] w__23 fun (t21 : Sl) w__24 =>
GK (.o (.lf .sl)) Sp w__23 G_t21 t21.v w__24) ∧
∀ (t21_1 : Sl), (∀ w__25, Sp w_ w__25 → Ld (.i .i64) (Addr.add a_r 3) w__25 fun (t23 : Int) w__26 =>
GK (.o (.lf (.i .i64))) Sp w__25 G_t23 (.int .i64 t23) w__26) ∧
∀ (t23_1 : Int), (∀ w__27, Sp w_ w__27 → G_t21 t21_1 w__27 → G_t23 t23_1 w__27 → Ix t21_1.a t21_1.n t23_1 1 w__27 fun a_t24 w__28 =>
GK (.o (.lf .ad)) Sp w__27 G_t24 (.pointer (some a_t24)) w__28) ∧
∀ (t24 : Addr), (∀ w__29, Sp w_ w__29 → G_t24 t24 w__29 → Ld .s t24 w__29 fun (t25 : ByteArray) w__30 =>
GK (.o (.lf .s)) Sp w__29 G_t25 (.string t25) w__30) ∧
∀ (t25_1 : ByteArray), (∀ w__31, Sp w_ w__31 → G_t20 t20 w__31 → G_t25 t25_1 w__31 → (((ByteArray.size t20 + ByteArray.size t25_1 : Nat) : Int) ≤ IntKind.i64.max) ∧ GK (.o (.lf .s)) Sp w__31 G_t26 (.string (t20 ++ t25_1)) w__31) ∧
∀ (t26 : ByteArray), ∀ w__32, Sp w_ w__32 → G_t5 t5_1 w__32 → G_t6 t6_1 w__32 → G_t7 t7 w__32 → G_t8 t8 w__32 → G_t9 t9_1 w__32 → G_t11 t11_1 w__32 → G_t12 t12 w__32 → G_t13 t13_1 w__32 → G_t14 t14 w__32 → G_t15 t15 w__32 → G_t17 t17_1 w__32 → G_t18 t18_1 w__32 → G_t19 t19 w__32 → G_t20 t20 w__32 → G_t21 t21_1 w__32 → G_t23 t23_1 w__32 → G_t24 t24 w__32 → G_t25 t25_1 w__32 → G_t26 t26 w__32 → 
Ld (.i .i64) (Addr.add a_r 3) w__32 fun (t28 : Int) w__33 =>
(((t28 : Int) == 2) = true → (((ByteArray.size t26 + ByteArray.size (⟨#[32]⟩ : ByteArray) : Nat) : Int) ≤ IntKind.i64.max) ∧ Ld (.i .i64) (Addr.add a_r 4) w__33 fun (t33 : Int) w__34 =>
CallT (.o (.lf .s)) P0 63 [(.int .i64 t33)] w__34 fun (t34 : ByteArray) w__35 =>
(((ByteArray.size (t26 ++ (⟨#[32]⟩ : ByteArray)) + ByteArray.size t34 : Nat) : Int) ≤ IntKind.i64.max) ∧ (((ByteArray.size ((t26 ++ (⟨#[32]⟩ : ByteArray)) ++ t34) + ByteArray.size (⟨#[10]⟩ : ByteArray) : Nat) : Int) ≤ IntKind.i64.max) ∧ K (((t26 ++ (⟨#[32]⟩ : ByteArray)) ++ t34) ++ (⟨#[10]⟩ : ByteArray)) w__35) ∧
(((t28 : Int) == 2) = false → (((ByteArray.size t26 + ByteArray.size (⟨#[10]⟩ : ByteArray) : Nat) : Int) ≤ IntKind.i64.max) ∧ K (t26 ++ (⟨#[10]⟩ : ByteArray)) w__33)
theorem spec.l9Line.ok {r : Tup (R 5 (.i .i64))} {w : World} {K : ByteArray → World → Prop} (h : spec.l9Line.vc r w K) : CallT (.o (.lf .s)) P0 33 [(.agg (Tup.cells (R 5 (.i .i64)) r).toArray)] w K :=
  call_of Tryd.func33 rfl rfl (pl := spec.l9Line.pl) (show VC P0 Tryd.f33 spec.l9Line.pl (.o (.lf .s)) [(.agg (Tup.cells (R 5 (.i .i64)) r).toArray)] w K noP from Eq.mp (by kernel_rfl) h)
/- spec.RulesPut -/
def spec.RulesPut.pl : Pl := (.s (.r (D 1)) (.s (.r (D 1)) (.s (.s (.r (D 1)) (.b (.l [(3, .s), (4, (.i .i64))] (.s (.s (.r [.d, .d, .d, .d, (.sp .d), .d, (.c (.o (.lf .b))), .d]) (.c .z .z)) (.s (.b (.r [.d, .d, .d, .d, (.l (.ag (R 5 (.i .i64)))), (.c (.o (.lf .s))), .d, .d])) (.r (D 3))))))) (.s (.r (D 2)) .z))))
def spec.RulesPut.vc (list : Sl) (w : World) (K : ByteArray → World → Prop) : Prop :=
∃ (I : ByteArray → Int → World → Prop) (M : ByteArray → Int → World → Nat),
I ⟨#[]⟩ 0 w ∧
(∀ (out : ByteArray) (i : Int) w_, I out i w_ → ∀ _ : Nat → Value,
((decide ((i : Int) < ((list.n : Nat) : Int))) = true → CallT (.o (.lf .b)) P0 32 [list.v] w_ fun (t11 : Bool) w__1 =>
(t11 = true → Ix list.a list.n i 5 w__1 fun a_t18 w__2 =>
LdA (R 5 (.i .i64)) a_t18 w__2 fun (t19 : Tup (R 5 (.i .i64))) w__3 =>
CallT (.o (.lf .s)) P0 33 [(.agg (Tup.cells (R 5 (.i .i64)) t19).toArray)] w__3 fun (t20 : ByteArray) w__4 =>
(((ByteArray.size out + ByteArray.size t20 : Nat) : Int) ≤ IntKind.i64.max) ∧ (I (out ++ t20) (IntKind.wrap .i64 (i + 1)) w__4 ∧ M (out ++ t20) (IntKind.wrap .i64 (i + 1)) w__4 < M out i w_)) ∧
(t11 = false → K out w__1)) ∧
((decide ((i : Int) < ((list.n : Nat) : Int))) = false → K out w_))
theorem spec.RulesPut.ok {list : Sl} {w : World} {K : ByteArray → World → Prop} (h : spec.RulesPut.vc list w K) : CallT (.o (.lf .s)) P0 10 [list.v] w K :=
  call_of Tryd.func10 rfl rfl (pl := spec.RulesPut.pl) (show VC P0 Tryd.f10 spec.RulesPut.pl (.o (.lf .s)) [list.v] w K noP from Eq.mp (by kernel_rfl) h)
/- spec.RulesOk -/
def spec.RulesOk.pl : Pl := (.s (.r (D 1)) (.s (.r [.d, (.c (.o (.lf .b))), .d]) .z))
def spec.RulesOk.vc (list : Sl) (w : World) (K : Bool → World → Prop) : Prop :=
CallT (.o (.lf .b)) P0 32 [list.v] w fun (t4 : Bool) w_ =>
K t4 w_
theorem spec.RulesOk.ok {list : Sl} {w : World} {K : Bool → World → Prop} (h : spec.RulesOk.vc list w K) : CallT (.o (.lf .b)) P0 12 [list.v] w K :=
  call_of Tryd.func12 rfl rfl (pl := spec.RulesOk.pl) (show VC P0 Tryd.f12 spec.RulesOk.pl (.o (.lf .b)) [list.v] w K noP from Eq.mp (by kernel_rfl) h)
/- spec.l9Read -/
def spec.l9Read.pl : Pl := (.s (.r (D 2)) (.s (.r [.d, (.c (.o (.lf .sl))), .d]) (.j [] (.s (.r [.d, .d, .d, (.sp .d), .d, .d, .d, .d]) (.c (.s (.r (D 3)) .z) .z)) (.s (.g [(.q, []), ((.g (.o (.lf .ad)) .d), []), ((.g (.o (.lf .s)) (.l (.lf .s))), [1]), ((.g (.o (.lf (.i .i64))) (.c (.o (.lf (.i .i64))))), [2]), ((.g (.o (.lf .sl)) (.c (.o (.lf .sl)))), []), (.q, []), ((.g (.o (.lf .ad)) .d), []), ((.g (.o (.lf .s)) (.l (.lf .s))), [6]), ((.g (.o (.lf (.i .i64))) (.c (.o (.lf (.i .i64))))), [4, 7]), (.q, []), ((.g (.o (.lf .ad)) .d), []), ((.g (.o (.lf .s)) (.l (.lf .s))), [10]), ((.g (.o (.lf (.i .i64))) (.c (.o (.lf (.i .i64))))), [11]), ((.g (.o (.lf .sl)) (.c (.o (.lf .sl)))), []), (.q, []), ((.g (.o (.lf .ad)) .d), []), ((.g (.o (.lf .s)) (.l (.lf .s))), [15]), ((.g (.o (.lf (.i .i64))) (.c (.o (.lf (.i .i64))))), [13, 16]), ((.g (.o (.ag (R 5 (.i .i64)))) .d), [3, 8, 12, 17]), ((.g (.o (.lf .ad)) .d), [])] [.d]) (.s (.s (.r (D 3)) (.c (.r [.d, .d, (.l (.lf .s)), (.c (.o (.lf (.i .i64)))), .d, .d]) .z)) (.s (.g [((.g (.o (.ag (R 5 (.i .i64)))) (.l (.ag (R 5 (.i .i64))))), []), ((.g (.o (.ag (R 5 (.i .i64)))) (.l (.ag (R 5 (.i .i64))))), []), ((.g (.o (.lf .b)) (.c (.o (.lf .b)))), [1]), (.sq, [2]), ((.g (.o (.ag (R 5 (.i .i64)))) (.l (.ag (R 5 (.i .i64))))), [2]), ((.g (.o (.lf .s)) (.c (.o (.lf .s)))), [2, 4]), (.q, [2]), ((.g (.o (.lf .s)) .d), [2]), (.q, [2, 5, 7]), (.q, [2, 5, 7]), ((.g .z .d), [0])] [.d]) .z))))))
def spec.l9Read.vc (s : ByteArray) (w : World) (K : (Tup (R 5 (.i .i64))) × (Bool) × Unit → World → Prop) : Prop :=
Nw (zc P0 53) 53 w fun a_t2 w_ =>
CallT (.o (.lf .sl)) P0 40 [(.string s), (.int .u8 32), (.int .i64 6)] w_ fun (t7 : Sl) w__1 =>
∃ J : World → Prop,
(((decide ((((t7.n : Nat) : Int) : Int) < 5)) = true → StA P0 a_t2 [(.int .i64 0), (.int .i64 0), (.int .i64 0), (.int .i64 0), (.int .i64 0)] w__1 fun w__2 =>
LdA (R 5 (.i .i64)) a_t2 w__2 fun r w__3 =>
K (r, (false, ())) w__2) ∧
((decide ((((t7.n : Nat) : Int) : Int) < 5)) = false → ((decide ((((t7.n : Nat) : Int) : Int) > 6)) = true → StA P0 a_t2 [(.int .i64 0), (.int .i64 0), (.int .i64 0), (.int .i64 0), (.int .i64 0)] w__1 fun w__4 =>
LdA (R 5 (.i .i64)) a_t2 w__4 fun r_1 w__5 =>
K (r_1, (false, ())) w__4) ∧
((decide ((((t7.n : Nat) : Int) : Int) > 6)) = false → J w__1))) ∧
(∀  w__6, J w__6 → ∀ _ : Nat → Value,
∃ Sp : World → World → Prop, SpOk Sp w__6 ∧
∃ G_t18 : Addr → World → Prop, Kept Sp G_t18 ∧
∃ G_t19 : ByteArray → World → Prop, Kept Sp G_t19 ∧
∃ G_t20 : Int → World → Prop, Kept Sp G_t20 ∧
∃ G_t21 : Sl → World → Prop, Kept Sp G_t21 ∧
∃ G_t23 : Addr → World → Prop, Kept Sp G_t23 ∧
∃ G_t24 : ByteArray → World → Prop, Kept Sp G_t24 ∧
∃ G_t25 : Int → World → Prop, Kept Sp G_t25 ∧
∃ G_t27 : Addr → World → Prop, Kept Sp G_t27 ∧
∃ G_t28 : ByteArray → World → Prop, Kept Sp G_t28 ∧
∃ G_t29 : Int → World → Prop, Kept Sp G_t29 ∧
∃ G_t30 : Sl → World → Prop, Kept Sp G_t30 ∧
∃ G_t32 : Addr → World → Prop, Kept Sp G_t32 ∧
∃ G_t33 : ByteArray → World → Prop, Kept Sp G_t33 ∧
∃ G_t34 : Int → World → Prop, Kept Sp G_t34 ∧
∃ G_t35 : Tup (R 5 (.i .i64)) → World → Prop, Kept Sp G_t35 ∧
∃ G_r : Addr → World → Prop, Kept Sp G_r ∧
(∀ w__7, Sp w__6 w__7 → Ix t7.a t7.n 1 1 w__7 fun a_t18 w__8 =>
GK (.o (.lf .ad)) Sp w__7 G_t18 (.pointer (some a_t18)) w__8) ∧
∀ (t18 : Addr), (∀ w__9, Sp w__6 w__9 → G_t18 t18 w__9 → Ld .s t18 w__9 fun (t19 : ByteArray) w__10 =>
GK (.o (.lf .s)) Sp w__9 G_t19 (.string t19) w__10) ∧
∀ (t19_1 : ByteArray), (∀ w__11, Sp w__6 w__11 → G_t19 t19_1 w__11 → CallT (.o (.lf (.i .i64))) P0 74 [(.string t19_1)] w__11 fun (t20 : Int) w__12 =>
GK (.o (.lf (.i .i64))) Sp w__11 G_t20 (.int .i64 t20) w__12) ∧
∀ (t20_1 : Int), (∀ w__13, Sp w__6 w__13 → CallT (.o (.lf .sl)) P0 64 [] w__13 fun (t21 : Sl) w__14 =>
GK (.o (.lf .sl)) Sp w__13 G_t21 t21.v w__14) ∧
∀ (t21_1 : Sl), (∀ w__15, Sp w__6 w__15 → Ix t7.a t7.n 2 1 w__15 fun a_t23 w__16 =>
GK (.o (.lf .ad)) Sp w__15 G_t23 (.pointer (some a_t23)) w__16) ∧
∀ (t23 : Addr), (∀ w__17, Sp w__6 w__17 → G_t23 t23 w__17 → Ld .s t23 w__17 fun (t24 : ByteArray) w__18 =>
GK (.o (.lf .s)) Sp w__17 G_t24 (.string t24) w__18) ∧
∀ (t24_1 : ByteArray), (∀ w__19, Sp w__6 w__19 → G_t21 t21_1 w__19 → G_t24 t24_1 w__19 → CallT (.o (.lf (.i .i64))) P0 75 [t21_1.v, (.string t24_1)] w__19 fun (t25 : Int) w__20 =>
GK (.o (.lf (.i .i64))) Sp w__19 G_t25 (.int .i64 t25) w__20) ∧
∀ (t25_1 : Int), (∀ w__21, Sp w__6 w__21 → Ix t7.a t7.n 3 1 w__21 fun a_t27 w__22 =>
GK (.o (.lf .ad)) Sp w__21 G_t27 (.pointer (some a_t27)) w__22) ∧
∀ (t27 : Addr), (∀ w__23, Sp w__6 w__23 → G_t27 t27 w__23 → Ld .s t27 w__23 fun (t28 : ByteArray) w__24 =>
GK (.o (.lf .s)) Sp w__23 G_t28 (.string t28) w__24) ∧
∀ (t28_1 : ByteArray), (∀ w__25, Sp w__6 w__25 → G_t28 t28_1 w__25 → CallT (.o (.lf (.i .i64))) P0 74 [(.string t28_1)] w__25 fun (t29 : Int) w__26 =>
GK (.o (.lf (.i .i64))) Sp w__25 G_t29 (.int .i64 t29) w__26) ∧
∀ (t29_1 : Int), (∀ w__27, Sp w__6 w__27 → CallT (.o (.lf .sl)) P0 65 [] w__27 fun (t30 : Sl) w__28 =>
GK (.o (.lf .sl)) Sp w__27 G_t30 t30.v w__28) ∧
∀ (t30_1 : Sl), (∀ w__29, Sp w__6 w__29 → Ix t7.a t7.n 4 1 w__29 fun a_t32 w__30 =>
GK (.o (.lf .ad)) Sp w__29 G_t32 (.pointer (some a_t32)) w__30) ∧
∀ (t32 : Addr), (∀ w__31, Sp w__6 w__31 → G_t32 t32 w__31 → Ld .s t32 w__31 fun (t33 : ByteArray) w__32 =>
GK (.o (.lf .s)) Sp w__31 G_t33 (.string t33) w__32) ∧
∀ (t33_1 : ByteArray), (∀ w__33, Sp w__6 w__33 → G_t30 t30_1 w__33 → G_t33 t33_1 w__33 → CallT (.o (.lf (.i .i64))) P0 75 [t30_1.v, (.string t33_1)] w__33 fun (t34 : Int) w__34 =>
GK (.o (.lf (.i .i64))) Sp w__33 G_t34 (.int .i64 t34) w__34) ∧
∀ (t34_1 : Int), (∀ w__35, Sp w__6 w__35 → G_t20 t20_1 w__35 → G_t25 t25_1 w__35 → G_t29 t29_1 w__35 → G_t34 t34_1 w__35 → GK (.o (.ag (R 5 (.i .i64)))) Sp w__35 G_t35 (.agg #[(.int .i64 t20_1), (.int .i64 t25_1), (.int .i64 t29_1), (.int .i64 t34_1), (.int .i64 0)]) w__35) ∧
∀ (t35 : Tup (R 5 (.i .i64))), (∀ w__36, Sp w__6 w__36 → Nw (zc P0 53) 53 w__36 fun a_r w__37 =>
GK (.o (.lf .ad)) Sp w__36 G_r (.pointer (some a_r)) w__37) ∧
∀ (r_2 : Addr), ∀ w__38, Sp w__6 w__38 → G_t18 t18 w__38 → G_t19 t19_1 w__38 → G_t20 t20_1 w__38 → G_t21 t21_1 w__38 → G_t23 t23 w__38 → G_t24 t24_1 w__38 → G_t25 t25_1 w__38 → G_t27 t27 w__38 → G_t28 t28_1 w__38 → G_t29 t29_1 w__38 → G_t30 t30_1 w__38 → G_t32 t32 w__38 → G_t33 t33_1 w__38 → G_t34 t34_1 w__38 → G_t35 t35 w__38 → G_r r_2 w__38 → 
StA P0 r_2 (Tup.cells (R 5 (.i .i64)) t35) w__38 fun w__39 =>
(((((t7.n : Nat) : Int) : Int) == 6) = true → Ix t7.a t7.n 5 1 w__39 fun a_t40 w__40 =>
Ld .s a_t40 w__40 fun (t41 : ByteArray) w__41 =>
CallT (.o (.lf (.i .i64))) P0 74 [(.string t41)] w__41 fun (t42 : Int) w__42 =>
St (Addr.add r_2 4) (.int .i64 t42) w__42 fun w__43 =>
∃ Sp_1 : World → World → Prop, SpOk Sp_1 w__43 ∧
∃ G_t44 : Tup (R 5 (.i .i64)) → World → Prop, Kept Sp_1 G_t44 ∧
∃ G_t45 : Tup (R 5 (.i .i64)) → World → Prop, Kept Sp_1 G_t45 ∧
∃ G_t46 : Bool → World → Prop, Kept Sp_1 G_t46 ∧
∃ G_t48 : Tup (R 5 (.i .i64)) → World → Prop, Kept Sp_1 G_t48 ∧
∃ G_t49 : ByteArray → World → Prop, Kept Sp_1 G_t49 ∧
∃ G_t51 : ByteArray → World → Prop, Kept Sp_1 G_t51 ∧
∃ G_st : Unit → World → Prop, Kept Sp_1 G_st ∧
(∀ w__44, Sp_1 w__43 w__44 → LdA (R 5 (.i .i64)) r_2 w__44 fun (t44 : Tup (R 5 (.i .i64))) w__45 =>
GK (.o (.ag (R 5 (.i .i64)))) Sp_1 w__44 G_t44 (.agg (Tup.cells (R 5 (.i .i64)) t44).toArray) w__45) ∧
∀ (t44_1 : Tup (R 5 (.i .i64))), (∀ w__46, Sp_1 w__43 w__46 → LdA (R 5 (.i .i64)) r_2 w__46 fun (t45 : Tup (R 5 (.i .i64))) w__47 =>
GK (.o (.ag (R 5 (.i .i64)))) Sp_1 w__46 G_t45 (.agg (Tup.cells (R 5 (.i .i64)) t45).toArray) w__47) ∧
∀ (t45_1 : Tup (R 5 (.i .i64))), (∀ w__48, Sp_1 w__43 w__48 → G_t45 t45_1 w__48 → CallT (.o (.lf .b)) P0 62 [(.agg (Tup.cells (R 5 (.i .i64)) t45_1).toArray)] w__48 fun (t46 : Bool) w__49 =>
GK (.o (.lf .b)) Sp_1 w__48 G_t46 (.bool t46) w__49) ∧
∀ (t46_1 : Bool), (t46_1 = true → (∀ w__50, Sp_1 w__43 w__50 → G_t46 t46_1 w__50 → LdA (R 5 (.i .i64)) r_2 w__50 fun (t48 : Tup (R 5 (.i .i64))) w__51 =>
GK (.o (.ag (R 5 (.i .i64)))) Sp_1 w__50 G_t48 (.agg (Tup.cells (R 5 (.i .i64)) t48).toArray) w__51) ∧
∀ (t48_1 : Tup (R 5 (.i .i64))), (∀ w__52, Sp_1 w__43 w__52 → G_t46 t46_1 w__52 → G_t48 t48_1 w__52 → CallT (.o (.lf .s)) P0 33 [(.agg (Tup.cells (R 5 (.i .i64)) t48_1).toArray)] w__52 fun (t49 : ByteArray) w__53 =>
GK (.o (.lf .s)) Sp_1 w__52 G_t49 (.string t49) w__53) ∧
∀ (t49_1 : ByteArray), (∀ w__54, Sp_1 w__43 w__54 → G_t46 t46_1 w__54 → (((ByteArray.size s + ByteArray.size (⟨#[10]⟩ : ByteArray) : Nat) : Int) ≤ IntKind.i64.max) ∧ GK (.o (.lf .s)) Sp_1 w__54 G_t51 (.string (s ++ (⟨#[10]⟩ : ByteArray))) w__54) ∧
∀ (t51 : ByteArray), (∀ w__55, Sp_1 w__43 w__55 → G_t44 t44_1 w__55 → StA P0 a_t2 (Tup.cells (R 5 (.i .i64)) t44_1) w__55 fun w__56 =>
GK .z Sp_1 w__55 G_st (.tuple #[]) w__56) ∧
∀ (st : Unit), ∀ w__57, Sp_1 w__43 w__57 → G_t44 t44_1 w__57 → G_t45 t45_1 w__57 → G_t46 t46_1 w__57 → G_t48 t48_1 w__57 → G_t49 t49_1 w__57 → G_t51 t51 w__57 → G_st st w__57 → 
LdA (R 5 (.i .i64)) a_t2 w__57 fun r_3 w__58 =>
K (r_3, ((ByteArray.toList t49_1 == ByteArray.toList t51), ())) w__57) ∧
(t46_1 = false → (∀ w__59, Sp_1 w__43 w__59 → G_t44 t44_1 w__59 → StA P0 a_t2 (Tup.cells (R 5 (.i .i64)) t44_1) w__59 fun w__60 =>
GK .z Sp_1 w__59 G_st (.tuple #[]) w__60) ∧
∀ (st_1 : Unit), ∀ w__61, Sp_1 w__43 w__61 → G_t44 t44_1 w__61 → G_t45 t45_1 w__61 → G_t46 t46_1 w__61 → fT w__61 → fT w__61 → fT w__61 → G_st st_1 w__61 → 
LdA (R 5 (.i .i64)) a_t2 w__61 fun r_4 w__62 =>
K (r_4, (false, ())) w__61)) ∧
(((((t7.n : Nat) : Int) : Int) == 6) = false → ∃ Sp_2 : World → World → Prop, SpOk Sp_2 w__39 ∧
∃ G_t44_1 : Tup (R 5 (.i .i64)) → World → Prop, Kept Sp_2 G_t44_1 ∧
∃ G_t45_1 : Tup (R 5 (.i .i64)) → World → Prop, Kept Sp_2 G_t45_1 ∧
∃ G_t46_1 : Bool → World → Prop, Kept Sp_2 G_t46_1 ∧
∃ G_t48_1 : Tup (R 5 (.i .i64)) → World → Prop, Kept Sp_2 G_t48_1 ∧
∃ G_t49_1 : ByteArray → World → Prop, Kept Sp_2 G_t49_1 ∧
∃ G_t51_1 : ByteArray → World → Prop, Kept Sp_2 G_t51_1 ∧
∃ G_st_1 : Unit → World → Prop, Kept Sp_2 G_st_1 ∧
(∀ w__63, Sp_2 w__39 w__63 → LdA (R 5 (.i .i64)) r_2 w__63 fun (t44_2 : Tup (R 5 (.i .i64))) w__64 =>
GK (.o (.ag (R 5 (.i .i64)))) Sp_2 w__63 G_t44_1 (.agg (Tup.cells (R 5 (.i .i64)) t44_2).toArray) w__64) ∧
∀ (t44_3 : Tup (R 5 (.i .i64))), (∀ w__65, Sp_2 w__39 w__65 → LdA (R 5 (.i .i64)) r_2 w__65 fun (t45_2 : Tup (R 5 (.i .i64))) w__66 =>
GK (.o (.ag (R 5 (.i .i64)))) Sp_2 w__65 G_t45_1 (.agg (Tup.cells (R 5 (.i .i64)) t45_2).toArray) w__66) ∧
∀ (t45_3 : Tup (R 5 (.i .i64))), (∀ w__67, Sp_2 w__39 w__67 → G_t45_1 t45_3 w__67 → CallT (.o (.lf .b)) P0 62 [(.agg (Tup.cells (R 5 (.i .i64)) t45_3).toArray)] w__67 fun (t46_2 : Bool) w__68 =>
GK (.o (.lf .b)) Sp_2 w__67 G_t46_1 (.bool t46_2) w__68) ∧
∀ (t46_3 : Bool), (t46_3 = true → (∀ w__69, Sp_2 w__39 w__69 → G_t46_1 t46_3 w__69 → LdA (R 5 (.i .i64)) r_2 w__69 fun (t48_2 : Tup (R 5 (.i .i64))) w__70 =>
GK (.o (.ag (R 5 (.i .i64)))) Sp_2 w__69 G_t48_1 (.agg (Tup.cells (R 5 (.i .i64)) t48_2).toArray) w__70) ∧
∀ (t48_3 : Tup (R 5 (.i .i64))), (∀ w__71, Sp_2 w__39 w__71 → G_t46_1 t46_3 w__71 → G_t48_1 t48_3 w__71 → CallT (.o (.lf .s)) P0 33 [(.agg (Tup.cells (R 5 (.i .i64)) t48_3).toArray)] w__71 fun (t49_2 : ByteArray) w__72 =>
GK (.o (.lf .s)) Sp_2 w__71 G_t49_1 (.string t49_2) w__72) ∧
∀ (t49_3 : ByteArray), (∀ w__73, Sp_2 w__39 w__73 → G_t46_1 t46_3 w__73 → (((ByteArray.size s + ByteArray.size (⟨#[10]⟩ : ByteArray) : Nat) : Int) ≤ IntKind.i64.max) ∧ GK (.o (.lf .s)) Sp_2 w__73 G_t51_1 (.string (s ++ (⟨#[10]⟩ : ByteArray))) w__73) ∧
∀ (t51_1 : ByteArray), (∀ w__74, Sp_2 w__39 w__74 → G_t44_1 t44_3 w__74 → StA P0 a_t2 (Tup.cells (R 5 (.i .i64)) t44_3) w__74 fun w__75 =>
GK .z Sp_2 w__74 G_st_1 (.tuple #[]) w__75) ∧
∀ (st_2 : Unit), ∀ w__76, Sp_2 w__39 w__76 → G_t44_1 t44_3 w__76 → G_t45_1 t45_3 w__76 → G_t46_1 t46_3 w__76 → G_t48_1 t48_3 w__76 → G_t49_1 t49_3 w__76 → G_t51_1 t51_1 w__76 → G_st_1 st_2 w__76 → 
LdA (R 5 (.i .i64)) a_t2 w__76 fun r_5 w__77 =>
K (r_5, ((ByteArray.toList t49_3 == ByteArray.toList t51_1), ())) w__76) ∧
(t46_3 = false → (∀ w__78, Sp_2 w__39 w__78 → G_t44_1 t44_3 w__78 → StA P0 a_t2 (Tup.cells (R 5 (.i .i64)) t44_3) w__78 fun w__79 =>
GK .z Sp_2 w__78 G_st_1 (.tuple #[]) w__79) ∧
∀ (st_3 : Unit), ∀ w__80, Sp_2 w__39 w__80 → G_t44_1 t44_3 w__80 → G_t45_1 t45_3 w__80 → G_t46_1 t46_3 w__80 → fT w__80 → fT w__80 → fT w__80 → G_st_1 st_3 w__80 → 
LdA (R 5 (.i .i64)) a_t2 w__80 fun r_6 w__81 =>
K (r_6, (false, ())) w__80)))
theorem spec.l9Read.ok {s : ByteArray} {w : World} {K : (Tup (R 5 (.i .i64))) × (Bool) × Unit → World → Prop} (h : spec.l9Read.vc s w K) : CallT (.n [(.ag (R 5 (.i .i64))), (.lf .b)]) P0 41 [(.string s)] w K :=
  call_of Tryd.func41 rfl rfl (pl := spec.l9Read.pl) (show VC P0 Tryd.f41 spec.l9Read.pl (.n [(.ag (R 5 (.i .i64))), (.lf .b)]) [(.string s)] w K noP from Eq.mp (by kernel_rfl) h)
/- spec.RulesGet -/
def spec.RulesGet.pl : Pl := (.s (.r (D 2)) (.s (.r (D 2)) (.s (.s (.r (D 2)) (.c (.s (.r (D 3)) .z) .z)) (.s (.s (.r (D 6)) (.c (.s (.r (D 2)) .z) .z)) (.s (.r [.d, .d, .d, .d, (.t (.o (.lf .s))), .d, .d, (.c (.o (.lf .sl))), .d]) (.s (.s (.r (D 1)) (.b (.l [(4, .sl), (6, (.i .i64))] (.s (.s (.r (D 4)) (.c .z .z)) (.s (.b (.s (.r [.d, .d, .d, (.l (.lf .s)), (.c (.n [(.ag (R 5 (.i .i64))), (.lf .b)])), .d, .d, .d, .d, .d, .d]) (.s (.s (.r [.d, .d, (.sp .d), .d, .d, .d]) (.c (.s (.r (D 2)) .z) .z)) (.r [.d, (.l (.ag (R 5 (.i .i64)))), .d, (.t (.o (.lf .sl))), .d])))) (.r (D 3))))))) (.s (.r (D 3)) .z)))))))
def spec.RulesGet.vc (s : ByteArray) (w : World) (K : (Sl) × (Bool) × Unit → World → Prop) : Prop :=
Nw #[] 53 w fun a_t9 w_ =>
((ByteArray.toList s == ByteArray.toList (⟨#[]⟩ : ByteArray)) = true → K (⟨(some a_t9), 0, 0⟩, (true, ())) w_) ∧
((ByteArray.toList s == ByteArray.toList (⟨#[]⟩ : ByteArray)) = false → Sx s (IntKind.wrap .i64 ((((ByteArray.size s) : Nat) : Int) - 1)) w_ fun t17 w__1 =>
(((t17 : Int) != 10) = true → K (⟨none, 0, 0⟩, (false, ())) w__1) ∧
(((t17 : Int) != 10) = false → RunT (.o (.lf .s)) P0 (Instr.sliceAt 9 (.string s) none (some (.int .i64 (IntKind.wrap .i64 ((((ByteArray.size s) : Nat) : Int) - 1)))) none) w__1 fun (t23 : ByteArray) w__2 =>
CallT (.o (.lf .sl)) P0 40 [(.string t23), (.int .u8 10), (.int .i64 (((ByteArray.size s) : Nat) : Int))] w__2 fun (t26 : Sl) w__3 =>
∃ (I : Sl → Int → World → Prop) (M : Sl → Int → World → Nat),
I ⟨(some a_t9), 0, 0⟩ 0 w__3 ∧
(∀ (out : Sl) (i : Int) w__4, I out i w__4 → ∀ _ : Nat → Value,
((decide ((i : Int) < ((t26.n : Nat) : Int))) = true → Ix t26.a t26.n i 1 w__4 fun a_t36 w__5 =>
Ld .s a_t36 w__5 fun (t37 : ByteArray) w__6 =>
CallT (.n [(.ag (R 5 (.i .i64))), (.lf .b)]) P0 41 [(.string t37)] w__6 fun (t38 : (Tup (R 5 (.i .i64))) × (Bool) × Unit) w__7 =>
Nw (zc P0 53) 53 w__7 fun a_r w__8 =>
StA P0 a_r (Tup.cells (R 5 (.i .i64)) t38.1) w__8 fun w__9 =>
((!t38.2.1) = true → K (⟨none, 0, 0⟩, (false, ())) w__9) ∧
((!t38.2.1) = false → ((decide ((i : Int) ≥ 6)) = true → K (⟨none, 0, 0⟩, (false, ())) w__9) ∧
((decide ((i : Int) ≥ 6)) = false → LdA (R 5 (.i .i64)) a_r w__9 fun (t48 : Tup (R 5 (.i .i64))) w__10 =>
Nw #[(.int .i64 t48.1), (.int .i64 t48.2.1), (.int .i64 t48.2.2.1), (.int .i64 t48.2.2.2.1), (.int .i64 t48.2.2.2.2.1)] 53 w__10 fun a_t49 w__11 =>
RunT (.o (.lf .sl)) P0 (Builtin.append_ #[23, 23] 23 #[out.v, (.slice (some a_t49) 1 1)]) w__11 fun (t50 : Sl) w__12 =>
(I t50 (IntKind.wrap .i64 (i + 1)) w__12 ∧ M t50 (IntKind.wrap .i64 (i + 1)) w__12 < M out i w__4)))) ∧
((decide ((i : Int) < ((t26.n : Nat) : Int))) = false → K (out, (true, ())) w__4))))
theorem spec.RulesGet.ok {s : ByteArray} {w : World} {K : (Sl) × (Bool) × Unit → World → Prop} (h : spec.RulesGet.vc s w K) : CallT (.n [(.lf .sl), (.lf .b)]) P0 15 [(.string s)] w K :=
  call_of Tryd.func15 rfl rfl (pl := spec.RulesGet.pl) (show VC P0 Tryd.f15 spec.RulesGet.pl (.n [(.lf .sl), (.lf .b)]) [(.string s)] w K noP from Eq.mp (by kernel_rfl) h)
/- spec.DrawRulesPut -/
def spec.DrawRulesPut.pl : Pl := (.s (.r (D 1)) (.s (.r [.d, (.c (.o (.lf .p))), (.c (.o (.lf .sl))), .d]) .z))
def spec.DrawRulesPut.vc (code : Sl) (w : World) (K : Sl → World → Prop) : Prop :=
CallT (.o (.lf .p)) P0 28 [code.v] w fun (t4 : Option Addr) w_ =>
CallT (.o (.lf .sl)) P0 27 [(.pointer t4)] w_ fun (t5 : Sl) w__1 =>
K t5 w__1
theorem spec.DrawRulesPut.ok {code : Sl} {w : World} {K : Sl → World → Prop} (h : spec.DrawRulesPut.vc code w K) : CallT (.o (.lf .sl)) P0 8 [code.v] w K :=
  call_of Tryd.func8 rfl rfl (pl := spec.DrawRulesPut.pl) (show VC P0 Tryd.f8 spec.DrawRulesPut.pl (.o (.lf .sl)) [code.v] w K noP from Eq.mp (by kernel_rfl) h)
/- (spec.l20Rd).of -/
def spec.l20Rd.of.pl : Pl := (.s (.r (D 1)) (.s (.r [.d, .d, .d, .d, (.c (.o (.lf (.i .i64)))), .d, (.l (.lf .s)), .d]) .z))
def spec.l20Rd.of.vc (r : Option Addr) (list : Sl) (w : World) (K : ByteArray → World → Prop) : Prop :=
CallT (.o (.lf (.i .i64))) P0 43 [(.pointer r), (.int .i64 ((list.n : Nat) : Int))] w fun (t9 : Int) w_ =>
Ix list.a list.n t9 1 w_ fun a_t10 w__1 =>
Ld .s a_t10 w__1 fun (t11 : ByteArray) w__2 =>
K t11 w__2
theorem spec.l20Rd.of.ok {r : Option Addr} {list : Sl} {w : World} {K : ByteArray → World → Prop} (h : spec.l20Rd.of.vc r list w K) : CallT (.o (.lf .s)) P0 76 [(.pointer r), list.v] w K :=
  call_of Tryd.func76 rfl rfl (pl := spec.l20Rd.of.pl) (show VC P0 Tryd.f76 spec.l20Rd.of.pl (.o (.lf .s)) [(.pointer r), list.v] w K noP from Eq.mp (by kernel_rfl) h)
/- spec.l20Bent -/
def spec.l20Bent.pl : Pl := (.s (.r (D 1)) (.s (.r [.d, .d, .d, .d, (.c (.o (.lf (.i .i64)))), .d]) (.s (.s (.r [.d, (.c (.o (.lf (.i .i64))))]) (.b (.s (.r (D 2)) (.c (.s (.r (D 4)) (.c (.s (.g [(.q, []), (.q, []), ((.g (.o (.lf .s)) (.t (.o (.lf .s)))), []), (.q, []), ((.g (.o (.lf .sl)) .d), []), ((.h (.o (.lf .s)) (.c (.o (.lf .s)))), [4]), ((.g (.o (.lf .s)) .d), [2, 5]), (.q, []), (.q, []), (.q, []), ((.g (.o (.lf .s)) (.t (.o (.lf .s)))), []), ((.g (.o (.lf .s)) .d), [6, 10]), (.q, [11])] []) .z) .z)) (.s (.r (D 2)) (.c (.s (.r [.d, .d, (.t (.o (.lf .s))), .d]) .z) (.s (.r (D 2)) (.c (.s (.r [.d, .d, .d, (.c (.o (.lf .s))), .d, .d]) .z) .z)))))))) (.s (.r (D 2)) .z))))
def spec.l20Bent.vc (r : Option Addr) (s : ByteArray) (w : World) (K : ByteArray → World → Prop) : Prop :=
CallT (.o (.lf (.i .i64))) P0 43 [(.pointer r), (.int .i64 (IntKind.wrap .i64 ((((ByteArray.size s) : Nat) : Int) + 1)))] w fun (t10 : Int) w_ =>
CallT (.o (.lf (.i .i64))) P0 43 [(.pointer r), (.int .i64 5)] w_ fun (t12 : Int) w__1 =>
(((t12 : Int) == 0) = true → ((decide ((t10 : Int) < (((ByteArray.size s) : Nat) : Int))) = true → ∃ Sp : World → World → Prop, SpOk Sp w__1 ∧
∃ N : World → Prop, NOk N w__1 ∧
∃ G_t21 : ByteArray → World → Prop, Kept Sp G_t21 ∧
∃ G_t23 : Sl → World → Prop, Kept Sp G_t23 ∧
∃ G_t24 : ByteArray → World → Prop, Kept Sp G_t24 ∧
∃ G_t25 : ByteArray → World → Prop, Kept Sp G_t25 ∧
∃ G_t29 : ByteArray → World → Prop, Kept Sp G_t29 ∧
∃ G_t30 : ByteArray → World → Prop, Kept Sp G_t30 ∧
(∀ w__2, Sp w__1 w__2 → RunT (.o (.lf .s)) P0 (Instr.sliceAt 9 (.string s) none (some (.int .i64 t10)) none) w__2 fun (t21 : ByteArray) w__3 =>
GK (.o (.lf .s)) (Sk Sp N) w__2 G_t21 (.string t21) w__3) ∧
∀ (t21_1 : ByteArray), (∀ w__4, Sp w__1 w__4 → Nw #[(.string ⟨#[0]⟩), (.string ⟨#[49]⟩), (.string ⟨#[255]⟩), (.string ⟨#[32]⟩), (.string ⟨#[114]⟩), (.string ⟨#[16]⟩)] 9 w__4 fun a_t23 w__5 =>
GK (.o (.lf .sl)) (Sk Sp N) w__4 G_t23 (.slice (some a_t23) 6 6) w__5) ∧
∀ (t23 : Sl), (∀ w__6, Sp w__1 w__6 → N w__6 → G_t23 t23 w__6 → CallT (.o (.lf .s)) P0 76 [(.pointer r), t23.v] w__6 fun (t24 : ByteArray) w__7 =>
GK (.o (.lf .s)) Sp w__6 G_t24 (.string t24) w__7) ∧
∀ (t24_1 : ByteArray), (∀ w__8, Sp w__1 w__8 → G_t21 t21_1 w__8 → G_t24 t24_1 w__8 → (((ByteArray.size t21_1 + ByteArray.size t24_1 : Nat) : Int) ≤ IntKind.i64.max) ∧ GK (.o (.lf .s)) (Sk Sp N) w__8 G_t25 (.string (t21_1 ++ t24_1)) w__8) ∧
∀ (t25 : ByteArray), (∀ w__9, Sp w__1 w__9 → RunT (.o (.lf .s)) P0 (Instr.sliceAt 9 (.string s) (some (.int .i64 (IntKind.wrap .i64 (t10 + 1)))) none none) w__9 fun (t29 : ByteArray) w__10 =>
GK (.o (.lf .s)) (Sk Sp N) w__9 G_t29 (.string t29) w__10) ∧
∀ (t29_1 : ByteArray), (∀ w__11, Sp w__1 w__11 → G_t25 t25 w__11 → G_t29 t29_1 w__11 → (((ByteArray.size t25 + ByteArray.size t29_1 : Nat) : Int) ≤ IntKind.i64.max) ∧ GK (.o (.lf .s)) (Sk Sp N) w__11 G_t30 (.string (t25 ++ t29_1)) w__11) ∧
∀ (t30 : ByteArray), ∀ w__12, Sp w__1 w__12 → G_t21 t21_1 w__12 → G_t23 t23 w__12 → G_t24 t24_1 w__12 → G_t25 t25 w__12 → G_t29 t29_1 w__12 → G_t30 t30 w__12 → 
K t30 w__12) ∧
((decide ((t10 : Int) < (((ByteArray.size s) : Nat) : Int))) = false → K s w__1)) ∧
(((t12 : Int) == 0) = false → (((t12 : Int) == 1) = true → RunT (.o (.lf .s)) P0 (Instr.sliceAt 9 (.string s) none (some (.int .i64 t10)) none) w__1 fun (t35 : ByteArray) w__13 =>
K t35 w__13) ∧
(((t12 : Int) == 1) = false → (((t12 : Int) == 2) = true → Nw #[(.string ⟨#[0]⟩), (.string ⟨#[32]⟩), (.string ⟨#[48]⟩)] 9 w__1 fun a_t40 w__14 =>
CallT (.o (.lf .s)) P0 76 [(.pointer r), (.slice (some a_t40) 3 3)] w__14 fun (t41 : ByteArray) w__15 =>
(((ByteArray.size s + ByteArray.size t41 : Nat) : Int) ≤ IntKind.i64.max) ∧ K (s ++ t41) w__15) ∧
(((t12 : Int) == 2) = false → K s w__1)))
theorem spec.l20Bent.ok {r : Option Addr} {s : ByteArray} {w : World} {K : ByteArray → World → Prop} (h : spec.l20Bent.vc r s w K) : CallT (.o (.lf .s)) P0 44 [(.pointer r), (.string s)] w K :=
  call_of Tryd.func44 rfl rfl (pl := spec.l20Bent.pl) (show VC P0 Tryd.f44 spec.l20Bent.pl (.o (.lf .s)) [(.pointer r), (.string s)] w K noP from Eq.mp (by kernel_rfl) h)
/- spec.DrawRulesGet -/
def spec.DrawRulesGet.pl : Pl := (.s (.r (D 1)) (.s (.r [.d, (.c (.o (.lf .p))), .d]) (.s (.r [.d, (.c (.o (.lf .sl))), (.c (.o (.lf .s))), .d]) (.s (.s (.r [.d, (.c (.o (.lf (.i .i64)))), .d]) (.c (.s (.r (D 2)) .z) .z)) (.s (.r [.d, .d, (.c (.o (.lf .s))), .d]) .z)))))
def spec.DrawRulesGet.vc (code : Sl) (w : World) (K : ByteArray → World → Prop) : Prop :=
CallT (.o (.lf .p)) P0 28 [code.v] w fun (t6 : Option Addr) w_ =>
CallT (.o (.lf .sl)) P0 27 [(.pointer t6)] w_ fun (t8 : Sl) w__1 =>
CallT (.o (.lf .s)) P0 10 [t8.v] w__1 fun (t9 : ByteArray) w__2 =>
CallT (.o (.lf (.i .i64))) P0 43 [(.pointer t6), (.int .i64 3)] w__2 fun (t11 : Int) w__3 =>
((decide ((t11 : Int) > 0)) = true → K t9 w__3) ∧
((decide ((t11 : Int) > 0)) = false → CallT (.o (.lf .s)) P0 44 [(.pointer t6), (.string t9)] w__3 fun (t16 : ByteArray) w__4 =>
K t16 w__4)
theorem spec.DrawRulesGet.ok {code : Sl} {w : World} {K : ByteArray → World → Prop} (h : spec.DrawRulesGet.vc code w K) : CallT (.o (.lf .s)) P0 19 [code.v] w K :=
  call_of Tryd.func19 rfl rfl (pl := spec.DrawRulesGet.pl) (show VC P0 Tryd.f19 spec.DrawRulesGet.pl (.o (.lf .s)) [code.v] w K noP from Eq.mp (by kernel_rfl) h)
/- impl.number -/
def impl.number.pl : Pl := (.s (.r (D 1)) (.s (.r [.d, (.c (.n [(.lf (.i .i64)), (.lf .any)])), .d, .d, .d, .d, .d]) (.s (.s (.r [.d, (.t (.o (.lf .b)))]) (.c (.s (.r (D 1)) .z) .z)) (.s (.r (D 2)) .z))))
def impl.number.vc (s : ByteArray) (w : World) (K : Int → World → Prop) : Prop :=
CallT (.n [(.lf (.i .i64)), (.lf .any)]) P0 97 [(.string s)] w fun (t7 : (Int) × (Value) × Unit) w_ =>
RunT (.o (.lf .b)) P0 (do eqGuard .neq 55 (.tmp 10) (.const .nilIface) t7.2.1 .nilIface; binOp .neq 55 t7.2.1 .nilIface) w_ fun (t11 : Bool) w__1 =>
(t11 = true → K (-1099511627776) w__1) ∧
(t11 = false → K t7.1 w__1)
theorem impl.number.ok {s : ByteArray} {w : World} {K : Int → World → Prop} (h : impl.number.vc s w K) : CallT (.o (.lf (.i .i64))) P0 72 [(.string s)] w K :=
  call_of Tryd.func72 rfl rfl (pl := impl.number.pl) (show VC P0 Tryd.f72 impl.number.pl (.o (.lf (.i .i64))) [(.string s)] w K noP from Eq.mp (by kernel_rfl) h)
/- impl.opWords -/
def impl.opWords.pl : Pl := (.s (.r (D 1)) (.s (.r (D 2)) .z))
def impl.opWords.vc  (w : World) (K : Tup (R 21 .s) → World → Prop) : Prop :=
Nw (zc P0 87) 87 w fun a_t0 w_ =>
StA P0 a_t0 [(.string ⟨#[]⟩), (.string ⟨#[109, 111, 118]⟩), (.string ⟨#[97, 100, 100]⟩), (.string ⟨#[115, 117, 98]⟩), (.string ⟨#[109, 117, 108]⟩), (.string ⟨#[97, 110, 100]⟩), (.string ⟨#[111, 114]⟩), (.string ⟨#[120, 111, 114]⟩), (.string ⟨#[115, 104, 108]⟩), (.string ⟨#[115, 104, 114]⟩), (.string ⟨#[100, 105, 118]⟩), (.string ⟨#[109, 111, 100]⟩), (.string ⟨#[115, 97, 109, 101]⟩), (.string ⟨#[111, 116, 104, 101, 114]⟩), (.string ⟨#[108, 101, 115, 115]⟩), (.string ⟨#[109, 111, 114, 101]⟩), (.string ⟨#[103, 111]⟩), (.string ⟨#[108, 111, 97, 100]⟩), (.string ⟨#[115, 116, 111, 114, 101]⟩), (.string ⟨#[99, 97, 108, 108]⟩), (.string ⟨#[101, 120, 105, 116]⟩)] w_ fun w__1 =>
LdA (R 21 .s) a_t0 w__1 fun r w__2 =>
K r w__1
theorem impl.opWords.ok  {w : World} {K : Tup (R 21 .s) → World → Prop} (h : impl.opWords.vc  w K) : CallT (.o (.ag (R 21 .s))) P0 60 [] w K :=
  call_of Tryd.func60 rfl rfl (pl := impl.opWords.pl) (show VC P0 Tryd.f60 impl.opWords.pl (.o (.ag (R 21 .s))) [] w K noP from Eq.mp (by kernel_rfl) h)
/- impl.verdictWords -/
def impl.verdictWords.pl : Pl := (.s (.r (D 1)) (.s (.r (D 2)) .z))
def impl.verdictWords.vc  (w : World) (K : Sl → World → Prop) : Prop :=
Nw #[(.string ⟨#[100, 114, 111, 112]⟩), (.string ⟨#[107, 101, 101, 112]⟩), (.string ⟨#[115, 101, 110, 100]⟩)] 9 w fun a_t1 w_ =>
K ⟨(some a_t1), 3, 3⟩ w_
theorem impl.verdictWords.ok  {w : World} {K : Sl → World → Prop} (h : impl.verdictWords.vc  w K) : CallT (.o (.lf .sl)) P0 61 [] w K :=
  call_of Tryd.func61 rfl rfl (pl := impl.verdictWords.pl) (show VC P0 Tryd.f61 impl.verdictWords.pl (.o (.lf .sl)) [] w K noP from Eq.mp (by kernel_rfl) h)
/- (impl.Rule).text -/
def impl.Rule.text.pl : Pl := (.s (.r (D 2)) (.s (.g [(.q, []), ((.g (.o (.lf (.i .i64))) (.l (.lf (.i .i64)))), []), ((.g (.o (.lf .s)) (.c (.o (.lf .s)))), [1]), ((.g (.o (.lf .s)) .d), [2]), ((.g (.o (.lf .s)) .d), [3]), ((.g (.o (.ag (R 21 .s))) (.c (.o (.ag (R 21 .s))))), []), (.q, []), ((.g (.o (.lf (.i .i64))) (.l (.lf (.i .i64)))), []), ((.g (.o (.lf .s)) (.t (.o (.lf .s)))), [5, 7]), ((.g (.o (.lf .s)) .d), [4, 8]), ((.g (.o (.lf .s)) .d), [9]), (.q, []), ((.g (.o (.lf (.i .i64))) (.l (.lf (.i .i64)))), []), ((.g (.o (.lf .s)) (.c (.o (.lf .s)))), [12]), ((.g (.o (.lf .s)) .d), [10, 13]), ((.g (.o (.lf .s)) .d), [14]), ((.g (.o (.lf .sl)) (.c (.o (.lf .sl)))), []), (.q, []), ((.g (.o (.lf (.i .i64))) (.l (.lf (.i .i64)))), []), ((.g (.o (.lf .ad)) .d), [16, 18]), ((.g (.o (.lf .s)) (.l (.lf .s))), [19]), ((.g (.o (.lf .s)) .d), [15, 20]), (.q, [21])] []) (.s (.s (.r [.d, (.l (.lf (.i .i64))), .d]) (.c (.r [.d, .d, (.l (.lf (.i .i64))), (.c (.o (.lf .s))), .d, .d, .d]) .z)) (.s (.r (D 3)) .z))))
def impl.Rule.text.vc (r : Tup (R 5 (.i .i64))) (w : World) (K : ByteArray → World → Prop) : Prop :=
Nw (Tup.cells (R 5 (.i .i64)) r).toArray 53 w fun a_r w_ =>
∃ Sp : World → World → Prop, SpOk Sp w_ ∧
∃ G_t5 : Int → World → Prop, Kept Sp G_t5 ∧
∃ G_t6 : ByteArray → World → Prop, Kept Sp G_t6 ∧
∃ G_t7 : ByteArray → World → Prop, Kept Sp G_t7 ∧
∃ G_t8 : ByteArray → World → Prop, Kept Sp G_t8 ∧
∃ G_t9 : Tup (R 21 .s) → World → Prop, Kept Sp G_t9 ∧
∃ G_t11 : Int → World → Prop, Kept Sp G_t11 ∧
∃ G_t12 : ByteArray → World → Prop, Kept Sp G_t12 ∧
∃ G_t13 : ByteArray → World → Prop, Kept Sp G_t13 ∧
∃ G_t14 : ByteArray → World → Prop, Kept Sp G_t14 ∧
∃ G_t16 : Int → World → Prop, Kept Sp G_t16 ∧
∃ G_t17 : ByteArray → World → Prop, Kept Sp G_t17 ∧
∃ G_t18 : ByteArray → World → Prop, Kept Sp G_t18 ∧
∃ G_t19 : ByteArray → World → Prop, Kept Sp G_t19 ∧
∃ G_t20 : Sl → World → Prop, Kept Sp G_t20 ∧
∃ G_t22 : Int → World → Prop, Kept Sp G_t22 ∧
∃ G_t23 : Addr → World → Prop, Kept Sp G_t23 ∧
∃ G_t24 : ByteArray → World → Prop, Kept Sp G_t24 ∧
∃ G_t25 : ByteArray → World → Prop, Kept Sp G_t25 ∧
(∀ w__1, Sp w_ w__1 → Ld (.i .i64) (Addr.add a_r 0) w__1 fun (t5 : Int) w__2 =>
GK (.o (.lf (.i .i64))) Sp w__1 G_t5 (.int .i64 t5) w__2) ∧
∀ (t5_1 : Int), (∀ w__3, Sp w_ w__3 → G_t5 t5_1 w__3 → CallT (.o (.lf .s)) P0 52 [(.int .i64 t5_1)] w__3 fun (t6 : ByteArray) w__4 =>
GK (.o (.lf .s)) Sp w__3 G_t6 (.string t6) w__4) ∧
∀ (t6_1 : ByteArray), (∀ w__5, Sp w_ w__5 → G_t6 t6_1 w__5 → (((ByteArray.size (⟨#[98, 121, 116, 101, 32]⟩ : ByteArray) + ByteArray.size t6_1 : Nat) : Int) ≤ IntKind.i64.max) ∧ GK (.o (.lf .s)) Sp w__5 G_t7 (.string ((⟨#[98, 121, 116, 101, 32]⟩ : ByteArray) ++ t6_1)) w__5) ∧
∀ (t7 : ByteArray), (∀ w__6, Sp w_ w__6 → G_t7 t7 w__6 → (((ByteArray.size t7 + ByteArray.size (⟨#[32]⟩ : ByteArray) : Nat) : Int) ≤ IntKind.i64.max) ∧ GK (.o (.lf .s)) Sp w__6 G_t8 (.string (t7 ++ (⟨#[32]⟩ : ByteArray))) w__6) ∧
∀ (t8 : ByteArray), (∀ w__7, Sp w_ w__7 → CallT (.o (.ag (R 21 .s))) P0 60 [] w__7 fun (t9 : Tup (R 21 .s)) w__8 =>
GK (.o (.ag (R 21 .s))) Sp w__7 G_t9 (.agg (Tup.cells (R 21 .s) t9).toArray) w__8) ∧
∀ (t9_1 : Tup (R 21 .s)), (∀ w__9, Sp w_ w__9 → Ld (.i .i64) (Addr.add a_r 1) w__9 fun (t11 : Int) w__10 =>
GK (.o (.lf (.i .i64))) Sp w__9 G_t11 (.int .i64 t11) w__10) ∧
∀ (t11_1 : Int), (∀ w__11, Sp w_ w__11 → G_t9 t9_1 w__11 → G_t11 t11_1 w__11 → RunT (.o (.lf .s)) P0 (Instr.index 87 (.agg (Tup.cells (R 21 .s) t9_1).toArray) (.int .i64 t11_1)) w__11 fun (t12 : ByteArray) w__12 =>
GK (.o (.lf .s)) Sp w__11 G_t12 (.string t12) w__12) ∧
∀ (t12_1 : ByteArray), (∀ w__13, Sp w_ w__13 → G_t8 t8 w__13 → G_t12 t12_1 w__13 → (((ByteArray.size t8 + ByteArray.size t12_1 : Nat) : Int) ≤ IntKind.i64.max) ∧ GK (.o (.lf .s)) Sp w__13 G_t13 (.string (t8 ++ t12_1)) w__13) ∧
∀ (t13 : ByteArray), (∀ w__14, Sp w_ w__14 → G_t13 t13 w__14 → (((ByteArray.size t13 + ByteArray.size (⟨#[32]⟩ : ByteArray) : Nat) : Int) ≤ IntKind.i64.max) ∧ GK (.o (.lf .s)) Sp w__14 G_t14 (.string (t13 ++ (⟨#[32]⟩ : ByteArray))) w__14) ∧
∀ (t14 : ByteArray), (∀ w__15, Sp w_ w__15 → Ld (.i .i64) (Addr.add a_r 2) w__15 fun (t16 : Int) w__16 =>
GK (.o (.lf (.i .i64))) Sp w__15 G_t16 (.int .i64 t16) w__16) ∧
∀ (t16_1 : Int), (∀ w__17, Sp w_ w__17 → G_t16 t16_1 w__17 → CallT (.o (.lf .s)) P0 52 [(.int .i64 t16_1)] w__17 fun (t17 : ByteArray) w__18 =>
GK (.o (.lf .s)) Sp w__17 G_t17 (.string t17) w__18) ∧
∀ (t17_1 : ByteArray), (∀ w__19, Sp w_ w__19 → G_t14 t14 w__19 → G_t17 t17_1 w__19 → (((ByteArray.size t14 + ByteArray.size t17_1 : Nat) : Int) ≤ IntKind.i64.max) ∧ GK (.o (.lf .s)) Sp w__19 G_t18 (.string (t14 ++ t17_1)) w__19) ∧
∀ (t18 : ByteArray), (∀ w__20, Sp w_ w__20 → G_t18 t18 w__20 → (((ByteArray.size t18 + ByteArray.size (⟨#[32]⟩ : ByteArray) : Nat) : Int) ≤ IntKind.i64.max) ∧ GK (.o (.lf .s)) Sp w__20 G_t19 (.string (t18 ++ (⟨#[32]⟩ : ByteArray))) w__20) ∧
∀ (t19 : ByteArray), (∀ w__21, Sp w_ w__21 → CallT (.o (.lf .sl)) P0 61 [] w__21 fun (t20 : Sl) w__22 =>
GK (.o (.lf .sl)) Sp w__21 G_t20 t20.v w__22) ∧
∀ (t20_1 : Sl), (∀ w__23, Sp w_ w__23 → Ld (.i .i64) (Addr.add a_r 3) w__23 fun (t22 : Int) w__24 =>
GK (.o (.lf (.i .i64))) Sp w__23 G_t22 (.int .i64 t22) w__24) ∧
∀ (t22_1 : Int), (∀ w__25, Sp w_ w__25 → G_t20 t20_1 w__25 → G_t22 t22_1 w__25 → Ix t20_1.a t20_1.n t22_1 1 w__25 fun a_t23 w__26 =>
GK (.o (.lf .ad)) Sp w__25 G_t23 (.pointer (some a_t23)) w__26) ∧
∀ (t23 : Addr), (∀ w__27, Sp w_ w__27 → G_t23 t23 w__27 → Ld .s t23 w__27 fun (t24 : ByteArray) w__28 =>
GK (.o (.lf .s)) Sp w__27 G_t24 (.string t24) w__28) ∧
∀ (t24_1 : ByteArray), (∀ w__29, Sp w_ w__29 → G_t19 t19 w__29 → G_t24 t24_1 w__29 → (((ByteArray.size t19 + ByteArray.size t24_1 : Nat) : Int) ≤ IntKind.i64.max) ∧ GK (.o (.lf .s)) Sp w__29 G_t25 (.string (t19 ++ t24_1)) w__29) ∧
∀ (t25 : ByteArray), ∀ w__30, Sp w_ w__30 → G_t5 t5_1 w__30 → G_t6 t6_1 w__30 → G_t7 t7 w__30 → G_t8 t8 w__30 → G_t9 t9_1 w__30 → G_t11 t11_1 w__30 → G_t12 t12_1 w__30 → G_t13 t13 w__30 → G_t14 t14 w__30 → G_t16 t16_1 w__30 → G_t17 t17_1 w__30 → G_t18 t18 w__30 → G_t19 t19 w__30 → G_t20 t20_1 w__30 → G_t22 t22_1 w__30 → G_t23 t23 w__30 → G_t24 t24_1 w__30 → G_t25 t25 w__30 → 
Ld (.i .i64) (Addr.add a_r 3) w__30 fun (t27 : Int) w__31 =>
(((t27 : Int) == 2) = true → Ld (.i .i64) (Addr.add a_r 4) w__31 fun (t31 : Int) w__32 =>
CallT (.o (.lf .s)) P0 52 [(.int .i64 t31)] w__32 fun (t32 : ByteArray) w__33 =>
(((ByteArray.size (⟨#[32]⟩ : ByteArray) + ByteArray.size t32 : Nat) : Int) ≤ IntKind.i64.max) ∧ (((ByteArray.size t25 + ByteArray.size ((⟨#[32]⟩ : ByteArray) ++ t32) : Nat) : Int) ≤ IntKind.i64.max) ∧ (((ByteArray.size (t25 ++ ((⟨#[32]⟩ : ByteArray) ++ t32)) + ByteArray.size (⟨#[10]⟩ : ByteArray) : Nat) : Int) ≤ IntKind.i64.max) ∧ K ((t25 ++ ((⟨#[32]⟩ : ByteArray) ++ t32)) ++ (⟨#[10]⟩ : ByteArray)) w__33) ∧
(((t27 : Int) == 2) = false → (((ByteArray.size t25 + ByteArray.size (⟨#[10]⟩ : ByteArray) : Nat) : Int) ≤ IntKind.i64.max) ∧ K (t25 ++ (⟨#[10]⟩ : ByteArray)) w__31)
theorem impl.Rule.text.ok {r : Tup (R 5 (.i .i64))} {w : World} {K : ByteArray → World → Prop} (h : impl.Rule.text.vc r w K) : CallT (.o (.lf .s)) P0 30 [(.agg (Tup.cells (R 5 (.i .i64)) r).toArray)] w K :=
  call_of Tryd.func30 rfl rfl (pl := impl.Rule.text.pl) (show VC P0 Tryd.f30 impl.Rule.text.pl (.o (.lf .s)) [(.agg (Tup.cells (R 5 (.i .i64)) r).toArray)] w K noP from Eq.mp (by kernel_rfl) h)
/- impl.RulesPut -/
def impl.RulesPut.pl : Pl := (.s (.r (D 1)) (.s (.s (.r [.d, (.c (.o (.lf .b))), .d]) (.c (.s (.r (D 1)) .z) .z)) (.s (.r (D 1)) (.s (.s (.r (D 3)) (.b (.l [(11, (.i .i64))] (.s (.r (D 1)) (.s (.c .z .z) (.s (.b (.s (.r [.d, (.l (.ag (R 5 (.i .i64)))), .d, .d]) (.r [(.l (.ag (R 5 (.i .i64)))), (.c (.o (.lf .s))), (.c (.n [(.lf (.i .i64)), (.lf .any)]))]))) (.r (D 2)))))))) (.s (.r [(.c (.o (.lf .s))), .d]) .z)))))
def impl.RulesPut.vc (list : Sl) (w : World) (K : ByteArray → World → Prop) : Prop :=
CallT (.o (.lf .b)) P0 11 [list.v] w fun (t7 : Bool) w_ =>
((!t7) = true → K ⟨#[]⟩ w_) ∧
((!t7) = false → Nw (zc P0 51) 51 w_ fun a_out w__1 =>
∃ (I : Int → World → Prop) (M : Int → World → Nat),
I 0 w__1 ∧
(∀ (t11 : Int) w__2, I t11 w__2 → ∀ _ : Nat → Value,
((decide ((t11 : Int) < ((list.n : Nat) : Int))) = true → Ix list.a list.n t11 5 w__2 fun a_t13 w__3 =>
LdA (R 5 (.i .i64)) a_t13 w__3 fun (t14 : Tup (R 5 (.i .i64))) w__4 =>
Nw (zc P0 53) 53 w__4 fun a_r w__5 =>
StA P0 a_r (Tup.cells (R 5 (.i .i64)) t14) w__5 fun w__6 =>
LdA (R 5 (.i .i64)) a_r w__6 fun (t15 : Tup (R 5 (.i .i64))) w__7 =>
CallT (.o (.lf .s)) P0 30 [(.agg (Tup.cells (R 5 (.i .i64)) t15).toArray)] w__7 fun (t16 : ByteArray) w__8 =>
CallT (.n [(.lf (.i .i64)), (.lf .any)]) P0 29 [(.pointer (some a_out)), (.string t16)] w__8 fun (t17 : (Int) × (Value) × Unit) w__9 =>
(I (IntKind.wrap .i64 (t11 + 1)) w__9 ∧ M (IntKind.wrap .i64 (t11 + 1)) w__9 < M t11 w__2)) ∧
((decide ((t11 : Int) < ((list.n : Nat) : Int))) = false → CallT (.o (.lf .s)) P0 31 [(.pointer (some a_out))] w__2 fun (t19 : ByteArray) w__10 =>
K t19 w__10)))
theorem impl.RulesPut.ok {list : Sl} {w : World} {K : ByteArray → World → Prop} (h : impl.RulesPut.vc list w K) : CallT (.o (.lf .s)) P0 9 [list.v] w K :=
  call_of Tryd.func9 rfl rfl (pl := impl.RulesPut.pl) (show VC P0 Tryd.f9 impl.RulesPut.pl (.o (.lf .s)) [list.v] w K noP from Eq.mp (by kernel_rfl) h)
/- impl.readRule -/
def impl.readRule.pl : Pl := (.s (.r (D 2)) (.s (.r [.d, (.c (.o (.lf .sl))), .d]) (.s (.s (.r [.d, .d, (.c (.o (.lf .b))), .d]) (.c (.s (.r (D 3)) .z) .z)) (.s (.r [(.c (.o (.ag (R 21 .s)))), .d, .d]) (.s (.g [(.q, []), ((.g (.o (.lf .ad)) .d), []), ((.g (.o (.lf .s)) (.l (.lf .s))), [1]), ((.g (.o (.lf (.i .i64))) (.c (.o (.lf (.i .i64))))), [2]), ((.g (.o (.lf .sl)) (.t (.o (.lf .sl)))), []), (.q, []), ((.g (.o (.lf .ad)) .d), []), ((.g (.o (.lf .s)) (.l (.lf .s))), [6]), ((.g (.o (.lf (.i .i64))) (.c (.o (.lf (.i .i64))))), [4, 7]), (.q, []), ((.g (.o (.lf .ad)) .d), []), ((.g (.o (.lf .s)) (.l (.lf .s))), [10]), ((.g (.o (.lf (.i .i64))) (.c (.o (.lf (.i .i64))))), [11]), ((.g (.o (.lf .sl)) (.c (.o (.lf .sl)))), []), (.q, []), ((.g (.o (.lf .ad)) .d), []), ((.g (.o (.lf .s)) (.l (.lf .s))), [15]), ((.g (.o (.lf (.i .i64))) (.c (.o (.lf (.i .i64))))), [13, 16]), ((.g (.o (.ag (R 5 (.i .i64)))) .d), [3, 8, 12, 17]), ((.g (.o (.lf .ad)) .d), [])] [.d]) (.s (.s (.r (D 3)) (.c (.r [.d, .d, (.l (.lf .s)), (.c (.o (.lf (.i .i64)))), .d, .d]) .z)) (.s (.r [(.l (.ag (R 5 (.i .i64)))), .d, .d]) .z)))))))
def impl.readRule.vc (line : ByteArray) (w : World) (K : (Tup (R 5 (.i .i64))) × (Bool) × Unit → World → Prop) : Prop :=
Nw (zc P0 53) 53 w fun a_t2 w_ =>
CallT (.o (.lf .sl)) P0 71 [(.string line), (.string ⟨#[32]⟩)] w_ fun (t8 : Sl) w__1 =>
CallT (.o (.lf .b)) P0 67 [(.int .i64 ((t8.n : Nat) : Int)), (.int .i64 5), (.int .i64 6)] w__1 fun (t11 : Bool) w__2 =>
((!t11) = true → StA P0 a_t2 [(.int .i64 0), (.int .i64 0), (.int .i64 0), (.int .i64 0), (.int .i64 0)] w__2 fun w__3 =>
LdA (R 5 (.i .i64)) a_t2 w__3 fun r w__4 =>
K (r, (false, ())) w__3) ∧
((!t11) = false → CallT (.o (.ag (R 21 .s))) P0 60 [] w__2 fun (t14 : Tup (R 21 .s)) w__5 =>
Nw (zc P0 87) 87 w__5 fun a_ops w__6 =>
StA P0 a_ops (Tup.cells (R 21 .s) t14) w__6 fun w__7 =>
∃ Sp : World → World → Prop, SpOk Sp w__7 ∧
∃ G_t16 : Addr → World → Prop, Kept Sp G_t16 ∧
∃ G_t17 : ByteArray → World → Prop, Kept Sp G_t17 ∧
∃ G_t18 : Int → World → Prop, Kept Sp G_t18 ∧
∃ G_t19 : Sl → World → Prop, Kept Sp G_t19 ∧
∃ G_t21 : Addr → World → Prop, Kept Sp G_t21 ∧
∃ G_t22 : ByteArray → World → Prop, Kept Sp G_t22 ∧
∃ G_t23 : Int → World → Prop, Kept Sp G_t23 ∧
∃ G_t25 : Addr → World → Prop, Kept Sp G_t25 ∧
∃ G_t26 : ByteArray → World → Prop, Kept Sp G_t26 ∧
∃ G_t27 : Int → World → Prop, Kept Sp G_t27 ∧
∃ G_t28 : Sl → World → Prop, Kept Sp G_t28 ∧
∃ G_t30 : Addr → World → Prop, Kept Sp G_t30 ∧
∃ G_t31 : ByteArray → World → Prop, Kept Sp G_t31 ∧
∃ G_t32 : Int → World → Prop, Kept Sp G_t32 ∧
∃ G_t33 : Tup (R 5 (.i .i64)) → World → Prop, Kept Sp G_t33 ∧
∃ G_r : Addr → World → Prop, Kept Sp G_r ∧
(∀ w__8, Sp w__7 w__8 → Ix t8.a t8.n 1 1 w__8 fun a_t16 w__9 =>
GK (.o (.lf .ad)) Sp w__8 G_t16 (.pointer (some a_t16)) w__9) ∧
∀ (t16 : Addr), (∀ w__10, Sp w__7 w__10 → G_t16 t16 w__10 → Ld .s t16 w__10 fun (t17 : ByteArray) w__11 =>
GK (.o (.lf .s)) Sp w__10 G_t17 (.string t17) w__11) ∧
∀ (t17_1 : ByteArray), (∀ w__12, Sp w__7 w__12 → G_t17 t17_1 w__12 → CallT (.o (.lf (.i .i64))) P0 72 [(.string t17_1)] w__12 fun (t18 : Int) w__13 =>
GK (.o (.lf (.i .i64))) Sp w__12 G_t18 (.int .i64 t18) w__13) ∧
∀ (t18_1 : Int), (∀ w__14, Sp w__7 w__14 → RunT (.o (.lf .sl)) P0 (Instr.sliceAt 87 (.pointer (some a_ops)) none none none) w__14 fun (t19 : Sl) w__15 =>
GK (.o (.lf .sl)) Sp w__14 G_t19 t19.v w__15) ∧
∀ (t19_1 : Sl), (∀ w__16, Sp w__7 w__16 → Ix t8.a t8.n 2 1 w__16 fun a_t21 w__17 =>
GK (.o (.lf .ad)) Sp w__16 G_t21 (.pointer (some a_t21)) w__17) ∧
∀ (t21 : Addr), (∀ w__18, Sp w__7 w__18 → G_t21 t21 w__18 → Ld .s t21 w__18 fun (t22 : ByteArray) w__19 =>
GK (.o (.lf .s)) Sp w__18 G_t22 (.string t22) w__19) ∧
∀ (t22_1 : ByteArray), (∀ w__20, Sp w__7 w__20 → G_t19 t19_1 w__20 → G_t22 t22_1 w__20 → CallT (.o (.lf (.i .i64))) P0 73 [t19_1.v, (.string t22_1)] w__20 fun (t23 : Int) w__21 =>
GK (.o (.lf (.i .i64))) Sp w__20 G_t23 (.int .i64 t23) w__21) ∧
∀ (t23_1 : Int), (∀ w__22, Sp w__7 w__22 → Ix t8.a t8.n 3 1 w__22 fun a_t25 w__23 =>
GK (.o (.lf .ad)) Sp w__22 G_t25 (.pointer (some a_t25)) w__23) ∧
∀ (t25 : Addr), (∀ w__24, Sp w__7 w__24 → G_t25 t25 w__24 → Ld .s t25 w__24 fun (t26 : ByteArray) w__25 =>
GK (.o (.lf .s)) Sp w__24 G_t26 (.string t26) w__25) ∧
∀ (t26_1 : ByteArray), (∀ w__26, Sp w__7 w__26 → G_t26 t26_1 w__26 → CallT (.o (.lf (.i .i64))) P0 72 [(.string t26_1)] w__26 fun (t27 : Int) w__27 =>
GK (.o (.lf (.i .i64))) Sp w__26 G_t27 (.int .i64 t27) w__27) ∧
∀ (t27_1 : Int), (∀ w__28, Sp w__7 w__28 → CallT (.o (.lf .sl)) P0 61 [] w__28 fun (t28 : Sl) w__29 =>
GK (.o (.lf .sl)) Sp w__28 G_t28 t28.v w__29) ∧
∀ (t28_1 : Sl), (∀ w__30, Sp w__7 w__30 → Ix t8.a t8.n 4 1 w__30 fun a_t30 w__31 =>
GK (.o (.lf .ad)) Sp w__30 G_t30 (.pointer (some a_t30)) w__31) ∧
∀ (t30 : Addr), (∀ w__32, Sp w__7 w__32 → G_t30 t30 w__32 → Ld .s t30 w__32 fun (t31 : ByteArray) w__33 =>
GK (.o (.lf .s)) Sp w__32 G_t31 (.string t31) w__33) ∧
∀ (t31_1 : ByteArray), (∀ w__34, Sp w__7 w__34 → G_t28 t28_1 w__34 → G_t31 t31_1 w__34 → CallT (.o (.lf (.i .i64))) P0 73 [t28_1.v, (.string t31_1)] w__34 fun (t32 : Int) w__35 =>
GK (.o (.lf (.i .i64))) Sp w__34 G_t32 (.int .i64 t32) w__35) ∧
∀ (t32_1 : Int), (∀ w__36, Sp w__7 w__36 → G_t18 t18_1 w__36 → G_t23 t23_1 w__36 → G_t27 t27_1 w__36 → G_t32 t32_1 w__36 → GK (.o (.ag (R 5 (.i .i64)))) Sp w__36 G_t33 (.agg #[(.int .i64 t18_1), (.int .i64 t23_1), (.int .i64 t27_1), (.int .i64 t32_1), (.int .i64 0)]) w__36) ∧
∀ (t33 : Tup (R 5 (.i .i64))), (∀ w__37, Sp w__7 w__37 → Nw (zc P0 53) 53 w__37 fun a_r w__38 =>
GK (.o (.lf .ad)) Sp w__37 G_r (.pointer (some a_r)) w__38) ∧
∀ (r_1 : Addr), ∀ w__39, Sp w__7 w__39 → G_t16 t16 w__39 → G_t17 t17_1 w__39 → G_t18 t18_1 w__39 → G_t19 t19_1 w__39 → G_t21 t21 w__39 → G_t22 t22_1 w__39 → G_t23 t23_1 w__39 → G_t25 t25 w__39 → G_t26 t26_1 w__39 → G_t27 t27_1 w__39 → G_t28 t28_1 w__39 → G_t30 t30 w__39 → G_t31 t31_1 w__39 → G_t32 t32_1 w__39 → G_t33 t33 w__39 → G_r r_1 w__39 → 
StA P0 r_1 (Tup.cells (R 5 (.i .i64)) t33) w__39 fun w__40 =>
(((((t8.n : Nat) : Int) : Int) == 6) = true → Ix t8.a t8.n 5 1 w__40 fun a_t38 w__41 =>
Ld .s a_t38 w__41 fun (t39 : ByteArray) w__42 =>
CallT (.o (.lf (.i .i64))) P0 72 [(.string t39)] w__42 fun (t40 : Int) w__43 =>
St (Addr.add r_1 4) (.int .i64 t40) w__43 fun w__44 =>
LdA (R 5 (.i .i64)) r_1 w__44 fun (t42 : Tup (R 5 (.i .i64))) w__45 =>
StA P0 a_t2 (Tup.cells (R 5 (.i .i64)) t42) w__45 fun w__46 =>
LdA (R 5 (.i .i64)) a_t2 w__46 fun r_2 w__47 =>
K (r_2, (true, ())) w__46) ∧
(((((t8.n : Nat) : Int) : Int) == 6) = false → LdA (R 5 (.i .i64)) r_1 w__40 fun (t42_1 : Tup (R 5 (.i .i64))) w__48 =>
StA P0 a_t2 (Tup.cells (R 5 (.i .i64)) t42_1) w__48 fun w__49 =>
LdA (R 5 (.i .i64)) a_t2 w__49 fun r_3 w__50 =>
K (r_3, (true, ())) w__49))
theorem impl.readRule.ok {line : ByteArray} {w : World} {K : (Tup (R 5 (.i .i64))) × (Bool) × Unit → World → Prop} (h : impl.readRule.vc line w K) : CallT (.n [(.ag (R 5 (.i .i64))), (.lf .b)]) P0 38 [(.string line)] w K :=
  call_of Tryd.func38 rfl rfl (pl := impl.readRule.pl) (show VC P0 Tryd.f38 impl.readRule.pl (.n [(.ag (R 5 (.i .i64))), (.lf .b)]) [(.string line)] w K noP from Eq.mp (by kernel_rfl) h)
/- slices.Index[[]string,string] -/
def slices.Index_string.pl : Pl := (.s (.r (D 1)) (.s (.s (.r (D 3)) (.b (.l [(8, (.i .i64))] (.s (.r (D 1)) (.s (.c .z .z) (.s (.b (.s (.r (D 2)) (.s (.r [.d, .d, .d, .d, (.l (.lf .s)), .d]) (.c (.s (.r (D 2)) .z) .z)))) (.r (D 2)))))))) (.s (.r (D 1)) .z)))
def slices.Index_string.vc (s : Sl) (v : ByteArray) (w : World) (K : Int → World → Prop) : Prop :=
∃ (I : Int → World → Prop) (M : Int → World → Nat),
I 0 w ∧
(∀ (t8 : Int) w_, I t8 w_ → ∀ _ : Nat → Value,
((decide ((t8 : Int) < ((s.n : Nat) : Int))) = true → Ix s.a s.n t8 1 w_ fun a_t14 w__1 =>
Ld .s a_t14 w__1 fun (t15 : ByteArray) w__2 =>
((ByteArray.toList v == ByteArray.toList t15) = true → K t8 w__2) ∧
((ByteArray.toList v == ByteArray.toList t15) = false → (I (IntKind.wrap .i64 (t8 + 1)) w__2 ∧ M (IntKind.wrap .i64 (t8 + 1)) w__2 < M t8 w_))) ∧
((decide ((t8 : Int) < ((s.n : Nat) : Int))) = false → K (-1) w_))
theorem slices.Index_string.ok {s : Sl} {v : ByteArray} {w : World} {K : Int → World → Prop} (h : slices.Index_string.vc s v w K) : CallT (.o (.lf (.i .i64))) P0 73 [s.v, (.string v)] w K :=
  call_of Tryd.func73 rfl rfl (pl := slices.Index_string.pl) (show VC P0 Tryd.f73 slices.Index_string.pl (.o (.lf (.i .i64))) [s.v, (.string v)] w K noP from Eq.mp (by kernel_rfl) h)
/- slices.Clip[[]impl.Rule,impl.Rule] -/
def slices.Clip_Rule.pl : Pl := (.s (.r (D 1)) (.s (.r [.d, .d, .d, .d, .d, (.t (.o (.lf .sl))), .d]) .z))
def slices.Clip_Rule.vc (s : Sl) (w : World) (K : Sl → World → Prop) : Prop :=
RunT (.o (.lf .sl)) P0 (Instr.sliceAt 23 s.v none (some (.int .i64 ((s.n : Nat) : Int))) (some (.int .i64 ((s.n : Nat) : Int)))) w fun (t8 : Sl) w_ =>
K t8 w_
theorem slices.Clip_Rule.ok {s : Sl} {w : World} {K : Sl → World → Prop} (h : slices.Clip_Rule.vc s w K) : CallT (.o (.lf .sl)) P0 39 [s.v] w K :=
  call_of Tryd.func39 rfl rfl (pl := slices.Clip_Rule.pl) (show VC P0 Tryd.f39 slices.Clip_Rule.pl (.o (.lf .sl)) [s.v] w K noP from Eq.mp (by kernel_rfl) h)
/- impl.RulesGet -/
def impl.RulesGet.pl : Pl := (.s (.r (D 2)) (.s (.r (D 2)) (.j [(4, .sl)] (.s (.r (D 2)) (.b (.l [(4, .sl), (5, .s)] (.j [] (.s (.r [.d, .d, (.sp .d), .d, .d, .d, .d]) (.c .z .z)) (.b (.s (.r [.d, (.c (.n [(.lf .s), (.lf .s), (.lf .b)])), .d, .d, .d, .d, .d, .d, .d]) (.s (.r [.d, (.c (.n [(.ag (R 5 (.i .i64))), (.lf .b)])), .d, .d, .d, .d, .d, .d]) (.s (.s (.r (D 2)) (.c (.s (.r (D 2)) .z) .z)) (.s (.r [.d, (.l (.ag (R 5 (.i .i64)))), .d, (.t (.o (.lf .sl))), .d]) (.r (D 2))))))))))) (.s (.s (.r [.d, (.c (.o (.lf .b))), .d, (.sp .d), .d, (.c (.o (.lf .s))), .d, .d, .d]) (.c (.s (.r (D 2)) .z) .z)) (.s (.r [.d, (.c (.o (.lf .sl))), .d, .d]) .z)))))
def impl.RulesGet.vc (s : ByteArray) (w : World) (K : (Sl) × (Bool) × Unit → World → Prop) : Prop :=
Nw #[] 53 w fun a_t11 w_ =>
∃ J : Sl → World → Prop,
(∃ (I : Sl → ByteArray → World → Prop) (M : Sl → ByteArray → World → Nat),
I ⟨(some a_t11), 0, 0⟩ s w_ ∧
(∀ (list : Sl) (rest : ByteArray) w__1, I list rest w__1 → ∀ _ : Nat → Value,
∃ J_1 : World → Prop,
(((!(ByteArray.toList rest == ByteArray.toList (⟨#[]⟩ : ByteArray))) = true → ((decide ((((list.n : Nat) : Int) : Int) ≤ 6)) = true → J_1 w__1) ∧
((decide ((((list.n : Nat) : Int) : Int) ≤ 6)) = false → J list w__1)) ∧
((!(ByteArray.toList rest == ByteArray.toList (⟨#[]⟩ : ByteArray))) = false → J list w__1)) ∧
(∀  w__2, J_1 w__2 → ∀ _ : Nat → Value,
CallT (.n [(.lf .s), (.lf .s), (.lf .b)]) P0 37 [(.string rest), (.string ⟨#[10]⟩)] w__2 fun (t22 : (ByteArray) × (ByteArray) × (Bool) × Unit) w__3 =>
CallT (.n [(.ag (R 5 (.i .i64))), (.lf .b)]) P0 38 [(.string t22.1)] w__3 fun (t28 : (Tup (R 5 (.i .i64))) × (Bool) × Unit) w__4 =>
Nw (zc P0 53) 53 w__4 fun a_r w__5 =>
StA P0 a_r (Tup.cells (R 5 (.i .i64)) t28.1) w__5 fun w__6 =>
((!t28.2.1) = true → K (⟨none, 0, 0⟩, (false, ())) w__6) ∧
((!t28.2.1) = false → LdA (R 5 (.i .i64)) a_r w__6 fun (t34 : Tup (R 5 (.i .i64))) w__7 =>
Nw #[(.int .i64 t34.1), (.int .i64 t34.2.1), (.int .i64 t34.2.2.1), (.int .i64 t34.2.2.2.1), (.int .i64 t34.2.2.2.2.1)] 53 w__7 fun a_t35 w__8 =>
RunT (.o (.lf .sl)) P0 (Builtin.append_ #[23, 23] 23 #[list.v, (.slice (some a_t35) 1 1)]) w__8 fun (t36 : Sl) w__9 =>
(I t36 t22.2.1 w__9 ∧ M t36 t22.2.1 w__9 < M list rest w__1))))) ∧
(∀ (list_1 : Sl) w__10, J list_1 w__10 → ∀ _ : Nat → Value,
CallT (.o (.lf .b)) P0 11 [list_1.v] w__10 fun (t39 : Bool) w__11 =>
((!t39) = true → K (⟨none, 0, 0⟩, (false, ())) w__11) ∧
((!t39) = false → CallT (.o (.lf .s)) P0 9 [list_1.v] w__11 fun (t43 : ByteArray) w__12 =>
((!(ByteArray.toList t43 == ByteArray.toList s)) = true → K (⟨none, 0, 0⟩, (false, ())) w__12) ∧
((!(ByteArray.toList t43 == ByteArray.toList s)) = false → CallT (.o (.lf .sl)) P0 39 [list_1.v] w__12 fun (t48 : Sl) w__13 =>
K (t48, (true, ())) w__13)))
theorem impl.RulesGet.ok {s : ByteArray} {w : World} {K : (Sl) × (Bool) × Unit → World → Prop} (h : impl.RulesGet.vc s w K) : CallT (.n [(.lf .sl), (.lf .b)]) P0 13 [(.string s)] w K :=
  call_of Tryd.func13 rfl rfl (pl := impl.RulesGet.pl) (show VC P0 Tryd.f13 impl.RulesGet.pl (.n [(.lf .sl), (.lf .b)]) [(.string s)] w K noP from Eq.mp (by kernel_rfl) h)
/- laws.markRuleS -/
def laws.markRuleS.pl : Pl := (.s (.r (D 1)) (.s (.s (.r (D 1)) (.b (.l [(1, (.i .i64)), (5, (.i .i64))] (.s (.s (.r (D 4)) (.c .z .z)) (.s (.b (.s (.r (D 6)) (.s (.r (D 3)) (.s (.r (D 6)) (.s (.r (D 3)) (.s (.r (D 6)) (.s (.r (D 3)) (.s (.r (D 6)) (.s (.r (D 3)) (.s (.r (D 6)) (.r (D 3)))))))))))) (.r (D 3))))))) (.s (.r (D 2)) .z)))
def laws.markRuleS.vc (a : Sl) (k : Int) (w : World) (K : Int → World → Prop) : Prop :=
∃ (I : Int → Int → World → Prop) (M : Int → Int → World → Nat),
I k 0 w ∧
(∀ (k_1 : Int) (i : Int) w_, I k_1 i w_ → ∀ _ : Nat → Value,
((decide ((i : Int) < ((a.n : Nat) : Int))) = true → Ix a.a a.n i 5 w_ fun a_t15 w__1 =>
St (Addr.add a_t15 0) (.int .i64 k_1) w__1 fun w__2 =>
Ix a.a a.n i 5 w__2 fun a_t22 w__3 =>
St (Addr.add a_t22 1) (.int .i64 (IntKind.wrap .i64 (k_1 + 1))) w__3 fun w__4 =>
Ix a.a a.n i 5 w__4 fun a_t29 w__5 =>
St (Addr.add a_t29 2) (.int .i64 (IntKind.wrap .i64 ((IntKind.wrap .i64 (k_1 + 1)) + 1))) w__5 fun w__6 =>
Ix a.a a.n i 5 w__6 fun a_t36 w__7 =>
St (Addr.add a_t36 3) (.int .i64 (IntKind.wrap .i64 ((IntKind.wrap .i64 ((IntKind.wrap .i64 (k_1 + 1)) + 1)) + 1))) w__7 fun w__8 =>
Ix a.a a.n i 5 w__8 fun a_t43 w__9 =>
St (Addr.add a_t43 4) (.int .i64 (IntKind.wrap .i64 ((IntKind.wrap .i64 ((IntKind.wrap .i64 ((IntKind.wrap .i64 (k_1 + 1)) + 1)) + 1)) + 1))) w__9 fun w__10 =>
(I (IntKind.wrap .i64 ((IntKind.wrap .i64 ((IntKind.wrap .i64 ((IntKind.wrap .i64 ((IntKind.wrap .i64 (k_1 + 1)) + 1)) + 1)) + 1)) + 1)) (IntKind.wrap .i64 (i + 1)) w__10 ∧ M (IntKind.wrap .i64 ((IntKind.wrap .i64 ((IntKind.wrap .i64 ((IntKind.wrap .i64 ((IntKind.wrap .i64 (k_1 + 1)) + 1)) + 1)) + 1)) + 1)) (IntKind.wrap .i64 (i + 1)) w__10 < M k_1 i w_)) ∧
((decide ((i : Int) < ((a.n : Nat) : Int))) = false → K k_1 w_))
theorem laws.markRuleS.ok {a : Sl} {k : Int} {w : World} {K : Int → World → Prop} (h : laws.markRuleS.vc a k w K) : CallT (.o (.lf (.i .i64))) P0 17 [a.v, (.int .i64 k)] w K :=
  call_of Tryd.func17 rfl rfl (pl := laws.markRuleS.pl) (show VC P0 Tryd.f17 laws.markRuleS.pl (.o (.lf (.i .i64))) [a.v, (.int .i64 k)] w K noP from Eq.mp (by kernel_rfl) h)
/- laws.heldRuleS -/
def laws.heldRuleS.pl : Pl := (.s (.r (D 1)) (.s (.s (.r (D 1)) (.b (.l [(1, (.i .i64)), (5, (.i .i64))] (.s (.s (.r (D 4)) (.c .z .z)) (.s (.b (.s (.s (.r [.d, .d, .d, .d, (.l (.lf (.i .i64))), .d, .d]) (.c (.s (.r (D 1)) .z) .z)) (.s (.r (D 3)) (.s (.s (.r [.d, .d, .d, .d, (.l (.lf (.i .i64))), .d, .d]) (.c (.s (.r (D 1)) .z) .z)) (.s (.r (D 3)) (.s (.s (.r [.d, .d, .d, .d, (.l (.lf (.i .i64))), .d, .d]) (.c (.s (.r (D 1)) .z) .z)) (.s (.r (D 3)) (.s (.s (.r [.d, .d, .d, .d, (.l (.lf (.i .i64))), .d, .d]) (.c (.s (.r (D 1)) .z) .z)) (.s (.r (D 3)) (.s (.s (.r [.d, .d, .d, .d, (.l (.lf (.i .i64))), .d, .d]) (.c (.s (.r (D 1)) .z) .z)) (.r (D 3)))))))))))) (.r (D 3))))))) (.s (.r (D 2)) .z)))
def laws.heldRuleS.vc (a : Sl) (k : Int) (w : World) (K : Int → World → Prop) : Prop :=
∃ (I : Int → Int → World → Prop) (M : Int → Int → World → Nat),
I k 0 w ∧
(∀ (k_1 : Int) (i : Int) w_, I k_1 i w_ → ∀ _ : Nat → Value,
((decide ((i : Int) < ((a.n : Nat) : Int))) = true → Ix a.a a.n i 5 w_ fun a_t14 w__1 =>
Ld (.i .i64) (Addr.add a_t14 0) w__1 fun (t16 : Int) w__2 =>
(((t16 : Int) != k_1) = true → K (-1) w__2) ∧
(((t16 : Int) != k_1) = false → Ix a.a a.n i 5 w__2 fun a_t23 w__3 =>
Ld (.i .i64) (Addr.add a_t23 1) w__3 fun (t25 : Int) w__4 =>
(((t25 : Int) != (IntKind.wrap .i64 (k_1 + 1))) = true → K (-1) w__4) ∧
(((t25 : Int) != (IntKind.wrap .i64 (k_1 + 1))) = false → Ix a.a a.n i 5 w__4 fun a_t32 w__5 =>
Ld (.i .i64) (Addr.add a_t32 2) w__5 fun (t34 : Int) w__6 =>
(((t34 : Int) != (IntKind.wrap .i64 ((IntKind.wrap .i64 (k_1 + 1)) + 1))) = true → K (-1) w__6) ∧
(((t34 : Int) != (IntKind.wrap .i64 ((IntKind.wrap .i64 (k_1 + 1)) + 1))) = false → Ix a.a a.n i 5 w__6 fun a_t41 w__7 =>
Ld (.i .i64) (Addr.add a_t41 3) w__7 fun (t43 : Int) w__8 =>
(((t43 : Int) != (IntKind.wrap .i64 ((IntKind.wrap .i64 ((IntKind.wrap .i64 (k_1 + 1)) + 1)) + 1))) = true → K (-1) w__8) ∧
(((t43 : Int) != (IntKind.wrap .i64 ((IntKind.wrap .i64 ((IntKind.wrap .i64 (k_1 + 1)) + 1)) + 1))) = false → Ix a.a a.n i 5 w__8 fun a_t50 w__9 =>
Ld (.i .i64) (Addr.add a_t50 4) w__9 fun (t52 : Int) w__10 =>
(((t52 : Int) != (IntKind.wrap .i64 ((IntKind.wrap .i64 ((IntKind.wrap .i64 ((IntKind.wrap .i64 (k_1 + 1)) + 1)) + 1)) + 1))) = true → K (-1) w__10) ∧
(((t52 : Int) != (IntKind.wrap .i64 ((IntKind.wrap .i64 ((IntKind.wrap .i64 ((IntKind.wrap .i64 (k_1 + 1)) + 1)) + 1)) + 1))) = false → (I (IntKind.wrap .i64 ((IntKind.wrap .i64 ((IntKind.wrap .i64 ((IntKind.wrap .i64 ((IntKind.wrap .i64 (k_1 + 1)) + 1)) + 1)) + 1)) + 1)) (IntKind.wrap .i64 (i + 1)) w__10 ∧ M (IntKind.wrap .i64 ((IntKind.wrap .i64 ((IntKind.wrap .i64 ((IntKind.wrap .i64 ((IntKind.wrap .i64 (k_1 + 1)) + 1)) + 1)) + 1)) + 1)) (IntKind.wrap .i64 (i + 1)) w__10 < M k_1 i w_))))))) ∧
((decide ((i : Int) < ((a.n : Nat) : Int))) = false → K k_1 w_))
theorem laws.heldRuleS.ok {a : Sl} {k : Int} {w : World} {K : Int → World → Prop} (h : laws.heldRuleS.vc a k w K) : CallT (.o (.lf (.i .i64))) P0 18 [a.v, (.int .i64 k)] w K :=
  call_of Tryd.func18 rfl rfl (pl := laws.heldRuleS.pl) (show VC P0 Tryd.f18 laws.heldRuleS.pl (.o (.lf (.i .i64))) [a.v, (.int .i64 k)] w K noP from Eq.mp (by kernel_rfl) h)
/- laws.FnRulesPut -/
def laws.FnRulesPut.pl : Pl := (.s (.r (D 1)) (.s (.s (.r (D 3)) (.c (.s (.r (D 1)) .z) .z)) (.s (.r [.d, (.c (.o (.lf .sl))), .d]) (.s (.r [.d, (.c (.o (.lf .s))), .d]) (.s (.j [(28, .b)] (.r [.d, .d, (.c (.o (.lf .s))), .d, (.sp .d), .d, (.c (.o (.lf .b))), .d, (.c (.o (.lf .b))), .d, .d, (.sp .d), .d, .d, .d]) (.c (.s (.r [.d, .d, (.c (.o (.lf .s))), .d, (.sp .d), .d, (.c (.o (.lf .b))), .d, (.c (.o (.lf .b))), .d, .d, .d]) .z) .z)) (.s (.r [.d, (.c (.n [(.lf .sl), (.lf .b)])), .d, .d, .d, .d, .d]) (.s (.r [.d, (.sp .d), .d, .d, (.c (.o (.lf .b))), .d, .d]) .z)))))))
def laws.FnRulesPut.vc (code : Sl) (w : World) (K : Bool → World → Prop) : Prop :=
((decide ((((code.n : Nat) : Int) : Int) > 1048576)) = true → K true w) ∧
((decide ((((code.n : Nat) : Int) : Int) > 1048576)) = false → CallT (.o (.lf .sl)) P0 8 [code.v] w fun (t11 : Sl) w_ =>
CallT (.o (.lf .s)) P0 9 [t11.v] w_ fun (t13 : ByteArray) w__1 =>
∃ J : Bool → World → Prop,
(CallT (.o (.lf .s)) P0 10 [t11.v] w__1 fun (t16 : ByteArray) w__2 =>
((!(ByteArray.toList t13 == ByteArray.toList t16)) = true → J true w__2) ∧
((!(ByteArray.toList t13 == ByteArray.toList t16)) = false → CallT (.o (.lf .b)) P0 11 [t11.v] w__2 fun (t20 : Bool) w__3 =>
CallT (.o (.lf .b)) P0 12 [t11.v] w__3 fun (t22 : Bool) w__4 =>
((!(t20 == t22)) = true → J true w__4) ∧
((!(t20 == t22)) = false → J (ByteArray.toList t13 == ByteArray.toList (⟨#[]⟩ : ByteArray)) w__4))) ∧
(∀ (t28 : Bool) w__5, J t28 w__5 → ∀ _ : Nat → Value,
(t28 = true → CallT (.o (.lf .s)) P0 10 [t11.v] w__5 fun (t31 : ByteArray) w__6 =>
((ByteArray.toList t13 == ByteArray.toList t31) = true → CallT (.o (.lf .b)) P0 11 [t11.v] w__6 fun (t35 : Bool) w__7 =>
CallT (.o (.lf .b)) P0 12 [t11.v] w__7 fun (t37 : Bool) w__8 =>
K (t35 == t37) w__8) ∧
((ByteArray.toList t13 == ByteArray.toList t31) = false → K false w__6)) ∧
(t28 = false → CallT (.n [(.lf .sl), (.lf .b)]) P0 13 [(.string t13)] w__5 fun (t42 : (Sl) × (Bool) × Unit) w__9 =>
(t42.2.1 = true → CallT (.o (.lf .b)) P0 14 [t42.1.v, t11.v] w__9 fun (t49 : Bool) w__10 =>
K t49 w__10) ∧
(t42.2.1 = false → K false w__9))))
theorem laws.FnRulesPut.ok {code : Sl} {w : World} {K : Bool → World → Prop} (h : laws.FnRulesPut.vc code w K) : CallT (.o (.lf .b)) P0 3 [code.v] w K :=
  call_of Tryd.func3 rfl rfl (pl := laws.FnRulesPut.pl) (show VC P0 Tryd.f3 laws.FnRulesPut.pl (.o (.lf .b)) [code.v] w K noP from Eq.mp (by kernel_rfl) h)
/- laws.FnRulesGet -/
def laws.FnRulesGet.pl : Pl := (.s (.r (D 1)) (.s (.s (.r (D 3)) (.c (.s (.r (D 1)) .z) .z)) (.s (.r [.d, (.c (.o (.lf .s))), .d]) (.s (.r [.d, (.c (.n [(.lf .sl), (.lf .b)])), .d, .d, .d, .d, .d]) (.s (.r [.d, (.c (.n [(.lf .sl), (.lf .b)])), .d, .d, .d, .d, .d]) (.s (.j [(35, .b)] (.r [.d, .d, .d, (.sp .d), .d, .d, (.c (.o (.lf .b))), .d, .d, (.sp .d), .d, .d, .d]) (.c (.s (.r [.d, .d, .d, (.sp .d), .d, .d, (.c (.o (.lf .b))), .d, .d]) .z) .z)) (.s (.r [.d, (.c (.o (.lf .s))), .d, .d, (.sp .d), .d, (.c (.o (.lf .b))), .d, .d]) .z)))))))
def laws.FnRulesGet.vc (code : Sl) (w : World) (K : Bool → World → Prop) : Prop :=
((decide ((((code.n : Nat) : Int) : Int) > 1048576)) = true → K true w) ∧
((decide ((((code.n : Nat) : Int) : Int) > 1048576)) = false → CallT (.o (.lf .s)) P0 19 [code.v] w fun (t12 : ByteArray) w_ =>
CallT (.n [(.lf .sl), (.lf .b)]) P0 13 [(.string t12)] w_ fun (t15 : (Sl) × (Bool) × Unit) w__1 =>
CallT (.n [(.lf .sl), (.lf .b)]) P0 15 [(.string t12)] w__1 fun (t20 : (Sl) × (Bool) × Unit) w__2 =>
∃ J : Bool → World → Prop,
(((!(t15.2.1 == t20.2.1)) = true → J true w__2) ∧
((!(t15.2.1 == t20.2.1)) = false → CallT (.o (.lf .b)) P0 14 [t15.1.v, t20.1.v] w__2 fun (t29 : Bool) w__3 =>
((!t29) = true → J true w__3) ∧
((!t29) = false → J (!t15.2.1) w__3))) ∧
(∀ (t35 : Bool) w__4, J t35 w__4 → ∀ _ : Nat → Value,
(t35 = true → ((t15.2.1 == t20.2.1) = true → CallT (.o (.lf .b)) P0 14 [t15.1.v, t20.1.v] w__4 fun (t42 : Bool) w__5 =>
K t42 w__5) ∧
((t15.2.1 == t20.2.1) = false → K false w__4)) ∧
(t35 = false → CallT (.o (.lf .s)) P0 9 [t15.1.v] w__4 fun (t45 : ByteArray) w__6 =>
((ByteArray.toList t45 == ByteArray.toList t12) = true → CallT (.o (.lf .b)) P0 11 [t15.1.v] w__6 fun (t50 : Bool) w__7 =>
K t50 w__7) ∧
((ByteArray.toList t45 == ByteArray.toList t12) = false → K false w__6))))
theorem laws.FnRulesGet.ok {code : Sl} {w : World} {K : Bool → World → Prop} (h : laws.FnRulesGet.vc code w K) : CallT (.o (.lf .b)) P0 5 [code.v] w K :=
  call_of Tryd.func5 rfl rfl (pl := laws.FnRulesGet.pl) (show VC P0 Tryd.f5 laws.FnRulesGet.pl (.o (.lf .b)) [code.v] w K noP from Eq.mp (by kernel_rfl) h)
/- laws.FnExactRulesGet -/
def laws.FnExactRulesGet.pl : Pl := (.s (.r (D 1)) (.s (.s (.r (D 3)) (.c (.s (.r (D 1)) .z) .z)) (.s (.r [.d, (.c (.n [(.lf .sl), (.lf .b)])), .d, .d, .d, .d, .d]) (.s (.r [.d, (.c (.n [(.lf .sl), (.lf .b)])), .d, .d, .d, .d, .d]) (.j [] (.s (.r [.d, .d, (.c (.o (.lf .b))), .d, (.sp .d), .d, .d, .d, .d]) (.c (.s (.r (D 1)) .z) .z)) (.s (.r (D 1)) (.s (.r [.d, .d, (.c (.o (.lf (.i .i64)))), .d]) (.s (.r (D 1)) (.s (.r [.d, .d, (.c (.o (.lf (.i .i64)))), .d]) (.s (.s (.r (D 2)) (.c (.s (.r (D 1)) .z) .z)) (.s (.s (.r (D 3)) (.c (.s (.r (D 1)) .z) .z)) (.s (.r [.d, (.c (.n [(.lf .sl), (.lf .b)])), .d, .d, .d, .d, .d]) (.j [] (.s (.r [.d, .d, (.c (.o (.lf .b))), .d, (.sp .d), .d, .d, .d, .d]) (.c (.s (.r (D 1)) .z) .z)) (.s (.r (D 1)) (.s (.r [.d, .d, (.c (.o (.lf (.i .i64)))), .d]) (.s (.s (.r (D 2)) (.c (.s (.r (D 1)) .z) .z)) (.s (.s (.r (D 3)) (.c (.s (.r (D 1)) .z) .z)) (.s (.r (D 1)) .z))))))))))))))))))
def laws.FnExactRulesGet.vc (aS : ByteArray) (w : World) (K : Bool → World → Prop) : Prop :=
((decide (((((ByteArray.size aS) : Nat) : Int) : Int) > 1048576)) = true → K true w) ∧
((decide (((((ByteArray.size aS) : Nat) : Int) : Int) > 1048576)) = false → CallT (.n [(.lf .sl), (.lf .b)]) P0 15 [(.string aS)] w fun (t16 : (Sl) × (Bool) × Unit) w_ =>
CallT (.n [(.lf .sl), (.lf .b)]) P0 13 [(.string aS)] w_ fun (t21 : (Sl) × (Bool) × Unit) w__1 =>
∃ J : World → Prop,
(CallT (.o (.lf .b)) P0 16 [t21.1.v, t16.1.v] w__1 fun (t26 : Bool) w__2 =>
((!t26) = true → K false w__2) ∧
((!t26) = false → ((!(t21.2.1 == t16.2.1)) = true → K false w__2) ∧
((!(t21.2.1 == t16.2.1)) = false → J w__2))) ∧
(∀  w__3, J w__3 → ∀ _ : Nat → Value,
CallT (.o (.lf (.i .i64))) P0 17 [t21.1.v, (.int .i64 1)] w__3 fun (t35 : Int) w__4 =>
CallT (.o (.lf (.i .i64))) P0 18 [t21.1.v, (.int .i64 1)] w__4 fun (t38 : Int) w__5 =>
((decide ((t38 : Int) < 0)) = true → K false w__5) ∧
((decide ((t38 : Int) < 0)) = false → (((t38 : Int) != t35) = true → K false w__5) ∧
(((t38 : Int) != t35) = false → CallT (.n [(.lf .sl), (.lf .b)]) P0 13 [(.string aS)] w__5 fun (t46 : (Sl) × (Bool) × Unit) w__6 =>
∃ J_1 : World → Prop,
(CallT (.o (.lf .b)) P0 16 [t46.1.v, t16.1.v] w__6 fun (t51 : Bool) w__7 =>
((!t51) = true → K false w__7) ∧
((!t51) = false → ((!(t46.2.1 == t16.2.1)) = true → K false w__7) ∧
((!(t46.2.1 == t16.2.1)) = false → J_1 w__7))) ∧
(∀  w__8, J_1 w__8 → ∀ _ : Nat → Value,
CallT (.o (.lf (.i .i64))) P0 18 [t21.1.v, (.int .i64 1)] w__8 fun (t60 : Int) w__9 =>
((decide ((t60 : Int) < 0)) = true → K false w__9) ∧
((decide ((t60 : Int) < 0)) = false → (((t60 : Int) != t35) = true → K false w__9) ∧
(((t60 : Int) != t35) = false → K true w__9)))))))
theorem laws.FnExactRulesGet.ok {aS : ByteArray} {w : World} {K : Bool → World → Prop} (h : laws.FnExactRulesGet.vc aS w K) : CallT (.o (.lf .b)) P0 4 [(.string aS)] w K :=
  call_of Tryd.func4 rfl rfl (pl := laws.FnExactRulesGet.pl) (show VC P0 Tryd.f4 laws.FnExactRulesGet.pl (.o (.lf .b)) [(.string aS)] w K noP from Eq.mp (by kernel_rfl) h)
end Go.Proofs.YtkkdboimkbcfnaaDoor.V

/- Regions: facts that say what a result is; where rules lie. -/
namespace Go.Proofs.YtkkdboimkbcfnaaDoor.V
open Go Go.RowKit
set_option linter.unusedVariables false
set_option linter.unusedSimpArgs false
/-- A fact: the result is this. -/
def eqG {α : Type} (v : α) : α → World → Prop := fun x _ => x = v
theorem exE {α : Type} {v : α} {Sp : World → World → Prop} {p : (α → World → Prop) → Prop} (h : p (eqG v)) : ∃ G, Kept Sp G ∧ p G := ⟨eqG v, fun _ _ _ h _ => h, h⟩
theorem gkE {r : Rs} {Sp : World → World → Prop} {w1 w' : World} {x : r.T} {v : Value} (hv : v = r.emb x) (h : Sp w1 w') : GK r Sp w1 (eqG x) v w' := ⟨x, hv, h, rfl⟩
theorem belOk (w : World) : SpOk (Below w.heap.size) w := ⟨fun a => Below.refl _ _, fun a b c h1 h2 => h1.trans h2, (Below.refl _ _).drew⟩
theorem keptEq {α : Type} {v : α} {Sp : World → World → Prop} : Kept Sp (eqG v) := fun _ _ _ h _ => h
theorem keptE {α : Type} {v : α} {Sp : World → World → Prop} : Kept Sp (eqG v) := fun _ _ _ h _ => h
def AtV (H : Nat) (vs : List Value) (a : Addr) (w : World) : Prop := ∃ b o, a = ⟨b, o, none⟩ ∧ b < H ∧ At w b o vs
theorem keptAv {H : Nat} {vs : List Value} : Kept (Below H) (AtV H vs) := by
  rintro a x z ⟨b, o, h1, h2, h3⟩ hxz
  refine ⟨b, o, h1, h2, fun m v hv => ?_⟩
  rw [← h3 m v hv]
  unfold World.cell?
  simp only
  rw [hxz.block b h2]
theorem bk_lt {α : Type} {k : Kd α} {w : World} {s : Sl} {xs : List α} (h : SlR k w s xs) {i : Nat} {x : α} (hx : xs[i]? = some x) {v : Value} (hv : (k.cells x)[0]? = some v) {b : Nat} (hb : s.bk = some b) : b < w.heap.size := by
  obtain ⟨b', o, ha, hA⟩ := h.at hx
  have : b' = b := by simpa [Sl.bk, ha] using hb
  subst this
  exact World.block_lt_of_cell? w _ (hA 0 v hv)
theorem ldAv {w : World} {b o : Nat} {ls : List Lf} {y : Tup ls} (h : At w b o (Tup.cells ls y)) {K : Tup ls → World → Prop} (hk : K y w) : LdA ls ⟨b, o, none⟩ w K := ⟨y, fun j v hv => by rw [add_mk]; exact h j v hv, hk⟩
theorem ixRb {α : Type} {k : Kd α} {w : World} {s : Sl} {xs : List α} {i : Int} {x : α} {sz : Nat} (h : SlR k w s xs) (hi : 0 ≤ i) (hx : xs[i.toNat]? = some x) (hsz : sz = k.ls.length) {K : Addr → World → Prop}
    (hk : ∀ b o, s.bk = some b → At w b o (k.cells x) → K ⟨b, o, none⟩ w) : Ix s.a s.n i sz w K := by
  obtain ⟨b, o, ha, hA⟩ := h.at hx
  have hl : i.toNat < xs.length := by
    rcases Nat.lt_or_ge i.toNat xs.length with h | h
    · exact h
    · simp [List.getElem?_eq_none h] at hx
  refine ⟨⟨b, o, none⟩, ha, hi, by rw [h.1]; omega, ?_⟩
  rw [add_mk, hsz]
  exact hk _ _ (by simp [Sl.bk, ha]) hA
end Go.Proofs.YtkkdboimkbcfnaaDoor.V

/- Contracts: the library's functions on texts, at this program. -/
namespace Go.Proofs.YtkkdboimkbcfnaaDoor.V
open Go Go.RowKit
set_option linter.unusedVariables false
set_option linter.unusedSimpArgs false
theorem cellB {w w' : World} {g i : Nat} {v : Value} (h : w.cell? ⟨g, i, none⟩ = some v) (hb : Below w.heap.size w w') : w'.cell? ⟨g, i, none⟩ = some v := by
  have hlt := World.block_lt_of_cell? w _ h
  rw [← h]
  unfold World.cell?
  simp only
  rw [hb.block g hlt]
/-- The table of powers is there. -/
def Tb (w : World) : Prop := Lib.TabIs P0 w "internal/strconv.uint64pow10" .u64 Lib.pow10Tab
theorem Tb.below {w w' : World} (h : Tb w) (hb : Below w.heap.size w w') : Tb w' := Go.Joins.tab_stays (g := 1) (by kernel_rfl) h hb (Nat.le_refl _)
section
variable {w : World}
theorem itoa.c {n : Int} {K : ByteArray → World → Prop} (h : Tb w) (h0 : -9223372036854775808 ≤ n) (h1 : n ≤ 9223372036854775807) (hk : ∀ w', Below w.heap.size w w' → K (bs (Lib.itoa n)) w') : CallT (.o (.lf .s)) P0 52 [.int .i64 n] w K :=
  (Tryd.strconv_Itoa n h0 h1 w h).mono fun e w' ⟨he, k, os, hw⟩ => ⟨bs (Lib.itoa n), he, hk w' (by rw [hw]; exact Lib.below_grow _ w (Nat.le_refl _) k os)⟩
/-- A Builder that holds these bytes. -/
def Bd (B b : Nat) (l : By) (w : World) : Prop := Lib.IsBuilder 51 5 B b (Lib.byteCells l) w
theorem zBd : zc P0 51 = #[.pointer none, .slice none 0 0] := by kernel_rfl
theorem Bd.new {B b : Nat} {w' : World} (hB : B ≤ b) (hc : w'.heap[b]? = some (.cells #[.pointer none, .slice none 0 0] 51 (0, 0))) : Bd B b [] w' :=
  .inl ⟨hB, .slice none 0 0, hc, ⟨rfl, .inl ⟨rfl, rfl⟩⟩, by simp [Value.ownBlock]⟩
theorem bdAt_below {B b : Nat} {p : Value} {l : By} {w' : World} (h : Lib.BuilderAt 51 5 B b p (Lib.byteCells l) w) (hb : Below w.heap.size w w') : Lib.BuilderAt 51 5 B b p (Lib.byteCells l) w' := by
  obtain ⟨hB, v, hc, ho, hn⟩ := h
  refine ⟨hB, v, (hb.block b (Array.getElem?_eq_some_iff.1 hc).1).trans hc, ?_, hn⟩
  refine ⟨ho.1, ?_⟩
  rcases ho.2 with h0 | ⟨g, cap, cur, hv, hBg, hg, r⟩
  · exact .inl h0
  · exact .inr ⟨g, cap, cur, hv, hBg, (hb.block g (Array.getElem?_eq_some_iff.1 hg).1).trans hg, r⟩
theorem Bd.below {B b : Nat} {l : By} {w' : World} (h : Bd B b l w) (hb : Below w.heap.size w w') : Bd B b l w' := h.imp (bdAt_below · hb) (bdAt_below · hb)
theorem write.c {B b : Nat} {l x : By} {K : Int × Value × Unit → World → Prop} (h : Bd B b l w) (hl : l.length + x.length ≤ 140737488355328) (hB : B ≤ w.heap.size) (hk : ∀ r w', Bd B b (l ++ x) w' → Below B w w' → K r w') :
    CallT (.n [(.lf (.i .i64)), (.lf .any)]) P0 29 [.pointer (some ⟨b, 0, none⟩), .string (bs x)] w K := by
  refine (Any.Builder_WriteString Tryd.laysB166 Tryd.laysB_X B b (Lib.byteCells l) (bs x) w h (by rw [Lib.byteCells_length, bs_size]; exact hl) hB).mono fun e w' ⟨he, h1, h2⟩ => ?_
  refine ⟨(((bs x).size : Int), .nilIface, ()), he, hk _ w' (.inr ?_) h2⟩
  rw [Lib.strCells_eq, bs_data, ← Lib.byteCells_append] at h1
  exact h1
theorem string.c {B b : Nat} {l : By} {K : ByteArray → World → Prop} (h : Bd B b l w) (hB : B ≤ w.heap.size) (hk : ∀ w', Below B w w' → K (bs l) w') : CallT (.o (.lf .s)) P0 31 [.pointer (some ⟨b, 0, none⟩)] w K :=
  (Tryd.Builder_String_any B b l w h hB).mono fun e w' ⟨he, hw⟩ => ⟨bs l, he, hk w' hw⟩
end
/-- What is known of the library's variables that texts are read by. -/
def Te (w : World) : Prop := (∃ m, w.cell? ⟨0, 0, none⟩ = some (.int .i64 m)) ∧ (∃ te pe, w.cell? ⟨2, 0, none⟩ = some (.iface te pe)) ∧ ∃ te pe, w.cell? ⟨3, 0, none⟩ = some (.iface te pe)
theorem Te.below {w w' : World} (h : Te w) (hb : Below w.heap.size w w') : Te w' := by
  obtain ⟨⟨m, h1⟩, ⟨t, p, h2⟩, ⟨t', p', h3⟩⟩ := h
  exact ⟨⟨m, cellB h1 hb⟩, ⟨t, p, cellB h2 hb⟩, ⟨t', p', cellB h3 hb⟩⟩
/-- The number of a word, or one that is none. -/
def numA (l : By) : Int := match Lib.atoiAll l with | .ok v => v | _ => -1099511627776
theorem numA_dec {u : Nat} (h : u < 9223372036854775808) : numA (Lib.decDigits u) = u := by unfold numA; rw [atoi_dec u h]
section
variable {w : World}
theorem eqIfNil {P : Program} {t : TypeId} {ms : Array (String × TypeId)} (w : World) (d : Nat) (hu : P.underlying t = some (.interface ms)) (a : TypeId) (b : Value) : (Op.equalIn (d + 1) t (.iface a b) .nilIface).run P w = .ok false w := by
  rw [Op.equalIn]; simp [run_underlying hu]
theorem eqNilNil {P : Program} {t : TypeId} {ms : Array (String × TypeId)} (w : World) (d : Nat) (hu : P.underlying t = some (.interface ms)) : (Op.equalIn (d + 1) t .nilIface .nilIface).run P w = .ok true w := by
  rw [Op.equalIn]; simp [run_underlying hu]
theorem uErr : ∃ ms, P0.underlying 55 = some (.interface ms) := ⟨_, Tryd.underlying55⟩
theorem neqNil {t : TypeId} {p : Value} {x y : Operand} {K : Bool → World → Prop} (hk : K true w) : RunT (.o (.lf .b)) P0 (do eqGuard .neq 55 x y (.iface t p) .nilIface; binOp .neq 55 (.iface t p) .nilIface) w K := by
  obtain ⟨ms, hu⟩ := uErr
  refine ⟨true, w, ?_, hk⟩
  rw [show eqGuard .neq 55 x y (.iface t p) .nilIface = pure () from rfl]
  rw [show binOp .neq 55 (.iface t p) .nilIface = (do pure (.bool (!(← Op.equalIn (9999 + 1) 55 (.iface t p) .nilIface)))) from rfl]
  simp only [Sem.run_bind, Sem.run_pure, Result.andThen_ok, eqIfNil w 9999 hu]
  rfl
theorem neqNo {x : Operand} {c : Value} {K : Bool → World → Prop} (hk : K false w) : RunT (.o (.lf .b)) P0 (do eqGuard .neq 55 x (.const c) .nilIface .nilIface; binOp .neq 55 .nilIface .nilIface) w K := by
  obtain ⟨ms, hu⟩ := uErr
  refine ⟨false, w, ?_, hk⟩
  rw [show eqGuard .neq 55 x (.const c) .nilIface .nilIface = pure () by cases x <;> rfl]
  rw [show binOp .neq 55 .nilIface .nilIface = (do pure (.bool (!(← Op.equalIn (9999 + 1) 55 .nilIface .nilIface)))) from rfl]
  simp only [Sem.run_bind, Sem.run_pure, Result.andThen_ok, eqNilNil w 9999 hu]
  rfl
theorem impl.number.c {l : By} {K : Int → World → Prop} (h : Te w) (hl : l.length ≤ 281474976710656) (hk : ∀ w', Below w.heap.size w w' → K (numA l) w') : CallT (.o (.lf (.i .i64))) P0 72 [.string (bs l)] w K := by
  refine impl.number.ok ?_
  unfold impl.number.vc
  have hs : (bs l).size ≤ 281474976710656 := by rw [bs_size]; exact hl
  obtain ⟨_, ⟨t2, p2, h2⟩, ⟨t3, p3, h3⟩⟩ := h
  unfold numA at hk
  rcases he : Lib.atoiAll l with v | _ | _
  · rw [he] at hk
    refine (Tryd.strconv_Atoi_ok (bs l) (by omega) v (by rw [bs_data]; exact he) w).mono fun e w' ⟨hr, hw⟩ => ⟨(v, .nilIface, ()), hr, ?_⟩
    have hb : Below w.heap.size w w' := by
      rcases hw with rfl | ⟨t, rfl⟩
      · exact Below.refl _ _
      · exact Go.Joins.below_bytesWorld _ w _ t (Nat.le_refl _)
    exact neqNo (And.intro (fun hc => by simp at hc) (fun _ => hk w' hb))
  · rw [he] at hk
    refine (Tryd.strconv_Atoi_syntax (bs l) hs (by rw [bs_data]; exact he) _ w h2 (.inr ⟨_, _, rfl⟩)).mono fun e w' ⟨N, hr, _, _, hb⟩ => ⟨(0, _, ()), hr, ?_⟩
    exact neqNil (And.intro (fun _ => hk w' hb) (fun hc => by simp at hc))
  · rw [he] at hk
    refine (Tryd.strconv_Atoi_range (bs l) hs (by rw [bs_data]; exact he) _ w h3 (.inr ⟨_, _, rfl⟩)).mono fun e w' ⟨N, hr, _, _, hb⟩ => ⟨(_, _, ()), hr, ?_⟩
    exact neqNil (And.intro (fun _ => hk w' hb) (fun hc => by simp at hc))
theorem cut.c {l : By} {c : UInt8} {K : ByteArray × ByteArray × Bool × Unit → World → Prop} (h : Te w) (hl : l.length < 4294967281) (hk : ∀ w', Below w.heap.size w w' → K (bs (Lib.cut l [c]).1, bs (Lib.cut l [c]).2.1, (Lib.cut l [c]).2.2, ()) w') :
    CallT (.n [(.lf .s), (.lf .s), (.lf .b)]) P0 37 [.string (bs l), .string (bs [c])] w K := by
  obtain ⟨⟨m, h1⟩, _⟩ := h
  refine (Tryd.strings_Cut (bs l) (bs [c]) m w (by rw [bs_size]; exact hl) h1).mono fun e w' ⟨he, n, hw⟩ => ⟨(bs (Lib.cut l [c]).1, bs (Lib.cut l [c]).2.1, (Lib.cut l [c]).2.2, ()), he, hk w' ?_⟩
  rw [hw]; exact Lib.below_grow _ w (Nat.le_refl _) n #[]
theorem flatS (l : List ByteArray) : (l.map Value.string).toArray.toList = l.flatMap kS.cells := by
  induction l with
  | nil => rfl
  | cons x xs ih => simpa [kS, Kd.cells, Tup.cells, Lf.emb] using ih
theorem split_size {c : UInt8} : ∀ (n : Nat) (l : By) (z : ByteArray), z ∈ Lib.splitB (bs [c]) 0 n (bs l) → z.size ≤ l.length
  | n, l, z, hz => by
    have hd := Lib.splitB_data (bs [c]) 0 n (bs l)
    have hm : z.data.toList ∈ Lib.splitK (bs [c]).data.toList 0 n (bs l).data.toList := by rw [← hd]; exact List.mem_map_of_mem hz
    have key : ∀ (n : Nat) (l y : By), y ∈ Lib.splitK [c] 0 n l → y.length ≤ l.length := by
      intro n
      induction n with
      | zero => intro l y hy; simp [Lib.splitK] at hy; rw [hy]; exact Nat.le_refl _
      | succ n ih =>
        intro l y hy
        unfold Lib.splitK at hy
        split at hy
        · simp at hy; rw [hy]; exact Nat.le_refl _
        · rcases List.mem_cons.1 hy with e | e
          · rw [e]; simp; omega
          · have := ih _ _ e
            simp at this; omega
    have := key n l _ hm
    rw [Array.length_toList] at this
    exact this
theorem split.c {l : By} {c : UInt8} {K : Sl → World → Prop} (h : Te w) (hl : l.length < 4294967281) (hk : ∀ s zs w', Below w.heap.size w w' → OwnS kS 9 w.heap.size w' s zs → zs.length ≤ l.length + 1 → (∀ z ∈ zs, z.size ≤ l.length) → (∀ ws : List By, ws ≠ [] → (∀ x ∈ ws, c ∉ x) → l = joinW c ws → zs = ws.map bs) → K s w') :
    CallT (.o (.lf .sl)) P0 71 [.string (bs l), .string (bs [c])] w K := by
  obtain ⟨⟨m, h1⟩, _⟩ := h
  refine (Tryd.strings_Split (bs l) (bs [c]) m w (by rw [bs_size]; exact hl) h1 (by rw [bs_size]; simp)).mono fun e w' ⟨he, hw⟩ => ⟨⟨some ⟨w.heap.size, 0, none⟩, _, _⟩, he, ?_⟩
  have hlen := Lib.splitB_all (bs [c]) (by rw [bs_size]; simp) 0 _ (bs l) rfl
  have hle := Lib.countB_le (bs [c]) (by rw [bs_size]; simp) (bs l).size (bs l) (Nat.le_refl _)
  rw [bs_size] at hle
  have hc : w'.heap[w.heap.size]? = some (.cells ((Lib.splitB (bs [c]) 0 (Lib.countB (bs l) (bs [c])) (bs l)).map Value.string).toArray 9 (0, 0)) := by rw [hw]; exact Array.getElem?_push_size
  have hb : Below w.heap.size w w' := by rw [hw]; exact (Below.refl _ w).alloc (Nat.le_refl _) _
  refine hk _ (Lib.splitB (bs [c]) 0 (Lib.countB (bs l) (bs [c])) (bs l)) w' hb (OwnS.lit (k := kS) (Nat.le_refl _) hc hlen.symm (flatS _) (by simp only [maxLen]; omega)) (by omega) (fun z hz => split_size _ _ z hz) fun ws hn hw2 he2 => ?_
  rw [he2]; exact split_words hn hw2
end
end Go.Proofs.YtkkdboimkbcfnaaDoor.V

/- What the listed variables give the walks; the wrap that keeps the world's shape. -/
namespace Go.Proofs.YtkkdboimkbcfnaaDoor.V
open Go Go.RowKit
set_option linter.unusedVariables false
set_option linter.unusedSimpArgs false
section
variable {H : Type} {enc : TypeId × Value → H}
theorem handed_and_shaped {a : Assume} {C : Checked} {os : Os} {f : FuncId} {fn : Func} {s : ChangeSpec} {conds : List PathCond} {apart fresh handsOn again : Bool} {X : World → Array Value → Prop}
    (hX : ∀ (w w' : World) (args : Array Value), w.heap = w'.heap → X w args → X w' args)
    (own : ownKnob C.prog.godebug = none) (started : os.Started) (noInit : C.prog.inits.idxOf? f = none) (hfn : C.prog.funcs[f]? = some fn)
    (witness : ∃ (w : World) (tape : Tape) (i : Input), w.os = os ∧ (w.forCall tape i).Shaped C.prog ∧ i.vars = [] ∧ Input.okWide C.prog (w.forCall tape i) .any w.heap.size f i ∧
      ((s.pre enc C.prog fn conds apart (w.forCall tape i).memory i.args ∧ X (w.forCall tape i).memory i.args) ∧ sizedMet enc C.prog fn (OpenSpec.ofChange s) apart (w.forCall tape i).memory i.args) ∧ a.holds C.prog (lone (Frame.enter C.prog f i.args .normal) [] (w.forCall tape i)))
    (contract : ∀ (W : World) (base : Nat) (args : Array Value) (ds gs : List (DataW H)) (before : List MemPlace),
      (∀ (j : Nat) t v, fn.params[j]? = some t → args[j]? = some v → Value.okWide C.prog W .any base t v) →
      DataW.Whole enc C.prog fn.params.toList s.vars apart W args.toList ds gs before →
      conds.all (PathCond.test C.prog ⟨fn.params.toList, ds, s.plain.varTypes C.prog, gs⟩) = true →
      (DataW.weightsEach C.prog (fn.params.toList ++ s.plain.varTypes C.prog) (ds ++ gs)).all (· ≤ reachBytes) = true → X W args → W.ShapedOpen C.prog →
      a.holds C.prog (lone (Frame.enter C.prog f args .normal) [] W) →
      Calls C.prog f args W fun e W' => ∃ v, e = .returned v ∧ s.post enc C.prog fn apart fresh handsOn again W args v W') :
    ReturnsInHanded a C os f .any (fun w args => (s.pre enc C.prog fn conds apart w args ∧ X w args) ∧ sizedMet enc C.prog fn (OpenSpec.ofChange s) apart w args) (s.post enc C.prog fn apart fresh handsOn again) := by
  refine returnsInHanded_of_calls own started noInit witness ?_
  intro w tape i _ hsh _ hok hpre hholds
  obtain ⟨_, _, _, fn', hfn', _, _, _, _, hval⟩ := hok
  have e : fn' = fn := Option.some.inj (hfn'.symm.trans hfn)
  subst e
  obtain ⟨⟨⟨ds, gs, before, hw, hc⟩, hx⟩, hz⟩ := hpre
  have hw' := DataW.Whole.of_heap (w' := w.forCall tape i) (by rfl) hw
  refine (contract (w.forCall tape i) w.heap.size i.args ds gs before hval hw' hc (hz.weights hw) (hX _ _ _ (by rfl) hx) hsh hholds).mono fun e W' ⟨v, he, hp⟩ => ?_
  subst he
  exact ChangeSpec.post_blind hp
end
theorem starErr : "*" ++ "errors.errorString" = "*errors.errorString" := by decide
theorem rowErr : ∀ u, P0.typeName? 3 u = some "*errors.errorString" → u = 179 := fun u h =>
  typeName_ptr_named (nm := "errors.errorString") (by rw [starErr]; kernel_rfl) (by kernel_rfl) (by decide) u (by rw [starErr]; exact h)
theorem tab_of {W : World} {r : List (String × DataW Unit)} (h : laidMet P0 (("internal/strconv.uint64pow10", Rows.laid_internal_strconv_uint64pow10) :: r) W) : Tb W := by
  have e : (Rows.laid_internal_strconv_uint64pow10 : DataW Unit) = Lib.tabData .u64 Lib.pow10Tab := by kernel_rfl
  rw [e] at h
  exact Lib.tabIs_of_head (g := 1) (by kernel_rfl) (by kernel_rfl) (t := 158) (e := 131) (n := 20) (by kernel_rfl) (by kernel_rfl) (by kernel_rfl) (by kernel_rfl) h
theorem err_of {W : World} {n : String} {g : Nat} {text : List UInt8} {r : List (String × DataW Unit)} (hg : P0.globalNamed n = some g) (ht : (P0.globals[g]?).map (·.type) = some 55)
    (h : laidMet P0 ((n, .iface "*errors.errorString" (.ptr (.agg [.lit (.string text)]))) :: r) W) : ∃ te pe, W.cell? ⟨g, 0, none⟩ = some (.iface te pe) := by
  obtain ⟨a, s, hv, _, _, _⟩ := laid_sentinel h hg ht Tryd.underlying55 rowErr Tryd.underlying179 Tryd.underlying181 rfl rfl Tryd.underlying9 (by kernel_rfl) (by kernel_rfl)
  exact ⟨_, _, by simpa using World.var?_cell hg hv 0⟩
end Go.Proofs.YtkkdboimkbcfnaaDoor.V

/- Verification conditions, printed by this session's own program (wip/vc.py) and checked by the kernel. -/
namespace Go.Proofs.YtkkdboimkbcfnaaDoor.V
open Go Go.RowKit
set_option linter.unusedVariables false
/- (impl.Rule).valid -/
def impl.Rule.valid.pl : Pl := (.s (.r (D 2)) (.s (.r [.d, (.l (.lf (.i .i64))), (.c (.o (.lf .b))), (.sp .d), .d, (.l (.lf (.i .i64))), (.c (.o (.lf .b))), .d, (.sp .d), .d, (.l (.lf (.i .i64))), (.c (.o (.lf .b))), .d, (.sp .d), .d, (.l (.lf (.i .i64))), (.c (.o (.lf .b))), .d, (.sp .d), .d, (.l (.lf (.i .i64))), (.c (.o (.lf .b))), .d, (.sp .d), .d, (.l (.lf (.i .i64))), .d, (.sp .d), .d, (.l (.lf (.i .i64))), .d, .d, .d, .d]) .z))
def impl.Rule.valid.vc (r : Tup (R 5 (.i .i64))) (w : World) (K : Bool → World → Prop) : Prop :=
Nw (Tup.cells (R 5 (.i .i64)) r).toArray 53 w fun a_r w_ =>
Ld (.i .i64) (Addr.add a_r 0) w_ fun (t4 : Int) w__1 =>
CallT (.o (.lf .b)) P0 67 [(.int .i64 t4), (.int .i64 0), (.int .i64 11)] w__1 fun (t5 : Bool) w__2 =>
(t5 = true → Ld (.i .i64) (Addr.add a_r 1) w__2 fun (t8 : Int) w__3 =>
CallT (.o (.lf .b)) P0 68 [(.int .i64 t8)] w__3 fun (t9 : Bool) w__4 =>
(t9 = true → Ld (.i .i64) (Addr.add a_r 2) w__4 fun (t13 : Int) w__5 =>
CallT (.o (.lf .b)) P0 67 [(.int .i64 t13), (.int .i64 0), (.int .i64 255)] w__5 fun (t14 : Bool) w__6 =>
(t14 = true → Ld (.i .i64) (Addr.add a_r 3) w__6 fun (t18 : Int) w__7 =>
CallT (.o (.lf .b)) P0 67 [(.int .i64 t18), (.int .i64 0), (.int .i64 2)] w__7 fun (t19 : Bool) w__8 =>
(t19 = true → Ld (.i .i64) (Addr.add a_r 4) w__8 fun (t23 : Int) w__9 =>
CallT (.o (.lf .b)) P0 69 [(.int .i64 t23)] w__9 fun (t24 : Bool) w__10 =>
(t24 = true → Ld (.i .i64) (Addr.add a_r 4) w__10 fun (t28 : Int) w__11 =>
(((t28 : Int) == 0) = true → K true w__11) ∧
(((t28 : Int) == 0) = false → Ld (.i .i64) (Addr.add a_r 3) w__11 fun (t32 : Int) w__12 =>
K ((t32 : Int) == 2) w__12)) ∧
(t24 = false → K false w__10)) ∧
(t19 = false → K false w__8)) ∧
(t14 = false → K false w__6)) ∧
(t9 = false → K false w__4)) ∧
(t5 = false → K false w__2)
theorem impl.Rule.valid.ok {r : Tup (R 5 (.i .i64))} {w : World} {K : Bool → World → Prop} (h : impl.Rule.valid.vc r w K) : CallT (.o (.lf .b)) P0 36 [(.agg (Tup.cells (R 5 (.i .i64)) r).toArray)] w K :=
  call_of Tryd.func36 rfl rfl (pl := impl.Rule.valid.pl) (show VC P0 Tryd.f36 impl.Rule.valid.pl (.o (.lf .b)) [(.agg (Tup.cells (R 5 (.i .i64)) r).toArray)] w K noP from Eq.mp (by kernel_rfl) h)
/- impl.RulesOk$1 -/
def impl.RulesOk_1.pl : Pl := (.s (.r (D 2)) (.s (.r [(.l (.ag (R 5 (.i .i64)))), (.c (.o (.lf .b))), .d, .d]) .z))
def impl.RulesOk_1.vc (r : Tup (R 5 (.i .i64))) (w : World) (K : Bool → World → Prop) : Prop :=
Nw (Tup.cells (R 5 (.i .i64)) r).toArray 53 w fun a_r w_ =>
LdA (R 5 (.i .i64)) a_r w_ fun (t3 : Tup (R 5 (.i .i64))) w__1 =>
CallT (.o (.lf .b)) P0 36 [(.agg (Tup.cells (R 5 (.i .i64)) t3).toArray)] w__1 fun (t4 : Bool) w__2 =>
K (!t4) w__2
theorem impl.RulesOk_1.ok {r : Tup (R 5 (.i .i64))} {w : World} {K : Bool → World → Prop} (h : impl.RulesOk_1.vc r w K) : CallT (.o (.lf .b)) P0 35 [(.agg (Tup.cells (R 5 (.i .i64)) r).toArray)] w K :=
  call_of Tryd.func35 rfl rfl (pl := impl.RulesOk_1.pl) (show VC P0 Tryd.f35 impl.RulesOk_1.pl (.o (.lf .b)) [(.agg (Tup.cells (R 5 (.i .i64)) r).toArray)] w K noP from Eq.mp (by kernel_rfl) h)
/- slices.IndexFunc[[]impl.Rule,impl.Rule] -/
def slices.IndexFunc_Rule_ok.pl : Pl := (.s (.r (D 1)) (.s (.s (.r (D 3)) (.b (.l [(8, (.i .i64))] (.s (.r (D 1)) (.s (.c .z .z) (.s (.b (.s (.r (D 2)) (.s (.r [.d, .d, .d, .d, (.l (.ag (R 5 (.i .i64)))), (.c (.o (.lf .b)))]) (.c (.s (.r (D 2)) .z) .z)))) (.r (D 2)))))))) (.s (.r (D 1)) .z)))
def slices.IndexFunc_Rule_ok.vc (s : Sl) (w : World) (K : Int → World → Prop) : Prop :=
∃ (I : Int → World → Prop) (M : Int → World → Nat),
I 0 w ∧
(∀ (t8 : Int) w_, I t8 w_ → ∀ _ : Nat → Value,
((decide ((t8 : Int) < ((s.n : Nat) : Int))) = true → Ix s.a s.n t8 5 w_ fun a_t14 w__1 =>
LdA (R 5 (.i .i64)) a_t14 w__1 fun (t15 : Tup (R 5 (.i .i64))) w__2 =>
CallT (.o (.lf .b)) P0 35 [(.agg (Tup.cells (R 5 (.i .i64)) t15).toArray)] w__2 fun (t16 : Bool) w__3 =>
(t16 = true → K t8 w__3) ∧
(t16 = false → (I (IntKind.wrap .i64 (t8 + 1)) w__3 ∧ M (IntKind.wrap .i64 (t8 + 1)) w__3 < M t8 w_))) ∧
((decide ((t8 : Int) < ((s.n : Nat) : Int))) = false → K (-1) w_))
theorem slices.IndexFunc_Rule_ok.ok {s : Sl} {w : World} {K : Int → World → Prop} (h : slices.IndexFunc_Rule_ok.vc s w K) : CallT (.o (.lf (.i .i64))) P0 66 [s.v, (.func (.func 35) #[] #[])] w K :=
  call_of Tryd.func66 rfl rfl (pl := slices.IndexFunc_Rule_ok.pl) (show VC P0 Tryd.f66 slices.IndexFunc_Rule_ok.pl (.o (.lf (.i .i64))) [s.v, (.func (.func 35) #[] #[])] w K noP from Eq.mp (by kernel_rfl) h)
/- slices.ContainsFunc[[]impl.Rule,impl.Rule] -/
def slices.ContainsFunc_Rule_ok.pl : Pl := (.s (.r (D 1)) (.s (.r [.d, .d, (.c (.o (.lf (.i .i64)))), .d, .d]) .z))
def slices.ContainsFunc_Rule_ok.vc (s : Sl) (w : World) (K : Bool → World → Prop) : Prop :=
CallT (.o (.lf (.i .i64))) P0 66 [s.v, (.func (.func 35) #[] #[])] w fun (t7 : Int) w_ =>
K (decide ((t7 : Int) ≥ 0)) w_
theorem slices.ContainsFunc_Rule_ok.ok {s : Sl} {w : World} {K : Bool → World → Prop} (h : slices.ContainsFunc_Rule_ok.vc s w K) : CallT (.o (.lf .b)) P0 34 [s.v, (.func (.func 35) #[] #[])] w K :=
  call_of Tryd.func34 rfl rfl (pl := slices.ContainsFunc_Rule_ok.pl) (show VC P0 Tryd.f34 slices.ContainsFunc_Rule_ok.pl (.o (.lf .b)) [s.v, (.func (.func 35) #[] #[])] w K noP from Eq.mp (by kernel_rfl) h)
/- impl.RulesOk -/
def impl.RulesOk.pl : Pl := (.s (.r (D 1)) (.s (.r [.d, .d, .d, (.sp .d), .d, (.c (.o (.lf .b))), .d, .d, .d]) .z))
def impl.RulesOk.vc (list : Sl) (w : World) (K : Bool → World → Prop) : Prop :=
((decide ((((list.n : Nat) : Int) : Int) ≤ 6)) = true → CallT (.o (.lf .b)) P0 34 [list.v, (.func (.func 35) #[] #[])] w fun (t8 : Bool) w_ =>
K (!t8) w_) ∧
((decide ((((list.n : Nat) : Int) : Int) ≤ 6)) = false → K false w)
theorem impl.RulesOk.ok {list : Sl} {w : World} {K : Bool → World → Prop} (h : impl.RulesOk.vc list w K) : CallT (.o (.lf .b)) P0 11 [list.v] w K :=
  call_of Tryd.func11 rfl rfl (pl := impl.RulesOk.pl) (show VC P0 Tryd.f11 impl.RulesOk.pl (.o (.lf .b)) [list.v] w K noP from Eq.mp (by kernel_rfl) h)
/- spec.l2Top -/
def spec.l2Top.pl : Pl := (.s (.r (D 1)) (.s (.r (D 1)) .z))
def spec.l2Top.vc  (w : World) (K : Int → World → Prop) : Prop :=
K 4294967295 w
theorem spec.l2Top.ok  {w : World} {K : Int → World → Prop} (h : spec.l2Top.vc  w K) : CallT (.o (.lf (.i .i64))) P0 94 [] w K :=
  call_of Tryd.func94 rfl rfl (pl := spec.l2Top.pl) (show VC P0 Tryd.f94 spec.l2Top.pl (.o (.lf (.i .i64))) [] w K noP from Eq.mp (by kernel_rfl) h)
/- spec.l9RuleOk -/
def spec.l9RuleOk.pl : Pl := (.s (.r (D 2)) (.s (.r [.d, (.l (.lf (.i .i64))), (.c (.o (.lf .b))), (.sp .d), .d, (.l (.lf (.i .i64))), (.c (.o (.lf .b))), .d, (.sp .d), .d, (.l (.lf (.i .i64))), (.c (.o (.lf .b))), .d, (.sp .d), .d, (.l (.lf (.i .i64))), (.c (.o (.lf .b))), .d, (.sp .d), .d, (.l (.lf (.i .i64))), (.c (.o (.lf (.i .i64)))), (.c (.o (.lf .b))), .d, (.sp .d), .d, (.l (.lf (.i .i64))), .d, (.sp .d), .d, (.l (.lf (.i .i64))), .d, .d, .d, .d]) .z))
def spec.l9RuleOk.vc (r : Tup (R 5 (.i .i64))) (w : World) (K : Bool → World → Prop) : Prop :=
Nw (Tup.cells (R 5 (.i .i64)) r).toArray 53 w fun a_r w_ =>
QLd (.i .i64) (Addr.add a_r 0) (fun w' => Below (World.heap w_).size w_ w') fun (t4 : Int) =>
QCl (.o (.lf .b)) P0 79 [(.int .i64 t4), (.int .i64 0), (.int .i64 11)] (fun w' => Below (World.heap w_).size w_ w') fun (t5 : Bool) =>
(t5 = true → QLd (.i .i64) (Addr.add a_r 1) (fun w' => Below (World.heap w_).size w_ w') fun (t8 : Int) =>
QCl (.o (.lf .b)) P0 79 [(.int .i64 t8), (.int .i64 12), (.int .i64 15)] (fun w' => Below (World.heap w_).size w_ w') fun (t9 : Bool) =>
(t9 = true → QLd (.i .i64) (Addr.add a_r 2) (fun w' => Below (World.heap w_).size w_ w') fun (t13 : Int) =>
QCl (.o (.lf .b)) P0 79 [(.int .i64 t13), (.int .i64 0), (.int .i64 255)] (fun w' => Below (World.heap w_).size w_ w') fun (t14 : Bool) =>
(t14 = true → QLd (.i .i64) (Addr.add a_r 3) (fun w' => Below (World.heap w_).size w_ w') fun (t18 : Int) =>
QCl (.o (.lf .b)) P0 79 [(.int .i64 t18), (.int .i64 0), (.int .i64 2)] (fun w' => Below (World.heap w_).size w_ w') fun (t19 : Bool) =>
(t19 = true → QLd (.i .i64) (Addr.add a_r 4) (fun w' => Below (World.heap w_).size w_ w') fun (t23 : Int) =>
QCl (.o (.lf (.i .i64))) P0 94 [] (fun w' => Below (World.heap w_).size w_ w') fun (t24 : Int) =>
QCl (.o (.lf .b)) P0 79 [(.int .i64 t23), (.int .i64 0), (.int .i64 t24)] (fun w' => Below (World.heap w_).size w_ w') fun (t25 : Bool) =>
(t25 = true → QLd (.i .i64) (Addr.add a_r 3) (fun w' => Below (World.heap w_).size w_ w') fun (t29 : Int) =>
(((t29 : Int) == 2) = true → ∀ w__1, Below (World.heap w_).size w_ w__1 →
K true w__1) ∧
(((t29 : Int) == 2) = false → QLd (.i .i64) (Addr.add a_r 4) (fun w' => Below (World.heap w_).size w_ w') fun (t33 : Int) =>
∀ w__1, Below (World.heap w_).size w_ w__1 →
K ((t33 : Int) == 0) w__1)) ∧
(t25 = false → ∀ w__1, Below (World.heap w_).size w_ w__1 →
K false w__1)) ∧
(t19 = false → ∀ w__1, Below (World.heap w_).size w_ w__1 →
K false w__1)) ∧
(t14 = false → ∀ w__1, Below (World.heap w_).size w_ w__1 →
K false w__1)) ∧
(t9 = false → ∀ w__1, Below (World.heap w_).size w_ w__1 →
K false w__1)) ∧
(t5 = false → ∀ w__1, Below (World.heap w_).size w_ w__1 →
K false w__1)
theorem spec.l9RuleOk.ok {r : Tup (R 5 (.i .i64))} {w : World} {K : Bool → World → Prop} (h : spec.l9RuleOk.vc r w K) : CallT (.o (.lf .b)) P0 62 [(.agg (Tup.cells (R 5 (.i .i64)) r).toArray)] w K :=
  call_of Tryd.func62 rfl rfl (pl := spec.l9RuleOk.pl) (show VC P0 Tryd.f62 spec.l9RuleOk.pl (.o (.lf .b)) [(.agg (Tup.cells (R 5 (.i .i64)) r).toArray)] w K noP from Eq.mp (by kernel_rfl) h)
/- spec.l9Ok -/
def spec.l9Ok.pl : Pl := (.s (.r (D 1)) (.s (.s (.r (D 1)) (.b (.l [(3, (.i .i64))] (.s (.s (.r (D 4)) (.c .z .z)) (.s (.b (.s (.r [.d, .d, .d, (.l (.ag (R 5 (.i .i64)))), (.c (.o (.lf .b))), .d]) (.c (.s (.r (D 1)) .z) .z))) (.r (D 3))))))) (.s (.r (D 4)) .z)))
def spec.l9Ok.vc (list : Sl) (w : World) (K : Bool → World → Prop) : Prop :=
∃ (I : Int → World → Prop) (M : Int → World → Nat),
I 0 w ∧
(∀ (i : Int) w_, I i w_ → ∀ _ : Nat → Value,
((decide ((i : Int) < ((list.n : Nat) : Int))) = true → Ix list.a list.n i 5 w_ fun a_t12 w__1 =>
LdA (R 5 (.i .i64)) a_t12 w__1 fun (t13 : Tup (R 5 (.i .i64))) w__2 =>
CallT (.o (.lf .b)) P0 62 [(.agg (Tup.cells (R 5 (.i .i64)) t13).toArray)] w__2 fun (t14 : Bool) w__3 =>
((!t14) = true → K false w__3) ∧
((!t14) = false → (I (IntKind.wrap .i64 (i + 1)) w__3 ∧ M (IntKind.wrap .i64 (i + 1)) w__3 < M i w_))) ∧
((decide ((i : Int) < ((list.n : Nat) : Int))) = false → K (decide ((((list.n : Nat) : Int) : Int) ≤ 6)) w_))
theorem spec.l9Ok.ok {list : Sl} {w : World} {K : Bool → World → Prop} (h : spec.l9Ok.vc list w K) : CallT (.o (.lf .b)) P0 32 [list.v] w K :=
  call_of Tryd.func32 rfl rfl (pl := spec.l9Ok.pl) (show VC P0 Tryd.f32 spec.l9Ok.pl (.o (.lf .b)) [list.v] w K noP from Eq.mp (by kernel_rfl) h)
/- laws.eqRule -/
def laws.eqRule.pl : Pl := (.s (.r (D 3)) (.s (.s (.r [.d, (.l (.lf (.i .i64))), .d, (.l (.lf (.i .i64))), .d]) (.c (.s (.r (D 1)) .z) .z)) (.s (.s (.r [.d, (.l (.lf (.i .i64))), .d, (.l (.lf (.i .i64))), .d]) (.c (.s (.r (D 1)) .z) .z)) (.s (.s (.r [.d, (.l (.lf (.i .i64))), .d, (.l (.lf (.i .i64))), .d]) (.c (.s (.r (D 1)) .z) .z)) (.s (.s (.r [.d, (.l (.lf (.i .i64))), .d, (.l (.lf (.i .i64))), .d]) (.c (.s (.r (D 1)) .z) .z)) (.s (.s (.r [.d, (.l (.lf (.i .i64))), .d, (.l (.lf (.i .i64))), .d]) (.c (.s (.r (D 1)) .z) .z)) (.s (.r (D 1)) .z)))))))
def laws.eqRule.vc (a : Tup (R 5 (.i .i64))) (b : Tup (R 5 (.i .i64))) (w : World) (K : Bool → World → Prop) : Prop :=
Nw (Tup.cells (R 5 (.i .i64)) a).toArray 53 w fun a_a w_ =>
Nw (Tup.cells (R 5 (.i .i64)) b).toArray 53 w_ fun a_b w__1 =>
Ld (.i .i64) (Addr.add a_a 0) w__1 fun (t6 : Int) w__2 =>
Ld (.i .i64) (Addr.add a_b 0) w__2 fun (t8 : Int) w__3 =>
(((t6 : Int) != t8) = true → K false w__3) ∧
(((t6 : Int) != t8) = false → Ld (.i .i64) (Addr.add a_a 1) w__3 fun (t11 : Int) w__4 =>
Ld (.i .i64) (Addr.add a_b 1) w__4 fun (t13 : Int) w__5 =>
(((t11 : Int) != t13) = true → K false w__5) ∧
(((t11 : Int) != t13) = false → Ld (.i .i64) (Addr.add a_a 2) w__5 fun (t16 : Int) w__6 =>
Ld (.i .i64) (Addr.add a_b 2) w__6 fun (t18 : Int) w__7 =>
(((t16 : Int) != t18) = true → K false w__7) ∧
(((t16 : Int) != t18) = false → Ld (.i .i64) (Addr.add a_a 3) w__7 fun (t21 : Int) w__8 =>
Ld (.i .i64) (Addr.add a_b 3) w__8 fun (t23 : Int) w__9 =>
(((t21 : Int) != t23) = true → K false w__9) ∧
(((t21 : Int) != t23) = false → Ld (.i .i64) (Addr.add a_a 4) w__9 fun (t26 : Int) w__10 =>
Ld (.i .i64) (Addr.add a_b 4) w__10 fun (t28 : Int) w__11 =>
(((t26 : Int) != t28) = true → K false w__11) ∧
(((t26 : Int) != t28) = false → K true w__11)))))
theorem laws.eqRule.ok {a : Tup (R 5 (.i .i64))} {b : Tup (R 5 (.i .i64))} {w : World} {K : Bool → World → Prop} (h : laws.eqRule.vc a b w K) : CallT (.o (.lf .b)) P0 42 [(.agg (Tup.cells (R 5 (.i .i64)) a).toArray), (.agg (Tup.cells (R 5 (.i .i64)) b).toArray)] w K :=
  call_of Tryd.func42 rfl rfl (pl := laws.eqRule.pl) (show VC P0 Tryd.f42 laws.eqRule.pl (.o (.lf .b)) [(.agg (Tup.cells (R 5 (.i .i64)) a).toArray), (.agg (Tup.cells (R 5 (.i .i64)) b).toArray)] w K noP from Eq.mp (by kernel_rfl) h)
/- laws.eqRuleS -/
def laws.eqRuleS.pl : Pl := (.s (.r (D 1)) (.s (.s (.r (D 5)) (.c (.s (.r (D 1)) .z) .z)) (.s (.s (.r (D 1)) (.b (.l [(5, (.i .i64))] (.s (.s (.r (D 4)) (.c .z .z)) (.s (.b (.s (.r [.d, .d, .d, (.l (.ag (R 5 (.i .i64)))), .d, .d, .d, (.l (.ag (R 5 (.i .i64)))), (.c (.o (.lf .b))), .d]) (.c (.s (.r (D 1)) .z) .z))) (.r (D 3))))))) (.s (.r (D 1)) .z))))
def laws.eqRuleS.vc (a : Sl) (b : Sl) (w : World) (K : Bool → World → Prop) : Prop :=
(((((a.n : Nat) : Int) : Int) != ((b.n : Nat) : Int)) = true → K false w) ∧
(((((a.n : Nat) : Int) : Int) != ((b.n : Nat) : Int)) = false → ∃ (I : Int → World → Prop) (M : Int → World → Nat),
I 0 w ∧
(∀ (i : Int) w_, I i w_ → ∀ _ : Nat → Value,
((decide ((i : Int) < ((a.n : Nat) : Int))) = true → QIx a.a a.n i 5 fun a_t19 =>
QLdA (R 5 (.i .i64)) a_t19 (fun w' => Below (World.heap w_).size w_ w') fun (t20 : Tup (R 5 (.i .i64))) =>
QIx b.a b.n i 5 fun a_t23 =>
QLdA (R 5 (.i .i64)) a_t23 (fun w' => Below (World.heap w_).size w_ w') fun (t24 : Tup (R 5 (.i .i64))) =>
QCl (.o (.lf .b)) P0 42 [(.agg (Tup.cells (R 5 (.i .i64)) t20).toArray), (.agg (Tup.cells (R 5 (.i .i64)) t24).toArray)] (fun w' => Below (World.heap w_).size w_ w') fun (t25 : Bool) =>
∀ w__1, Below (World.heap w_).size w_ w__1 →
((!t25) = true → K false w__1) ∧
((!t25) = false → (I (IntKind.wrap .i64 (i + 1)) w__1 ∧ M (IntKind.wrap .i64 (i + 1)) w__1 < M i w_))) ∧
((decide ((i : Int) < ((a.n : Nat) : Int))) = false → K true w_)))
theorem laws.eqRuleS.ok {a : Sl} {b : Sl} {w : World} {K : Bool → World → Prop} (h : laws.eqRuleS.vc a b w K) : CallT (.o (.lf .b)) P0 16 [a.v, b.v] w K :=
  call_of Tryd.func16 rfl rfl (pl := laws.eqRuleS.pl) (show VC P0 Tryd.f16 laws.eqRuleS.pl (.o (.lf .b)) [a.v, b.v] w K noP from Eq.mp (by kernel_rfl) h)
end Go.Proofs.YtkkdboimkbcfnaaDoor.V

/- Ops and programs of the flow, as plain data. -/
namespace Go.Proofs.YtkkdboimkbcfnaaDoor.V
open Go Go.RowKit

structure Ins where
  op : Int
  dst : Int
  src : Int
  off : Int
  imm : Int
  size : Int
  deriving DecidableEq, Inhabited
def kIns : Kd Ins := ⟨List.replicate 6 (.i .i64), fun x => (x.op, x.dst, x.src, x.off, x.imm, x.size, ())⟩
@[reducible] def Ins.t (x : Ins) : Tup (List.replicate 6 (.i .i64)) := (x.op, x.dst, x.src, x.off, x.imm, x.size, ())
def Ins.cs (x : Ins) : Array Value := #[.int .i64 x.op, .int .i64 x.dst, .int .i64 x.src, .int .i64 x.off, .int .i64 x.imm, .int .i64 x.size]
theorem nwIns {x : Ins} {t : TypeId} {w : World} {K : Addr → World → Prop}
    (hk : ∀ w', Below w.heap.size w w' → w'.heap.size = w.heap.size + 1 → w'.heap[w.heap.size]? = some (.cells x.cs t (0, 0)) → K ⟨w.heap.size, 0, none⟩ w') : Nw (Tup.cells (List.replicate 6 (.i .i64)) x.t).toArray t w K := nw hk
def szP (n : Int) : Prop := n = 1 ∨ n = 2 ∨ n = 4
def BareP (x : Ins) : Prop :=
  (1 ≤ x.op ∧ x.op ≤ 11 ∧ x.off = 0 ∧ x.size = 0 ∧ (x.src < 0 ∨ x.imm = 0)) ∨ (12 ≤ x.op ∧ x.op ≤ 15 ∧ x.size = 0 ∧ (x.src < 0 ∨ x.imm = 0)) ∨
  (x.op = 16 ∧ x.dst = 0 ∧ x.src = -1 ∧ x.imm = 0 ∧ x.size = 0) ∨ (x.op = 17 ∧ 0 ≤ x.src ∧ x.imm = 0 ∧ szP x.size) ∨ (x.op = 18 ∧ (x.src < 0 ∨ x.imm = 0) ∧ szP x.size) ∨
  (x.op = 19 ∧ x.dst = 0 ∧ x.src = -1 ∧ x.off = 0 ∧ x.size = 0 ∧ 1 ≤ x.imm ∧ x.imm ≤ 6) ∨ (x.op = 20 ∧ x.dst = 0 ∧ x.src = -1 ∧ x.off = 0 ∧ x.imm = 0 ∧ x.size = 0)
def InsP (x : Ins) : Prop := (0 ≤ x.dst ∧ x.dst ≤ 10) ∧ (-1 ≤ x.src ∧ x.src ≤ 10) ∧ (-128 ≤ x.off ∧ x.off ≤ 127) ∧ (0 ≤ x.imm ∧ x.imm ≤ 4294967295) ∧ BareP x
instance (n : Int) : Decidable (szP n) := by unfold szP; infer_instance
instance (x : Ins) : Decidable (BareP x) := by unfold BareP; infer_instance
instance (x : Ins) : Decidable (InsP x) := by unfold InsP; infer_instance
def goesP (x : Ins) : Prop := 12 ≤ x.op ∧ x.op ≤ 16
instance (x : Ins) : Decidable (goesP x) := by unfold goesP; infer_instance
/-- Where an op goes on. -/
def tgt (i : Int) (x : Ins) : Int := i + 1 + x.off
def endP (l : List Ins) : Int :=
  if 48 < l.length then 3 else match l.getLast? with
    | none => 4
    | some x => if x.op ≠ 20 ∧ x.op ≠ 16 then 4 else 0
def formGo (l : List Ins) : Nat → List Ins → Int
  | _, [] => endP l
  | i, x :: xs => if ¬ InsP x then 1 else if goesP x ∧ ¬ (0 ≤ tgt i x ∧ tgt i x ≤ (l.length : Int) - 1) then 2 else formGo l (i + 1) xs
/-- Why a program cannot be. -/
def formP (l : List Ins) : Int := formGo l 0 l
theorem kof {α : Type} {K : α → World → Prop} {x y : α} {w : World} (hk : K x w) (e : x = y) : K y w := e ▸ hk
theorem dec_eq {p : Prop} [Decidable p] {b : Bool} (h : p ↔ b = true) : decide p = b := by
  cases b <;> simp_all
end Go.Proofs.YtkkdboimkbcfnaaDoor.V

/- Contracts: ops and the form of programs. -/
namespace Go.Proofs.YtkkdboimkbcfnaaDoor.V
open Go Go.RowKit
set_option linter.unusedVariables false
set_option linter.unusedSimpArgs false

section
variable {w : World} {K : Bool → World → Prop}
theorem impl.within.c {n lo hi : Int} (hk : K (decide (lo ≤ n ∧ n ≤ hi)) w) : CallT (.o (.lf .b)) P0 67 [.int .i64 n, .int .i64 lo, .int .i64 hi] w K :=
  impl.within.ok ⟨fun h => kof hk (dec_eq (by simp at h ⊢; omega)), fun h => kof hk (dec_eq (by simp at h ⊢; omega))⟩
theorem spec.l1In.c {n lo hi : Int} (hk : K (decide (lo ≤ n ∧ n ≤ hi)) w) : CallT (.o (.lf .b)) P0 79 [.int .i64 n, .int .i64 lo, .int .i64 hi] w K :=
  spec.l1In.ok ⟨fun h => kof hk (dec_eq (by simp at h ⊢; omega)), fun h => kof hk (dec_eq (by simp at h ⊢; omega))⟩
theorem impl.numOk.c {n : Int} (hk : K (decide (0 ≤ n ∧ n ≤ 4294967295)) w) : CallT (.o (.lf .b)) P0 69 [.int .i64 n] w K := impl.numOk.ok (impl.within.c hk)
theorem impl.regOk.c {n : Int} (hk : K (decide (0 ≤ n ∧ n ≤ 10)) w) : CallT (.o (.lf .b)) P0 100 [.int .i64 n] w K := impl.regOk.ok (impl.within.c hk)
theorem impl.kind.reckons.c {n : Int} (hk : K (decide (1 ≤ n ∧ n ≤ 11)) w) : CallT (.o (.lf .b)) P0 88 [.int .i64 n] w K := impl.kind.reckons.ok (impl.within.c hk)
theorem impl.kind.asks.c {n : Int} (hk : K (decide (12 ≤ n ∧ n ≤ 15)) w) : CallT (.o (.lf .b)) P0 68 [.int .i64 n] w K := impl.kind.asks.ok (impl.within.c hk)
theorem impl.kind.goes.c {n : Int} (hk : K (decide (12 ≤ n ∧ n ≤ 16)) w) : CallT (.o (.lf .b)) P0 53 [.int .i64 n] w K := impl.kind.goes.ok (impl.within.c hk)
theorem spec.l1Alu.c {n : Int} (hk : K (decide (1 ≤ n ∧ n ≤ 11)) w) : CallT (.o (.lf .b)) P0 120 [.int .i64 n] w K := spec.l1Alu.ok (spec.l1In.c hk)
theorem spec.l1Jump.c {n : Int} (hk : K (decide (12 ≤ n ∧ n ≤ 15)) w) : CallT (.o (.lf .b)) P0 78 [.int .i64 n] w K := spec.l1Jump.ok (spec.l1In.c hk)
theorem impl.sizeOk.c {n : Int} (hk : K (decide (szP n)) w) : CallT (.o (.lf .b)) P0 102 [.int .i64 n] w K := by
  refine impl.sizeOk.ok ?_
  unfold impl.sizeOk.vc
  (repeat' (first | refine And.intro (fun _ => ?_) (fun _ => ?_)))
  all_goals exact kof hk (dec_eq (by simp only [InsP, BareP, szP, decide_eq_true_eq, decide_eq_false_iff_not, beq_iff_eq, beq_eq_false_iff_ne, bne_iff_ne, bne_eq_false_iff_eq, ne_eq, Bool.not_eq_true', Bool.not_eq_false', Bool.false_eq_true, iff_true, iff_false, true_and] at *; omega))
theorem impl.Ins.either.c {x : Ins} (hk : ∀ w', Below w.heap.size w w' → K (decide ((0 ≤ x.src ∧ x.src ≤ 10 ∧ x.imm = 0) ∨ (x.src = -1 ∧ 0 ≤ x.imm ∧ x.imm ≤ 4294967295))) w') : CallT (.o (.lf .b)) P0 101 [.agg (Tup.cells (R 6 (.i .i64)) x.t).toArray] w K := by
  refine impl.Ins.either.ok (nwIns fun w1 hb hs hc => ?_)
  have hk := hk w1 hb
  (repeat' (first | refine ldB hc rfl ?_ | refine impl.regOk.c ?_ | refine impl.numOk.c ?_ | refine And.intro (fun _ => ?_) (fun _ => ?_)))
  all_goals exact kof hk (dec_eq (by simp only [InsP, BareP, szP, decide_eq_true_eq, decide_eq_false_iff_not, beq_iff_eq, beq_eq_false_iff_ne, bne_iff_ne, bne_eq_false_iff_eq, ne_eq, Bool.not_eq_true', Bool.not_eq_false', Bool.false_eq_true, iff_true, iff_false, true_and] at *; omega))

theorem eqlIns {xo yo : Operand} {a0 a1 a2 a3 a4 a5 b0 b1 b2 b3 b4 b5 : Int} {cs : Array Value} (hcs : cs = #[.int .i64 a0, .int .i64 a1, .int .i64 a2, .int .i64 a3, .int .i64 a4, .int .i64 a5])
    (hk : K (decide (a0 = b0 ∧ a1 = b1 ∧ a2 = b2 ∧ a3 = b3 ∧ a4 = b4 ∧ a5 = b5)) w) :
    RunT (.o (.lf .b)) P0 (do eqGuard .eql 44 xo yo (.agg cs) (.agg #[.int .i64 b0, .int .i64 b1, .int .i64 b2, .int .i64 b3, .int .i64 b4, .int .i64 b5]); binOp .eql 44 (.agg cs) (.agg #[.int .i64 b0, .int .i64 b1, .int .i64 b2, .int .i64 b3, .int .i64 b4, .int .i64 b5])) w K := by
  subst hcs
  refine ⟨_, w, ?_, hk⟩
  have hg := run_eqGuard_agg (P := P0) w .eql 44 xo yo #[.int .i64 a0, .int .i64 a1, .int .i64 a2, .int .i64 a3, .int .i64 a4, .int .i64 a5] #[.int .i64 b0, .int .i64 b1, .int .i64 b2, .int .i64 b3, .int .i64 b4, .int .i64 b5] (by kernel_rfl)
  have ht : P0.underlying 44 = some (.struct (P0.fieldsOf 44)) := by kernel_rfl
  have hf : (P0.fieldsOf 44).toList = [Field.mk "Op" 3 0 false "" "" 0, Field.mk "Dst" 3 1 false "" "" 8, Field.mk "Src" 3 2 false "" "" 16, Field.mk "Off" 3 3 false "" "" 24, Field.mk "Imm" 3 4 false "" "" 32, Field.mk "Size" 3 5 false "" "" 40] := by kernel_rfl
  have hi : P0.underlying 3 = some (.int .i64) := by kernel_rfl
  have hag : aggT P0 3 = some false := by kernel_rfl
  have hp : ∀ (cs : Array Value) (j : Nat) (h : j < cs.size), (part 3 cs j).run P0 w = .ok cs[j] w := fun cs j h => by simp [part, run_isAgg hag, Array.getElem?_eq_getElem h]
  simp only [Sem.run_bind, hg, Result.andThen_ok, run_eql_struct, run_equalIn_agg (P := P0) w 9999 44 _ _ ht (by kernel_rfl), hf]
  by_cases e0 : a0 = b0 <;> by_cases e1 : a1 = b1 <;> by_cases e2 : a2 = b2 <;> by_cases e3 : a3 = b3 <;> by_cases e4 : a4 = b4 <;> by_cases e5 : a5 = b5 <;>
    simp [Op.eqFields, hp, run_equalIn_int (P := P0) w 9998 3 .i64 .i64 _ _ hi, e0, e1, e2, e3, e4, e5, Rs.emb, Ty.emb, Lf.emb]
set_option maxHeartbeats 2000000 in
theorem impl.InsOk.c {x : Ins} (hk : ∀ w', Below w.heap.size w w' → K (decide (InsP x)) w') : CallT (.o (.lf .b)) P0 83 [.agg (Tup.cells (R 6 (.i .i64)) x.t).toArray] w K := by
  refine impl.InsOk.ok (nwIns fun w1 hb hs hc => ?_)
  (repeat' (first | refine ldB hc rfl ?_ | refine ldAB (x := x.t) hc rfl ?_ | refine impl.within.c ?_ | refine impl.kind.reckons.c ?_ | refine impl.kind.asks.c ?_ | refine impl.regOk.c ?_ | refine impl.sizeOk.c ?_ | refine eqlIns rfl ?_ | refine And.intro (fun _ => ?_) (fun _ => ?_) | (refine impl.Ins.either.c (x := x) fun w2 hb2 => ?_; replace hc := (hb2.block _ (by omega)).trans hc; replace hb := hb.trans (hb2.mono (by omega)))))
  all_goals
    refine kof (hk _ hb) (dec_eq ?_)
    clear hk hb hc
    grind [InsP, BareP, szP]
end
end Go.Proofs.YtkkdboimkbcfnaaDoor.V

/- Contracts: why a program cannot be. -/
namespace Go.Proofs.YtkkdboimkbcfnaaDoor.V
open Go Go.RowKit
set_option linter.unusedVariables false
set_option linter.unusedSimpArgs false

section
variable {w : World} {K : Bool → World → Prop}
set_option maxHeartbeats 1000000 in
theorem spec.l1Bare.c {x : Ins} (hk : ∀ w', Below w.heap.size w w' → K (decide (BareP x)) w') : CallT (.o (.lf .b)) P0 98 [.agg (Tup.cells (R 6 (.i .i64)) x.t).toArray] w K := by
  refine spec.l1Bare.ok (nwIns fun w1 hb hs hc => ?_)
  have hk := hk w1 hb
  (repeat' (first | refine ldB hc rfl ?_ | refine ldAB (x := x.t) hc rfl ?_ | refine spec.l1In.c ?_ | refine spec.l1Alu.c ?_ | refine spec.l1Jump.c ?_ | refine eqlIns rfl ?_ | refine And.intro (fun _ => ?_) (fun _ => ?_)))
  all_goals
    refine kof hk (dec_eq ?_)
    clear hk hb hc
    grind [BareP, szP]
theorem spec.l1InsOk.c {x : Ins} (hk : ∀ w', Below w.heap.size w w' → K (decide (InsP x)) w') : CallT (.o (.lf .b)) P0 77 [.agg (Tup.cells (R 6 (.i .i64)) x.t).toArray] w K := by
  refine spec.l1InsOk.ok (nwIns fun w1 hb hs hc => ?_)
  (repeat' (first | refine ldB hc rfl ?_ | refine ldAB (x := x.t) hc rfl ?_ | refine spec.l1In.c ?_ | refine And.intro (fun _ => ?_) (fun _ => ?_) | (refine spec.l1Bare.c (x := x) fun w2 hb2 => ?_; replace hc := (hb2.block _ (by omega)).trans hc; replace hb := hb.trans (hb2.mono (by omega)))))
  all_goals
    refine kof (hk _ hb) (dec_eq ?_)
    clear hk hb hc
    grind [InsP]
end
theorem getElem?_drop_cons {α : Type} {l : List α} {k : Nat} {x : α} (h : l[k]? = some x) : l.drop k = x :: l.drop (k + 1) := by
  have hk : k < l.length := by
    rcases Nat.lt_or_ge k l.length with h1 | h1
    · exact h1
    · simp [List.getElem?_eq_none h1] at h
  rw [List.drop_eq_getElem_cons hk]
  rw [List.getElem?_eq_getElem hk] at h
  simp only [Option.some.injEq] at h
  rw [h]
theorem get_some {α : Type} {l : List α} {k : Nat} (h : k < l.length) : ∃ x, l[k]? = some x := ⟨l[k], List.getElem?_eq_getElem h⟩
theorem last_get {l : List Ins} {x : Ins} (h : l[l.length - 1]? = some x) : l.getLast? = some x := by rw [List.getLast?_eq_getElem?]; exact h
theorem i64_of {n : Int} (h0 : -9223372036854775808 ≤ n) (h1 : n ≤ 9223372036854775807) : IntKind.wrap .i64 n = n := i64_in h0 h1
section
variable {w : World} {s : Sl} {l : List Ins}
theorem impl.target.c {i : Int} {x : Ins} {K : Int → World → Prop} (h : SlR kIns w s l) (h0 : 0 ≤ i) (hx : l[i.toNat]? = some x) (hl : l.length ≤ 1048576) (ho : -128 ≤ x.off ∧ x.off ≤ 127) (hk : K (tgt i x) w) :
    CallT (.o (.lf (.i .i64))) P0 54 [s.v, .int .i64 i] w K := by
  refine impl.target.ok (ixF h h0 hx rfl (v := x.off) rfl ?_)
  have hi : i.toNat < l.length := by
    rcases Nat.lt_or_ge i.toNat l.length with h1 | h1
    · exact h1
    · simp [List.getElem?_eq_none h1] at hx
  simp (disch := omega) only [i64_of]
  exact hk
theorem endP_many (h : 48 < l.length) : endP l = 3 := by unfold endP; rw [if_pos h]
theorem endP_nil (h : l = []) : endP l = 4 := by subst h; rfl
theorem endP_last {x : Ins} (h : ¬ 48 < l.length) (hx : l[l.length - 1]? = some x) : endP l = if x.op ≠ 20 ∧ x.op ≠ 16 then 4 else 0 := by
  unfold endP; rw [if_neg h, last_get hx]
theorem spec.l1Form.c {K : Int → World → Prop} (h : SlR kIns w s l) (hl : l.length ≤ 1048576) (hk : ∀ w', Below w.heap.size w w' → K (formP l) w') :
    CallT (.o (.lf (.i .i64))) P0 45 [s.v] w K := by
  have hn := h.len
  refine spec.l1Form.ok ⟨fun i w' => ∃ k : Nat, i = k ∧ k ≤ l.length ∧ formGo l k (l.drop k) = formP l ∧ Below w.heap.size w w', fun i _ => l.length - i.toNat, ⟨0, rfl, by omega, rfl, Below.refl _ _⟩, ?_⟩
  rintro i w1 ⟨k, rfl, hkl, hf, hb⟩ _
  have h1 := h.below hb
  refine And.intro (fun hlt => ?_) (fun hge => ?_)
  · simp only [decide_eq_true_eq] at hlt
    obtain ⟨x, hx⟩ := get_some (l := l) (k := k) (by omega)
    rw [getElem?_drop_cons hx] at hf
    refine ixA h1 (by omega) (x := x) (by simpa using hx) rfl ?_
    refine spec.l1InsOk.c (x := x) fun w2 hb2 => ?_
    have h2 := h1.below hb2
    have hbb := hb.trans (hb2.mono hb.size)
    refine And.intro (fun hq => ?_) (fun hq => ?_)
    · simp at hq
      exact kof (hk _ hbb) (by rw [← hf]; simp [formGo, hq])
    · simp at hq
      have ho := hq.2.2.1
      refine ⟨fun b w3 => b = decide (goesP x) ∧ w3 = w2, ?_, ?_⟩
      · refine ixF h2 (by omega) (x := x) (by simpa using hx) rfl (v := x.op) rfl ?_
        refine spec.l1Jump.c ?_
        refine And.intro (fun hj => ?_) (fun hj => ?_)
        · exact ⟨by clear hk h1 h2 hbb hb hb2; grind [goesP], rfl⟩
        · refine ixF h2 (by omega) (x := x) (by simpa using hx) rfl (v := x.op) rfl ?_
          exact ⟨by clear hk h1 h2 hbb hb hb2; grind [goesP], rfl⟩
      · rintro b w3 ⟨rfl, rfl⟩ _
        refine And.intro (fun hg => ?_) (fun hg => ?_)
        · simp only [decide_eq_true_eq] at hg
          refine ixF h2 (by omega) (x := x) (by simpa using hx) rfl (v := x.off) rfl ?_
          simp (disch := omega) only [i64_of]
          refine spec.l1In.c ?_
          refine And.intro (fun ht => ?_) (fun ht => ?_)
          · simp only [Bool.not_eq_true', decide_eq_false_iff_not] at ht
            exact kof (hk _ hbb) (by rw [← hf]; simp only [formGo, hq, hg, tgt]; rw [if_neg (by simp), if_pos ⟨trivial, by omega⟩])
          · simp only [Bool.not_eq_false', decide_eq_true_eq] at ht
            refine ⟨⟨k + 1, by omega, by omega, ?_, hbb⟩, by omega⟩
            rw [← hf]; simp only [formGo, hq, hg, tgt]; rw [if_neg (by simp), if_neg (by omega)]
        · simp only [decide_eq_false_iff_not] at hg
          simp (disch := omega) only [i64_of]
          refine ⟨⟨k + 1, by omega, by omega, ?_, hbb⟩, by omega⟩
          rw [← hf]; simp only [formGo, hq, hg]; rw [if_neg (by simp), if_neg (by simp)]
  · simp only [decide_eq_false_iff_not] at hge
    have hkl' : k = l.length := by omega
    rw [hkl', List.drop_length] at hf
    simp only [formGo] at hf
    refine And.intro (fun hm => ?_) (fun hm => ?_)
    · simp only [decide_eq_true_eq] at hm
      exact kof (hk _ hb) (by rw [← hf, endP_many (by omega)])
    · simp only [decide_eq_false_iff_not] at hm
      refine And.intro (fun hz => ?_) (fun hz => ?_)
      · simp only [beq_iff_eq] at hz
        exact kof (hk _ hb) (by rw [← hf, endP_nil (List.eq_nil_of_length_eq_zero (by omega))])
      · simp only [beq_eq_false_iff_ne, ne_eq] at hz
        obtain ⟨x, hx⟩ := get_some (l := l) (k := l.length - 1) (by omega)
        have he := endP_last (l := l) (by omega) hx
        simp (disch := omega) only [i64_of]
        have hx' : l[((s.n : Int) - 1).toNat]? = some x := by rw [show ((s.n : Int) - 1).toNat = l.length - 1 by omega]; exact hx
        refine ixF h1 (by omega) hx' rfl (v := x.op) rfl ?_
        refine And.intro (fun h20 => ?_) (fun h20 => ?_)
        · refine ixF h1 (by omega) hx' rfl (v := x.op) rfl ?_
          refine And.intro (fun h16 => ?_) (fun h16 => ?_)
          · exact kof (hk _ hb) (by rw [← hf, he]; simp at h20 h16; simp [h20, h16])
          · exact kof (hk _ hb) (by rw [← hf, he]; simp at h20 h16; simp [h16])
        · exact kof (hk _ hb) (by rw [← hf, he]; simp at h20; simp [h20])
theorem zIns : (zc P0 44).toList.length = 6 := by kernel_rfl
/-- An op is copied into a variable of its own. -/
theorem nwStIns {x : Ins} {P : Program} {w : World} {K : Addr → World → Prop}
    (hk : ∀ w', Below w.heap.size w w' → w'.heap.size = w.heap.size + 1 → w'.heap[w.heap.size]? = some (.cells x.cs 44 (0, 0)) → K ⟨w.heap.size, 0, none⟩ w') :
    Nw (zc P0 44) 44 w (fun a w' => StA P a (Tup.cells (R 6 (.i .i64)) x.t) w' (K a)) :=
  nwSt (cs := Tup.cells (R 6 (.i .i64)) x.t) zIns (oneCell_cells kIns (by intro l hl; simp [kIns] at hl; simp [hl]) x) hk rfl
theorem impl.ProgForm.c {K : Int → World → Prop} (h : SlR kIns w s l) (hl : l.length ≤ 1048576) (hk : ∀ w', Below w.heap.size w w' → K (formP l) w') :
    CallT (.o (.lf (.i .i64))) P0 48 [s.v] w K := by
  have hn := h.len
  refine impl.ProgForm.ok ⟨fun i w' => ∃ k : Nat, i = k ∧ k ≤ l.length ∧ formGo l k (l.drop k) = formP l ∧ Below w.heap.size w w', fun i _ => l.length - i.toNat, ⟨0, rfl, by omega, rfl, Below.refl _ _⟩, ?_⟩
  rintro i w1 ⟨k, rfl, hkl, hf, hb⟩ _
  have h1 := h.below hb
  refine And.intro (fun hlt => ?_) (fun hge => ?_)
  · simp only [decide_eq_true_eq] at hlt
    obtain ⟨x, hx⟩ := get_some (l := l) (k := k) (by omega)
    rw [getElem?_drop_cons hx] at hf
    refine ixA h1 (by omega) (x := x) (by simpa using hx) rfl ?_
    refine nwStIns (x := x) fun w2 hb2 hs2 hc2 => ?_
    refine ldAB (x := x.t) hc2 rfl ?_
    refine impl.InsOk.c (x := x) fun w3 hb3 => ?_
    have hc3 := (hb3.block _ (by omega)).trans hc2
    have hb13 := hb2.trans (hb3.mono (by omega))
    have h3 := h1.below hb13
    have hbb := hb.trans (hb13.mono hb.size)
    refine And.intro (fun hq => ?_) (fun hq => ?_)
    · simp at hq
      exact kof (hk _ hbb) (by rw [← hf]; simp [formGo, hq])
    · simp at hq
      have ho := hq.2.2.1
      refine ldB hc3 (x := x.op) rfl ?_
      refine impl.kind.goes.c ?_
      refine And.intro (fun hg => ?_) (fun hg => ?_)
      · simp only [decide_eq_true_eq] at hg
        refine impl.target.c h3 (by omega) (x := x) (by simpa using hx) hl ho ?_
        simp (disch := omega) only [i64_of]
        refine impl.within.c ?_
        refine And.intro (fun ht => ?_) (fun ht => ?_)
        · simp only [Bool.not_eq_true', decide_eq_false_iff_not] at ht
          exact kof (hk _ hbb) (by rw [← hf]; simp only [formGo, hq]; rw [if_neg (by simp), if_pos ⟨hg, by omega⟩])
        · simp only [Bool.not_eq_false', decide_eq_true_eq] at ht
          refine ⟨⟨k + 1, by omega, by omega, ?_, hbb⟩, by omega⟩
          rw [← hf]; simp only [formGo, hq]; rw [if_neg (by simp), if_neg (by omega)]
      · simp only [decide_eq_false_iff_not] at hg
        simp (disch := omega) only [i64_of]
        refine ⟨⟨k + 1, by omega, by omega, ?_, hbb⟩, by omega⟩
        rw [← hf]; simp only [formGo, hq]; rw [if_neg (by simp), if_neg (fun hh => hg hh.1)]
  · simp only [decide_eq_false_iff_not] at hge
    have hkl' : k = l.length := by omega
    rw [hkl', List.drop_length] at hf
    simp only [formGo] at hf
    refine And.intro (fun hm => ?_) (fun hm => ?_)
    · simp only [decide_eq_true_eq] at hm
      exact kof (hk _ hb) (by rw [← hf, endP_many (by omega)])
    · simp only [decide_eq_false_iff_not] at hm
      refine And.intro (fun hz => ?_) (fun hz => ?_)
      · refine And.intro (fun _ => ?_) (fun hz' => ?_)
        · simp only [beq_iff_eq] at hz
          exact kof (hk _ hb) (by rw [← hf, endP_nil (List.eq_nil_of_length_eq_zero (by omega))])
        · rw [hz] at hz'; simp at hz'
      · simp only [beq_eq_false_iff_ne, ne_eq] at hz
        obtain ⟨x, hx⟩ := get_some (l := l) (k := l.length - 1) (by omega)
        have he := endP_last (l := l) (by omega) hx
        simp (disch := omega) only [i64_of]
        have hx' : l[((s.n : Int) - 1).toNat]? = some x := by rw [show ((s.n : Int) - 1).toNat = l.length - 1 by omega]; exact hx
        refine ixF h1 (by omega) hx' rfl (v := x.op) rfl ?_
        refine And.intro (fun h20 => ?_) (fun h20 => ?_)
        · refine ixF h1 (by omega) hx' rfl (v := x.op) rfl ?_
          refine And.intro (fun h16 => ?_) (fun h16 => ?_)
          · exact kof (hk _ hb) (by rw [← hf, he]; simp at h20 h16; simp [h20, h16])
          · exact kof (hk _ hb) (by rw [← hf, he]; simp at h20 h16; simp [h16])
        · exact kof (hk _ hb) (by rw [← hf, he]; simp at h20; simp [h20])
end
end Go.Proofs.YtkkdboimkbcfnaaDoor.V

/- Writes into new memory: make, an element, a field. -/
namespace Go.Proofs.YtkkdboimkbcfnaaDoor.V
open Go Go.RowKit Go.Sort
set_option linter.unusedSimpArgs false
set_option linter.unusedVariables false

theorem lt_of_get {α : Type} {l : List α} {i : Nat} {x : α} (h : l[i]? = some x) : i < l.length := (List.getElem?_eq_some_iff.1 h).1
theorem idx_apart {i i' n j : Nat} (h : i' < i) (hj : j < n) : i' * n + j < i * n := by
  have : (i' + 1) * n ≤ i * n := Nat.mul_le_mul_right n h
  rw [Nat.succ_mul] at this; omega
/-- storeCells anywhere in a block. -/
theorem run_storeCells_in (P : Program) {b : Nat} {t : TypeId} (o : Nat) : ∀ (vs : List Value) (i : Nat) (cur : Array Value) (w : World), (∀ v ∈ vs, v.oneCell' = true) → o + i + vs.length ≤ cur.size →
    w.heap[b]? = some (.cells cur t (0, 0)) → ∃ w' cur', (storeCells ⟨b, o, none⟩ vs i).run P w = .ok () w' ∧ w.grownBy w' (some b) ∧ w'.heap.size = w.heap.size ∧ w'.heap[b]? = some (.cells cur' t (0, 0)) ∧
      (∀ j v, vs[j]? = some v → cur'[o + i + j]? = some v) ∧ (∀ p, (p < o + i ∨ o + i + vs.length ≤ p) → cur'[p]? = cur[p]?)
  | [], i, cur, w, _, _, h => ⟨w, cur, by simp [storeCells], ⟨rfl, rfl, rfl, Nat.le_refl _, fun _ _ _ => rfl⟩, rfl, h, by simp, fun _ _ => rfl⟩
  | v :: vs, i, cur, w, h1, hs, h => by
    have hv := h1 v List.mem_cons_self
    simp only [List.length_cons] at hs
    have hi : o + i < cur.size := by omega
    have hc : w.cell? ⟨b, o + i, none⟩ = some cur[o + i] := by rw [cell_of h]; simp [hi]
    have hfz : w.frozen? ⟨b, o + i, none⟩ = false := by simp [World.frozen?, h]
    have hst : (store ⟨b, o + i, none⟩ v).run P w = .ok () (w.setCell ⟨b, o + i, none⟩ v) := by simp [run_store P w _ v .plain hv, hc, hfz]
    obtain ⟨w', cur', hr, hg, hsz, hh, hin, hout⟩ := run_storeCells_in P o vs (i + 1) (cur.setIfInBounds (o + i) v) (w.setCell ⟨b, o + i, none⟩ v) (fun u hu => h1 u (List.mem_cons_of_mem _ hu)) (by simp; omega) (setCell_heap h v)
    have g0 := grown_setCell w b (o + i) v
    refine ⟨w', cur', ?_, ⟨hg.os.trans g0.os, hg.tape.trans g0.tape, hg.output.trans g0.output, Nat.le_trans g0.size hg.size, fun k hk hne => (hg.block k (by simpa using hk) hne).trans (g0.block k hk hne)⟩, by rw [hsz]; simp, hh, ?_, ?_⟩
    · simp only [storeCells, Sem.run_bind, add_mk, hst, Result.andThen_ok, hr]
    · intro j u hj
      cases j with
      | zero =>
        simp only [List.getElem?_cons_zero, Option.some.injEq] at hj
        subst hj
        rw [Nat.add_zero, hout _ (.inl (by omega)), Array.getElem?_setIfInBounds_self_of_lt hi]
      | succ j =>
        have := hin j u (by simpa using hj)
        rw [show o + i + (j + 1) = o + (i + 1) + j by omega]; exact this
    · intro p hp
      simp only [List.length_cons] at hp
      rw [hout p (by omega), Array.getElem?_setIfInBounds_ne (by omega)]
section
variable {α : Type} {k : Kd α} {t : TypeId} {B : Nat} {w : World} {s : Sl} {xs : List α} {i : Int} {sz : Nat}
theorem upd {cur cur' : Array Value} {o i : Nat} {y : α} (h : ∀ i x, xs[i]? = some x → ∀ j v, (k.cells x)[j]? = some v → cur[o + i * k.ls.length + j]? = some v)
    (hin : ∀ j v, (k.cells y)[j]? = some v → cur'[o + i * k.ls.length + j]? = some v) (hout : ∀ p, (p < o + i * k.ls.length ∨ o + i * k.ls.length + k.ls.length ≤ p) → cur'[p]? = cur[p]?) :
    ∀ i' x, (xs.set i y)[i']? = some x → ∀ j v, (k.cells x)[j]? = some v → cur'[o + i' * k.ls.length + j]? = some v := by
  intro i' x hx j v hj
  have hjl := lt_of_get hj
  rw [k.cells_length] at hjl
  rcases Nat.lt_trichotomy i' i with hlt | rfl | hlt
  · rw [List.getElem?_set_ne (by omega)] at hx
    have := idx_apart hlt hjl
    rw [hout _ (.inl (by omega))]
    exact h _ _ hx _ _ hj
  · have hl := lt_of_get hx
    rw [List.getElem?_set_self (by simpa using hl)] at hx
    simp only [Option.some.injEq] at hx
    subst hx
    exact hin _ _ hj
  · rw [List.getElem?_set_ne (by omega)] at hx
    have : (i + 1) * k.ls.length ≤ i' * k.ls.length := Nat.mul_le_mul_right _ hlt
    rw [Nat.succ_mul] at this
    rw [hout _ (.inr (by omega))]
    exact h _ _ hx _ _ hj
theorem WrS.at (h : WrS k t B w s xs) {i : Nat} {x : α} (hx : xs[i]? = some x) (hp : 0 < k.ls.length) : ∃ b o cur, s.a = some ⟨b, o, none⟩ ∧ B ≤ b ∧ w.heap[b]? = some (.cells cur t (0, 0)) ∧
    (∀ i x, xs[i]? = some x → ∀ j v, (k.cells x)[j]? = some v → cur[o + i * k.ls.length + j]? = some v) ∧ o + i * k.ls.length + k.ls.length ≤ cur.size := by
  rcases h.2.2.2 with h0 | ⟨b, o, cur, ha, hB, hg, hc⟩
  · rw [h0.2] at hx; simp at hx
  · refine ⟨b, o, cur, ha, hB, hg, hc, ?_⟩
    have hl := k.cells_length x
    have hj : (k.cells x)[k.ls.length - 1]? = some ((k.cells x)[k.ls.length - 1]'(by omega)) := List.getElem?_eq_getElem _
    have := (Array.getElem?_eq_some_iff.1 (hc i x hx _ _ hj)).1
    omega
/-- Write an element. -/
theorem ixStA {P : Program} (h : WrS k t B w s xs) (hi : 0 ≤ i) {x : α} (hx : xs[i.toNat]? = some x) (hsz : sz = k.ls.length) (hp : 0 < k.ls.length) (h1 : ∀ l ∈ k.ls, l ≠ .any) (y : α) {vs : List Value} (hvs : vs = k.cells y) {K : World → Prop}
    (hK : ∀ w', WrS k t B w' s (xs.set i.toNat y) → w.grownBy w' s.bk → w'.heap.size = w.heap.size → K w') : Ix s.a s.n i sz w (fun a w1 => StA P a vs w1 K) := by
  obtain ⟨b, o, cur, ha, hB, hg, hc, hcs⟩ := h.at hx hp
  have hl := lt_of_get hx
  subst hsz hvs
  obtain ⟨w', cur', hr, hgr, hss, hh, hin, hout⟩ := run_storeCells_in P (o + i.toNat * k.ls.length) (k.cells y) 0 cur w (oneCell_cells k h1 y) (by rw [k.cells_length]; omega) hg
  refine ⟨_, ha, hi, by rw [h.1]; omega, w', by rw [add_mk]; exact hr, hK w' ⟨by simpa using h.1, h.2.1, h.2.2.1, .inr ⟨b, o, cur', ha, hB, hh, upd hc hin (fun p hp => hout p (by rw [k.cells_length]; exact hp))⟩⟩ (by simpa [Sl.bk, ha] using hgr) hss⟩
/-- Write a field of an element. -/
theorem ixStF (h : WrS k t B w s xs) (hi : 0 ≤ i) {x : α} (hx : xs[i.toNat]? = some x) (hsz : sz = k.ls.length) {j : Nat} (hj : j < k.ls.length) {v : Value} (hv : v.oneCell' = true) (y : α) (hy : k.cells y = (k.cells x).set j v) {K : World → Prop}
    (hK : ∀ w', WrS k t B w' s (xs.set i.toNat y) → w.grownBy w' s.bk → w'.heap.size = w.heap.size → K w') : Ix s.a s.n i sz w (fun a w1 => St (Addr.add a j) v w1 K) := by
  obtain ⟨b, o, cur, ha, hB, hg, hc, hcs⟩ := h.at hx (by omega)
  have hl := lt_of_get hx
  subst hsz
  refine ⟨_, ha, hi, by rw [h.1]; omega, hv, ⟨cur[o + i.toNat * k.ls.length + j]'(by omega), ?_⟩, ?_, ?_⟩
  · rw [add_mk, add_mk, cell_of hg]; exact Array.getElem?_eq_getElem _
  · simp [add_mk, World.frozen?, hg]
  · rw [add_mk, add_mk]
    refine hK _ ⟨by simpa using h.1, h.2.1, h.2.2.1, .inr ⟨b, o, _, ha, hB, setCell_heap hg v, upd hc ?_ ?_⟩⟩ (by simpa [Sl.bk, ha] using grown_setCell w b _ v) (by simp)
    · intro j' u hu
      rw [hy] at hu
      by_cases he : j' = j
      · subst he
        rw [List.getElem?_set_self (by rw [k.cells_length]; exact hj)] at hu
        rw [Array.getElem?_setIfInBounds_self_of_lt (by omega)]; exact hu
      · rw [List.getElem?_set_ne (by omega)] at hu
        rw [Array.getElem?_setIfInBounds_ne (by omega)]
        exact hc _ _ hx _ _ hu
    · intro p hp
      exact Array.getElem?_setIfInBounds_ne (by omega)
theorem ixStL (h : WrS k t B w s xs) (hi : 0 ≤ i) {x : α} (hx : xs[i.toNat]? = some x) (hsz : sz = k.ls.length) (hl : k.ls.length = 1) {v : Value} (hv : v.oneCell' = true) (y : α) (hy : k.cells y = [v]) {K : World → Prop}
    (hK : ∀ w', WrS k t B w' s (xs.set i.toNat y) → w.grownBy w' s.bk → w'.heap.size = w.heap.size → K w') : Ix s.a s.n i sz w (fun a w1 => St a v w1 K) := by
  have := ixStF (j := 0) h hi hx hsz (by omega) hv y (by
    have := k.cells_length x
    match hh : k.cells x, this with
    | [u], _ => simp [hy]
    | [], h => simp [hl] at h
    | _ :: _ :: _, h => simp [hl] at h) hK
  simpa [Addr.add] using this
/-- An element type, for make. -/
structure Mk (P : Program) (tS t : TypeId) (k : Kd α) (bytes : Nat) (z0 : α) : Prop where
  elem : P.underlying tS = some (.slice t)
  info : ∃ i z, P.info? t = some i ∧ i.zero = some z ∧ i.size = k.ls.length ∧ i.bytes = bytes ∧ z.cells.toList = k.cells z0
theorem mkS {P : Program} {tS : TypeId} {bytes : Nat} {z0 : α} (hM : Mk P tS t k bytes z0) {n : Nat} (hb : n * bytes ≤ 281474976710656) (hm : n ≤ maxLen) {K : Sl → World → Prop}
    (hK : ∀ s w', Below w.heap.size w w' → WrS k t w.heap.size w' s (List.replicate n z0) → K s w') :
    RunT (.o (.lf .sl)) P (Instr.makeSlice tS (.int .i64 (n : Int)) (.int .i64 (n : Int))) w K := by
  obtain ⟨i, z, hi, hz, hsz, hbs, hzc⟩ := hM.info
  have hm' : (n : Int) ≤ 9223372036854775807 := by simp only [maxLen] at hm; omega
  have hbb : (i.bytes : Int) * (n : Int) ≤ 281474976710656 := by
    have h : ((n * bytes : Nat) : Int) ≤ 281474976710656 := by omega
    rw [Int.natCast_mul] at h
    rw [hbs, Int.mul_comm]; exact h
  have hr := run_make (P := P) w tS t i z hM.elem hi hz .i64 .i64 n n (by omega) (Int.le_refl _) hbb hm'
  refine ⟨⟨some ⟨w.heap.size, 0, none⟩, n, n⟩, _, hr, hK _ _ ((Below.refl _ _).alloc (Nat.le_refl _) _) ⟨by rw [List.length_replicate], Nat.le_refl _, hm, .inr ⟨w.heap.size, 0, _, rfl, Nat.le_refl _, heap_alloc_new w _, ?_⟩⟩⟩
  intro i' x hx j v hj
  have hjl := lt_of_get hj
  rw [k.cells_length] at hjl
  have hil := lt_of_get hx
  simp only [List.length_replicate] at hil
  rw [List.getElem?_replicate_of_lt hil] at hx
  simp only [Option.some.injEq] at hx
  subst hx
  have hlt : i' * k.ls.length + j < n * k.ls.length := idx_apart hil hjl
  have hzs : z.cells.size = k.ls.length := by rw [← Array.length_toList, hzc, k.cells_length]
  have hmod : (i' * k.ls.length + j) % k.ls.length = j := by rw [Nat.add_comm, Nat.add_mul_mod_self_right, Nat.mod_eq_of_lt hjl]
  simp only [madeCells, Nat.zero_add, Int.toNat_natCast, hsz, hzs]
  rw [Array.getElem?_map, Array.getElem?_range, if_pos hlt]
  simp only [Option.map_some, hmod]
  rw [getElem!_pos z.cells j (by omega)]
  rw [← hzc, Array.getElem?_toList, Array.getElem?_eq_getElem (by omega)] at hj
  exact hj
theorem set_next {l zs : List α} {n : Nat} {x : α} (hx : l[n]? = some x) (hz : zs.length = l.length - n) : (l.take n ++ zs).set n x = l.take (n + 1) ++ zs.tail := by
  have hl := lt_of_get hx
  match zs, hz with
  | [], hz => simp at hz; omega
  | z :: zs, _ =>
    rw [List.set_append_right _ _ (by simp; omega)]
    simp only [List.length_take, Nat.min_eq_left (Nat.le_of_lt hl), Nat.sub_self, List.set_cons_zero, List.tail_cons]
    rw [List.take_add_one, hx]
    simp
theorem grown_refl (w : World) (row : Option Nat) : w.grownBy w row := ⟨rfl, rfl, rfl, Nat.le_refl _, fun _ _ _ => rfl⟩
theorem grown_trans {w w1 w2 : World} {row : Option Nat} (h : w.grownBy w1 row) (h2 : w1.grownBy w2 row) : w.grownBy w2 row :=
  ⟨h2.os.trans h.os, h2.tape.trans h.tape, h2.output.trans h.output, Nat.le_trans h.size h2.size, fun k hk hne => (h2.block k (Nat.lt_of_lt_of_le hk h.size) hne).trans (h.block k hk hne)⟩
end
end Go.Proofs.YtkkdboimkbcfnaaDoor.V

/- Contracts: the laws' own helpers (sizes, copies, comparisons, marks). -/
namespace Go.Proofs.YtkkdboimkbcfnaaDoor.V
open Go Go.RowKit
set_option linter.unusedVariables false
set_option linter.unusedSimpArgs false
theorem bk_ge {t : TypeId} {B : Nat} {α : Type} {k : Kd α} {w : World} {s : Sl} {xs : List α} (h : WrS k t B w s xs) : ∀ b, s.bk = some b → B ≤ b := fun b hb => (h.blk hb).1
theorem elI1 : Mk P0 42 3 kI 8 0 := ⟨by kernel_rfl, ⟨_, _, Option.eq_some_of_isSome (by kernel_rfl), Option.eq_some_of_isSome (by kernel_rfl), by kernel_rfl, by kernel_rfl, by kernel_rfl⟩⟩
theorem mkIns : Mk P0 37 44 kIns 48 ⟨0, 0, 0, 0, 0, 0⟩ := ⟨by kernel_rfl, ⟨_, _, Option.eq_some_of_isSome (by kernel_rfl), Option.eq_some_of_isSome (by kernel_rfl), by kernel_rfl, by kernel_rfl, by kernel_rfl⟩⟩
theorem noAny6 : ∀ l ∈ kIns.ls, l ≠ Lf.any := by intro l hl; simp [kIns, List.mem_replicate] at hl; simp [hl]
theorem kIns6 : kIns.ls.length = 6 := rfl
def marks (k : Int) (n : Nat) : List Int := (List.range n).map fun (i : Nat) => k + (i : Int)
theorem marks_get (k : Int) {n i : Nat} (h : i < n) : (marks k n)[i]? = some (k + (i : Int)) := by simp [marks, h]
theorem marks_length (k : Int) (n : Nat) : (marks k n).length = n := by simp [marks]
theorem marks_succ (k : Int) (n : Nat) : marks k (n + 1) = marks k n ++ [k + (n : Int)] := by simp [marks, List.range_succ]
section
variable {w : World} {s : Sl} {l : List Ins}
theorem laws.szInsS.c {left : Int} {K : Int → World → Prop} (h : SlR kIns w s l) (h0 : -1 ≤ left) (h1 : left ≤ 1048576) (hk : K (if left - l.length < 0 then -1 else left - l.length) w) :
    CallT (.o (.lf (.i .i64))) P0 20 [s.v, .int .i64 left] w K := by
  have hn := h.len; have hm := h.max
  refine laws.szInsS.ok ?_
  unfold laws.szInsS.vc
  simp (disch := omega) only [i64_of]
  rw [hn]
  refine And.intro (fun hc => ?_) (fun hc => ?_)
  · simp only [decide_eq_true_eq] at hc; rw [if_pos hc] at hk; exact hk
  · simp only [decide_eq_false_iff_not] at hc; rw [if_neg hc] at hk; exact hk
theorem laws.toIns.c {x : Ins} {K : Tup (R 6 (.i .i64)) → World → Prop} (hk : ∀ w', Below w.heap.size w w' → K x.t w') : CallT (.o (.ag (R 6 (.i .i64)))) P0 47 [.agg (Tup.cells (R 6 (.i .i64)) x.t).toArray] w K := by
  refine laws.toIns.ok (nwIns fun w1 hb1 hs1 hc1 => ?_)
  refine nw fun w2 hb2 hs2 hc2 => ?_
  refine nw fun w3 hb3 hs3 hc3 => ?_
  have hc1 := (hb3.block _ (by omega)).trans ((hb2.block _ (by omega)).trans hc1)
  have hc2 := (hb3.block _ (by omega)).trans hc2
  have hb : Below w.heap.size w w3 := (hb1.trans (hb2.mono hb1.size)).trans (hb3.mono (by omega))
  clear hb1 hb2 hb3
  obtain ⟨z, hz⟩ : ∃ z, zc P0 44 = z := ⟨_, rfl⟩
  have hz6 : z.toList.length = 6 := by rw [← hz]; exact zIns
  rw [hz] at hc2 hc3
  rcases z with ⟨z⟩
  match z, hz6 with
  | [z0, z1, z2, z3, z4, z5], _ =>
  refine ldB hc1 (x := x.op) rfl (stB hc3 rfl (by simp) fun w4 hg4 hs4 hc4 => ?_)
  replace hc1 := (hg4.block w.heap.size (by omega) (by simp; omega)).trans hc1
  replace hc2 := (hg4.block w1.heap.size (by omega) (by simp; omega)).trans hc2
  replace hb := hb.grown hg4 hb.size (fun b hb' => by simp at hb'; omega)
  clear hc3
  refine ldB hc1 (x := x.dst) rfl (stB hc4 rfl (by simp) fun w5 hg5 hs5 hc5 => ?_)
  replace hc1 := (hg5.block w.heap.size (by omega) (by simp; omega)).trans hc1
  replace hc2 := (hg5.block w1.heap.size (by omega) (by simp; omega)).trans hc2
  replace hb := hb.grown hg5 hb.size (fun b hb' => by simp at hb'; omega)
  refine ldB hc1 (x := x.src) rfl (stB hc5 rfl (by simp) fun w6 hg6 hs6 hc6 => ?_)
  replace hc1 := (hg6.block w.heap.size (by omega) (by simp; omega)).trans hc1
  replace hc2 := (hg6.block w1.heap.size (by omega) (by simp; omega)).trans hc2
  replace hb := hb.grown hg6 hb.size (fun b hb' => by simp at hb'; omega)
  refine ldB hc1 (x := x.off) rfl (stB hc6 rfl (by simp) fun w7 hg7 hs7 hc7 => ?_)
  replace hc1 := (hg7.block w.heap.size (by omega) (by simp; omega)).trans hc1
  replace hc2 := (hg7.block w1.heap.size (by omega) (by simp; omega)).trans hc2
  replace hb := hb.grown hg7 hb.size (fun b hb' => by simp at hb'; omega)
  refine ldB hc1 (x := x.imm) rfl (stB hc7 rfl (by simp) fun w8 hg8 hs8 hc8 => ?_)
  replace hc1 := (hg8.block w.heap.size (by omega) (by simp; omega)).trans hc1
  replace hc2 := (hg8.block w1.heap.size (by omega) (by simp; omega)).trans hc2
  replace hb := hb.grown hg8 hb.size (fun b hb' => by simp at hb'; omega)
  refine ldB hc1 (x := x.size) rfl (stB hc8 rfl (by simp) fun w9 hg9 hs9 hc9 => ?_)
  replace hc2 := (hg9.block w1.heap.size (by omega) (by simp; omega)).trans hc2
  replace hb := hb.grown hg9 hb.size (fun b hb' => by simp at hb'; omega)
  refine ldAB hc9 (x := x.t) rfl ?_
  obtain ⟨w', hr, hg, hsz, hh⟩ := run_storeCells_at' P0 (b := w1.heap.size) (t := 44) (Tup.cells (R 6 (.i .i64)) x.t) 0 [] [z0, z1, z2, z3, z4, z5] w9 (oneCell_cells kIns noAny6 x) rfl rfl hc2
  refine ⟨w', hr, ldAB hh (x := x.t) rfl (hk _ (hb.grown hg hb.size (fun b hb' => by simp at hb'; omega)))⟩
theorem laws.toInsS.c {K : Sl → World → Prop} (h : SlR kIns w s l) (hl : l.length ≤ 1048576) (hk : ∀ r w', Below w.heap.size w w' → WrS kIns 44 w.heap.size w' r l → K r w') :
    CallT (.o (.lf .sl)) P0 22 [s.v] w K := by
  have hn := h.len
  refine laws.toInsS.ok (mkS mkIns (by omega) (by simp only [maxLen]; omega) fun r w1 hb1 hr1 => ?_)
  rw [hn] at hr1
  refine ⟨fun i w' => ∃ (n : Nat) (zs : List Ins), i = n ∧ n ≤ l.length ∧ zs.length = l.length - n ∧ WrS kIns 44 w.heap.size w' r (l.take n ++ zs) ∧ Below w.heap.size w w', fun i _ => l.length - i.toNat,
    ⟨0, _, rfl, by omega, List.length_replicate, by simpa using hr1, hb1⟩, ?_⟩
  rintro i w2 ⟨n, zs, rfl, hnl, hzs, hr2, hb2⟩ _
  refine And.intro (fun hlt => ?_) (fun hge => ?_)
  · simp only [decide_eq_true_eq] at hlt
    obtain ⟨x, hx⟩ := get_some (l := l) (k := n) (by omega)
    have := ixA (h.below hb2) (i := n) (by omega) (x := x) (by simpa using hx) (sz := 6) rfl (K := fun (t : Tup kIns.ls) w' => CallT (.o (.ag (R 6 (.i .i64)))) P0 47 [(.agg (Tup.cells (R 6 (.i .i64)) t).toArray)] w' fun (t20 : Tup (R 6 (.i .i64))) w__4 =>
Ix r.a r.n n 6 w__4 fun a_t21 w__5 =>
StA P0 a_t21 (Tup.cells (R 6 (.i .i64)) t20) w__5 fun w__6 =>
((∃ (n' : Nat) (zs : List Ins), IntKind.wrap .i64 (n + 1) = n' ∧ n' ≤ l.length ∧ zs.length = l.length - n' ∧ WrS kIns 44 w.heap.size w__6 r (l.take n' ++ zs) ∧ Below w.heap.size w w__6) ∧ l.length - (IntKind.wrap .i64 (n + 1)).toNat < l.length - (n : Int).toNat)) ?_
    · exact this
    · refine laws.toIns.c (x := x) fun w3 hb3 => ?_
      obtain ⟨z, hz⟩ := get_some (l := l.take n ++ zs) (k := n) (by simp; omega)
      refine ixStA (P := P0) (hr2.below hb3) (i := n) (by omega) (x := z) (by simpa using hz) rfl (by decide) noAny6 x rfl fun w4 hr4 hg4 hs4 => ?_
      simp (disch := omega) only [i64_of]
      refine ⟨⟨n + 1, zs.tail, by omega, by omega, by simp; omega, ?_, ?_⟩, by omega⟩
      · rw [Int.toNat_natCast, set_next hx hzs] at hr4; exact hr4
      · exact (hb2.trans (hb3.mono hb2.size)).grown hg4 (by have := hb2.size; have := hb3.size; omega) (bk_ge hr2)
  · simp only [decide_eq_false_iff_not] at hge
    obtain rfl : n = l.length := by omega
    have : zs = [] := List.eq_nil_of_length_eq_zero (by omega)
    subst this
    simp only [List.take_length, List.append_nil] at hr2
    exact hk _ _ hb2 hr2
set_option maxHeartbeats 1000000 in
theorem laws.eqIns.c {x y : Ins} {K : Bool → World → Prop} (hk : ∀ w', Below w.heap.size w w' → K (decide (x = y)) w') : CallT (.o (.lf .b)) P0 56 [.agg (Tup.cells (R 6 (.i .i64)) x.t).toArray, .agg (Tup.cells (R 6 (.i .i64)) y.t).toArray] w K := by
  refine laws.eqIns.ok (nwIns fun w1 hb1 hs1 hc1 => nwIns fun w2 hb2 hs2 hc2 => ?_)
  have hc1 := (hb2.block _ (by omega)).trans hc1
  have hk := hk w2 (hb1.trans (hb2.mono hb1.size))
  rcases x with ⟨x0, x1, x2, x3, x4, x5⟩
  rcases y with ⟨y0, y1, y2, y3, y4, y5⟩
  refine ldB hc1 (x := x0) rfl (ldB hc2 (x := y0) rfl ?_)
  refine And.intro (fun h => kof hk (by simp at h; simp [h])) (fun h0 => ?_)
  refine ldB hc1 (x := x1) rfl (ldB hc2 (x := y1) rfl ?_)
  refine And.intro (fun h => kof hk (by simp at h; simp [h])) (fun h1 => ?_)
  refine ldB hc1 (x := x2) rfl (ldB hc2 (x := y2) rfl ?_)
  refine And.intro (fun h => kof hk (by simp at h; simp [h])) (fun h2 => ?_)
  refine ldB hc1 (x := x3) rfl (ldB hc2 (x := y3) rfl ?_)
  refine And.intro (fun h => kof hk (by simp at h; simp [h])) (fun h3 => ?_)
  refine ldB hc1 (x := x4) rfl (ldB hc2 (x := y4) rfl ?_)
  refine And.intro (fun h => kof hk (by simp at h; simp [h])) (fun h4 => ?_)
  refine ldB hc1 (x := x5) rfl (ldB hc2 (x := y5) rfl ?_)
  refine And.intro (fun h => kof hk (by simp at h; simp [h])) (fun h5 => kof hk (by simp at h0 h1 h2 h3 h4 h5; simp [h0, h1, h2, h3, h4, h5]))
end
theorem bne_len {a b : Nat} : (((a : Nat) : Int) != (b : Int)) = true ↔ a ≠ b := by simp; omega
theorem take_ext {α : Type} {xs ys : List α} (hl : xs.length = ys.length) (h : ∀ (i : Nat) x, xs[i]? = some x → ys[i]? = some x) : xs = ys := by
  refine List.ext_getElem? fun i => ?_
  rcases Nat.lt_or_ge i xs.length with hi | hi
  · rw [List.getElem?_eq_getElem hi, h i _ (List.getElem?_eq_getElem hi)]
  · rw [List.getElem?_eq_none hi, List.getElem?_eq_none (by omega)]
section
variable {w : World} {a b : Sl} {xs ys : List Int}
end
section
variable {w : World} {a b : Sl} {xs ys : List Ins}
theorem laws.eqInsS.c {K : Bool → World → Prop} (ha : SlR kIns w a xs) (hb : SlR kIns w b ys) (hk : ∀ w', Below w.heap.size w w' → K (decide (xs = ys)) w') : CallT (.o (.lf .b)) P0 24 [a.v, b.v] w K := by
  have hna := ha.len; have hnb := hb.len; have hm := ha.max
  refine laws.eqInsS.ok ?_
  unfold laws.eqInsS.vc
  refine And.intro (fun h => kof (hk _ (Below.refl _ _)) ?_) (fun h => ?_)
  · rw [bne_len] at h
    simp only [decide_eq_false_iff_not]; rintro rfl; omega
  · have hle : xs.length = ys.length := by simp at h; omega
    refine ⟨fun i w' => ∃ n : Nat, i = n ∧ n ≤ xs.length ∧ (∀ j < n, xs[j]? = ys[j]?) ∧ Below w.heap.size w w', fun i _ => xs.length - i.toNat, ⟨0, rfl, by omega, by simp, Below.refl _ _⟩, ?_⟩
    rintro i w1 ⟨n, rfl, hn, hE, hb1⟩ _
    refine And.intro (fun hlt => ?_) (fun hge => ?_)
    · simp only [decide_eq_true_eq] at hlt
      obtain ⟨x, hx⟩ := get_some (l := xs) (k := n) (by omega)
      obtain ⟨y, hy⟩ := get_some (l := ys) (k := n) (by omega)
      refine qixA (ha.below hb1) (i := n) (by omega) (x := x) (by simpa using hx) rfl ?_
      refine qixA (hb.below hb1) (i := n) (by omega) (x := y) (by simpa using hy) rfl ?_
      refine qcl (decide (x = y)) (fun w2 hb2 => laws.eqIns.c fun w3 hb3 => ⟨rfl, hb2.trans (hb3.mono hb2.size)⟩) ?_
      intro w2 hb2
      have hbb := hb1.trans (hb2.mono hb1.size)
      refine And.intro (fun hne => kof (hk _ hbb) ?_) (fun he => ?_)
      · simp at hne
        simp only [decide_eq_false_iff_not]; rintro rfl; rw [hx] at hy; simp at hy; exact hne hy
      · simp at he
        simp (disch := omega) only [i64_of]
        refine ⟨⟨n + 1, by omega, by omega, fun j hj => ?_, hbb⟩, by omega⟩
        rcases Nat.lt_or_ge j n with h1 | h1
        · exact hE j h1
        · obtain rfl : j = n := by omega
          rw [hx, hy, he]
    · simp only [decide_eq_false_iff_not] at hge
      refine kof (hk _ hb1) ?_
      simp only [decide_eq_true_eq]
      exact take_ext hle fun j x hx => by rw [← hE j (by have := lt_of_get hx; omega)]; exact hx
end
end Go.Proofs.YtkkdboimkbcfnaaDoor.V

/- Contracts: rules; the laws' helpers for them. -/
namespace Go.Proofs.YtkkdboimkbcfnaaDoor.V
open Go Go.RowKit
set_option linter.unusedVariables false
set_option linter.unusedSimpArgs false
structure Rule where
  at_ : Int
  op : Int
  num : Int
  verdict : Int
  key : Int
  deriving DecidableEq, Inhabited
def kRule : Kd Rule := ⟨List.replicate 5 (.i .i64), fun x => (x.at_, x.op, x.num, x.verdict, x.key, ())⟩
@[reducible] def Rule.t (x : Rule) : Tup (List.replicate 5 (.i .i64)) := (x.at_, x.op, x.num, x.verdict, x.key, ())
def Rule.cs (x : Rule) : Array Value := #[.int .i64 x.at_, .int .i64 x.op, .int .i64 x.num, .int .i64 x.verdict, .int .i64 x.key]
theorem nwRule {x : Rule} {t : TypeId} {w : World} {K : Addr → World → Prop}
    (hk : ∀ w', Below w.heap.size w w' → w'.heap.size = w.heap.size + 1 → w'.heap[w.heap.size]? = some (.cells x.cs t (0, 0)) → K ⟨w.heap.size, 0, none⟩ w') : Nw (Tup.cells (List.replicate 5 (.i .i64)) x.t).toArray t w K := nw hk
theorem mkRule : Mk P0 23 53 kRule 40 ⟨0, 0, 0, 0, 0⟩ := ⟨by kernel_rfl, ⟨_, _, Option.eq_some_of_isSome (by kernel_rfl), Option.eq_some_of_isSome (by kernel_rfl), by kernel_rfl, by kernel_rfl, by kernel_rfl⟩⟩
theorem noAnyRule : ∀ l ∈ kRule.ls, l ≠ Lf.any := by intro l hl; simp [kRule, List.mem_replicate] at hl; simp [hl]
theorem zRule : (zc P0 53).toList.length = 5 := by kernel_rfl
theorem nwStRule {x : Rule} {P : Program} {w : World} {K : Addr → World → Prop}
    (hk : ∀ w', Below w.heap.size w w' → w'.heap.size = w.heap.size + 1 → w'.heap[w.heap.size]? = some (.cells x.cs 53 (0, 0)) → K ⟨w.heap.size, 0, none⟩ w') :
    Nw (zc P0 53) 53 w (fun a w' => StA P a (Tup.cells (R 5 (.i .i64)) x.t) w' (K a)) :=
  nwSt (cs := Tup.cells (R 5 (.i .i64)) x.t) zRule (oneCell_cells kRule noAnyRule x) hk rfl
section
variable {w : World} {s : Sl} {l : List Rule}
set_option maxHeartbeats 1000000 in
theorem laws.eqRule.c {x y : Rule} {K : Bool → World → Prop} (hk : ∀ w', Below w.heap.size w w' → K (decide (x = y)) w') : CallT (.o (.lf .b)) P0 42 [.agg (Tup.cells (R 5 (.i .i64)) x.t).toArray, .agg (Tup.cells (R 5 (.i .i64)) y.t).toArray] w K := by
  refine laws.eqRule.ok (nwRule fun w1 hb1 hs1 hc1 => nwRule fun w2 hb2 hs2 hc2 => ?_)
  have hc1 := (hb2.block _ (by omega)).trans hc1
  have hk := hk w2 (hb1.trans (hb2.mono hb1.size))
  rcases x with ⟨x0, x1, x2, x3, x4⟩
  rcases y with ⟨y0, y1, y2, y3, y4⟩
  refine ldB hc1 (x := x0) rfl (ldB hc2 (x := y0) rfl ?_)
  refine And.intro (fun h => kof hk (by simp at h; simp [h])) (fun h0 => ?_)
  refine ldB hc1 (x := x1) rfl (ldB hc2 (x := y1) rfl ?_)
  refine And.intro (fun h => kof hk (by simp at h; simp [h])) (fun h1 => ?_)
  refine ldB hc1 (x := x2) rfl (ldB hc2 (x := y2) rfl ?_)
  refine And.intro (fun h => kof hk (by simp at h; simp [h])) (fun h2 => ?_)
  refine ldB hc1 (x := x3) rfl (ldB hc2 (x := y3) rfl ?_)
  refine And.intro (fun h => kof hk (by simp at h; simp [h])) (fun h3 => ?_)
  refine ldB hc1 (x := x4) rfl (ldB hc2 (x := y4) rfl ?_)
  refine And.intro (fun h => kof hk (by simp at h; simp [h])) (fun h4 => kof hk (by simp at h0 h1 h2 h3 h4; simp [h0, h1, h2, h3, h4]))
end
section
variable {w : World} {a b : Sl} {xs ys : List Rule}
theorem laws.eqRuleS.c {K : Bool → World → Prop} (ha : SlR kRule w a xs) (hb : SlR kRule w b ys) (hk : ∀ w', Below w.heap.size w w' → K (decide (xs = ys)) w') : CallT (.o (.lf .b)) P0 16 [a.v, b.v] w K := by
  have hna := ha.len; have hnb := hb.len; have hm := ha.max
  refine laws.eqRuleS.ok ?_
  unfold laws.eqRuleS.vc
  refine And.intro (fun h => kof (hk _ (Below.refl _ _)) ?_) (fun h => ?_)
  · rw [bne_len] at h
    simp only [decide_eq_false_iff_not]; rintro rfl; omega
  · have hle : xs.length = ys.length := by simp at h; omega
    refine ⟨fun i w' => ∃ n : Nat, i = n ∧ n ≤ xs.length ∧ (∀ j < n, xs[j]? = ys[j]?) ∧ Below w.heap.size w w', fun i _ => xs.length - i.toNat, ⟨0, rfl, by omega, by simp, Below.refl _ _⟩, ?_⟩
    rintro i w1 ⟨n, rfl, hn, hE, hb1⟩ _
    refine And.intro (fun hlt => ?_) (fun hge => ?_)
    · simp only [decide_eq_true_eq] at hlt
      obtain ⟨x, hx⟩ := get_some (l := xs) (k := n) (by omega)
      obtain ⟨y, hy⟩ := get_some (l := ys) (k := n) (by omega)
      refine qixA (ha.below hb1) (i := n) (by omega) (x := x) (by simpa using hx) rfl ?_
      refine qixA (hb.below hb1) (i := n) (by omega) (x := y) (by simpa using hy) rfl ?_
      refine qcl (decide (x = y)) (fun w2 hb2 => laws.eqRule.c fun w3 hb3 => ⟨rfl, hb2.trans (hb3.mono hb2.size)⟩) ?_
      intro w2 hb2
      have hbb := hb1.trans (hb2.mono hb1.size)
      refine And.intro (fun hne => kof (hk _ hbb) ?_) (fun he => ?_)
      · simp at hne
        simp only [decide_eq_false_iff_not]; rintro rfl; rw [hx] at hy; simp at hy; exact hne hy
      · simp at he
        simp (disch := omega) only [i64_of]
        refine ⟨⟨n + 1, by omega, by omega, fun j hj => ?_, hbb⟩, by omega⟩
        rcases Nat.lt_or_ge j n with h1 | h1
        · exact hE j h1
        · obtain rfl : j = n := by omega
          rw [hx, hy, he]
    · simp only [decide_eq_false_iff_not] at hge
      refine kof (hk _ hb1) ?_
      simp only [decide_eq_true_eq]
      exact take_ext hle fun j x hx => by rw [← hE j (by have := lt_of_get hx; omega)]; exact hx
end
end Go.Proofs.YtkkdboimkbcfnaaDoor.V

/- Sets of whole numbers: maps from int to bool, all of whose values are true. -/
namespace Go.Proofs.YtkkdboimkbcfnaaDoor.V
open Go Go.RowKit Go.Maps
set_option linter.unusedSimpArgs false
set_option linter.unusedVariables false

theorem keyI : Keyed P0 3 := int_keyed (q := .i64) (by kernel_rfl)
theorem zeroB (w : World) : (zeroValue 4).run P0 w = .ok (.bool false) w := by kernel_rfl
theorem plainElem_bool_inv {H : Type} {P : Program} {e : TypeId} (he : P.underlying e = some .bool) {v : Value} {z : DataW H × List MemPlace} (h : plainElem P e v = some z) : ∃ t, v = .bool t ∧ z = (.lit (.bool t), []) := by
  unfold plainElem at h
  rw [he] at h
  cases v <;> simp at h
  exact ⟨_, rfl, h.symm⟩
abbrev uM : P0.underlying 104 = some (.map 3 4) := by kernel_rfl
abbrev uB : P0.underlying 4 = some .bool := by kernel_rfl
abbrev uI : P0.underlying 3 = some (.int .i64) := by kernel_rfl
/-- The map's keys are the list's members. -/
def Keys (D : DataW Unit) (S : List Int) : Prop := S.Nodup ∧ (∀ x, x ∈ S ↔ has D (.int .i64 x) = true) ∧ ∀ x, D.atKey (.int .i64 x) (.lit (.bool false)) = .lit (.bool (decide (x ∈ S)))
theorem renorm {w : World} {b n : Nat} {D : DataW Unit} {S : List Int} (h : w.ownsMap P0 3 (plainElem P0 4) b n D) (hS : Keys D S) : w.ownsMap P0 3 (plainElem P0 4) b S.length D := by
  obtain ⟨es, hD, hpw, _⟩ := h.entries keyI
  obtain ⟨es', hD', hko⟩ := h.keysOf
  obtain rfl : es = es' := by rw [hD] at hD'; simpa using hD'
  subst hD
  have hp := perm_intKeys (H := Unit) hpw (fun p hp => by obtain ⟨v, hv⟩ := hko p hp; obtain ⟨x, _, hx, _⟩ := keyOf_i64 uI hv; exact ⟨x, hx⟩) hS.1 hS.2.1
  have hl : S.length = es.length := by rw [hp.length_eq]; simp [intKeys]
  obtain ⟨ens, clock, hb, F, hs, hE⟩ := h
  refine ⟨ens, clock, hb, F, ?_, hE⟩
  rw [hl]
  simp only [DataW.map.injEq] at hE
  rw [hE, length_sorted]; simp
def SetM (B : Nat) (w : World) (m : Option Nat) (S : List Int) : Prop :=
  ∃ b D, m = some b ∧ B ≤ b ∧ w.ownsMap (H := Unit) P0 3 (plainElem P0 4) b S.length D ∧ Keys D S
theorem SetM.kept {B : Nat} {w w' : World} {m row : Option Nat} {S : List Int} (h : SetM B w m S) (hg : w.grownBy w' row) (hne : m ≠ row) : SetM B w' m S := by
  obtain ⟨b, D, rfl, hB, ho, hk⟩ := h
  exact ⟨b, D, rfl, hB, ho.kept hg hne, hk⟩
theorem SetM.below {B : Nat} {w w' : World} {m : Option Nat} {S : List Int} (h : SetM B w m S) (hb : Below w.heap.size w w') : SetM B w' m S := h.kept (grown_of_below hb) (by obtain ⟨b, D, rfl, _⟩ := h; simp)
theorem SetM.low {B B' : Nat} {w : World} {m : Option Nat} {S : List Int} (h : SetM B w m S) (hB : B' ≤ B) : SetM B' w m S := by
  obtain ⟨b, D, rfl, hB', r⟩ := h
  exact ⟨b, D, rfl, Nat.le_trans hB hB', r⟩
theorem SetM.blk {B : Nat} {w : World} {m : Option Nat} {S : List Int} (h : SetM B w m S) {b : Nat} (hb : m = some b) : B ≤ b ∧ b < w.heap.size := by
  obtain ⟨b', D, rfl, hB', ho, _⟩ := h
  simp only [Option.some.injEq] at hb; subst hb
  exact ⟨hB', ho.lt⟩
theorem SetM.nodup {B : Nat} {w : World} {m : Option Nat} {S : List Int} (h : SetM B w m S) : S.Nodup := by
  obtain ⟨b, D, rfl, hB', ho, hk⟩ := h
  exact hk.1
/-- Put into a set. -/
def ins (x : Int) (S : List Int) : List Int := if x ∈ S then S else S ++ [x]
theorem mem_ins {x y : Int} {S : List Int} : y ∈ ins x S ↔ y = x ∨ y ∈ S := by
  unfold ins
  split
  · rename_i h
    constructor
    · exact .inr
    · rintro (rfl | h')
      · exact h
      · exact h'
  · simp [or_comm]
theorem nodup_ins {x : Int} {S : List Int} (h : S.Nodup) : (ins x S).Nodup := by
  unfold ins
  split
  · exact h
  · rename_i hx
    exact List.nodup_append.2 ⟨h, by simp, fun a ha b hb => by simp at hb; subst hb; exact fun e => hx (e ▸ ha)⟩
theorem mapNew {w : World} {K : Option Nat → World → Prop} (hk : ∀ m w', SetM w.heap.size w' m [] → Below w.heap.size w w' → w'.heap.size = w.heap.size + 1 → K m w') : RunT (.o (.lf .m)) P0 (Instr.makeMap 104 none) w K :=
  ⟨some w.heap.size, _, run_makeMap _ w, hk _ _ ⟨_, .map [], rfl, Nat.le_refl _, World.ownsMap_made w P0 _ _, by simp [Keys, has, DataW.atKey]⟩ ((Below.refl _ _).alloc (Nat.le_refl _) _) (by simp)⟩
section
variable {B : Nat} {w : World} {m : Option Nat} {S : List Int}
theorem mapPut {x : Int} (h : SetM B w m S) (hx : (Lit.int .i64 x).wf = true) (hS : S.length < maxLen) {K : World → Prop} (hk : ∀ w', SetM B w' m (ins x S) → w.grownBy w' m → K w') :
    RunU P0 (Instr.mapUpdate 104 (.map m) (.int .i64 x) (.bool true)) w K := by
  obtain ⟨b, D, rfl, hB, ho, hK⟩ := h
  obtain ⟨w', hr, ho', hg⟩ := ho.update keyI uM hS (keyOf_int_mk uI hx) (plainElem_bool uB true)
  have hkey : WideAt.IsKeyLit (.int .i64 x) := keyI.key (keyOf_int_mk uI hx)
  have hK' : Keys (D.put (.int .i64 x) (.lit (.bool true))) (ins x S) := by
    refine ⟨nodup_ins hK.1, fun y => ?_, fun y => ?_⟩
    · rw [mem_ins]
      by_cases hy : y = x
      · subst hy; simp [has_put_same ho.isMap hkey]
      · rw [has_put_other (by simpa using hy), ← hK.2.1 y]; simp [hy]
    · by_cases hy : y = x
      · subst hy; rw [atKey_put_same ho.isMap hkey]; simp [mem_ins]
      · rw [atKey_put_other (by simpa using hy), hK.2.2 y]; simp [mem_ins, hy]
  exact ⟨w', hr, hk _ ⟨b, _, rfl, hB, renorm ho' hK', hK'⟩ hg⟩
theorem mapGet {x : Int} (h : SetM B w m S) (hx : (Lit.int .i64 x).wf = true) {K : Bool → World → Prop} (hk : K (decide (x ∈ S)) w) :
    RunT (.o (.lf .b)) P0 (Instr.lookup 104 (.map m) (.int .i64 x) false) w K := by
  obtain ⟨b, D, rfl, hB, ho, hK⟩ := h
  obtain ⟨v, ps, hr, hv⟩ := ho.lookup keyI uM (zeroB w) (plainElem_bool uB false) (keyOf_int_mk uI hx)
  rw [hK.2.2 x] at hv
  obtain ⟨t, rfl, ht⟩ := plainElem_bool_inv uB hv
  simp only [Prod.mk.injEq, DataW.lit.injEq, Lit.bool.injEq] at ht
  obtain ⟨rfl, _⟩ := ht
  exact ⟨_, _, hr, hk⟩
theorem mapLen (h : SetM B w m S) {t : TypeId} {K : Int → World → Prop} (hk : K (S.length : Int) w) : RunT (.o (.lf (.i .i64))) P0 (Builtin.len_ #[104] t #[.map m]) w K := by
  obtain ⟨b, D, rfl, hB, ho, hK⟩ := h
  have hsz : size D = S.length := by
    obtain ⟨es, hD, hpw, _⟩ := ho.entries keyI
    obtain ⟨es', hD', hko⟩ := ho.keysOf
    obtain rfl : es = es' := by rw [hD] at hD'; simpa using hD'
    subst hD
    have hp := perm_intKeys (H := Unit) hpw (fun p hp => by obtain ⟨v, hv⟩ := hko p hp; obtain ⟨x, _, hx, _⟩ := keyOf_i64 uI hv; exact ⟨x, hx⟩) hK.1 hK.2.1
    rw [hp.length_eq]; simp [intKeys, size]
  have := ho.len uM t
  rw [hsz] at this
  exact ⟨_, _, this, hk⟩
/-- A loop over a set: the members that have come. -/
def RgM (B Br : Nat) (w : World) (m : Option Nat) (a : Addr) (S ss : List Int) : Prop :=
  ∃ b r D left cnt, m = some b ∧ B ≤ b ∧ a = ⟨r, 0, none⟩ ∧ Br ≤ r ∧ w.ranges (H := Unit) P0 3 (plainElem P0 4) b r S.length D left cnt ∧ Keys D S ∧ CollectedI D left ss
def rgl (w : World) (m : Option Nat) (a : Addr) : Nat := w.rangeLeft (m.getD 0) a.block
theorem RgM.set {Br : Nat} {a : Addr} {ss : List Int} (h : RgM B Br w m a S ss) : SetM B w m S := by
  obtain ⟨b, r, D, left, cnt, rfl, hB, rfl, hBr, hr, hK, hc⟩ := h
  exact ⟨b, D, rfl, hB, hr.owns, hK⟩
theorem RgM.kept {Br : Nat} {a : Addr} {ss : List Int} {w' : World} {row : Option Nat} (h : RgM B Br w m a S ss) (hg : w.grownBy w' row) (h1 : m ≠ row) (h2 : some a.block ≠ row) : RgM B Br w' m a S ss ∧ rgl w' m a = rgl w m a := by
  obtain ⟨b, r, D, left, cnt, rfl, hB, rfl, hBr, hr, hK, hc⟩ := h
  have hr' := hr.kept hg h1 h2
  exact ⟨⟨b, r, D, left, cnt, rfl, hB, rfl, hBr, hr', hK, hc⟩, by show w'.rangeLeft b r = w.rangeLeft b r; rw [hr.left_eq, hr'.left_eq]⟩
theorem RgM.blk {Br : Nat} {a : Addr} {ss : List Int} (h : RgM B Br w m a S ss) : Br ≤ a.block ∧ a.block < w.heap.size := by
  obtain ⟨b, r, D, left, cnt, rfl, hB, rfl, hBr, hr, hK, hc⟩ := h
  exact ⟨hBr, hr.lt⟩
theorem RgM.nodup {Br : Nat} {a : Addr} {ss : List Int} (h : RgM B Br w m a S ss) : ss.Nodup ∧ ∀ x ∈ ss, x ∈ S := by
  obtain ⟨b, r, D, left, cnt, rfl, hB, rfl, hBr, hr, hK, hc⟩ := h
  exact ⟨hc.1, fun x hx => (hK.2.1 x).2 ((hc.2 x).1 hx).1⟩
theorem mapRange (h : SetM B w m S) {K : Addr → World → Prop} (hk : ∀ a w', RgM B w.heap.size w' m a S [] → Below w.heap.size w w' → K a w') : RunT (.o (.lf .ad)) P0 (Instr.range 104 (.map m)) w K := by
  obtain ⟨b, D, rfl, hB, ho, hK⟩ := h
  obtain ⟨w', hr, hrg, hg, hs⟩ := ho.range keyI uM
  exact ⟨_, w', hr, hk _ _ ⟨b, _, D, _, _, rfl, hB, rfl, Nat.le_refl _, hrg, hK, CollectedI.start D⟩ ((Below.refl _ _).grown hg (Nat.le_refl _) (by simp))⟩
theorem mapNext {Br : Nat} {a : Addr} {ss : List Int} (h : RgM B Br w m a S ss) {t : TypeId} {Kt : (Int × Bool × Unit) → World → Prop} {Kf : World → Prop}
    (ht : ∀ x u w', x ∈ S → x ∉ ss → (Lit.int .i64 x).wf = true → RgM B Br w' m a S (ss ++ [x]) → w.grownBy w' (some a.block) → rgl w' m a < rgl w m a → Kt (x, u, ()) w') (hf : ss.Perm S → Kf w) :
    Nx P0 (.pointer (some a)) false t w (fun more rest w' => (more = true → RunT (.n [(.lf (.i .i64)), (.lf .b)]) P0 (Instr.entry (.pointer (some a))) w' Kt) ∧ (more = false → Kf w')) := by
  obtain ⟨b, r, D, left, cnt, rfl, hB, rfl, hBr, hr, hK, hc⟩ := h
  rcases hr.next keyI t with ⟨_, hl, hrun⟩ | ⟨key, v, kl, y, w', cnt', hkey, hlk, hv, hat, hrun, hr', hlt, hg, hs, hent⟩
  · refine ⟨false, [], w, hrun, by simp, fun _ => hf ?_⟩
    refine (List.perm_ext_iff_of_nodup hc.1 hK.1).2 fun x => ?_
    rw [hc.2 x, hl, ← hK.2.1 x]; simp
  · obtain ⟨x, rfl, rfl, hw⟩ := keyOf_i64 uI hkey
    obtain ⟨u, rfl, _⟩ := plainElem_bool_inv uB hv
    refine ⟨true, [.int .i64 x, .bool u], w', hrun, fun _ => ⟨(x, u, ()), w', hent, ht x u w' ?_ ?_ hw ⟨b, r, D, _, cnt', rfl, hB, rfl, hBr, hr', hK, hc.step hlk hat⟩ hg ?_⟩, by simp⟩
    · exact (hK.2.1 x).2 (has_true_of_atKey hat)
    · intro hx
      have := ((hc.2 x).1 hx).2
      rw [hlk] at this; simp at this
    · show w'.rangeLeft b r < w.rangeLeft b r
      rw [hr.left_eq, hr'.left_eq]; exact hlt
end
/-- make of no element, with room. -/
theorem mkO {w : World} {n : Nat} (hm : n ≤ 17592186044416) {K : Sl → World → Prop} (hk : ∀ s w', OwnS kI 3 w.heap.size w' s [] → Below w.heap.size w w' → K s w') :
    RunT (.o (.lf .sl)) P0 (Instr.makeSlice 42 (.int .i64 0) (.int .i64 (n : Int))) w K := by
  obtain ⟨i, z, hi, hz, hsz, hby, hzs⟩ := elI.info
  obtain ⟨w', hr, ho, hg⟩ := run_make_own (P := P0) w w.heap.size 42 3 i z kI.ls.length elI.elem hi hz hsz .i64 .i64 n (by rw [hby]; omega) (by simp only [maxLen]; omega) (Nat.le_refl _)
  exact ⟨⟨_, 0, n⟩, w', hr, hk _ _ ⟨rfl, ho⟩ ((Below.refl _ _).grown hg (Nat.le_refl _) (by simp))⟩
end Go.Proofs.YtkkdboimkbcfnaaDoor.V

/- Rows of bits, what is collected from them, and sorted sets. -/
namespace Go.Proofs.YtkkdboimkbcfnaaDoor.V
open Go Go.RowKit Go.Maps
set_option linter.unusedSimpArgs false
set_option linter.unusedVariables false

def bits (n : Nat) (f : Nat → Bool) : List Bool := (List.range n).map f
theorem bits_get {n i : Nat} {f : Nat → Bool} (h : i < n) : (bits n f)[i]? = some (f i) := by simp [bits, h]
theorem bits_length (n : Nat) (f : Nat → Bool) : (bits n f).length = n := by simp [bits]
theorem bits_set {n j : Nat} {f : Nat → Bool} : (bits n f).set j true = bits n (fun i => f i || decide (i = j)) := by
  refine List.ext_getElem? fun i => ?_
  rcases Nat.lt_or_ge i n with hi | hi
  · by_cases hj : j = i
    · subst hj
      rw [List.getElem?_set_self (by simpa [bits_length] using hi), bits_get hi]; simp
    · rw [List.getElem?_set_ne hj, bits_get hi, bits_get hi]; simp; intro e; exact absurd e.symm hj
  · rw [List.getElem?_eq_none (by simp [bits_length, hi]), List.getElem?_eq_none (by simp [bits_length, hi])]
theorem bits_rep (n : Nat) : List.replicate n false = bits n (fun _ => false) := by
  refine List.ext_getElem? fun i => ?_
  rcases Nat.lt_or_ge i n with hi | hi
  · rw [bits_get hi, List.getElem?_replicate_of_lt hi]
  · rw [List.getElem?_eq_none (by simp [hi]), List.getElem?_eq_none (by simp [bits_length, hi])]
/-- The places at which a bit is set, ascending. -/
def picks (n : Nat) (f : Nat → Bool) : List Int := ((List.range n).filter f).map fun i : Nat => (i : Int)
theorem picks_succ (n : Nat) (f : Nat → Bool) : picks (n + 1) f = if f n = true then picks n f ++ [(n : Int)] else picks n f := by
  unfold picks
  rw [List.range_succ, List.filter_append, List.map_append]
  split
  · rename_i h; simp [h]
  · rename_i h; simp [h]
theorem picks_le (n : Nat) (f : Nat → Bool) : (picks n f).length ≤ n := by
  unfold picks
  rw [List.length_map]
  exact Nat.le_trans (List.length_filter_le _ _) (by simp)
theorem mem_picks {n : Nat} {f : Nat → Bool} {x : Int} : x ∈ picks n f ↔ ∃ i : Nat, x = i ∧ i < n ∧ f i = true := by
  unfold picks
  simp only [List.mem_map, List.mem_filter, List.mem_range]
  constructor
  · rintro ⟨i, ⟨h1, h2⟩, rfl⟩; exact ⟨i, rfl, h1, h2⟩
  · rintro ⟨i, rfl, h1, h2⟩; exact ⟨i, ⟨h1, h2⟩, rfl⟩
theorem picks_asc (n : Nat) (f : Nat → Bool) : (picks n f).Pairwise (· < ·) := by
  induction n with
  | zero => exact List.Pairwise.nil
  | succ n ih =>
    rw [picks_succ]
    split
    · refine List.pairwise_append.2 ⟨ih, by simp, fun a ha b hb => ?_⟩
      obtain ⟨i, rfl, hi, _⟩ := mem_picks.1 ha
      simp at hb; omega
    · exact ih
theorem picks_nodup (n : Nat) (f : Nat → Bool) : (picks n f).Nodup := (picks_asc n f).imp fun h => by omega
theorem picks_congr {n : Nat} {f g : Nat → Bool} (h : ∀ i, i < n → f i = g i) : picks n f = picks n g := by
  unfold picks
  rw [List.filter_congr fun x hx => h x (List.mem_range.1 hx)]
theorem sorted_id {xs : List Int} (h : xs.Pairwise (· < ·)) : sorted xs = xs := by
  unfold sorted
  exact List.mergeSort_of_pairwise (h.imp fun h => by simp; omega)
theorem sorted_perm' {xs ys : List Int} (h : xs.Perm ys) : sorted xs = sorted ys := mergeSort_of_perm_i h
theorem sorted_length (xs : List Int) : (sorted xs).length = xs.length := by simp [sorted]
theorem sorted_eq {S : List Int} {n : Nat} {f : Nat → Bool} (h : S.Nodup) (hS : ∀ x, x ∈ S ↔ ∃ i : Nat, x = i ∧ i < n ∧ f i = true) : sorted S = picks n f := by
  rw [← sorted_id (picks_asc n f)]
  exact sorted_perm' ((List.perm_ext_iff_of_nodup h (picks_nodup n f)).2 fun x => by rw [hS, mem_picks])
theorem mkB : Mk P0 99 4 kB 1 false := ⟨by kernel_rfl, ⟨_, _, Option.eq_some_of_isSome (by kernel_rfl), Option.eq_some_of_isSome (by kernel_rfl), by kernel_rfl, by kernel_rfl, by kernel_rfl⟩⟩
theorem nodup_nat : ∀ (n : Nat) (l : List Nat), l.Nodup → (∀ x ∈ l, x < n) → l.length ≤ n
  | 0, l, _, h => by
    cases l with
    | nil => simp
    | cons x l => exact absurd (h x List.mem_cons_self) (by omega)
  | n + 1, l, hl, h => by
    by_cases hm : n ∈ l
    · have := nodup_nat n (l.erase n) (hl.erase n) (fun x hx => by have h1 := (List.Nodup.mem_erase_iff hl).1 hx; have := h x h1.2; have := h1.1; omega)
      rw [List.length_erase_of_mem hm] at this
      omega
    · have := nodup_nat n l hl (fun x hx => by have := h x hx; have : x ≠ n := fun e => hm (e ▸ hx); omega)
      omega
/-- A nodup list of places below n is no longer than n. -/
theorem nodup_le {S : List Int} {n : Nat} (h : S.Nodup) (hS : ∀ x ∈ S, 0 ≤ x ∧ x < (n : Int)) : S.length ≤ n := by
  have h1 : (S.map Int.toNat).Nodup := by
    refine List.pairwise_map.2 (List.Pairwise.imp_of_mem (fun {a b} ha hb hne e => hne ?_) h)
    have := hS a ha; have := hS b hb; omega
  have := nodup_nat n _ h1 (fun x hx => by obtain ⟨y, hy, rfl⟩ := List.mem_map.1 hx; have := hS y hy; omega)
  simpa using this
/-- The loop that collects places. -/
theorem collect {isS out0 : Sl} {n m : Nat} {f : Nat → Bool} {w : World} {B : Nat} {K : Sl → World → Prop} (h : SlR kB w isS (bits m f)) (hn : n ≤ m) (hm : n ≤ 1048600) (ho : OwnS kI 3 B w out0 []) (hB : B ≤ w.heap.size)
    (hsep : ∀ b o, isS.a = some ⟨b, o, none⟩ → b < w.heap.size ∧ ∀ b', out0.bk = some b' → b ≠ b')
    (hk : ∀ out w', OwnS kI 3 B w' out (picks n f) → (∀ B', B' ≤ B → Below B' w w') → K out w') :
    ∃ (I : Sl → Int → World → Prop) (M : Sl → Int → World → Nat), I out0 0 w ∧ (∀ (out : Sl) (i : Int) w1, I out i w1 → ∀ _ : Nat → Value,
      ((decide ((i : Int) < (n : Int))) = true → Ix isS.a isS.n i 1 w1 fun a w2 => Ld .b a w2 fun (t : Bool) w3 =>
        (t = true → Nw #[(.int .i64 i)] 3 w3 fun a w4 => RunT (.o (.lf .sl)) P0 (Builtin.append_ #[42, 42] 42 #[out.v, (.slice (some a) 1 1)]) w4 fun (t75 : Sl) w5 =>
          (I t75 (IntKind.wrap .i64 (i + 1)) w5 ∧ M t75 (IntKind.wrap .i64 (i + 1)) w5 < M out i w1)) ∧
        (t = false → (I out (IntKind.wrap .i64 (i + 1)) w3 ∧ M out (IntKind.wrap .i64 (i + 1)) w3 < M out i w1))) ∧
      ((decide ((i : Int) < (n : Int))) = false → K out w1)) := by
  refine ⟨fun out i w' => ∃ j : Nat, i = j ∧ j ≤ n ∧ OwnS kI 3 B w' out (picks j f) ∧ SlR kB w' isS (bits m f) ∧ w.heap.size ≤ w'.heap.size ∧ (∀ B', B' ≤ B → Below B' w w') ∧
      (∀ b o, isS.a = some ⟨b, o, none⟩ → ∀ b', out.bk = some b' → b ≠ b'), fun _ i _ => n - i.toNat,
    ⟨0, rfl, by omega, by simpa [picks] using ho, h, Nat.le_refl _, fun B' hB' => (Below.refl _ _), fun b o hb => (hsep b o hb).2⟩, ?_⟩
  rintro out i w1 ⟨j, rfl, hj, ho1, h1, hs1, hb1, hsep1⟩ _
  refine And.intro (fun hlt => ?_) (fun hge => ?_)
  · simp only [decide_eq_true_eq] at hlt
    refine ixL h1 (i := j) (by omega) (x := f j) (by rw [Int.toNat_natCast]; exact bits_get (by omega)) rfl (l := .b) (v := f j) rfl ?_
    have hp := picks_le j f
    refine And.intro (fun hf => ?_) (fun hf => ?_)
    · refine ap1 elI ho1 (j : Int) rfl (by omega) (by omega) (by omega) fun s' w' ho' hg' hbk => ?_
      rw [i64_in (by omega) (by omega)]
      refine ⟨⟨j + 1, by omega, by omega, by rw [picks_succ, if_pos hf]; exact ho', h1.kept2 hg' (fun b o hb e => hsep1 b o hb b ((ob_bk out).symm.trans e) rfl), Nat.le_trans hs1 hg'.size, ?_, ?_⟩, by simp only; omega⟩
      · intro B' hB'
        exact (hb1 B' hB').grown hg' (by omega) (fun b hb => by have := (ho1.blk hb).1; omega)
      · intro b o hb b' hb' e
        rcases hbk b' ((ob_bk s').trans hb') with h2 | h2
        · exact hsep1 b o hb b' ((ob_bk out).symm.trans h2) e
        · have := (hsep b o hb).1; omega
    · rw [i64_in (by omega) (by omega)]
      exact ⟨⟨j + 1, by omega, by omega, by rw [picks_succ, if_neg (by simp [hf])]; exact ho1, h1, hs1, hb1, hsep1⟩, by simp only; omega⟩
  · simp only [decide_eq_false_iff_not] at hge
    obtain rfl : j = n := by omega
    exact hk _ _ ho1 hb1
end Go.Proofs.YtkkdboimkbcfnaaDoor.V

/- Verification conditions, printed by this session's own program (wip/vc.py) and checked by the kernel. -/
namespace Go.Proofs.YtkkdboimkbcfnaaDoor.V
open Go Go.RowKit
set_option linter.unusedVariables false
/- (impl.places).sorted -/
def impl.places.sorted.pl : Pl := (.s (.r (D 1)) (.s (.r [.d, (.t (.o (.lf (.i .i64)))), (.t (.o (.lf .sl))), .d]) (.s (.s (.r [.d, (.t (.o (.lf .ad)))]) (.b (.l [(3, .sl)] (.s (.r (D 2)) (.s (.c .z .z) (.b (.s (.r [(.t (.n [(.lf (.i .i64)), (.lf .b)])), .d, .d]) (.r [.d, .d, .d, (.t (.o (.lf .sl))), .d])))))))) (.s (.r [.d, (.c .z)]) (.s (.r (D 2)) .z)))))
def impl.places.sorted.vc (p : Option Nat) (w : World) (K : Sl → World → Prop) : Prop :=
RunT (.o (.lf (.i .i64))) P0 (Builtin.len_ #[104] 3 #[(.map p)]) w fun (t6 : Int) w_ =>
RunT (.o (.lf .sl)) P0 (Instr.makeSlice 42 (.int .i64 0) (.int .i64 t6)) w_ fun (t7 : Sl) w__1 =>
RunT (.o (.lf .ad)) P0 (Instr.range 104 (.map p)) w__1 fun (t9 : Addr) w__2 =>
∃ (I : Sl → World → Prop) (M : Sl → World → Nat),
I t7 w__2 ∧
(∀ (out : Sl) w__3, I out w__3 → ∀ _ : Nat → Value,
Nx P0 (.pointer (some t9)) false 0 w__3 fun more rest w__4 =>
(more = true → RunT (.n [(.lf (.i .i64)), (.lf .b)]) P0 (Instr.entry (.pointer (some t9))) w__4 fun (t12 : (Int) × (Bool) × Unit) w__5 =>
Nw #[(.int .i64 t12.1)] 3 w__5 fun a_t16 w__6 =>
RunT (.o (.lf .sl)) P0 (Builtin.append_ #[42, 42] 42 #[out.v, (.slice (some a_t16) 1 1)]) w__6 fun (t17 : Sl) w__7 =>
(I t17 w__7 ∧ M t17 w__7 < M out w__3)) ∧
(more = false → CallT .z P0 103 [out.v] w__4 fun (u : Unit) w__8 =>
K out w__8))
theorem impl.places.sorted.ok {p : Option Nat} {w : World} {K : Sl → World → Prop} (h : impl.places.sorted.vc p w K) : CallT (.o (.lf .sl)) P0 84 [(.map p)] w K :=
  call_of Tryd.func84 rfl rfl (pl := impl.places.sorted.pl) (show VC P0 Tryd.f84 impl.places.sorted.pl (.o (.lf .sl)) [(.map p)] w K noP from Eq.mp (by kernel_rfl) h)
end Go.Proofs.YtkkdboimkbcfnaaDoor.V

/- Contracts: the places to which an op may lead. -/
namespace Go.Proofs.YtkkdboimkbcfnaaDoor.V
open Go Go.RowKit
set_option linter.unusedVariables false
set_option linter.unusedSimpArgs false

/-- The places to which an op may lead, ascending. -/
def nextX (i : Int) (x : Ins) : List Int :=
  if x.op = 20 then [] else if x.op = 16 then [tgt i x] else if 12 ≤ x.op ∧ x.op ≤ 15 then (if x.off = 0 then [i + 1] else if x.off < 0 then [tgt i x, i + 1] else [i + 1, tgt i x]) else [i + 1]
theorem sorted2 (a b : Int) : sorted [a, b] = if a ≤ b then [a, b] else [b, a] := by
  unfold sorted
  by_cases h : a ≤ b <;> simp [List.mergeSort, List.MergeSort.Internal.splitInTwo, h, List.merge]
theorem compact2 (a b : Int) : Lib.compact [a, b] = if a = b then [a] else [a, b] := by
  by_cases h : a = b
  · subst h; simp [Lib.compact, Lib.compactUpTo, Lib.keeps, List.range_succ, List.filter]
  · have h' : b ≠ a := fun e => h e.symm
    simp [Lib.compact, Lib.compactUpTo, Lib.keeps, List.range_succ, List.filter, h, h']
section
variable {w : World} {s : Sl} {l : List Ins}
end
end Go.Proofs.YtkkdboimkbcfnaaDoor.V

/- Contracts: spec.FlowNext and impl.FlowNext, and the law ExactFlowNext. -/
namespace Go.Proofs.YtkkdboimkbcfnaaDoor.V
open Go Go.RowKit
set_option linter.unusedVariables false
set_option linter.unusedSimpArgs false
theorem formGo_ins {all : List Ins} : ∀ {m : Nat} {l : List Ins}, formGo all m l = 0 → ∀ x ∈ l, InsP x
  | _, [], _, x, hx => by simp at hx
  | m, y :: l, h, x, hx => by
    simp only [formGo] at h
    split at h
    · simp at h
    · rename_i hy
      split at h
      · simp at h
      · rcases List.mem_cons.1 hx with rfl | hx
        · exact Classical.not_not.1 hy
        · exact formGo_ins h x hx
theorem formP_ins {l : List Ins} (h : formP l = 0) {x : Ins} (hx : x ∈ l) : InsP x := formGo_ins h x hx
/-- What both sides answer. -/
def flowNext (l : List Ins) (i : Int) : List Int :=
  if formP l ≠ 0 ∨ ¬ (0 ≤ i ∧ i ≤ (l.length : Int) - 1) then [] else match l[i.toNat]? with | some x => nextX i x | none => []
section
variable {w : World} {s : Sl} {l : List Ins}
theorem nextX_length (i : Int) (x : Ins) : (nextX i x).length ≤ 2 := by unfold nextX; split <;> (try split) <;> (try split) <;> (try split) <;> (try split) <;> simp
theorem flowNext_length (l : List Ins) (i : Int) : (flowNext l i).length ≤ 2 := by
  unfold flowNext
  split
  · simp
  · split
    · exact nextX_length _ _
    · simp
end
end Go.Proofs.YtkkdboimkbcfnaaDoor.V

/- Contracts: sorted sets, and where blocks begin. -/
namespace Go.Proofs.YtkkdboimkbcfnaaDoor.V
open Go Go.RowKit
set_option linter.unusedVariables false
set_option linter.unusedSimpArgs false
theorem wf_i64 {x : Int} (h0 : -9223372036854775808 ≤ x) (h1 : x ≤ 9223372036854775807) : (Lit.int .i64 x).wf = true := WalkArith.wf_i64 ⟨h0, h1⟩
theorem ins_le {x : Int} {S : List Int} {n : Nat} (h : S.length ≤ n) : (ins x S).length ≤ n + 1 := by
  unfold ins
  split
  · omega
  · rw [List.length_append]; simp; exact h
section
variable {w : World} {s : Sl} {l : List Ins}
theorem impl.places.sorted.c {B : Nat} {m : Option Nat} {S : List Int} {K : Sl → World → Prop} (h : SetM B w m S) (hS : S.length ≤ 1048600)
    (hk : ∀ r w', Below w.heap.size w w' → OwnS kI 3 w.heap.size w' r (sorted S) → K r w') : CallT (.o (.lf .sl)) P0 84 [.map m] w K := by
  refine impl.places.sorted.ok (mapLen h ?_)
  refine mkO (by omega) fun o w1 ho1 hb1 => ?_
  have h1 := h.below hb1
  refine mapRange h1 fun a w2 hr2 hb2 => ?_
  have hsz := hb1.size
  refine ⟨fun out w' => ∃ ss, OwnS kI 3 w.heap.size w' out ss ∧ RgM B w1.heap.size w' m a S ss ∧ Below w.heap.size w w' ∧ out.bk ≠ some a.block ∧ w1.heap.size ≤ w'.heap.size, fun out w' => rgl w' m a,
    ⟨[], ho1.below hb2, hr2, hb1.trans (hb2.mono hsz), fun e => by have := (ho1.blk ((ob_bk o).trans e)).2; have := hr2.blk.1; omega, hb2.size⟩, ?_⟩
  rintro out w3 ⟨ss, ho3, hr3, hb3, hne, hs3⟩ _
  refine mapNext hr3 (fun x u w4 hx hnx hw hr4 hg4 hlt => ?_) (fun hp => ?_)
  · have ho4 := ho3.kept hg4 (fun b hb e => hne (by rw [← ob_bk, e]; exact hb.symm))
    have hnd := hr4.nodup
    have hlen : (ss ++ [x]).length ≤ S.length := by
      have h1 := hnd.1
      exact (List.Nodup.length_le_of_subset h1 hnd.2)
    simp only [List.length_append, List.length_cons, List.length_nil] at hlen
    have hs4 := hg4.size
    refine ap1 elI ho4 x rfl (by omega) (by omega) (by have := hb3.size; omega) fun s' w5 ho5 hg5 hbk => ?_
    have hm : m ≠ out.bk := fun e => by
      have h2 := hr4.set
      cases m with
      | none => obtain ⟨b, D, hb, _⟩ := h2; simp at hb
      | some b =>
        have h3 := (h.blk rfl).2
        have h4 := (ho4.blk ((ob_bk out).trans e.symm)).1
        omega
    have hg5' := hg5
    rw [ob_bk] at hg5'
    obtain ⟨hr5, hl5⟩ := hr4.kept hg5' hm (Ne.symm hne)
    refine ⟨⟨_, ho5, hr5, ?_, ?_, Nat.le_trans hs3 (Nat.le_trans hs4 hg5.size)⟩, by show rgl w5 m a < rgl w3 m a; omega⟩
    · refine ((hb3.grown hg4 hb3.size (fun b hb => ?_))).grown hg5 (by have := hb3.size; omega) (fun b hb => (ho4.blk hb).1)
      simp only [Option.some.injEq] at hb
      have := hr3.blk.1; omega
    · intro e
      rcases hbk _ ((ob_bk s').trans e) with h2 | h2
      · exact hne ((ob_bk out).symm.trans h2)
      · have := hr4.blk.2; omega
  · have hlen := hp.length_eq
    refine sort_own ho3 (by omega) fun w4 ho4 hg4 => ?_
    rw [sorted_perm' hp] at ho4
    exact hk _ _ (hb3.grown hg4 hb3.size (fun b hb => (ho3.blk hb).1)) ho4
/-- A block begins here, so far as the first n ops say. -/
def begins (l : List Ins) (n : Nat) (i : Int) : Prop := i = 0 ∨ ∃ j x, j < n ∧ l[j]? = some x ∧ ((goesP x ∧ (tgt j x = i ∨ (j : Int) + 1 = i)) ∨ (x.op = 20 ∧ (j : Int) + 1 = i))
theorem begins_zero (l : List Ins) (i : Int) : begins l 0 i ↔ i = 0 := by
  unfold begins
  constructor
  · rintro (h | ⟨j, x, h, _⟩)
    · exact h
    · omega
  · exact .inl
theorem begins_succ {l : List Ins} {n : Nat} {x : Ins} (hx : l[n]? = some x) (i : Int) : begins l (n + 1) i ↔ begins l n i ∨ (goesP x ∧ (tgt n x = i ∨ (n : Int) + 1 = i)) ∨ (x.op = 20 ∧ (n : Int) + 1 = i) := by
  unfold begins
  constructor
  · rintro (h | ⟨j, y, hj, hy, h⟩)
    · exact .inl (.inl h)
    · by_cases e : j = n
      · subst e; rw [hx] at hy; simp only [Option.some.injEq] at hy; subst hy; exact .inr h
      · exact .inl (.inr ⟨j, y, by omega, hy, h⟩)
  · rintro ((h | ⟨j, y, hj, hy, h⟩) | h)
    · exact .inl h
    · exact .inr ⟨j, y, by omega, hy, h⟩
    · exact .inr ⟨n, x, by omega, hx, h⟩
open Classical in
noncomputable def flowBlocks (l : List Ins) : List Int := if formP l ≠ 0 then [] else picks l.length fun i => decide (begins l l.length i)
theorem formGo_tgt {all : List Ins} : ∀ {m : Nat} {l : List Ins}, formGo all m l = 0 → ∀ j x, l[j]? = some x → goesP x → 0 ≤ tgt (m + j : Nat) x ∧ tgt (m + j : Nat) x ≤ (all.length : Int) - 1
  | _, [], _, j, x, hx, _ => by simp at hx
  | m, y :: l, h, j, x, hx, hg => by
    simp only [formGo] at h
    split at h
    · simp at h
    · split at h
      · simp at h
      · rename_i hn
        cases j with
        | zero =>
          simp only [List.getElem?_cons_zero, Option.some.injEq] at hx
          subst hx
          simp only [hg, true_and] at hn
          simpa using Classical.not_not.1 (fun e => hn (by simpa using e))
        | succ j =>
          have := formGo_tgt h j x (by simpa using hx) hg
          rw [show m + (j + 1) = m + 1 + j by omega]; exact this
theorem formP_tgt {l : List Ins} (h : formP l = 0) {j : Nat} {x : Ins} (hx : l[j]? = some x) (hg : goesP x) : 0 ≤ tgt j x ∧ tgt j x ≤ (l.length : Int) - 1 := by
  have := formGo_tgt h j x hx hg; rwa [Nat.zero_add] at this
theorem formGo_end {all : List Ins} : ∀ {m : Nat} {l : List Ins}, formGo all m l = 0 → endP all = 0
  | _, [], h => by simpa [formGo] using h
  | m, y :: l, h => by
    simp only [formGo] at h
    split at h
    · simp at h
    · split at h
      · simp at h
      · exact formGo_end h
theorem formP_size {l : List Ins} (h : formP l = 0) : 0 < l.length ∧ l.length ≤ 48 := by
  have h1 := formGo_end (all := l) h
  constructor
  · cases l with
    | nil => simp [endP_nil rfl] at h1
    | cons => simp
  · rcases Nat.lt_or_ge 48 l.length with h2 | h2
    · rw [endP_many h2] at h1; simp at h1
    · exact h2
/-- Set a bit of a row. -/
theorem stBit {B : Nat} {w : World} {r : Sl} {n : Nat} {f : Nat → Bool} {i : Int} (h : WrS kB 4 B w r (bits n f)) (h0 : 0 ≤ i) (h1 : i < n) {K : World → Prop}
    (hk : ∀ w', WrS kB 4 B w' r (bits n fun j => f j || decide (j = i.toNat)) → w.grownBy w' r.bk → K w') : Ix r.a r.n i 1 w fun a w1 => St a (.bool true) w1 K :=
  ixStL h h0 (x := f i.toNat) (bits_get (by omega)) rfl rfl rfl true rfl fun w' hw hg _ => hk w' (by rw [bits_set] at hw; exact hw) hg
theorem flowBlocks_length (l : List Ins) : (flowBlocks l).length ≤ 48 := by
  unfold flowBlocks
  split
  · simp
  · rename_i h
    have h1 := formP_size (l := l) (Classical.not_not.1 h)
    exact Nat.le_trans (picks_le _ _) h1.2
end
end Go.Proofs.YtkkdboimkbcfnaaDoor.V

/- Contracts: which rules are ok, on both sides; what they cut bytes at. -/
namespace Go.Proofs.YtkkdboimkbcfnaaDoor.V
open Go Go.RowKit
set_option linter.unusedVariables false
set_option linter.unusedSimpArgs false
def RuleP (x : Rule) : Prop := (0 ≤ x.at_ ∧ x.at_ ≤ 11) ∧ (12 ≤ x.op ∧ x.op ≤ 15) ∧ (0 ≤ x.num ∧ x.num ≤ 255) ∧ (0 ≤ x.verdict ∧ x.verdict ≤ 2) ∧ (0 ≤ x.key ∧ x.key ≤ 4294967295) ∧ (x.key = 0 ∨ x.verdict = 2)
instance (x : Rule) : Decidable (RuleP x) := by unfold RuleP; infer_instance
def RulesP (l : List Rule) : Prop := l.length ≤ 6 ∧ ∀ x ∈ l, RuleP x
instance (l : List Rule) : Decidable (RulesP l) := by unfold RulesP; infer_instance
section
variable {w : World} {s : Sl} {l : List Rule} {K : Bool → World → Prop}
theorem impl.Rule.valid.c {x : Rule} (hk : ∀ w', Below w.heap.size w w' → K (decide (RuleP x)) w') : CallT (.o (.lf .b)) P0 36 [.agg (Tup.cells (R 5 (.i .i64)) x.t).toArray] w K := by
  refine impl.Rule.valid.ok (nwRule fun w1 hb hs hc => ?_)
  have hk := hk w1 hb
  (repeat' (first | refine ldB hc rfl ?_ | refine impl.within.c ?_ | refine impl.kind.asks.c ?_ | refine impl.numOk.c ?_ | refine And.intro (fun _ => ?_) (fun _ => ?_)))
  all_goals
    refine kof hk (dec_eq ?_)
    clear hk hb hc
    grind [RuleP]
theorem spec.l9RuleOk.c {x : Rule} (hk : ∀ w', Below w.heap.size w w' → K (decide (RuleP x)) w') : CallT (.o (.lf .b)) P0 62 [.agg (Tup.cells (R 5 (.i .i64)) x.t).toArray] w K := by
  refine spec.l9RuleOk.ok (nwRule fun w1 hb hs hc => ?_)
  have top : ∀ {C : World → Prop} {K : Int → Prop}, K 4294967295 → QCl (.o (.lf (.i .i64))) P0 94 [] C K := fun hK => qcl _ (fun w2 hb2 => spec.l2Top.ok ⟨rfl, hb2⟩) hK
  have q : ∀ {C : World → Prop} {K : Bool → Prop} {n lo hi : Int}, K (decide (lo ≤ n ∧ n ≤ hi)) → QCl (.o (.lf .b)) P0 79 [.int .i64 n, .int .i64 lo, .int .i64 hi] C K := fun hK => qcl _ (fun w2 hb2 => spec.l1In.c ⟨rfl, hb2⟩) hK
  (repeat' (first | refine qldB hc rfl ?_ | refine q ?_ | refine top ?_ | refine And.intro (fun _ => ?_) (fun _ => ?_) | refine fun w2 hb2 => ?_))
  all_goals
    refine kof (hk _ (hb.trans (hb2.mono hb.size))) (dec_eq ?_)
    clear hk hb hc hb2 q top
    grind [RuleP]
theorem impl.RulesOk_1.c {x : Rule} (hk : ∀ w', Below w.heap.size w w' → K (!decide (RuleP x)) w') : CallT (.o (.lf .b)) P0 35 [.agg (Tup.cells (R 5 (.i .i64)) x.t).toArray] w K := by
  refine impl.RulesOk_1.ok (nwRule fun w1 hb hs hc => ?_)
  refine ldAB hc (x := x.t) rfl ?_
  exact impl.Rule.valid.c (x := x) fun w2 hb2 => hk w2 (hb.trans (hb2.mono hb.size))
theorem slices.IndexFunc_Rule_ok.c {K : Int → World → Prop} (h : SlR kRule w s l) (hk : ∀ w' (i : Int), Below w.heap.size w w' → (i < 0 ↔ ∀ x ∈ l, RuleP x) → K i w') :
    CallT (.o (.lf (.i .i64))) P0 66 [s.v, (.func (.func 35) #[] #[])] w K := by
  have hn := h.len; have hm := h.max
  refine slices.IndexFunc_Rule_ok.ok ⟨fun i w' => ∃ n : Nat, i = n ∧ n ≤ l.length ∧ (∀ x ∈ l.take n, RuleP x) ∧ Below w.heap.size w w', fun i _ => l.length - i.toNat, ⟨0, rfl, by omega, by simp, Below.refl _ _⟩, ?_⟩
  rintro i w1 ⟨n, rfl, hnl, hp, hb⟩ _
  refine And.intro (fun hlt => ?_) (fun hge => ?_)
  · simp only [decide_eq_true_eq] at hlt
    obtain ⟨x, hx⟩ := get_some (l := l) (k := n) (by omega)
    refine ixA (h.below hb) (i := n) (by omega) (x := x) (by simpa using hx) rfl ?_
    refine impl.RulesOk_1.c (x := x) fun w2 hb2 => ?_
    have hbb := hb.trans (hb2.mono hb.size)
    refine And.intro (fun hq => ?_) (fun hq => ?_)
    · simp only [Bool.not_eq_true', decide_eq_false_iff_not] at hq
      refine hk _ _ hbb ⟨fun h0 => by omega, fun hall => absurd (hall x (List.mem_of_getElem? hx)) hq⟩
    · simp only [Bool.not_eq_false', decide_eq_true_eq] at hq
      rw [i64_of (by omega) (by omega)]
      refine ⟨⟨n + 1, by omega, by omega, ?_, hbb⟩, by simp only; omega⟩
      rw [List.take_add_one, hx]
      intro y hy
      rcases List.mem_append.1 hy with h | h
      · exact hp y h
      · simp at h; subst h; exact hq
  · simp only [decide_eq_false_iff_not] at hge
    obtain rfl : n = l.length := by omega
    rw [List.take_length] at hp
    exact hk _ _ hb ⟨fun _ => hp, fun _ => by omega⟩
theorem impl.RulesOk.c (h : SlR kRule w s l) (hk : ∀ w', Below w.heap.size w w' → K (decide (RulesP l)) w') : CallT (.o (.lf .b)) P0 11 [s.v] w K := by
  have hn := h.len
  refine impl.RulesOk.ok ?_
  unfold impl.RulesOk.vc
  refine And.intro (fun hq => ?_) (fun hq => ?_)
  · simp only [decide_eq_true_eq] at hq
    refine slices.ContainsFunc_Rule_ok.ok (slices.IndexFunc_Rule_ok.c h fun w1 i hb hi => ?_)
    refine kof (hk _ hb) ?_
    rw [Bool.eq_iff_iff]
    simp only [decide_eq_true_eq, Bool.not_eq_true', decide_eq_false_iff_not]
    constructor
    · rintro ⟨_, h2⟩; have := hi.2 h2; omega
    · intro h2; exact ⟨by omega, hi.1 (by omega)⟩
  · simp only [decide_eq_false_iff_not] at hq
    exact kof (hk _ (Below.refl _ _)) (by simp only [decide_eq_false_iff_not]; rintro ⟨h1, _⟩; omega)
theorem spec.l9Ok.c (h : SlR kRule w s l) (hk : ∀ w', Below w.heap.size w w' → K (decide (RulesP l)) w') : CallT (.o (.lf .b)) P0 32 [s.v] w K := by
  have hn := h.len; have hm := h.max
  refine spec.l9Ok.ok ⟨fun i w' => ∃ n : Nat, i = n ∧ n ≤ l.length ∧ (∀ x ∈ l.take n, RuleP x) ∧ Below w.heap.size w w', fun i _ => l.length - i.toNat, ⟨0, rfl, by omega, by simp, Below.refl _ _⟩, ?_⟩
  rintro i w1 ⟨n, rfl, hnl, hp, hb⟩ _
  refine And.intro (fun hlt => ?_) (fun hge => ?_)
  · simp only [decide_eq_true_eq] at hlt
    obtain ⟨x, hx⟩ := get_some (l := l) (k := n) (by omega)
    refine ixA (h.below hb) (i := n) (by omega) (x := x) (by simpa using hx) rfl ?_
    refine spec.l9RuleOk.c (x := x) fun w2 hb2 => ?_
    have hbb := hb.trans (hb2.mono hb.size)
    refine And.intro (fun hq => ?_) (fun hq => ?_)
    · simp only [Bool.not_eq_true', decide_eq_false_iff_not] at hq
      exact kof (hk _ hbb) (by simp only [decide_eq_false_iff_not]; rintro ⟨_, h2⟩; exact hq (h2 x (List.mem_of_getElem? hx)))
    · simp only [Bool.not_eq_false', decide_eq_true_eq] at hq
      rw [i64_of (by omega) (by omega)]
      refine ⟨⟨n + 1, by omega, by omega, ?_, hbb⟩, by simp only; omega⟩
      rw [List.take_add_one, hx]
      intro y hy
      rcases List.mem_append.1 hy with h | h
      · exact hp y h
      · simp at h; subst h; exact hq
  · simp only [decide_eq_false_iff_not] at hge
    obtain rfl : n = l.length := by omega
    rw [List.take_length] at hp
    refine kof (hk _ hb) ?_
    rw [Bool.eq_iff_iff]
    simp only [decide_eq_true_eq]
    exact ⟨fun h => by have := h.1; omega, fun h => ⟨by omega, hp⟩⟩
end
/-! compact of a sorted list -/
theorem compact_asc (d : Array Int) (hd : ∀ i j, i ≤ j → j < d.size → d[i]! ≤ d[j]!) : ∀ m, m ≤ d.size → (Lib.compactUpTo d m).Pairwise (· < ·) ∧ ∀ x, x ∈ Lib.compactUpTo d m ↔ ∃ j, j < m ∧ d[j]! = x := by
  intro m
  induction m with
  | zero => intro _; simp [Lib.compactUpTo]
  | succ m ih =>
    intro hm
    obtain ⟨h1, h2⟩ := ih (by omega)
    rw [Lib.compactUpTo_succ]
    by_cases hk : Lib.keeps d m = true
    · rw [if_pos hk]
      have hk' : m = 0 ∨ d[m]! ≠ d[m - 1]! := by simpa [Lib.keeps] using hk
      constructor
      · refine List.pairwise_append.2 ⟨h1, by simp, fun a ha b hb => ?_⟩
        simp only [List.mem_singleton] at hb; subst hb
        obtain ⟨j, hj, rfl⟩ := (h2 a).1 ha
        have e1 := hd j (m - 1) (by omega) (by omega)
        have e2 := hd (m - 1) m (by omega) (by omega)
        rcases hk' with h | h <;> omega
      · intro x
        rw [List.mem_append, h2, List.mem_singleton]
        constructor
        · rintro (⟨j, hj, rfl⟩ | rfl)
          · exact ⟨j, by omega, rfl⟩
          · exact ⟨m, by omega, rfl⟩
        · rintro ⟨j, hj, rfl⟩
          rcases Nat.lt_or_ge j m with h | h
          · exact .inl ⟨j, h, rfl⟩
          · obtain rfl : j = m := by omega
            exact .inr rfl
    · rw [if_neg hk, List.append_nil]
      have hk' : m ≠ 0 ∧ d[m]! = d[m - 1]! := by simpa [Lib.keeps] using hk
      refine ⟨h1, fun x => ?_⟩
      rw [h2]
      constructor
      · rintro ⟨j, hj, rfl⟩; exact ⟨j, by omega, rfl⟩
      · rintro ⟨j, hj, rfl⟩
        rcases Nat.lt_or_ge j m with h | h
        · exact ⟨j, h, rfl⟩
        · obtain rfl : j = m := by omega
          exact ⟨j - 1, by omega, hk'.2.symm⟩
theorem sorted_le (xs : List Int) : (sorted xs).Pairwise (· ≤ ·) := by
  have := List.pairwise_mergeSort (le := fun x y : Int => decide (x ≤ y)) (by intro a b c; simp; omega) (by intro a b; simp; omega) xs
  exact this.imp fun h => by simpa using h
theorem mem_sorted' {x : Int} {xs : List Int} : x ∈ sorted xs ↔ x ∈ xs := by unfold sorted; exact List.mem_mergeSort
theorem compact_sorted {xs : List Int} {n : Nat} {f : Nat → Bool} (h : ∀ x, x ∈ xs ↔ ∃ i : Nat, x = i ∧ i < n ∧ f i = true) : Lib.compact (sorted xs) = picks n f := by
  have hd : ∀ i j, i ≤ j → j < (sorted xs).toArray.size → (sorted xs).toArray[i]! ≤ (sorted xs).toArray[j]! := by
    intro i j hij hj
    have hj' : j < (sorted xs).length := by simpa using hj
    rw [getElem!_pos _ i (by simp; omega), getElem!_pos _ j (by simp; omega)]
    rcases Nat.lt_or_ge i j with hlt | hge
    · exact List.pairwise_iff_getElem.1 (sorted_le xs) i j (by omega) hj' hlt
    · obtain rfl : i = j := by omega
      exact Int.le_refl _
  obtain ⟨h1, h2⟩ := compact_asc _ hd (sorted xs).length (by simp)
  have hc : Lib.compact (sorted xs) = Lib.compactUpTo (sorted xs).toArray (sorted xs).length := rfl
  rw [← hc] at h1 h2
  rw [← sorted_id h1]
  refine sorted_eq (h1.imp fun h => by omega) fun x => ?_
  rw [h2, ← h, ← mem_sorted']
  constructor
  · rintro ⟨j, hj, rfl⟩
    rw [getElem!_pos _ j (by simpa using hj)]
    simp
  · intro hx
    obtain ⟨j, hj⟩ := List.getElem?_of_mem hx
    have hl := lt_of_get hj
    refine ⟨j, hl, ?_⟩
    rw [getElem!_pos _ j (by simpa using hl)]
    rw [List.getElem?_eq_getElem hl] at hj
    simpa using hj
/-! what rules cut bytes at -/
def hits (rs : List Rule) (at_ n : Int) : Prop := n = 0 ∨ ∃ r ∈ rs, r.at_ = at_ ∧ (r.num = n ∨ r.num + 1 = n)
theorem hits_nil (at_ n : Int) : hits [] at_ n ↔ n = 0 := by simp [hits]
theorem hits_snoc (rs : List Rule) (r : Rule) (at_ n : Int) : hits (rs ++ [r]) at_ n ↔ hits rs at_ n ∨ (r.at_ = at_ ∧ (r.num = n ∨ r.num + 1 = n)) := by
  unfold hits
  constructor
  · rintro (h | ⟨q, hq, h⟩)
    · exact .inl (.inl h)
    · rcases List.mem_append.1 hq with h1 | h1
      · exact .inl (.inr ⟨q, h1, h⟩)
      · simp at h1; subst h1; exact .inr h
  · rintro ((h | ⟨q, hq, h⟩) | h)
    · exact .inl h
    · exact .inr ⟨q, List.mem_append.2 (.inl hq), h⟩
    · exact .inr ⟨r, by simp, h⟩
open Classical in
noncomputable def cuts (a b : List Rule) (at_ : Int) : List Int := picks 256 fun n => decide (hits (a ++ b) at_ n)
theorem elRule : El P0 23 53 kRule 40 := ⟨by kernel_rfl, ⟨_, _, Option.eq_some_of_isSome (by kernel_rfl), Option.eq_some_of_isSome (by kernel_rfl), by kernel_rfl, by kernel_rfl, by kernel_rfl⟩, by decide, noAnyRule⟩
section
variable {w : World} {s sa sb : Sl} {la lb : List Rule} {K : Sl → World → Prop}
theorem run_sl0 {a : Option Addr} {n c : Nat} (hc : n ≤ c) (m : Nat) (hm : m ≤ c) : (Instr.sliceAt 23 (.slice a n c) none (some (.int .i64 (m : Int))) none).run P0 w = .ok (.slice a m c) w := by
  have hmap : a.map (fun x => x.add 0) = a := by cases a <;> simp [Addr.add]
  have h1 : ((m : Int) ≤ (c : Int)) := by omega
  have hs : szOf P0 53 = some 5 := by kernel_rfl
  have hu : P0.underlying 23 = some (.slice 53) := by kernel_rfl
  simp [Instr.sliceAt, Instr.slice, underlying, hu, Instr.sliceBounds, Instr.sliceBound, asIntOf, run_sizeOf hs, h1, hm, hmap]
theorem kSl_lit {w : World} {x y : Sl} {t : TypeId} {w' : World} (hc : w'.heap[w.heap.size]? = some (.cells #[x.v, y.v] t (0, 0))) : SlR kSl w' ⟨some ⟨w.heap.size, 0, none⟩, 2, 2⟩ [x, y] :=
  (OwnS.lit (k := kSl) (t := t) (B := 0) (xs := [x, y]) (Nat.zero_le _) hc rfl rfl (by simp [maxLen])).read
/-- How many pieces, after so many bytes. -/
noncomputable def many (a b : List Rule) : Nat → Int
  | 0 => 1
  | n + 1 => IntKind.wrap .i64 (many a b n * ((cuts a b n).length : Int))
noncomputable def pieces (a b : List Rule) : Int := many a b 12
noncomputable def samePieces (a b : List Rule) : Int := if RulesP a ∧ RulesP b then pieces a b else -1
end
end Go.Proofs.YtkkdboimkbcfnaaDoor.V

/- Verification conditions, printed by this session's own program (wip/vc.py) and checked by the kernel. -/
namespace Go.Proofs.YtkkdboimkbcfnaaDoor.V
open Go Go.RowKit
set_option linter.unusedVariables false
/- spec.l20Rules -/
def spec.l20Rules.pl : Pl := (.s (.r (D 1)) (.s (.r (D 2)) (.s (.s (.r [.d, .d, (.c (.o (.lf (.i .i64)))), .d]) (.b (.l [(3, .sl), (4, (.i .i64))] (.s (.s (.r (D 2)) (.c .z .z)) (.s (.b (.s (.r [.d, .d, (.c (.o (.lf (.i .i64)))), .d, (.c (.o (.lf (.i .i64)))), .d, .d, .d, (.c (.o (.lf (.i .i64)))), .d, (.c (.o (.lf (.i .i64)))), .d, .d, .d]) (.s (.s (.r [.d, (.l (.lf (.i .i64))), .d]) (.c (.r [.d, .d, (.c (.o (.lf (.i .i64)))), .d, .d]) .z)) (.r [.d, (.l (.ag (R 5 (.i .i64)))), .d, (.t (.o (.lf .sl))), .d])))) (.r (D 3))))))) (.s (.j [(45, .b)] (.r [.d, .d, .d, (.sp .d), .d, (.c (.o (.lf (.i .i64)))), .d, .d]) (.c (.s (.r [.d, .d, .d, (.c (.o (.lf (.i .i64)))), .d]) (.s (.r [.d, (.c (.o (.lf (.i .i64))))]) (.b (.s (.r (D 2)) (.c (.r [.d, .d, .d, .d, (.c (.o (.lf (.i .i64)))), .d, .d, .d]) (.s (.r (D 2)) (.c (.r [.d, .d, .d, .d, (.c (.o (.lf (.i .i64)))), .d, .d, .d]) (.s (.r (D 2)) (.c (.r [.d, .d, .d, .d, (.c (.o (.lf (.i .i64)))), .d, .d, .d]) (.r (D 5))))))))))) .z)) (.s (.r (D 2)) .z)))))
def spec.l20Rules.vc (r : Option Addr) (w : World) (K : Sl → World → Prop) : Prop :=
Nw #[] 53 w fun a_t7 w_ =>
Nw #[(.int .i64 0), (.int .i64 1), (.int .i64 2), (.int .i64 3), (.int .i64 4), (.int .i64 6)] 3 w_ fun a_t9 w__1 =>
CallT (.o (.lf (.i .i64))) P0 58 [(.pointer r), (.slice (some a_t9) 6 6)] w__1 fun (t10 : Int) w__2 =>
∃ (I : Sl → Int → World → Prop) (M : Sl → Int → World → Nat),
I ⟨(some a_t7), 0, 0⟩ t10 w__2 ∧
(∀ (out : Sl) (n : Int) w__3, I out n w__3 → ∀ _ : Nat → Value,
((decide ((n : Int) > 0)) = true → Nw #[(.int .i64 0), (.int .i64 0), (.int .i64 1), (.int .i64 2), (.int .i64 11)] 3 w__3 fun a_t16 w__4 =>
CallT (.o (.lf (.i .i64))) P0 58 [(.pointer r), (.slice (some a_t16) 5 5)] w__4 fun (t17 : Int) w__5 =>
CallT (.o (.lf (.i .i64))) P0 43 [(.pointer r), (.int .i64 4)] w__5 fun (t19 : Int) w__6 =>
Nw #[(.int .i64 0), (.int .i64 1), (.int .i64 2), (.int .i64 3), (.int .i64 7), (.int .i64 9), (.int .i64 10), (.int .i64 200), (.int .i64 254), (.int .i64 255)] 3 w__6 fun a_t22 w__7 =>
CallT (.o (.lf (.i .i64))) P0 58 [(.pointer r), (.slice (some a_t22) 10 10)] w__7 fun (t23 : Int) w__8 =>
CallT (.o (.lf (.i .i64))) P0 43 [(.pointer r), (.int .i64 3)] w__8 fun (t25 : Int) w__9 =>
Nw (zc P0 53) 53 w__9 fun a_x w__10 =>
StA P0 a_x [(.int .i64 t17), (.int .i64 (IntKind.wrap .i64 (12 + t19))), (.int .i64 t23), (.int .i64 t25), (.int .i64 0)] w__10 fun w__11 =>
Ld (.i .i64) (Addr.add a_x 3) w__11 fun (t28 : Int) w__12 =>
(((t28 : Int) == 2) = true → Nw #[(.int .i64 0), (.int .i64 1), (.int .i64 2), (.int .i64 3), (.int .i64 7), (.int .i64 9), (.int .i64 4294967295)] 3 w__12 fun a_t31 w__13 =>
CallT (.o (.lf (.i .i64))) P0 58 [(.pointer r), (.slice (some a_t31) 7 7)] w__13 fun (t32 : Int) w__14 =>
St (Addr.add a_x 4) (.int .i64 t32) w__14 fun w__15 =>
LdA (R 5 (.i .i64)) a_x w__15 fun (t35 : Tup (R 5 (.i .i64))) w__16 =>
Nw #[(.int .i64 t35.1), (.int .i64 t35.2.1), (.int .i64 t35.2.2.1), (.int .i64 t35.2.2.2.1), (.int .i64 t35.2.2.2.2.1)] 53 w__16 fun a_t36 w__17 =>
RunT (.o (.lf .sl)) P0 (Builtin.append_ #[23, 23] 23 #[out.v, (.slice (some a_t36) 1 1)]) w__17 fun (t37 : Sl) w__18 =>
(I t37 (IntKind.wrap .i64 (n - 1)) w__18 ∧ M t37 (IntKind.wrap .i64 (n - 1)) w__18 < M out n w__3)) ∧
(((t28 : Int) == 2) = false → LdA (R 5 (.i .i64)) a_x w__12 fun (t35_1 : Tup (R 5 (.i .i64))) w__19 =>
Nw #[(.int .i64 t35_1.1), (.int .i64 t35_1.2.1), (.int .i64 t35_1.2.2.1), (.int .i64 t35_1.2.2.2.1), (.int .i64 t35_1.2.2.2.2.1)] 53 w__19 fun a_t36_1 w__20 =>
RunT (.o (.lf .sl)) P0 (Builtin.append_ #[23, 23] 23 #[out.v, (.slice (some a_t36_1) 1 1)]) w__20 fun (t37_1 : Sl) w__21 =>
(I t37_1 (IntKind.wrap .i64 (n - 1)) w__21 ∧ M t37_1 (IntKind.wrap .i64 (n - 1)) w__21 < M out n w__3))) ∧
((decide ((n : Int) > 0)) = false → ∃ J : Bool → World → Prop,
(((decide ((((out.n : Nat) : Int) : Int) > 0)) = true → CallT (.o (.lf (.i .i64))) P0 43 [(.pointer r), (.int .i64 12)] w__3 fun (t43 : Int) w__22 =>
J ((t43 : Int) == 0) w__22) ∧
((decide ((((out.n : Nat) : Int) : Int) > 0)) = false → J false w__3)) ∧
(∀ (t45 : Bool) w__23, J t45 w__23 → ∀ _ : Nat → Value,
(t45 = true → CallT (.o (.lf (.i .i64))) P0 43 [(.pointer r), (.int .i64 ((out.n : Nat) : Int))] w__23 fun (t49 : Int) w__24 =>
CallT (.o (.lf (.i .i64))) P0 43 [(.pointer r), (.int .i64 4)] w__24 fun (t51 : Int) w__25 =>
(((t51 : Int) == 0) = true → Nw #[(.int .i64 (-1)), (.int .i64 12)] 3 w__25 fun a_t61 w__26 =>
CallT (.o (.lf (.i .i64))) P0 58 [(.pointer r), (.slice (some a_t61) 2 2)] w__26 fun (t62 : Int) w__27 =>
Ix out.a out.n t49 5 w__27 fun a_t63 w__28 =>
St (Addr.add a_t63 0) (.int .i64 t62) w__28 fun w__29 =>
K out w__29) ∧
(((t51 : Int) == 0) = false → (((t51 : Int) == 1) = true → Nw #[(.int .i64 (-1)), (.int .i64 256)] 3 w__25 fun a_t70 w__30 =>
CallT (.o (.lf (.i .i64))) P0 58 [(.pointer r), (.slice (some a_t70) 2 2)] w__30 fun (t71 : Int) w__31 =>
Ix out.a out.n t49 5 w__31 fun a_t72 w__32 =>
St (Addr.add a_t72 2) (.int .i64 t71) w__32 fun w__33 =>
K out w__33) ∧
(((t51 : Int) == 1) = false → (((t51 : Int) == 2) = true → Nw #[(.int .i64 11), (.int .i64 16)] 3 w__25 fun a_t79 w__34 =>
CallT (.o (.lf (.i .i64))) P0 58 [(.pointer r), (.slice (some a_t79) 2 2)] w__34 fun (t80 : Int) w__35 =>
Ix out.a out.n t49 5 w__35 fun a_t81 w__36 =>
St (Addr.add a_t81 1) (.int .i64 t80) w__36 fun w__37 =>
K out w__37) ∧
(((t51 : Int) == 2) = false → Ix out.a out.n t49 5 w__25 fun a_t54 w__38 =>
St (Addr.add a_t54 4) (.int .i64 5) w__38 fun w__39 =>
K out w__39)))) ∧
(t45 = false → K out w__23))))
theorem spec.l20Rules.ok {r : Option Addr} {w : World} {K : Sl → World → Prop} (h : spec.l20Rules.vc r w K) : CallT (.o (.lf .sl)) P0 27 [(.pointer r)] w K :=
  call_of Tryd.func27 rfl rfl (pl := spec.l20Rules.pl) (show VC P0 Tryd.f27 spec.l20Rules.pl (.o (.lf .sl)) [(.pointer r)] w K noP from Eq.mp (by kernel_rfl) h)
/- laws.sgRules -/
def laws.sgRules.pl : Pl := (.s (.r (D 1)) (.s (.s (.r (D 5)) (.c (.s (.r (D 1)) .z) .z)) (.s (.s (.r (D 1)) (.b (.l [(5, (.i .i64))] (.s (.s (.r (D 4)) (.c .z .z)) (.s (.b (.s (.g [(.q, []), (.q, []), ((.g (.o (.lf .ad)) .d), []), ((.g (.o (.ag (R 5 (.i .i64)))) (.l (.ag (R 5 (.i .i64))))), [2]), (.q, []), (.q, []), ((.g (.o (.lf .ad)) .d), []), ((.g (.o (.ag (R 5 (.i .i64)))) (.l (.ag (R 5 (.i .i64))))), [6]), ((.g (.o (.lf .b)) (.t (.o (.lf .b)))), [3, 7])] []) (.c (.s (.r (D 1)) .z) .z))) (.r (D 3))))))) (.s (.r (D 1)) .z))))
def laws.sgRules.vc (a : Sl) (b : Sl) (w : World) (K : Bool → World → Prop) : Prop :=
(((((a.n : Nat) : Int) : Int) != ((b.n : Nat) : Int)) = true → K false w) ∧
(((((a.n : Nat) : Int) : Int) != ((b.n : Nat) : Int)) = false → ∃ (I : Int → World → Prop) (M : Int → World → Nat),
I 0 w ∧
(∀ (i : Int) w_, I i w_ → ∀ _ : Nat → Value,
((decide ((i : Int) < ((a.n : Nat) : Int))) = true → ∃ Sp : World → World → Prop, SpOk Sp w_ ∧
∃ G_t19 : Addr → World → Prop, Kept Sp G_t19 ∧
∃ G_t20 : Tup (R 5 (.i .i64)) → World → Prop, Kept Sp G_t20 ∧
∃ G_t23 : Addr → World → Prop, Kept Sp G_t23 ∧
∃ G_t24 : Tup (R 5 (.i .i64)) → World → Prop, Kept Sp G_t24 ∧
∃ G_t25 : Bool → World → Prop, Kept Sp G_t25 ∧
(∀ w__1, Sp w_ w__1 → Ix a.a a.n i 5 w__1 fun a_t19 w__2 =>
GK (.o (.lf .ad)) Sp w__1 G_t19 (.pointer (some a_t19)) w__2) ∧
∀ (t19 : Addr), (∀ w__3, Sp w_ w__3 → G_t19 t19 w__3 → LdA (R 5 (.i .i64)) t19 w__3 fun (t20 : Tup (R 5 (.i .i64))) w__4 =>
GK (.o (.ag (R 5 (.i .i64)))) Sp w__3 G_t20 (.agg (Tup.cells (R 5 (.i .i64)) t20).toArray) w__4) ∧
∀ (t20_1 : Tup (R 5 (.i .i64))), (∀ w__5, Sp w_ w__5 → Ix b.a b.n i 5 w__5 fun a_t23 w__6 =>
GK (.o (.lf .ad)) Sp w__5 G_t23 (.pointer (some a_t23)) w__6) ∧
∀ (t23 : Addr), (∀ w__7, Sp w_ w__7 → G_t23 t23 w__7 → LdA (R 5 (.i .i64)) t23 w__7 fun (t24 : Tup (R 5 (.i .i64))) w__8 =>
GK (.o (.ag (R 5 (.i .i64)))) Sp w__7 G_t24 (.agg (Tup.cells (R 5 (.i .i64)) t24).toArray) w__8) ∧
∀ (t24_1 : Tup (R 5 (.i .i64))), (∀ w__9, Sp w_ w__9 → G_t20 t20_1 w__9 → G_t24 t24_1 w__9 → RunT (.o (.lf .b)) P0 (do eqGuard .neq 53 (.tmp 20) (.tmp 24) (.agg (Tup.cells (R 5 (.i .i64)) t20_1).toArray) (.agg (Tup.cells (R 5 (.i .i64)) t24_1).toArray); binOp .neq 53 (.agg (Tup.cells (R 5 (.i .i64)) t20_1).toArray) (.agg (Tup.cells (R 5 (.i .i64)) t24_1).toArray)) w__9 fun (t25 : Bool) w__10 =>
GK (.o (.lf .b)) Sp w__9 G_t25 (.bool t25) w__10) ∧
∀ (t25_1 : Bool), ∀ w__11, Sp w_ w__11 → G_t19 t19 w__11 → G_t20 t20_1 w__11 → G_t23 t23 w__11 → G_t24 t24_1 w__11 → G_t25 t25_1 w__11 → 
(t25_1 = true → K false w__11) ∧
(t25_1 = false → (I (IntKind.wrap .i64 (i + 1)) w__11 ∧ M (IntKind.wrap .i64 (i + 1)) w__11 < M i w_))) ∧
((decide ((i : Int) < ((a.n : Nat) : Int))) = false → K true w_)))
theorem laws.sgRules.ok {a : Sl} {b : Sl} {w : World} {K : Bool → World → Prop} (h : laws.sgRules.vc a b w K) : CallT (.o (.lf .b)) P0 14 [a.v, b.v] w K :=
  call_of Tryd.func14 rfl rfl (pl := laws.sgRules.pl) (show VC P0 Tryd.f14 laws.sgRules.pl (.o (.lf .b)) [a.v, b.v] w K noP from Eq.mp (by kernel_rfl) h)
end Go.Proofs.YtkkdboimkbcfnaaDoor.V

/- Contracts: two rows of rules are the same. -/
namespace Go.Proofs.YtkkdboimkbcfnaaDoor.V
open Go Go.RowKit
set_option linter.unusedVariables false
set_option linter.unusedSimpArgs false
theorem neqRule {x y : Rule} {xo yo : Operand} {w : World} {K : Bool → World → Prop} (hk : K (decide (x ≠ y)) w) :
    RunT (.o (.lf .b)) P0 (do eqGuard .neq 53 xo yo (.agg (Tup.cells (R 5 (.i .i64)) x.t).toArray) (.agg (Tup.cells (R 5 (.i .i64)) y.t).toArray); binOp .neq 53 (.agg (Tup.cells (R 5 (.i .i64)) x.t).toArray) (.agg (Tup.cells (R 5 (.i .i64)) y.t).toArray)) w K := by
  rcases x with ⟨a0, a1, a2, a3, a4⟩
  rcases y with ⟨b0, b1, b2, b3, b4⟩
  refine ⟨_, w, ?_, hk⟩
  show (do eqGuard .neq 53 xo yo (.agg #[.int .i64 a0, .int .i64 a1, .int .i64 a2, .int .i64 a3, .int .i64 a4]) (.agg #[.int .i64 b0, .int .i64 b1, .int .i64 b2, .int .i64 b3, .int .i64 b4]); binOp .neq 53 (.agg #[.int .i64 a0, .int .i64 a1, .int .i64 a2, .int .i64 a3, .int .i64 a4]) (.agg #[.int .i64 b0, .int .i64 b1, .int .i64 b2, .int .i64 b3, .int .i64 b4]) : Sem Value).run P0 w = _
  have hg := run_eqGuard_agg (P := P0) w .neq 53 xo yo #[.int .i64 a0, .int .i64 a1, .int .i64 a2, .int .i64 a3, .int .i64 a4] #[.int .i64 b0, .int .i64 b1, .int .i64 b2, .int .i64 b3, .int .i64 b4] (by kernel_rfl)
  have ht : P0.underlying 53 = some (.struct (P0.fieldsOf 53)) := by kernel_rfl
  have hf : (P0.fieldsOf 53).toList = [Field.mk "At" 3 0 false "" "" 0, Field.mk "Op" 3 1 false "" "" 8, Field.mk "Num" 3 2 false "" "" 16, Field.mk "Verdict" 3 3 false "" "" 24, Field.mk "Key" 3 4 false "" "" 32] := by kernel_rfl
  have hi : P0.underlying 3 = some (.int .i64) := by kernel_rfl
  have hag : aggT P0 3 = some false := by kernel_rfl
  have hp : ∀ (cs : Array Value) (j : Nat) (h : j < cs.size), (part 3 cs j).run P0 w = .ok cs[j] w := fun cs j h => by simp [part, run_isAgg hag, Array.getElem?_eq_getElem h]
  simp only [Sem.run_bind, hg, Result.andThen_ok, run_neq_struct, run_equalIn_agg (P := P0) w 9999 53 _ _ ht (by kernel_rfl), hf]
  by_cases e0 : a0 = b0 <;> by_cases e1 : a1 = b1 <;> by_cases e2 : a2 = b2 <;> by_cases e3 : a3 = b3 <;> by_cases e4 : a4 = b4 <;>
    simp [Op.eqFields, hp, run_equalIn_int (P := P0) w 9998 3 .i64 .i64 _ _ hi, e0, e1, e2, e3, e4, Rs.emb, Ty.emb, Lf.emb]
section
variable {w : World} {a b : Sl} {xs ys : List Rule}
theorem laws.sgRules.c {K : Bool → World → Prop} (ha : SlR kRule w a xs) (hb : SlR kRule w b ys) (hk : ∀ w', Below w.heap.size w w' → K (decide (xs = ys)) w') : CallT (.o (.lf .b)) P0 14 [a.v, b.v] w K := by
  have hna := ha.len; have hnb := hb.len; have hm := ha.max
  refine laws.sgRules.ok ?_
  unfold laws.sgRules.vc
  refine And.intro (fun h => kof (hk _ (Below.refl _ _)) ?_) (fun h => ?_)
  · rw [bne_len] at h
    simp only [decide_eq_false_iff_not]; rintro rfl; omega
  · have hle : xs.length = ys.length := by simp at h; omega
    refine ⟨fun i w' => ∃ n : Nat, i = n ∧ n ≤ xs.length ∧ (∀ j < n, xs[j]? = ys[j]?) ∧ Below w.heap.size w w', fun i _ => xs.length - i.toNat, ⟨0, rfl, by omega, by simp, Below.refl _ _⟩, ?_⟩
    rintro i w1 ⟨n, rfl, hn, hE, hb1⟩ _
    refine And.intro (fun hlt => ?_) (fun hge => ?_)
    · simp only [decide_eq_true_eq] at hlt
      obtain ⟨x, hx⟩ := get_some (l := xs) (k := n) (by omega)
      obtain ⟨y, hy⟩ := get_some (l := ys) (k := n) (by omega)
      have ha1 := ha.below hb1
      have hb1' := hb.below hb1
      refine ⟨Below w1.heap.size, belOk _, AtV w1.heap.size (Tup.cells (R 5 (.i .i64)) x.t), keptAv, eqG x.t, keptE, AtV w1.heap.size (Tup.cells (R 5 (.i .i64)) y.t), keptAv, eqG y.t, keptE, eqG (decide (x ≠ y)), keptE, ?_⟩
      refine ⟨fun w' hs => ?_, fun t19 => ⟨fun w' hs f => ?_, fun t20 => ⟨fun w' hs => ?_, fun t23 => ⟨fun w' hs f => ?_, fun t24 => ⟨fun w' hs f20 f24 => ?_, fun t25 w2 hs _ _ _ _ f25 => ?_⟩⟩⟩⟩⟩
      · exact ixRb (ha1.below hs) (by omega) (x := x) (by simpa using hx) rfl fun b o hb hA => ⟨⟨b, o, none⟩, rfl, Below.refl _ _, b, o, rfl, bk_lt ha1 hx (v := .int .i64 x.at_) rfl hb, hA⟩
      · obtain ⟨b, o, rfl, _, hA⟩ := f
        exact ldAv hA (gkE rfl (Below.refl _ _))
      · exact ixRb (hb1'.below hs) (by omega) (x := y) (by simpa using hy) rfl fun b o hb hA => ⟨⟨b, o, none⟩, rfl, Below.refl _ _, b, o, rfl, bk_lt hb1' hy (v := .int .i64 y.at_) rfl hb, hA⟩
      · obtain ⟨b, o, rfl, _, hA⟩ := f
        exact ldAv hA (gkE rfl (Below.refl _ _))
      · cases f20; cases f24
        exact neqRule (gkE rfl (Below.refl _ _))
      · cases f25
        have hbb := hb1.trans (hs.mono hb1.size)
        refine And.intro (fun hne => kof (hk _ hbb) ?_) (fun he => ?_)
        · simp only [decide_eq_true_eq] at hne
          simp only [decide_eq_false_iff_not]; rintro rfl; rw [hx] at hy; simp at hy; exact hne hy
        · have he : x = y := by simpa using he
          simp (disch := omega) only [i64_of]
          refine ⟨⟨n + 1, by omega, by omega, fun j hj => ?_, hbb⟩, by omega⟩
          rcases Nat.lt_or_ge j n with h1 | h1
          · exact hE j h1
          · obtain rfl : j = n := by omega
            rw [hx, hy, he]
    · simp only [decide_eq_false_iff_not] at hge
      refine kof (hk _ hb1) ?_
      simp only [decide_eq_true_eq]
      exact take_ext hle fun j x hx => by rw [← hE j (by have := lt_of_get hx; omega)]; exact hx
end
end Go.Proofs.YtkkdboimkbcfnaaDoor.V
