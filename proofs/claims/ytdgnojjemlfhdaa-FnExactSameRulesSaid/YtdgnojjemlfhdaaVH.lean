/- Regions that draw their order and hold operations whose results lie in new memory: the conditions, and that they are enough. -/
import Derived.Test.YtdgnojjemlfhdaaVG
namespace Go.Proofs.Ytdgnojjemlfhdaa.V
open Go Go.RowKit
set_option linter.unusedVariables false

section
variable {P : Program} {C : World → Prop}
def QV (P : Program) (o : Oper) (env : Env) (K : EV → Prop) : Prop := ∃ v : EV, (∀ w, (execOp (rho env) o).run P w = .ok (.value v.val) w) ∧ K v
theorem qv_val {o : Oper} {env : Env} {K : EV → Prop} {v : EV} (hr : ∀ w, (execOp (rho env) o).run P w = .ok (.value v.val) w) (h : K v) : QV P o env K := ⟨v, hr, h⟩
theorem qv_pure {o : Oper} {env : Env} {K : EV → Prop} (h : match pureS P (execOp (rho env) o) with | some (.value v) => K (.v v) | _ => False) : QV P o env K := by
  split at h
  · rename_i v hr; exact ⟨.v v, fun w => pureS_run hr w, h⟩
  · exact h.elim
theorem evQo_val {o : Oper} {env : Env} {K : EV → Prop} (h : evQo P C .d o env K) : QV P o env K := by
  obtain ⟨dst, op, type, pos, after, guard⟩ := o
  cases op with
  | move x => exact qv_val (fun w => by simp [execOp, rho]) h
  | assign x => exact qv_val (fun w => by simp [execOp, rho]) h
  | pick c a b =>
    simp only [evQo] at h
    split at h
    · rename_i t hc
      cases t with
      | true => exact qv_val (v := evO env a) (fun w => by simp [execOp, rho, hc, EV.val, asBool]) h
      | false => exact qv_val (v := evO env b) (fun w => by simp [execOp, rho, hc, EV.val, asBool]) h
    · exact h.elim
  | binOp op t x y yt =>
    simp only [evQo] at h
    split at h
    · rename_i k a k' b hx hy
      split at h
      · rename_i hk
        subst hk
        refine qv_val (v := .v (.int k (k.wrap (a.tdiv b)))) (fun w => ?_) h.2
        simp [execOp, hx, hy, eqGuard, binOp, Op.intDiv, h.1, EV.val]
      · exact h.elim
    · rename_i k a k' b hx hy
      split at h
      · rename_i hk
        subst hk
        refine qv_val (v := .v (.int k (a.tmod b))) (fun w => ?_) h.2
        simp [execOp, hx, hy, eqGuard, binOp, Op.intDiv, h.1, EV.val]
      · exact h.elim
    · rename_i a b hx hy
      refine qv_val (v := .v (.string (a ++ b))) (fun w => ?_) h.2
      have hh : ((a.size : Int) + b.size) ≤ 9223372036854775807 := by have := h.1; have e : IntKind.i64.max = 9223372036854775807 := rfl; omega
      simp only [execOp, hx, hy, eqGuard, binOp, Op.stringOp, Sem.run_bind, Int.natCast_add]
      simp [EV.val]
      exact hh
    · exact qv_pure h
  | unOp op t x => exact qv_pure h
  | fieldAddr s x f => exact qv_pure h
  | convert s d x => exact qv_pure h
  | extract t ix =>
    simp only [evQo] at h
    split at h
    · rename_i vs hv
      split at h
      · rename_i v hi
        simp only [Array.getElem?_toList] at hi
        exact qv_val (v := .v v) (fun w => by simp [execOp, hv, Instr.extract, hi, EV.val]) h
      · exact h.elim
    · exact h.elim
  | nilCheck x =>
    simp only [evQo] at h
    split at h
    · rename_i a ha
      exact qv_val (v := .v (.pointer (some a))) (fun w => by simp [execOp, ha, EV.val]) h
    · exact h.elim
  | indexAddr t x ix =>
    simp only [evQo] at h
    split at h
    · rename_i s n c k i hx hi
      split at h
      · rename_i e he
        split at h
        · rename_i sz hs
          obtain ⟨a, ha, h0, h1, hk⟩ := h
          exact qv_val (v := .v (.pointer (some (a.add (i.toNat * sz))))) (fun w => by simp [execOp, hx, hi, run_indexAt he hs ha h0 h1, EV.val]) hk
        · exact h.elim
      · exact h.elim
    · exact h.elim
  | index t x ix =>
    simp only [evQo] at h
    split at h
    · rename_i s k i hx hi
      split at h
      · rename_i hu
        obtain ⟨h0, b, hb, hk⟩ := h
        refine qv_val (v := .v (.int .u8 (b.toNat : Int))) (fun w => ?_) hk
        simp [execOp, hx, hi, Instr.index, asIntOf, underlying, hu, h0, hb, EV.val]
      · exact h.elim
    · exact h.elim
  | call c =>
    obtain ⟨callee, args, ats⟩ := c
    cases callee with
    | value x => exact h.elim
    | invoke r m => exact h.elim
    | builtin b =>
      cases b with
      | len =>
        simp only [evQo] at h
        split at h
        · rename_i s n cc t ha ht
          split at h
          · rename_i e hu
            refine qv_val (v := .v (.int .i64 n)) (fun w => ?_) h
            have h0 : (args.map (rho env))[0]? = some (.slice s n cc) := by rw [← Array.getElem?_toList, Array.toList_map, ha]; rfl
            have h1 : ats[0]? = some t := by rw [← Array.getElem?_toList, ht]; rfl
            simp only [Array.getElem?_map] at h0
            simp [execOp, resolve, invoke, builtin, Builtin.len_, h0, h1, underlying, hu, goInt, EV.val]
          · exact h.elim
        · rename_i s t ha ht
          split at h
          · rename_i hu
            refine qv_val (v := .v (.int .i64 s.size)) (fun w => ?_) h
            have h0 : (args.map (rho env))[0]? = some (.string s) := by rw [← Array.getElem?_toList, Array.toList_map, ha]; rfl
            have h1 : ats[0]? = some t := by rw [← Array.getElem?_toList, ht]; rfl
            simp only [Array.getElem?_map] at h0
            simp [execOp, resolve, invoke, builtin, Builtin.len_, h0, h1, underlying, hu, goInt, EV.val]
          · exact h.elim
        · exact h.elim
      | _ => exact h.elim
  | _ => exact h.elim
end
def adDflt : (n : Nat) → AdT n
  | 0 => ()
  | n + 1 => (⟨0, 0, none⟩, adDflt n)
def Lf.dflt : (l : Lf) → l.T
  | .i _ => (0 : Int)
  | .b => false
  | .s => ByteArray.empty
  | .sl => ⟨none, 0, 0⟩
  | .p => none
  | .ad => ⟨0, 0, none⟩
  | .m => none
  | .any => undef
  | .fn _ n => adDflt n
  | .yl => (0 : Nat)
def Tup.dflt : (ls : List Lf) → Tup ls
  | [] => ()
  | l :: ls => (l.dflt, Tup.dflt ls)
def Ty.dflt : (τ : Ty) → τ.T
  | .lf l => l.dflt
  | .ag ls => Tup.dflt ls
def Tys.dflt : (τs : List Ty) → Tys τs
  | [] => ()
  | τ :: τs => (τ.dflt, Tys.dflt τs)
def Rs.dflt : (r : Rs) → r.T
  | .z => ()
  | .o τ => τ.dflt
  | .n τs => Tys.dflt τs

inductive GF where
  | n | f (r : Rs) (G : r.T → World → Prop)
/-- A fact that every step keeps. -/
def Kept (Sp : World → World → Prop) {α : Type} (G : α → World → Prop) : Prop := ∀ x a b, G x a → Sp a b → G x b
def SpOk (Sp : World → World → Prop) (w : World) : Prop := (∀ a, Sp a a) ∧ (∀ a b c, Sp a b → Sp b c → Sp a c) ∧ Sp w { w with drawn := w.drawn + 1 }
def exG (Sp : World → World → Prop) : List GP → (List GF → Prop) → Prop
  | [], k => k []
  | .q :: r, k => exG Sp r fun g => k (.n :: g)
  | .sq :: r, k => exG Sp r fun g => k (.n :: g)
  | .g τ _ :: r, k => ∃ G : τ.T → World → Prop, Kept Sp G ∧ exG Sp r fun g => k (.f τ G :: g)
  | .sg _ :: r, k => ∃ G : Bool → World → Prop, Kept Sp G ∧ exG Sp r fun g => k (.f (.o (.lf .b)) G :: g)
  | .h τ _ :: r, k => ∃ G : τ.T → World → Prop, Kept Sp G ∧ exG Sp r fun g => k (.f τ G :: g)
/-- A step that leaves N alone. -/
def Sk (Sp : World → World → Prop) (N : World → Prop) : World → World → Prop := fun a b => Sp a b ∧ (N a → N b)
/-- N holds when the region's order is drawn. -/
def NOk (N : World → Prop) (w : World) : Prop := N { w with drawn := w.drawn + 1 }
def hypF (fs : List (World → Prop)) (w : World) (X : Prop) : List Nat → Prop
  | [] => X
  | k :: r => fs.getD k fT w → hypF fs w X r
theorem hypF_out {fs : List (World → Prop)} {w : World} {X : Prop} : ∀ {ids : List Nat}, hypF fs w X ids → (∀ k ∈ ids, fs.getD k fT w) → X
  | [], h, _ => h
  | k :: r, h, hf => hypF_out (h (hf k List.mem_cons_self)) fun q hq => hf q (List.mem_cons_of_mem _ hq)
/-- The result bears its fact. -/
def GK (r : Rs) (Sp : World → World → Prop) (w1 : World) (G : r.T → World → Prop) (v : Value) (w' : World) : Prop := ∃ x : r.T, v = r.emb x ∧ Sp w1 w' ∧ G x w'
def stepG (P : Program) (Sp Sc : World → World → Prop) (N : World → Prop) (w0 : World) (p : GP) (ids : List Nat) (g : GF) (o : Oper) (env : Env) (fs : List (World → Prop)) (next : EV → (World → Prop) → Prop) : Prop :=
  match p with
  | .q => evQo P fT .d o env (fun v => next v fT)
  | .sq => evQo P fT .d o env (splQ fun v => next v fT)
  | .g _ pl => (match g with
    | .f r G => (∀ w, Sp w0 w → hypF fs w (evOp P pl o env w (fun v w' => GK r Sc w G v.val w') (fun _ _ => False)) ids) ∧ ∀ x : r.T, next (.v (r.emb x)) (G x)
    | .n => False)
  | .h _ pl => (match g with
    | .f r G => (∀ w, Sp w0 w → N w → hypF fs w (evOp P pl o env w (fun v w' => GK r Sp w G v.val w') (fun _ _ => False)) ids) ∧ ∀ x : r.T, next (.v (r.emb x)) (G x)
    | .n => False)
  | .sg pl => (match g with
    | .f r G => (∀ w, Sp w0 w → hypF fs w (evOp P pl o env w (fun v w' => GK r Sc w G v.val w') (fun _ _ => False)) ids) ∧ ∀ x : r.T, splQ (fun v => next v (G x)) (.v (r.emb x))
    | .n => False)
def evG (P : Program) (ops : Array Oper) (Sp Sc : World → World → Prop) (N : World → Prop) (w0 : World) (gids : List Nat) (K : Env → World → Prop) : List GF → List (GP × List Nat) → List Oper → Env → List (World → Prop) → Prop
  | _, _, [], env, fs => ∀ w, Sp w0 w → hypF fs w (K env w) gids
  | g :: gs, p :: ps, o :: os, env, fs =>
    match o.guard with
    | none => stepG P Sp Sc N w0 p.1 p.2 g o env fs fun v φ => evG P ops Sp Sc N w0 gids K gs ps os (put env o.dst v) (fs ++ [φ])
    | some (j, want) =>
      match (ops.toList[j]?).bind (·.dst) with
      | none => False
      | some d => match env.getD d u0 with
        | .b t => match t == want with
          | true => stepG P Sp Sc N w0 p.1 p.2 g o env fs fun v φ => evG P ops Sp Sc N w0 gids K gs ps os (put env o.dst v) (fs ++ [φ])
          | false => evG P ops Sp Sc N w0 gids K gs ps os (put env o.dst u0) (fs ++ [fT])
        | .v x => match x with
          | .bool _ => False
          | _ => evG P ops Sp Sc N w0 gids K gs ps os (put env o.dst u0) (fs ++ [fT])
  | _, _, _ :: _, _, _ => False
def dstOk (n : Nat) : List Oper → Bool
  | [] => true
  | o :: os => (match o.dst with | some d => decide (d < n) | none => false) && dstOk n os
def fOf (ini : Nat → World → Prop) (fs : List (World → Prop)) : Nat → World → Prop := fun k => fs.getD k (ini k)
theorem fOf_upd (ini : Nat → World → Prop) (fs : List (World → Prop)) (φ : World → Prop) : fOf ini (fs ++ [φ]) = updF (fOf ini fs) fs.length φ := by
  funext k
  unfold fOf updF
  simp only [List.getD_eq_getElem?_getD]
  split
  · rename_i h; subst h; simp
  · rename_i h
    rcases Nat.lt_or_ge k fs.length with h1 | h1
    · rw [List.getElem?_append_left h1]
    · rw [List.getElem?_eq_none (by simp; omega), List.getElem?_eq_none h1]
def TG (gs : List GF) (i : Nat) (s : Sem Next) (P : Program) (v : Value) (φ : World → Prop) : Prop :=
  match gs[i]? with
  | some (.f r G) => ∃ x : r.T, v = r.emb x ∧ φ = G x
  | _ => (∀ w, s.run P w = .ok (.value v) w) ∧ φ = fT
def isH : GP → Bool
  | .h _ _ => true
  | _ => false
def hotAt (ps : List (GP × List Nat)) (i : Nat) : Bool :=
  match ps[i]? with
  | some p => isH p.1
  | none => false
def idsOf (ps : List (GP × List Nat)) (i : Nat) : List Nat :=
  match ps[i]? with
  | some p => p.2
  | none => []
/-- What the operations ask: their own facts; for the one that changes what the others leave alone also that it has not been done. -/
def dOf (ps : List (GP × List Nat)) (i : Nat) : List Nat := match hotAt ps i with | true => i :: idsOf ps i | false => idsOf ps i
def stOf (Sp Sc : World → World → Prop) (ps : List (GP × List Nat)) (i : Nat) : World → World → Prop := match hotAt ps i with | true => Sp | false => Sc
def iniOf (N : World → Prop) (ps : List (GP × List Nat)) (i : Nat) : World → Prop := match hotAt ps i with | true => N | false => fT
theorem fOf_get {ini : Nat → World → Prop} {fs : List (World → Prop)} {k : Nat} {w : World} (h : fOf ini fs k w) : fs.getD k fT w := by
  unfold fOf at h
  simp only [List.getD_eq_getElem?_getD] at h ⊢
  cases hk : fs[k]? with
  | none => simp [fT]
  | some φ => rw [hk] at h; exact h
theorem fOf_own {ini : Nat → World → Prop} {fs : List (World → Prop)} {w : World} (h : fOf ini fs fs.length w) : ini fs.length w := by
  unfold fOf at h
  simpa using h
def isG : GP → Bool
  | .g _ _ | .sg _ | .h _ _ => true
  | _ => false
/-- Which facts go with which plan. -/
def fits : List GF → List (GP × List Nat) → Prop
  | [], [] => True
  | g :: gs, p :: ps => (match isG p.1 with | true => ∃ r G, g = .f r G | false => g = .n) ∧ fits gs ps
  | _, _ => False
section
variable {P : Program} {ops : Array Oper} {Sp Sc : World → World → Prop} {Nf : World → Prop} {w0 : World} {gids : List Nat} {K : Env → World → Prop} {ds : List Deferred}
theorem evG_SV {N : Nat} {G0 : List GF} {P0 : List (GP × List Nat)} {S : List Nat} {env0 : Env} (hrefl : ∀ a, Sp a a) (hreflc : ∀ a, Sc a a) :
    ∀ (gs : List GF) (ps : List (GP × List Nat)) (os : List Oper) (env : Env) (fs : List (World → Prop)) (n : Nat), G0.drop n = gs → P0.drop n = ps → (ops.toList.take N).drop n = os → fs.length = n → fits gs ps → dstOk env0.length os = true →
      (∀ o ∈ os, ∀ d, o.dst = some d → d ∈ S) → Ag S env0 env → evG P ops Sp Sc Nf w0 gids K gs ps os env fs →
      SV P ops (stOf Sp Sc P0) (Sp w0) (dOf P0) (fun i s v φ => TG G0 i s P v φ) (fun a w => ∃ env', K env' w ∧ Ag S env0 env' ∧ a = act ds env') (List.range' n os.length) (act ds env) (fOf (iniOf Nf P0) fs)
  | gs, ps, [], env, fs, n, _, _, _, _, _, _, _, ha, h => by
    intro w hw hf
    simp only [evG] at h
    exact ⟨env, hypF_out (h w hw) (fun k _ => fOf_get (hf k)), ha, rfl⟩
  | gs, ps, o :: os, env, fs, n, hg, hp, ho, hl, hfit, hdst, hS, ha, h => by
    rcases gs with _ | ⟨g, gs⟩
    · simp [evG] at h
    rcases ps with _ | ⟨⟨p, ids⟩, ps⟩
    · simp [evG] at h
    have hgn : G0[n]? = some g := by have := congrArg (·[0]?) hg; simpa using this
    have hpn : P0[n]? = some (p, ids) := by have := congrArg (·[0]?) hp; simpa using this
    have hon : ops[n]? = some o := by
      have h1 := congrArg (·[0]?) ho
      simp only [List.getElem?_drop, Nat.add_zero, List.getElem?_cons_zero, List.getElem?_take] at h1
      split at h1
      · simpa using h1
      · simp at h1
    have hgs : G0.drop (n + 1) = gs := by have := congrArg List.tail hg; simpa using this
    have hps : P0.drop (n + 1) = ps := by have := congrArg List.tail hp; simpa using this
    have hos : (ops.toList.take N).drop (n + 1) = os := by have := congrArg List.tail ho; simpa using this
    simp only [dstOk, Bool.and_eq_true] at hdst
    obtain ⟨hd0, hdst'⟩ := hdst
    have hSo : ∀ o' ∈ os, ∀ d, o'.dst = some d → d ∈ S := fun o' ho' => hS o' (List.mem_cons_of_mem _ ho')
    have hSd : ∀ k, o.dst = some k → k ∈ S := hS o List.mem_cons_self
    have rec' : ∀ (v : EV) (φ : World → Prop), evG P ops Sp Sc Nf w0 gids K gs ps os (put env o.dst v) (fs ++ [φ]) →
        SV P ops (stOf Sp Sc P0) (Sp w0) (dOf P0) (fun i s v φ => TG G0 i s P v φ) (fun a w => ∃ env', K env' w ∧ Ag S env0 env' ∧ a = act ds env') (List.range' (n + 1) os.length) ((act ds env).put o.dst v.val) (updF (fOf (iniOf Nf P0) fs) n φ) := by
      intro v φ hh
      rw [act_put, ← hl, ← fOf_upd]
      exact evG_SV hrefl hreflc gs ps os (put env o.dst v) (fs ++ [φ]) (fs.length + 1) (hl ▸ hgs) (hl ▸ hps) (hl ▸ hos) (by simp) hfit.2 hdst' hSo (ha.trans (Ag.put env o.dst v hSd)) hh
    have recS : ∀ (v : EV) (φ : World → Prop), splQ (fun v => evG P ops Sp Sc Nf w0 gids K gs ps os (put env o.dst v) (fs ++ [φ])) v →
        SV P ops (stOf Sp Sc P0) (Sp w0) (dOf P0) (fun i s v φ => TG G0 i s P v φ) (fun a w => ∃ env', K env' w ∧ Ag S env0 env' ∧ a = act ds env') (List.range' (n + 1) os.length) ((act ds env).put o.dst v.val) (updF (fOf (iniOf Nf P0) fs) n φ) := by
      intro v φ hh
      cases v with
      | b t => exact rec' _ _ hh
      | v x =>
        cases x with
        | bool t =>
          cases t with
          | true => exact rec' (.b true) _ (hh.1 rfl)
          | false => exact rec' (.b false) _ (hh.2 rfl)
        | _ => exact rec' _ _ hh
    have he : ∀ w, (execOp (act ds env).eval o).run P w = (execOp (rho env) o).run P w := fun w => by rw [act_eval]
    have hse : (env.length : Nat) = env0.length := ha.1
    have hhot : hotAt P0 n = isH p := by unfold hotAt; rw [hpn]
    have hstC : isH p = false → stOf Sp Sc P0 n = Sc := fun hp => by unfold stOf; rw [hhot, hp]
    have hstH : isH p = true → stOf Sp Sc P0 n = Sp := fun hp => by unfold stOf; rw [hhot, hp]
    have hst : ∀ a, stOf Sp Sc P0 n a a := fun a => by
      cases hp : isH p with
      | true => rw [hstH hp]; exact hrefl a
      | false => rw [hstC hp]; exact hreflc a
    -- what is done
    have exec : stepG P Sp Sc Nf w0 p ids g o env fs (fun v φ => evG P ops Sp Sc Nf w0 gids K gs ps os (put env o.dst v) (fs ++ [φ])) →
      (∀ w, Sp w0 w → (∀ k ∈ dOf P0 n, fOf (iniOf Nf P0) fs k w) → Res P ((execOp (act ds env).eval o).run P w) fun v w' => ∃ φ, TG G0 n (execOp (act ds env).eval o) P v φ ∧ stOf Sp Sc P0 n w w' ∧ φ w') ∧
      (∃ v φ, TG G0 n (execOp (act ds env).eval o) P v φ) ∧ ∀ v φ, TG G0 n (execOp (act ds env).eval o) P v φ →
        SV P ops (stOf Sp Sc P0) (Sp w0) (dOf P0) (fun i s v φ => TG G0 i s P v φ) (fun a w => ∃ env', K env' w ∧ Ag S env0 env' ∧ a = act ds env') (List.range' (n + 1) os.length) ((act ds env).put o.dst v) (updF (fOf (iniOf Nf P0) fs) n φ) := by
      have quiet : ∀ {Kv : EV → Prop}, g = .n → evQo P fT .d o env Kv → (∀ v, Kv v → SV P ops (stOf Sp Sc P0) (Sp w0) (dOf P0) (fun i s v φ => TG G0 i s P v φ) (fun a w => ∃ env', K env' w ∧ Ag S env0 env' ∧ a = act ds env') (List.range' (n + 1) os.length) ((act ds env).put o.dst v.val) (updF (fOf (iniOf Nf P0) fs) n fT)) →
          (∀ w, Sp w0 w → (∀ k ∈ dOf P0 n, fOf (iniOf Nf P0) fs k w) → Res P ((execOp (act ds env).eval o).run P w) fun v w' => ∃ φ, TG G0 n (execOp (act ds env).eval o) P v φ ∧ stOf Sp Sc P0 n w w' ∧ φ w') ∧
          (∃ v φ, TG G0 n (execOp (act ds env).eval o) P v φ) ∧ ∀ v φ, TG G0 n (execOp (act ds env).eval o) P v φ →
            SV P ops (stOf Sp Sc P0) (Sp w0) (dOf P0) (fun i s v φ => TG G0 i s P v φ) (fun a w => ∃ env', K env' w ∧ Ag S env0 env' ∧ a = act ds env') (List.range' (n + 1) os.length) ((act ds env).put o.dst v) (updF (fOf (iniOf Nf P0) fs) n φ) := by
        intro Kv hgn' hq hK
        subst hgn'
        obtain ⟨v, hr, hk⟩ := evQo_val hq
        have hT : ∀ u φ, TG G0 n (execOp (act ds env).eval o) P u φ ↔ (∀ w, (execOp (rho env) o).run P w = .ok (.value u) w) ∧ φ = fT := by
          intro u φ; unfold TG; rw [hgn]; simp only [he]
        refine ⟨fun w hw _ => ?_, ⟨v.val, fT, (hT _ _).2 ⟨hr, rfl⟩⟩, fun u φ hu => ?_⟩
        · rw [he, hr w]
          exact ⟨fT, (hT _ _).2 ⟨hr, rfl⟩, hst w, trivial⟩
        · obtain ⟨hu1, rfl⟩ := (hT _ _).1 hu
          have := (hu1 w0).symm.trans (hr w0)
          simp only [Result.ok.injEq, Next.value.injEq, and_true] at this
          subst this
          exact hK v hk
      have hids : ∀ k ∈ ids, k ∈ dOf P0 n := fun k hk => by
        unfold dOf idsOf; rw [hpn]; cases hh : hotAt P0 n <;> simp [hk]
      have loud : ∀ {pl : OpP} {r : Rs} {G : r.T → World → Prop} {Sx : World → World → Prop}, g = .f r G → (∀ a b, Sx a b → stOf Sp Sc P0 n a b) → (∀ w, Sp w0 w → (∀ k ∈ dOf P0 n, fOf (iniOf Nf P0) fs k w) → hypF fs w (evOp P pl o env w (fun v w' => GK r Sx w G v.val w') (fun _ _ => False)) ids) →
          (∀ x : r.T, SV P ops (stOf Sp Sc P0) (Sp w0) (dOf P0) (fun i s v φ => TG G0 i s P v φ) (fun a w => ∃ env', K env' w ∧ Ag S env0 env' ∧ a = act ds env') (List.range' (n + 1) os.length) ((act ds env).put o.dst (r.emb x)) (updF (fOf (iniOf Nf P0) fs) n (G x))) →
          (∀ w, Sp w0 w → (∀ k ∈ dOf P0 n, fOf (iniOf Nf P0) fs k w) → Res P ((execOp (act ds env).eval o).run P w) fun v w' => ∃ φ, TG G0 n (execOp (act ds env).eval o) P v φ ∧ stOf Sp Sc P0 n w w' ∧ φ w') ∧
          (∃ v φ, TG G0 n (execOp (act ds env).eval o) P v φ) ∧ ∀ v φ, TG G0 n (execOp (act ds env).eval o) P v φ →
            SV P ops (stOf Sp Sc P0) (Sp w0) (dOf P0) (fun i s v φ => TG G0 i s P v φ) (fun a w => ∃ env', K env' w ∧ Ag S env0 env' ∧ a = act ds env') (List.range' (n + 1) os.length) ((act ds env).put o.dst v) (updF (fOf (iniOf Nf P0) fs) n φ) := by
        intro pl r G Sx hgr hSx hc hK
        subst hgr
        have hT : ∀ u φ, TG G0 n (execOp (act ds env).eval o) P u φ ↔ ∃ x : r.T, u = r.emb x ∧ φ = G x := by
          intro u φ; unfold TG; rw [hgn]
        refine ⟨fun w hw hf => ?_, ⟨r.emb r.dflt, G r.dflt, (hT _ _).2 ⟨_, rfl, rfl⟩⟩, fun u φ hu => ?_⟩
        · have hev := hypF_out (hc w hw hf) (fun k hk => fOf_get (hf k (hids k hk)))
          have hwp := evOp_sound (ds := ds) (next := fun a' w' => ∃ v, a' = (act ds env).put o.dst v ∧ GK r Sx w G v w') (Q' := fun _ _ _ => False) hev (fun v w' hk => ⟨v.val, (act_put ds env o.dst v).symm, hk⟩) (fun _ _ hf => hf)
          cases hod : o.dst with
          | none => rw [hod] at hd0; simp at hd0
          | some d =>
            rw [hod] at hd0
            have hd1 : d < env0.length := by simpa using hd0
            have hds : d < (act ds env).tmps.size := by
              have e : (act ds env).tmps.size = env0.length := by simp only [act, List.size_toArray, List.length_map]; exact hse
              rw [e]; exact hd1
            have hres := res_of_wp hod hds hwp
            have mono : ∀ {r : Result Next} {R R' : Value → World → Prop}, Res P r R → (∀ v w', R v w' → R' v w') → Res P r R' := by
              intro r R R' h1 h2
              unfold Res at *
              split <;> simp_all
              · refine Calls.mono h1 fun e w'' hh => ?_
                cases e <;> simp_all
              · exact Rows.mono h1 h2
            exact mono hres fun v w' ⟨x, hx, hs, hG⟩ => ⟨G x, (hT _ _).2 ⟨x, hx, rfl⟩, hSx _ _ hs, hG⟩
        · obtain ⟨x, rfl, rfl⟩ := (hT _ _).1 hu
          exact hK x
      intro hh
      cases p with
      | q =>
        simp only [stepG] at hh
        exact quiet (by simpa [isG] using hfit.1) hh (fun v hv => rec' v fT hv)
      | sq =>
        simp only [stepG] at hh
        exact quiet (by simpa [isG] using hfit.1) hh (fun v hv => recS v fT hv)
      | g r0 pl =>
        obtain ⟨r, G, hgr⟩ : ∃ r G, g = .f r G := by simpa [isG] using hfit.1
        subst hgr
        exact loud rfl (fun a b hab => by rw [hstC rfl]; exact hab) (fun w hw _ => hh.1 w hw) (fun x => rec' (.v (r.emb x)) (G x) (hh.2 x))
      | h r0 pl =>
        obtain ⟨r, G, hgr⟩ : ∃ r G, g = .f r G := by simpa [isG] using hfit.1
        subst hgr
        refine loud rfl (fun a b hab => by rw [hstH rfl]; exact hab) (fun w hw hf => hh.1 w hw ?_) (fun x => rec' (.v (r.emb x)) (G x) (hh.2 x))
        have h1 := hf n (by unfold dOf; rw [hhot]; simp [isH])
        rw [← hl] at h1
        have h2 := fOf_own h1
        rw [hl] at h2
        unfold iniOf at h2; rw [hhot] at h2
        exact h2
      | sg pl =>
        obtain ⟨r, G, hgr⟩ : ∃ r G, g = .f r G := by simpa [isG] using hfit.1
        subst hgr
        exact loud rfl (fun a b hab => by rw [hstC rfl]; exact hab) (fun w hw _ => hh.1 w hw) (fun x => recS (.v (r.emb x)) (G x) (hh.2 x))
    rw [List.length_cons, List.range'_succ]
    unfold SV SVat
    simp only [hon]
    rw [evG] at h
    split at h
    · rename_i hgd
      rw [if_pos (by simp [Region.wanted, hgd])]
      exact exec h
    · rename_i j want hgd
      split at h
      · exact h.elim
      · rename_i d hd
        have hwant := wanted_some (ds := ds) (env := env) hgd hd
        split at h
        · rename_i t ht
          simp only [ht, EV.val] at hwant
          split at h
          · rename_i htw
            rw [htw] at hwant
            rw [if_pos hwant]
            exact exec h
          · rename_i htw
            rw [htw] at hwant
            rw [if_neg (by simp [hwant])]
            exact rec' u0 fT h
        · rename_i x ht
          simp only [ht, EV.val] at hwant
          cases x with
          | bool b => exact h.elim
          | _ =>
            simp only at hwant
            rw [if_neg (by rw [hwant]; simp)]
            exact rec' u0 fT h
theorem exG_out : ∀ (ps : List GP) {k : List GF → Prop}, exG Sp ps k → ∃ gs, k gs ∧ (∀ ps' : List (GP × List Nat), ps'.map (·.1) = ps → fits gs ps') ∧ ∀ (i : Nat) r G, gs[i]? = some (.f r G) → Kept Sp G := by
  have quiet : ∀ {p : GP} {r : List GP} {k : List GF → Prop}, isG p = false → (∃ gs, k (.n :: gs) ∧ (∀ ps' : List (GP × List Nat), ps'.map (·.1) = r → fits gs ps') ∧ ∀ (i : Nat) r G, gs[i]? = some (.f r G) → Kept Sp G) →
      ∃ gs, k gs ∧ (∀ ps' : List (GP × List Nat), ps'.map (·.1) = p :: r → fits gs ps') ∧ ∀ (i : Nat) r G, gs[i]? = some (.f r G) → Kept Sp G := by
    rintro p r k hp ⟨gs, h1, h2, h3⟩
    refine ⟨.n :: gs, h1, fun ps' hps => ?_, fun i r G hi => ?_⟩
    · rcases ps' with _ | ⟨q, ps'⟩
      · simp at hps
      · simp only [List.map_cons, List.cons.injEq] at hps
        refine ⟨?_, h2 _ hps.2⟩
        rw [hps.1, hp]
    · cases i with
      | zero => simp at hi
      | succ i => exact h3 i r G (by simpa using hi)
  have loud : ∀ {p : GP} {r : List GP} {k : List GF → Prop} {τ : Rs} {G0 : τ.T → World → Prop}, isG p = true → Kept Sp G0 → (∃ gs, k (.f τ G0 :: gs) ∧ (∀ ps' : List (GP × List Nat), ps'.map (·.1) = r → fits gs ps') ∧ ∀ (i : Nat) r G, gs[i]? = some (.f r G) → Kept Sp G) →
      ∃ gs, k gs ∧ (∀ ps' : List (GP × List Nat), ps'.map (·.1) = p :: r → fits gs ps') ∧ ∀ (i : Nat) r G, gs[i]? = some (.f r G) → Kept Sp G := by
    rintro p r k τ G0 hp hk ⟨gs, h1, h2, h3⟩
    refine ⟨.f τ G0 :: gs, h1, fun ps' hps => ?_, fun i r G hi => ?_⟩
    · rcases ps' with _ | ⟨q, ps'⟩
      · simp at hps
      · simp only [List.map_cons, List.cons.injEq] at hps
        refine ⟨?_, h2 _ hps.2⟩
        rw [hps.1, hp]
        exact ⟨τ, G0, rfl⟩
    · cases i with
      | zero =>
        simp only [List.getElem?_cons_zero, Option.some.injEq, GF.f.injEq] at hi
        obtain ⟨rfl, hi⟩ := hi
        rw [← eq_of_heq hi]; exact hk
      | succ i => exact h3 i r G (by simpa using hi)
  intro ps
  induction ps with
  | nil => exact fun h => ⟨[], h, fun ps' hp => by simp at hp; subst hp; trivial, by simp⟩
  | cons p r ih =>
    intro k h
    cases p with
    | q => exact quiet rfl (ih h)
    | sq => exact quiet rfl (ih h)
    | g τ pl => obtain ⟨G0, hk, h⟩ := h; exact loud rfl hk (ih h)
    | sg pl => obtain ⟨G0, hk, h⟩ := h; exact loud rfl hk (ih h)
    | h τ pl => obtain ⟨G0, hk, h⟩ := h; exact loud rfl hk (ih h)
def hotB : List (GP × List Nat) → Bool
  | [] => false
  | p :: ps => match isH p.1 with | true => true | false => hotB ps
def gidsOf (ps : List (GP × List Nat)) : List Nat := (List.range ps.length).filter fun i => match ps[i]? with | some p => isG p.1 | none => false
/-- What a region asks that draws its order, one fact for each operation; its tail comes last, one by one. -/
def evR (P : Program) (ops : Array Oper) (ps : List (GP × List Nat)) (tl : List OpP) (K : Exit → Env → World → Prop) (env : Env) (w : World) : Prop :=
  match hotB ps with
  | false => ∃ Sp : World → World → Prop, SpOk Sp w ∧ exG Sp (ps.map (·.1)) fun gs =>
    evG P ops Sp Sp fT w (gidsOf ps) (fun env' w' => evL P ops K tl (ops.toList.drop ps.length) env' w') gs ps (ops.toList.take ps.length) env []
  | true => ∃ Sp : World → World → Prop, SpOk Sp w ∧ ∃ N : World → Prop, NOk N w ∧ exG Sp (ps.map (·.1)) fun gs =>
    evG P ops Sp (Sk Sp N) N w (gidsOf ps) (fun env' w' => evL P ops K tl (ops.toList.drop ps.length) env' w') gs ps (ops.toList.take ps.length) env []
/-- Of those that change what the others leave alone there is one. -/
def oneH (ps : List (GP × List Nat)) : Bool :=
  (List.range ps.length).all fun i => (List.range ps.length).all fun j => decide (i = j) || !(hotAt ps i && hotAt ps j)
theorem hotAt_lt {ps : List (GP × List Nat)} {k : Nat} (h : hotAt ps k = true) : k < ps.length := by
  unfold hotAt at h
  split at h
  · rename_i p hp; exact (List.getElem?_eq_some_iff.1 hp).1
  · simp at h
theorem oneH_spec {ps : List (GP × List Nat)} (h : oneH ps = true) (k j : Nat) (hk : hotAt ps k = true) (hj : hotAt ps j = true) : k = j := by
  have h1 := List.all_eq_true.1 h k (List.mem_range.2 (hotAt_lt hk))
  have h2 := List.all_eq_true.1 h1 j (List.mem_range.2 (hotAt_lt hj))
  rw [hk, hj] at h2
  simpa using h2
def okR (P : Program) (ops : Array Oper) (ps : List (GP × List Nat)) (n : Nat) : Bool :=
  P.follows .mixedOrders && (oneH ps && (depsOk ops ps.length (dOf ps) && (tailOk ops ps.length && (decide (ps.length ≤ ops.size) && dstOk n (ops.toList.take ps.length)))))
theorem evR_sound {id : Nat} {ps : List (GP × List Nat)} {tl : List OpP} {S : List Nat} {env : Env} {w : World} {K : Exit → Env → World → Prop} {Q' : Exit → Act → World → Prop} (hok : okR P ops ps env.length = true) (hS : ∀ o ∈ ops.toList, ∀ d, o.dst = some d → d ∈ S)
    (hK : ∀ e env' w', K e env' w' → Ag S env env' → Q' e (act ds env') w') (h : evR P ops ps tl K env w) : (Code.region id ops true).wp P Q' (act ds env) w := by
  simp only [okR, Bool.and_eq_true, decide_eq_true_eq] at hok
  obtain ⟨hm, hone, hD, hTl, hlen, hdst⟩ := hok
  have hone := oneH_spec hone
  obtain ⟨Sp, Sc, Nf, ⟨h1, h2, h3⟩, hc1, hc2, hN, hcN, h4⟩ : ∃ (Sp Sc : World → World → Prop) (N : World → Prop), SpOk Sp w ∧ (∀ a, Sc a a) ∧ (∀ a b, Sc a b → Sp a b) ∧ N { w with drawn := w.drawn + 1 } ∧ (∀ a b, N a → Sc a b → N b) ∧ exG Sp (ps.map (·.1)) fun gs =>
      evG P ops Sp Sc N w (gidsOf ps) (fun env' w' => evL P ops K tl (ops.toList.drop ps.length) env' w') gs ps (ops.toList.take ps.length) env [] := by
    unfold evR at h
    split at h
    · obtain ⟨Sp, h1, h2⟩ := h
      exact ⟨Sp, Sp, fT, h1, h1.1, fun _ _ h => h, trivial, fun _ _ _ _ => trivial, h2⟩
    · obtain ⟨Sp, h1, N, hN, h2⟩ := h
      exact ⟨Sp, Sk Sp N, N, h1, fun a => ⟨h1.1 a, fun h => h⟩, fun _ _ h => h.1, hN, fun a b ha hab => hab.2 ha, h2⟩
  obtain ⟨gs, h5, h6, h7⟩ := exG_out _ h4
  have hsub : ∀ i a b, stOf Sp Sc ps i a b → Sp a b := fun i a b h => by
    unfold stOf at h
    cases hh : hotAt ps i with
    | true => rw [hh] at h; exact h
    | false => rw [hh] at h; exact hc2 _ _ h
  have hSV := evG_SV (ds := ds) (N := ps.length) (S := S) (env0 := env) (G0 := gs) (P0 := ps) (Nf := Nf) h1 hc1 gs ps (ops.toList.take ps.length) env [] 0 rfl rfl rfl rfl (h6 ps rfl) hdst (fun o ho => hS o (List.mem_of_mem_take ho)) (Ag.refl _ _) h5
  refine wp_region_any hm ?_
  have hleft : left ps.length (Array.replicate ops.size false) = List.range ps.length := by
    unfold left
    rw [List.filter_eq_self]
    intro i hi
    have := List.mem_range.1 hi
    simp only [Array.getD_eq_getD_getElem?]
    rw [Array.getElem?_replicate, if_pos (by omega)]; rfl
  have htake : (ops.toList.take ps.length).length = ps.length := by have e : ops.toList.length = ops.size := Array.length_toList; rw [List.length_take]; omega
  have := wpAny_of_SV (P := P) (St := stOf Sp Sc ps) (C := Sp w) (D := dOf ps) (T := fun i s v φ => TG gs i s P v φ) (m := (ops.toList.drop ps.length).length) (Q' := Q') hlen hD hTl ?_ (fun j x y hx hxy => h2 _ _ _ hx (hsub _ _ _ hxy)) (Q := fun a w => ∃ env', evL P ops K tl (ops.toList.drop ps.length) env' w ∧ Ag S env env' ∧ a = act ds env') ?_ ps.length (Array.replicate ops.size false) (act ds env) { w with drawn := w.drawn + 1 } (fOf (iniOf Nf ps) []) (by simp) (fun k h1 h2 => by
      simp only [Array.getD_eq_getD_getElem?]; rw [Array.getElem?_replicate, if_pos h2]; rfl) (fun j o hj h => by
        have hj' := (Array.getElem?_eq_some_iff.1 hj).1
        simp only [Array.getD_eq_getD_getElem?] at h; rw [Array.getElem?_replicate, if_pos hj'] at h; simp at h) (by rw [hleft]; simp) ?_ h3 ?_ ?_
  · have e : ps.length + (ops.toList.drop ps.length).length = ops.size := by have e : ops.toList.length = ops.size := Array.length_toList; rw [List.length_drop]; omega
    rw [e] at this
    exact this
  · intro i s v φ ht j x y hx hxy
    unfold TG at ht
    split at ht
    · rename_i r G hi
      obtain ⟨z, _, rfl⟩ := ht
      exact h7 i r G hi z x y hx (hsub _ _ _ hxy)
    · rw [ht.2]; trivial
  · rintro a w' listed hsz ht hf ⟨env', hk, hag, rfl⟩
    exact wpAny_tail hTl hK tl (ops.toList.drop ps.length) ps.length listed env' w' (Nat.le_refl _) rfl hsz (fun k h1 _ => ht k h1) hf (fun o ho => hS o (List.mem_of_mem_drop ho)) hag hk
  · rw [hleft, List.range_eq_range']
    rw [htake] at hSV
    exact hSV
  · intro k
    show iniOf Nf ps k _
    unfold iniOf
    cases hh : hotAt ps k with
    | true => exact hN
    | false => trivial
  · intro k j x y hjk hx hxy
    have hx : iniOf Nf ps k x := hx
    show iniOf Nf ps k y
    unfold iniOf at hx ⊢
    cases hk : hotAt ps k with
    | false => trivial
    | true =>
      rw [hk] at hx
      refine hcN _ _ hx ?_
      unfold stOf at hxy
      cases hj : hotAt ps j with
      | false => rw [hj] at hxy; exact hxy
      | true => exact absurd (hone k j hk hj).symm hjk
end
end Go.Proofs.Ytdgnojjemlfhdaa.V
