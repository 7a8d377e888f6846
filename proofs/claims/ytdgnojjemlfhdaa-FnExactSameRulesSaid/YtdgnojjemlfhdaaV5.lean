/- The verification-condition generator: 'ev' and its soundness. -/
import Derived.Test.YtdgnojjemlfhdaaV4
namespace Go.Proofs.Ytdgnojjemlfhdaa.V
open Go Go.RowKit

def evL (P : Program) (ops : Array Oper) (K : Exit → Env → World → Prop) : List OpP → List Oper → Env → World → Prop
  | _, [], env, w => K .normal env w
  | [], _ :: _, _, _ => False
  | p :: ps, o :: os, env, w =>
    match o.guard with
    | none => evOp P p o env w (fun v w' => evL P ops K ps os (put env o.dst v) w') (fun ch w' => K (.panic ch) env w')
    | some (j, want) =>
      match (ops.toList[j]?).bind (·.dst) with
      | none => False
      | some d => match env.getD d u0 with
        | .b t => match t == want with
          | true => evOp P p o env w (fun v w' => evL P ops K ps os (put env o.dst v) w') (fun ch w' => K (.panic ch) env w')
          | false => evL P ops K ps os (put env o.dst u0) w
        | .v (.bool t) =>
          (t = want → evOp P p o (env.set d (.b want)) w (fun v w' => evL P ops K ps os (put (env.set d (.b want)) o.dst v) w') (fun ch w' => K (.panic ch) (env.set d (.b want)) w')) ∧
          (t = (!want) → evL P ops K ps os (put (env.set d (.b (!want))) o.dst u0) w)
        | .v _ => evL P ops K ps os (put env o.dst u0) w

def Ag (S : List Nat) (env env' : Env) : Prop := env'.length = env.length ∧ ∀ i, i ∉ S → (env'.getD i u0).val = (env.getD i u0).val
theorem Ag.refl (S : List Nat) (env : Env) : Ag S env env := ⟨rfl, fun _ _ => rfl⟩
theorem Ag.trans {S : List Nat} {a b c : Env} (h : Ag S a b) (k : Ag S b c) : Ag S a c := ⟨k.1.trans h.1, fun i hi => (k.2 i hi).trans (h.2 i hi)⟩
theorem Ag.mono {S T : List Nat} {a b : Env} (h : Ag S a b) (hs : ∀ i, i ∈ S → i ∈ T) : Ag T a b := ⟨h.1, fun i hi => h.2 i (fun hh => hi (hs i hh))⟩
theorem Ag.put {S : List Nat} (env : Env) (d : Option Tmp) (v : EV) (h : ∀ k, d = some k → k ∈ S) : Ag S env (put env d v) := by
  cases d with
  | none => exact Ag.refl _ _
  | some d =>
    refine ⟨by simp [V.put], fun i hi => ?_⟩
    have : d ≠ i := fun e => hi (e ▸ h d rfl)
    simp [V.put, List.getD_eq_getElem?_getD, List.getElem?_set_ne this]
theorem set_val {env : Env} {d : Nat} {v : EV} (h : (env.getD d u0).val = v.val) (i : Nat) : ((env.set d v).getD i u0).val = (env.getD i u0).val := by
  by_cases hi : d = i
  · subst hi
    rw [List.getD_eq_getElem?_getD, List.getElem?_set]
    by_cases hl : d < env.length
    · simp [hl, ← h]
    · rw [List.getD_eq_getElem?_getD] at h ⊢
      simp [hl]
  · rw [List.getD_eq_getElem?_getD, List.getD_eq_getElem?_getD, List.getElem?_set_ne hi]
theorem Ag.set {S : List Nat} {env : Env} {d : Nat} {v : EV} (h : (env.getD d u0).val = v.val) : Ag S env (env.set d v) := ⟨by simp, fun i _ => set_val h i⟩
theorem act_congr {ds : List Deferred} {a b : Env} (hl : a.length = b.length) (h : ∀ i, (a.getD i u0).val = (b.getD i u0).val) : act ds a = act ds b := by
  have : a.map EV.val = b.map EV.val := by
    apply List.ext_getElem
    · simp [hl]
    · intro i h1 h2
      simp only [List.length_map] at h1 h2
      have := h i
      simp only [List.getD_eq_getElem?_getD, List.getElem?_eq_getElem h1, List.getElem?_eq_getElem h2, Option.getD_some] at this
      simpa using this
  simp [act, this]
theorem act_set {ds : List Deferred} {env : Env} {d : Nat} {v : EV} (h : (env.getD d u0).val = v.val) : act ds (env.set d v) = act ds env := act_congr (by simp) (set_val h)

theorem tmps_get (ds : List Deferred) (env : Env) (d : Nat) : (act ds env).tmps[d]? = (env[d]?).map EV.val := by simp [act]
theorem wanted_some {ops : Array Oper} {o : Oper} {ds : List Deferred} {env : Env} {j d : Nat} {want : Bool} (hg : o.guard = some (j, want)) (hd : (ops.toList[j]?).bind (·.dst) = some d) :
    Region.wanted o (yielded ops (act ds env).tmps) = match (env.getD d u0).val with
      | .bool t => t == want
      | _ => false := by
  have hd' : (ops[j]?).bind (·.dst) = some d := by simpa using hd
  simp only [Region.wanted, hg, yielded, hd', Option.bind_some, tmps_get, List.getD_eq_getElem?_getD]
  cases env[d]? with
  | none => simp [u0, EV.val, undef]
  | some v =>
    simp only [Option.map_some, Option.getD_some]
    cases v.val <;> simp
    all_goals rfl

section
variable {P : Program} {ds : List Deferred}
theorem evL_sound {ops : Array Oper} {S : List Nat} {env0 : Env} {K : Exit → Env → World → Prop} {Q : Exit → Act → World → Prop} (hK : ∀ e env' w', K e env' w' → Ag S env0 env' → Q e (act ds env') w') :
    ∀ (ps : List OpP) (os : List Oper) (env : Env) (w : World), (∀ o ∈ os, ∀ d, o.dst = some d → d ∈ S) → Ag S env0 env → evL P ops K ps os env w → wpList P ops Q os (act ds env) w
  | _, [], env, w, _, ha, h => by cases ‹List OpP› <;> exact hK _ _ _ h ha
  | [], _ :: _, _, _, _, _, h => h.elim
  | p :: ps, o :: os, env, w, hS, ha, h => by
    have ih := evL_sound (ops := ops) hK ps os
    have hos : ∀ o' ∈ os, ∀ d, o'.dst = some d → d ∈ S := fun o' ho' => hS o' (List.mem_cons_of_mem _ ho')
    have hod : ∀ k, o.dst = some k → k ∈ S := hS o List.mem_cons_self
    have exec : ∀ env1, act ds env1 = act ds env → Ag S env0 env1 → evOp P p o env1 w (fun v w' => evL P ops K ps os (put env1 o.dst v) w') (fun ch w' => K (.panic ch) env1 w') →
        o.wp P (act ds env) w (wpList P ops Q os) Q := by
      intro env1 he ha1 h1
      rw [← he]
      exact evOp_sound h1 (fun v w' hh => ih _ _ hos (ha1.trans (Ag.put env1 o.dst v hod)) hh) (fun ch w' hh => hK _ _ _ hh ha1)
    have skip : ∀ env1, act ds env1 = act ds env → Ag S env0 env1 → evL P ops K ps os (put env1 o.dst u0) w → wpList P ops Q os ((act ds env).put o.dst undef) w := by
      intro env1 he ha1 h1
      rw [← he]
      have := act_put ds env1 o.dst u0
      simp only [EV.val, u0] at this
      rw [this]
      exact ih _ _ hos (ha1.trans (Ag.put env1 o.dst _ hod)) h1
    simp only [evL] at h
    unfold wpList
    split at h
    · rename_i hg
      rw [if_pos (by simp [Region.wanted, hg])]
      exact .inl (exec env rfl ha h)
    · rename_i j want hg
      split at h
      · exact h.elim
      · rename_i d hd
        have hwant := wanted_some (ds := ds) (env := env) hg hd
        split at h
        · rename_i t ht
          simp only [ht, EV.val] at hwant
          split at h
          · rename_i htw
            rw [htw] at hwant
            rw [if_pos hwant]
            exact .inl (exec env rfl ha h)
          · rename_i htw
            rw [htw] at hwant
            rw [if_neg (by simp [hwant])]
            exact skip env rfl ha h
        · rename_i t ht
          simp only [ht, EV.val] at hwant
          by_cases htw : t = want
          · subst htw
            have hv : (env.getD d u0).val = (EV.b t).val := by rw [ht]; rfl
            rw [if_pos (by simp [hwant])]
            exact .inl (exec _ (act_set hv) (ha.trans (Ag.set hv)) (h.1 rfl))
          · have htn : t = !want := by cases t <;> cases want <;> simp_all
            have hv : (env.getD d u0).val = (EV.b (!want)).val := by rw [ht, htn]; rfl
            rw [if_neg (by rw [hwant]; simp [htw])]
            exact skip _ (act_set hv) (ha.trans (Ag.set hv)) (h.2 htn)
        · rename_i x hx ht
          have hw0 : Region.wanted o (yielded ops (act ds env).tmps) = false := by
            rw [hwant, ht]
            simp only [EV.val]
          rw [if_neg (by simp [hw0])]
          exact skip env rfl ha h
end

/-- What of the model's monad needs no memory. -/
def pureS {α : Type} (P : Program) : Sem α → Option α
  | .pure a => some a
  | .program k => pureS P (k P)
  | _ => none
theorem pureS_run {α : Type} {P : Program} {s : Sem α} {a : α} (h : pureS P s = some a) (w : World) : s.run P w = .ok a w := by
  induction s with
  | pure b => simp only [pureS, Option.some.injEq] at h; subst h; rfl
  | program k ih => exact ih P h
  | _ => simp [pureS] at h

def QLd (l : Lf) (a : Addr) (C : World → Prop) (K : l.T → Prop) : Prop := ∃ x : l.T, (∀ w, C w → w.cell? a = some (l.emb x)) ∧ K x
def QLdA (ls : List Lf) (a : Addr) (C : World → Prop) (K : Tup ls → Prop) : Prop :=
  ∃ x : Tup ls, (∀ w, C w → ∀ j v, (Tup.cells ls x)[j]? = some v → w.cell? (a.add j) = some v) ∧ K x
def QCl (r : Rs) (P : Program) (f : FuncId) (args : List Value) (C : World → Prop) (K : r.T → Prop) : Prop := ∃ x : r.T, (∀ w, C w → CallT r P f args w fun y w' => y = x ∧ C w') ∧ K x
def QIx (s : Option Addr) (n : Nat) (i : Int) (sz : Nat) (K : Addr → Prop) : Prop := ∃ a, s = some a ∧ 0 ≤ i ∧ i < n ∧ K (a.add (i.toNat * sz))
def QSx (s : ByteArray) (i : Int) (K : Int → Prop) : Prop := 0 ≤ i ∧ ∃ b, s[i.toNat]? = some b ∧ K (b.toNat : Int)
/-- An operation of a region that draws its order: one value in every world of a class. -/
def splQ (K : EV → Prop) (v : EV) : Prop :=
  match v with
  | .v (.bool t) => (t = true → K (.b true)) ∧ (t = false → K (.b false))
  | .v x => K (.v x)
  | .b t => K (.b t)
def evQo (P : Program) (C : World → Prop) (pl : OpP) (o : Oper) (env : Env) (K : EV → Prop) : Prop :=
  match pl with
  | .sp p => evQo P C p o env (splQ K)
  | .l (.lf l) => match o.op with
    | .load t a => match rho env a with
      | .pointer (some ad) => if aggT P t = some false then QLd l ad C fun x => K (.v (l.emb x)) else False
      | _ => False
    | _ => False
  | .l (.ag ls) => match o.op with
    | .load t a => match rho env a with
      | .pointer (some ad) => if aggT P t = some true && szOf P t = some ls.length then QLdA ls ad C fun x => K (.v (.agg (Tup.cells ls x).toArray)) else False
      | _ => False
    | _ => False
  | .c r => match callOf env o with
    | some (f, args) => if callable P f then QCl r P f args C fun x => K (.v (r.emb x)) else False
    | none => False
  | .n => match o.op with
    | .nilCheck x => match rho env x with
      | .pointer p => ∃ a, p = some a ∧ K (.v (.pointer (some a)))
      | _ => False
    | _ => False
  | .d => match o.op with
    | .move x | .assign x => K (evO env x)
    | .pick c a b =>
      match evO env c with
      | .b t => K (match t with | true => evO env a | false => evO env b)
      | _ => False
    | .binOp op _ x y _ =>
      match op, rho env x, rho env y with
      | .quo, .int k a, .int k' b => if k = k' then b ≠ 0 ∧ K (.v (.int k (k.wrap (a.tdiv b)))) else False
      | .rem, .int k a, .int k' b => if k = k' then b ≠ 0 ∧ K (.v (.int k (a.tmod b))) else False
      | .add, .string a, .string b => ((a.size + b.size : Nat) : Int) ≤ IntKind.i64.max ∧ K (.v (.string (a ++ b)))
      | _, _, _ => match pureS P (execOp (rho env) o) with
        | some (.value v) => K (.v v)
        | _ => False
    | .unOp _ _ _ | .fieldAddr _ _ _ | .convert _ _ _ => match pureS P (execOp (rho env) o) with
        | some (.value v) => K (.v v)
        | _ => False
    | .extract t ix => match rho env t with
      | .tuple vs => match vs.toList[ix]? with
        | some v => K (.v v)
        | none => False
      | _ => False
    | .nilCheck x => match rho env x with
      | .pointer (some a) => K (.v (.pointer (some a)))
      | _ => False
    | .indexAddr t x ix => match rho env x, rho env ix with
      | .slice s n _, .int _ i => match elemOf P t with
        | some e => match szOf P e with
          | some sz => QIx s n i sz fun a => K (.v (.pointer (some a)))
          | none => False
        | none => False
      | _, _ => False
    | .index t x ix => match rho env x, rho env ix with
      | .string s, .int _ i => match P.underlying t with
        | some .string => QSx s i fun b => K (.v (.int .u8 b))
        | _ => False
      | _, _ => False
    | .call { callee := .builtin .len, args, argTypes } => match args.toList.map (rho env), argTypes.toList with
      | [.slice _ n _], [t] => match P.underlying t with
        | some (.slice _) => K (.v (.int .i64 n))
        | _ => False
      | [.string s], [t] => match P.underlying t with
        | some .string => K (.v (.int .i64 s.size))
        | _ => False
      | _, _ => False
    | _ => False
  | _ => False
def evQ (P : Program) (ops : Array Oper) (C : World → Prop) (K : Env → Prop) : List OpP → List Oper → Env → Prop
  | _, [], env => K env
  | [], _ :: _, _ => False
  | p :: ps, o :: os, env =>
    match o.guard with
    | none => evQo P C p o env (fun v => evQ P ops C K ps os (put env o.dst v))
    | some (j, want) =>
      match (ops.toList[j]?).bind (·.dst) with
      | none => False
      | some d => match env.getD d u0 with
        | .b t => match t == want with
          | true => evQo P C p o env (fun v => evQ P ops C K ps os (put env o.dst v))
          | false => evQ P ops C K ps os (put env o.dst u0)
        | .v (.bool t) =>
          (t = want → evQo P C p o (env.set d (.b want)) (fun v => evQ P ops C K ps os (put (env.set d (.b want)) o.dst v))) ∧
          (t = (!want) → evQ P ops C K ps os (put (env.set d (.b (!want))) o.dst u0))
        | .v _ => evQ P ops C K ps os (put env o.dst u0)

section
variable {P : Program} {ds : List Deferred} {C : World → Prop}
theorem quiet_val {o : Oper} {env : Env} {K : EV → Prop} {next : Act → Prop} {v : EV} (hr : ∀ w, (execOp (rho env) o).run P w = .ok (.value v.val) w) (h : K v)
    (hK : ∀ v, K v → next (act ds (put env o.dst v))) : o.quiet P (act ds env) C next := by
  refine ⟨v.val, fun w _ => ?_, ?_⟩
  · unfold Oper.quietAt
    rw [act_eval, hr w]
    exact ⟨rfl, rfl⟩
  · rw [act_put]; exact hK _ h
theorem evQo_pure {o : Oper} {env : Env} {K : EV → Prop} {next : Act → Prop} (h : match pureS P (execOp (rho env) o) with | some (.value v) => K (.v v) | _ => False)
    (hK : ∀ v, K v → next (act ds (put env o.dst v))) : o.quiet P (act ds env) C next := by
  split at h
  · rename_i v hr; exact quiet_val (v := .v v) (fun w => pureS_run hr w) h hK
  · exact h.elim
theorem splQ_out {o : Oper} {env : Env} {K : EV → Prop} {next : Act → Prop} {v : EV} (h : splQ K v) (hK : ∀ v, K v → next (act ds (put env o.dst v))) : next (act ds (put env o.dst v)) := by
  cases v with
  | b t => exact hK _ h
  | v x =>
    cases x with
    | bool t =>
      have he : act ds (put env o.dst (.v (.bool t))) = act ds (put env o.dst (.b t)) := by rw [← act_put, ← act_put]; rfl
      rw [he]
      cases t with
      | true => exact hK _ (h.1 rfl)
      | false => exact hK _ (h.2 rfl)
    | _ => exact hK _ h
theorem evQo_sound0 {p : OpP} {o : Oper} {env : Env} {K : EV → Prop} {next : Act → Prop} (hp : ∀ q, p ≠ .sp q) (h : evQo P C p o env K)
    (hK : ∀ v, K v → next (act ds (put env o.dst v))) : o.quiet P (act ds env) C next := by
  obtain ⟨dst, op, type, pos, after, guard⟩ := o
  cases p with
  | sp q => exact (hp q rfl).elim
  | l τ =>
    cases τ with
    | ag ls =>
      cases op with
      | load t a =>
        simp only [evQo] at h
        split at h
        · rename_i ad ha
          split at h
          · rename_i ht
            simp only [Bool.and_eq_true, decide_eq_true_eq] at ht
            obtain ⟨x, hx, hk⟩ := h
            have hl : (Tup.cells ls x).length = ls.length := by
              clear hx hk ht
              induction ls with
              | nil => rfl
              | cons l ls ih => simp [Tup.cells, ih]
            refine ⟨.agg (Tup.cells ls x).toArray, fun w hw => ?_, ?_⟩
            · unfold Oper.quietAt
              rw [act_eval]
              simp [execOp, ha, Instr.loadAt, Instr.sureAddr, run_loadAg ht.1 (hl ▸ ht.2) (hx w hw), Oper.quietUpon]
            · have := act_put ds env dst (.v (.agg (Tup.cells ls x).toArray))
              simp only [EV.val] at this
              rw [this]; exact hK _ hk
          · exact h.elim
        · exact h.elim
      | _ => exact h.elim
    | lf l =>
      cases op with
      | load t a =>
        simp only [evQo] at h
        split at h
        · rename_i ad ha
          split at h
          · rename_i ht
            obtain ⟨x, hx, hk⟩ := h
            refine ⟨l.emb x, fun w hw => ?_, ?_⟩
            · unfold Oper.quietAt
              rw [act_eval]
              simp [execOp, ha, Instr.loadAt, Instr.sureAddr, run_loadLf ht (hx w hw), Oper.quietUpon]
            · have := act_put ds env dst (.v (l.emb x))
              simp only [EV.val] at this
              rw [this]; exact hK _ hk
          · exact h.elim
        · exact h.elim
      | _ => exact h.elim
  | c r =>
    simp only [evQo] at h
    split at h
    · rename_i f args hc
      split at h
      · rename_i hcb
        obtain ⟨x, hx, hk⟩ := h
        refine ⟨r.emb x, fun w hw => ?_, ?_⟩
        · unfold Oper.quietAt
          rw [act_eval, callOf_run hc hcb]
          refine ⟨rfl, Calls.mono (hx w hw) ?_⟩
          rintro e w' ⟨y, rfl, rfl, hc'⟩
          exact ⟨rfl, hc'⟩
        · have := act_put ds env dst (.v (r.emb x))
          simp only [EV.val] at this
          rw [this]; exact hK _ hk
      · exact h.elim
    · exact h.elim
  | n =>
    cases op with
    | nilCheck x =>
      simp only [evQo] at h
      split at h
      · rename_i pp hp
        obtain ⟨a, rfl, hk⟩ := h
        exact quiet_val (v := .v (.pointer (some a))) (fun w => by simp [execOp, hp, EV.val]) hk hK
      · exact h.elim
    | _ => exact h.elim
  | d =>
    cases op with
    | move x => exact quiet_val (fun w => by simp [execOp, rho]) h hK
    | assign x => exact quiet_val (fun w => by simp [execOp, rho]) h hK
    | pick c a b =>
      simp only [evQo] at h
      split at h
      · rename_i t hc
        cases t with
        | true => exact quiet_val (v := evO env a) (fun w => by simp [execOp, rho, hc, EV.val, asBool]) h hK
        | false => exact quiet_val (v := evO env b) (fun w => by simp [execOp, rho, hc, EV.val, asBool]) h hK
      · exact h.elim
    | binOp op t x y yt =>
      simp only [evQo] at h
      split at h
      · rename_i k a k' b hx hy
        split at h
        · rename_i hk
          subst hk
          refine quiet_val (v := .v (.int k (k.wrap (a.tdiv b)))) (fun w => ?_) h.2 hK
          simp [execOp, hx, hy, eqGuard, binOp, Op.intDiv, h.1, EV.val]
        · exact h.elim
      · rename_i k a k' b hx hy
        split at h
        · rename_i hk
          subst hk
          refine quiet_val (v := .v (.int k (a.tmod b))) (fun w => ?_) h.2 hK
          simp [execOp, hx, hy, eqGuard, binOp, Op.intDiv, h.1, EV.val]
        · exact h.elim
      · rename_i a b hx hy
        refine quiet_val (v := .v (.string (a ++ b))) (fun w => ?_) h.2 hK
        have hh : ((a.size : Int) + b.size) ≤ 9223372036854775807 := by have := h.1; have e : IntKind.i64.max = 9223372036854775807 := rfl; omega
        simp only [execOp, hx, hy, eqGuard, binOp, Op.stringOp, Sem.run_bind, Int.natCast_add]
        simp [EV.val]
        exact hh
      · exact evQo_pure h hK
    | unOp op t x => exact evQo_pure h hK
    | fieldAddr s x f => exact evQo_pure h hK
    | convert s d x => exact evQo_pure h hK
    | extract t ix =>
      simp only [evQo] at h
      split at h
      · rename_i vs hv
        split at h
        · rename_i v hi
          simp only [Array.getElem?_toList] at hi
          exact quiet_val (v := .v v) (fun w => by simp [execOp, hv, Instr.extract, hi, EV.val]) h hK
        · exact h.elim
      · exact h.elim
    | nilCheck x =>
      simp only [evQo] at h
      split at h
      · rename_i a ha
        exact quiet_val (v := .v (.pointer (some a))) (fun w => by simp [execOp, ha, EV.val]) h hK
      · exact h.elim
    | indexAddr t x ix =>
      simp only [evQo] at h
      split at h
      · rename_i s n c k i hx hi
        split at h
        · rename_i e he
          split at h
          · rename_i sz hs
            obtain ⟨a, ha, h0, h1, hk⟩ := h
            exact quiet_val (v := .v (.pointer (some (a.add (i.toNat * sz))))) (fun w => by simp [execOp, hx, hi, run_indexAt he hs ha h0 h1, EV.val]) hk hK
          · exact h.elim
        · exact h.elim
      · exact h.elim
    | index t x ix =>
      simp only [evQo] at h
      split at h
      · rename_i s k i hx hi
        split at h
        · rename_i hu
          obtain ⟨h0, b, hb, hk⟩ := h
          refine quiet_val (v := .v (.int .u8 (b.toNat : Int))) (fun w => ?_) hk hK
          simp [execOp, hx, hi, Instr.index, asIntOf, underlying, hu, h0, hb, EV.val]
        · exact h.elim
      · exact h.elim
    | call c =>
      obtain ⟨callee, args, ats⟩ := c
      cases callee with
      | value x => exact h.elim
      | invoke r m => exact h.elim
      | builtin b =>
        cases b with
        | len =>
          simp only [evQo] at h
          split at h
          · rename_i s n cc t ha ht
            split at h
            · rename_i e hu
              refine quiet_val (v := .v (.int .i64 n)) (fun w => ?_) h hK
              have h0 : (args.map (rho env))[0]? = some (.slice s n cc) := by rw [← Array.getElem?_toList, Array.toList_map, ha]; rfl
              have h1 : ats[0]? = some t := by rw [← Array.getElem?_toList, ht]; rfl
              simp only [Array.getElem?_map] at h0
              simp [execOp, resolve, invoke, builtin, Builtin.len_, h0, h1, underlying, hu, goInt, EV.val]
            · exact h.elim
          · rename_i s t ha ht
            split at h
            · rename_i hu
              refine quiet_val (v := .v (.int .i64 s.size)) (fun w => ?_) h hK
              have h0 : (args.map (rho env))[0]? = some (.string s) := by rw [← Array.getElem?_toList, Array.toList_map, ha]; rfl
              have h1 : ats[0]? = some t := by rw [← Array.getElem?_toList, ht]; rfl
              simp only [Array.getElem?_map] at h0
              simp [execOp, resolve, invoke, builtin, Builtin.len_, h0, h1, underlying, hu, goInt, EV.val]
            · exact h.elim
          · exact h.elim
        | _ => exact h.elim
    | _ => exact h.elim
  | _ => exact h.elim
theorem evQo_sound {p : OpP} {o : Oper} {env : Env} {next : Act → Prop} : ∀ {K : EV → Prop}, evQo P C p o env K →
    (∀ v, K v → next (act ds (put env o.dst v))) → o.quiet P (act ds env) C next := by
  induction p with
  | sp p ih => exact fun h hK => ih h (fun v hh => splQ_out hh hK)
  | _ => exact fun h hK => evQo_sound0 (fun _ => by simp) h hK
theorem evQ_sound {ops : Array Oper} {S : List Nat} {env0 : Env} {K : Env → Prop} {Q : Act → Prop} (hK : ∀ env', K env' → Ag S env0 env' → Q (act ds env')) :
    ∀ (ps : List OpP) (os : List Oper) (env : Env), (∀ o ∈ os, ∀ d, o.dst = some d → d ∈ S) → Ag S env0 env → evQ P ops C K ps os env → wpQuiet P ops C Q os (act ds env)
  | _, [], env, _, ha, h => by cases ‹List OpP› <;> exact hK _ h ha
  | [], _ :: _, _, _, _, h => h.elim
  | p :: ps, o :: os, env, hS, ha, h => by
    have ih := evQ_sound (ops := ops) hK ps os
    have hos : ∀ o' ∈ os, ∀ d, o'.dst = some d → d ∈ S := fun o' ho' => hS o' (List.mem_cons_of_mem _ ho')
    have hod : ∀ k, o.dst = some k → k ∈ S := hS o List.mem_cons_self
    have exec : ∀ env1, act ds env1 = act ds env → Ag S env0 env1 → evQo P C p o env1 (fun v => evQ P ops C K ps os (put env1 o.dst v)) →
        o.quiet P (act ds env) C (wpQuiet P ops C Q os) := by
      intro env1 he ha1 h1
      rw [← he]
      exact evQo_sound h1 (fun v hh => ih _ hos (ha1.trans (Ag.put env1 o.dst v hod)) hh)
    have skip : ∀ env1, act ds env1 = act ds env → Ag S env0 env1 → evQ P ops C K ps os (put env1 o.dst u0) → wpQuiet P ops C Q os ((act ds env).put o.dst undef) := by
      intro env1 he ha1 h1
      rw [← he]
      have := act_put ds env1 o.dst u0
      simp only [EV.val, u0] at this
      rw [this]
      exact ih _ hos (ha1.trans (Ag.put env1 o.dst _ hod)) h1
    simp only [evQ] at h
    unfold wpQuiet
    split at h
    · rename_i hg
      rw [if_pos (by simp [Region.wanted, hg])]
      exact exec env rfl ha h
    · rename_i j want hg
      split at h
      · exact h.elim
      · rename_i d hd
        have hwant := wanted_some (ds := ds) (env := env) hg hd
        split at h
        · rename_i t ht
          simp only [ht, EV.val] at hwant
          split at h
          · rename_i htw
            rw [htw] at hwant
            rw [if_pos hwant]
            exact exec env rfl ha h
          · rename_i htw
            rw [htw] at hwant
            rw [if_neg (by simp [hwant])]
            exact skip env rfl ha h
        · rename_i t ht
          simp only [ht, EV.val] at hwant
          by_cases htw : t = want
          · subst htw
            have hv : (env.getD d u0).val = (EV.b t).val := by rw [ht]; rfl
            rw [if_pos (by simp [hwant])]
            exact exec _ (act_set hv) (ha.trans (Ag.set hv)) (h.1 rfl)
          · have htn : t = !want := by cases t <;> cases want <;> simp_all
            have hv : (env.getD d u0).val = (EV.b (!want)).val := by rw [ht, htn]; rfl
            rw [if_neg (by rw [hwant]; simp [htw])]
            exact skip _ (act_set hv) (ha.trans (Ag.set hv)) (h.2 htn)
        · rename_i x hx ht
          have hw0 : Region.wanted o (yielded ops (act ds env).tmps) = false := by
            rw [hwant, ht]
            simp only [EV.val]
          rw [if_neg (by simp [hw0])]
          exact skip env rfl ha h
end
end Go.Proofs.Ytdgnojjemlfhdaa.V
