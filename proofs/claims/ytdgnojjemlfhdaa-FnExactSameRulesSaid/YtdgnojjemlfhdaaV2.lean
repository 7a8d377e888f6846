/- The verification-condition generator: what each operation asks. -/
import Derived.Test.YtdgnojjemlfhdaaV
import Derived.Deep.Quiet
namespace Go.Proofs.Ytdgnojjemlfhdaa.V
open Go Go.RowKit

def semV (ρ : Operand → Value) (o : Oper) : Option (Sem Value) :=
  match o.op with
  | .binOp op t x y _ => some (do eqGuard op t x y (ρ x) (ρ y); binOp op t (ρ x) (ρ y))
  | .convert s d x => some (convert s d (ρ x))
  | .makeMap t r => some (Instr.makeMap t (r.map ρ))
  | .makeSlice t l c => some (Instr.makeSlice t (ρ l) (ρ c))
  | .slice t x lo hi mx => some (Instr.sliceAt t (ρ x) (lo.map ρ) (hi.map ρ) (mx.map ρ))
  | .index t x ix => some (Instr.index t (ρ x) (ρ ix))
  | .indexAddr t x ix => some (Instr.indexAt t (ρ x) (ρ ix))
  | .lookup t x ix ok => some (Instr.lookup t (ρ x) (ρ ix) ok)
  | .range t x => some (Instr.range t (ρ x))
  | .next it s => some (Instr.next (ρ it) s o.type)
  | .entry it => some (Instr.entry (ρ it))
  | .mapEntry t m k => some (Instr.mapEntry t (ρ m) (ρ k))
  | .typeAssert x xt as ok => some (Instr.typeAssert (ρ x) xt as ok)
  | .load t a => some (Instr.loadAt t (ρ a))
  | .makeInterface t x => some (Instr.makeInterface t (ρ x))
  | .field t x f => some (Instr.field t (ρ x) f)
  | .call { callee := .builtin b, args, argTypes } =>
    let vs := (args.toList.map ρ).toArray
    match b with
    | .append => some (Builtin.append_ argTypes o.type vs)
    | .cap => some (Builtin.cap_ argTypes o.type vs)
    | .clear => some (Builtin.clear_ argTypes o.type vs)
    | .copy => some (Builtin.copy_ argTypes o.type vs)
    | .delete => some (Builtin.delete_ argTypes o.type vs)
    | .len => some (Builtin.len_ argTypes o.type vs)
    | .max => some (Builtin.max_ argTypes o.type vs)
    | .min => some (Builtin.min_ argTypes o.type vs)
    | .unsafeString => some (Builtin.unsafeString_ argTypes o.type vs)
    | .unsafeSliceData => some (Builtin.unsafeSliceData_ argTypes o.type vs)
    | .unsafeStringData => some (Builtin.unsafeStringData_ argTypes o.type vs)
    | .unsafeSlice => some (Builtin.unsafeSlice_ argTypes o.type vs)
    | _ => none
  | _ => none
theorem semV_run {ρ : Operand → Value} {o : Oper} {s : Sem Value} (h : semV ρ o = some s) (P : Program) (w : World) :
    (execOp ρ o).run P w = (s.run P w).andThen fun v w' => .ok (.value v) w' := by
  obtain ⟨dst, op, type, pos, after, guard⟩ := o
  cases op <;> simp only [semV, Option.some.injEq, reduceCtorEq] at h
  case call c =>
    obtain ⟨callee, args, argTypes⟩ := c
    cases callee <;> simp only [reduceCtorEq] at h
    rename_i b
    have e : (List.map ρ args.toList).toArray = args.map ρ := by simp [← Array.toList_map]
    rw [e] at h
    cases b <;> simp only [Option.some.injEq, reduceCtorEq] at h <;> (subst h; simp [execOp, resolve, invoke, builtin])
  case binOp =>
    subst h
    simp only [execOp, Sem.run_bind, Sem.run_pure]
  all_goals (subst h; simp [execOp])
def semU (ρ : Operand → Value) (o : Oper) : Option (Sem Unit) :=
  match o.op with
  | .store t a x => some (Instr.storeAt t (ρ a) (ρ x))
  | .mapUpdate t m k x | .insert t m k x => some (Instr.mapUpdate t (ρ m) (ρ k) (ρ x))
  | .entryStore t m s x => some (Instr.entryStore t (ρ m) (ρ s) (ρ x))
  | _ => none
theorem semU_run {ρ : Operand → Value} {o : Oper} {s : Sem Unit} (h : semU ρ o = some s) (P : Program) (w : World) :
    (execOp ρ o).run P w = (s.run P w).andThen fun _ w' => .ok .skip w' := by
  obtain ⟨dst, op, type, pos, after, guard⟩ := o
  cases op <;> simp only [semU, Option.some.injEq, reduceCtorEq] at h
  all_goals (subst h; simp [execOp])

def callOf (env : Env) (o : Oper) : Option (FuncId × List Value) :=
  match o.op with
  | .call { callee := .value x, args, .. } =>
    match rho env x with
    | .func (.func f) first cap => some (f, first.toList ++ (args.toList.map (rho env) ++ cap.toList))
    | _ => none
  | _ => none
def callable (P : Program) (f : FuncId) : Bool :=
  match P.funcs[f]? with
  | some fn => fn.body.isSome && !(fn.name == "runtime.NumGoroutine")
  | none => false
theorem callOf_run {env : Env} {o : Oper} {f : FuncId} {args : List Value} (h : callOf env o = some (f, args)) {P : Program} (hc : callable P f = true) (w : World) :
    (execOp (rho env) o).run P w = .ok (.enter f args.toArray) w := by
  obtain ⟨dst, op, type, pos, after, guard⟩ := o
  cases op <;> simp only [callOf, reduceCtorEq] at h
  rename_i c
  obtain ⟨callee, as, ats⟩ := c
  cases callee <;> simp only [reduceCtorEq] at h
  rename_i x
  split at h
  · rename_i f' first cap hx
    simp only [Option.some.injEq, Prod.mk.injEq] at h
    obtain ⟨rfl, rfl⟩ := h
    unfold callable at hc
    split at hc
    · rename_i fn hfn
      simp only [Bool.and_eq_true, Bool.not_eq_true', beq_eq_false_iff_ne] at hc
      have hb : fn.body ≠ none := by intro hh; simp [hh] at hc
      have e : (first.toList ++ (as.toList.map (rho env) ++ cap.toList)).toArray = first ++ (as.map (rho env) ++ cap) := by
        rw [← Array.toList_inj]; simp
      rw [e]
      simp [execOp, resolve, Deferred.ofValue, hx, invoke, callFunc, hfn, hc.2, hb]
    · simp at hc
  · simp at h

def Nx (P : Program) (it : Value) (s : Bool) (t : TypeId) (w : World) (K : Bool → List Value → World → Prop) : Prop :=
  ∃ b rest w', (Instr.next it s t).run P w = .ok (.tuple (.bool b :: rest).toArray) w' ∧ K b rest w'
/-- What a bare operation asks. -/
def evD (P : Program) (o : Oper) (env : Env) (w : World) (K : EV → World → Prop) (Q : List PanicEntry → World → Prop) : Prop :=
  match o.op with
  | .move x | .assign x => K (evO env x) w
  | .pick c a b =>
    match evO env c with
    | .b t => K (match t with | true => evO env a | false => evO env b) w
    | .v (.bool t) => (t = true → K (evO env a) w) ∧ (t = false → K (evO env b) w)
    | _ => False
  | .binOp op _ x y _ =>
    match op, rho env x, rho env y with
    | .quo, .int k a, .int k' b => if k = k' then b ≠ 0 ∧ K (.v (.int k (k.wrap (a.tdiv b)))) w else False
    | .rem, .int k a, .int k' b => if k = k' then b ≠ 0 ∧ K (.v (.int k (a.tmod b))) w else False
    | .shl, .int k a, .int _ b => 0 ≤ b ∧ K (.v (.int k (k.wrap (a * 2 ^ (min b.toNat k.bits))))) w
    | .shr, .int k a, .int _ b => 0 ≤ b ∧ K (.v (.int k (a.fdiv (2 ^ (min b.toNat k.bits))))) w
    | .add, .string a, .string b => ((a.size + b.size : Nat) : Int) ≤ IntKind.i64.max ∧ K (.v (.string (a ++ b))) w
    | _, _, _ => match (execOp (rho env) o).run P w with
      | .ok (.value v) w' => K (.v v) w'
      | _ => False
  | .unOp _ _ _ | .fieldAddr _ _ _ | .convert _ _ _ => match (execOp (rho env) o).run P w with
      | .ok (.value v) w' => K (.v v) w'
      | _ => False
  | .extract t ix => match rho env t with
    | .tuple vs => match vs.toList[ix]? with
      | some v => K (.v v) w
      | none => False
    | _ => False
  | .alloc t => if zok P t then Nw (zc P t) t w fun a w => K (.v (.pointer (some a))) w else False
  | .box t x => Nw (rho env x).cells t w fun a w => K (.v (.pointer (some a))) w
  | .buildSlice t len parts => match elemOf P t with
    | some e => match szOf P e with
      | some sz => if len * sz ≤ 2 ^ 24 && zok P e && (zc P e).toList.length == sz then
          match fillL (fun i => some (i * sz, sz)) (rep (zc P e).toList len) (parts.toList.map fun (i, x) => (i, rho env x)) with
          | some cs => Nw cs.toArray e w fun a w => K (.v (.slice (some a) len len)) w
          | none => False
        else False
      | none => False
    | none => False
  | .build t parts => match fieldsOf P t with
    | some fs => match placesOf P fs with
      | some ps => if zok P t then
          match fillL (fun i => ps[i]?) (zc P t).toList (parts.toList.map fun (i, x) => (i, rho env x)) with
          | some cs => K (.v (.agg cs.toArray)) w
          | none => False
        else False
      | none => False
    | none => False
  | .store t a x => match rho env a with
    | .pointer (some ad) =>
      match aggT P t with
      | some false => if szOf P t = some 1 then St ad (rho env x) w fun w => K u0 w else False
      | some true => match rho env x with
        | .agg cs => if szOf P t = some cs.toList.length then StA P ad cs.toList w fun w => K u0 w else False
        | _ => False
      | none => False
    | _ => False
  | .nilCheck x => match rho env x with
    | .pointer (some a) => K (.v (.pointer (some a))) w
    | _ => False
  | .field t x f => match fieldsOf P t with
    | some fs => match fs[f]? with
      | some fd => match rho env x with
        | .agg cs => match aggT P fd.type with
          | some false => match cs.toList[fd.offset]? with
            | some v => K (.v v) w
            | none => False
          | _ => False
        | _ => False
      | none => False
    | none => False
  | .indexAddr t x ix => match rho env x, rho env ix with
    | .slice s n _, .int _ i => match elemOf P t with
      | some e => match szOf P e with
        | some sz => Ix s n i sz w fun a w => K (.v (.pointer (some a))) w
        | none => False
      | none => False
    | _, _ => False
  | .index t x ix => match rho env x, rho env ix with
    | .string s, .int _ i => match P.underlying t with
      | some .string => Sx s i w fun b w => K (.v (.int .u8 b)) w
      | _ => False
    | _, _ => False
  | .next it s => Nx P (rho env it) s o.type w fun b rest w => K (.v (.tuple (.bool b :: rest).toArray)) w
  | .makeInterface t x => match P.underlying t with
    | some (.interface _) => False
    | some _ => K (.v (.iface t (rho env x))) w
    | none => False
  | .makeFunc fn first cap => K (.v (.func fn (first.toList.map (rho env)).toArray (cap.toList.map (rho env)).toArray)) w
  | .call { callee := .builtin .len, args, argTypes } => match args.toList.map (rho env), argTypes.toList with
    | [.slice _ n _], [t] => match P.underlying t with
      | some (.slice _) => K (.v (.int .i64 n)) w
      | _ => False
    | [.string s], [t] => match P.underlying t with
      | some .string => K (.v (.int .i64 s.size)) w
      | _ => False
    | _, _ => False
  | .call { callee := .builtin .cap, args, argTypes } => match args.toList.map (rho env), argTypes.toList with
    | [.slice _ _ c], [t] => match P.underlying t with
      | some (.slice _) => K (.v (.int .i64 c)) w
      | _ => False
    | _, _ => False
  | .call { callee := .builtin .max, args, .. } => match args.toList.map (rho env) with
    | [.int k a, .int _ b] => K (.v (.int k (if b > a then b else a))) w
    | _ => False
  | .call { callee := .builtin .min, args, .. } => match args.toList.map (rho env) with
    | [.int k a, .int _ b] => K (.v (.int k (if b < a then b else a))) w
    | _ => False
  | .panic _ => match (execOp (rho env) o).run P w with
    | .halt (.panic v) w' => Q [{ v, recovered := false }] w'
    | _ => False
  | _ => False
/-- A bool that guards what comes: both ways at once. -/
def spl (K : EV → World → Prop) (v : EV) (w : World) : Prop :=
  match v with
  | .v (.bool t) => (t = true → K (.b true) w) ∧ (t = false → K (.b false) w)
  | .v x => K (.v x) w
  | .b t => K (.b t) w
def evOp (P : Program) (pl : OpP) (o : Oper) (env : Env) (w : World) (K : EV → World → Prop) (Q : List PanicEntry → World → Prop) : Prop :=
  match pl with
  | .d => evD P o env w K Q
  | .sp p => evOp P p o env w (spl K) Q
  | .t r => match semV (rho env) o with
    | some s => RunT r P s w fun x w => K (.v (r.emb x)) w
    | none => False
  | .u => match semU (rho env) o with
    | some s => RunU P s w fun w => K u0 w
    | none => False
  | .l τ => match o.op with
    | .load t a => match rho env a with
      | .pointer (some ad) => match τ with
        | .lf l => if aggT P t = some false then Ld l ad w fun x w => K (.v (l.emb x)) w else False
        | .ag ls => if aggT P t = some true && szOf P t = some ls.length then LdA ls ad w fun x w => K (.v (.agg (Tup.cells ls x).toArray)) w else False
      | _ => False
    | _ => False
  | .c r => match callOf env o with
    | some (f, args) => if callable P f then CallT r P f args w fun x w => K (.v (r.emb x)) w else False
    | none => False
  | .cp r => match callOf env o with
    | some (f, args) => if callable P f then CallP r P f args w (fun x w => K (.v (r.emb x)) w) Q else False
    | none => False
  | .n => match o.op with
    | .nilCheck x => match rho env x with
      | .pointer p => Nc p w fun a w => K (.v (.pointer (some a))) w
      | _ => False
    | _ => False
  | .y => False
end Go.Proofs.Ytdgnojjemlfhdaa.V
