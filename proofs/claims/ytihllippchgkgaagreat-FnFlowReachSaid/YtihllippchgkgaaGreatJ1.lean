/- Texts of one proof, put together in build order by pack.py (the last one states what is proved). -/
import Derived.WalkKit
import Derived.KernelRfl
import Derived.Deep.Quiet
/- A verification-condition generator over the model's code: 'ev' is a Lean function; 'sound' proves that what it asks suffices for a call. -/
namespace Go.Proofs.YtihllippchgkgaaGreat.V
open Go Go.RowKit

inductive Lf where
  | i (k : IntKind) | b | s | sl | p | ad | m | any | fn (f n : Nat) | yl
structure Sl where
  a : Option Addr
  n : Nat
  c : Nat
/-- The boxes that a function value has captured. -/
@[reducible] def AdT : Nat → Type
  | 0 => Unit
  | n + 1 => Addr × AdT n
def AdT.vals : (n : Nat) → AdT n → List Value
  | 0, _ => []
  | n + 1, t => .pointer (some t.1) :: AdT.vals n t.2
def AdT.un : (n : Nat) → List Value → Option (AdT n)
  | 0, [] => some ()
  | n + 1, .pointer (some a) :: vs => match AdT.un n vs with
    | some t => some (a, t)
    | none => none
  | _, _ => none
theorem AdT.un_vals : ∀ {n : Nat} {vs : List Value} {t : AdT n}, AdT.un n vs = some t → vs = AdT.vals n t
  | 0, [], _, _ => rfl
  | 0, _ :: _, _, h => by simp [AdT.un] at h
  | n + 1, [], _, h => by simp [AdT.un] at h
  | n + 1, v :: vs, t, h => by
    cases v with
    | pointer a =>
      cases a with
      | none => simp [AdT.un] at h
      | some a =>
        simp only [AdT.un] at h
        split at h
        · rename_i u hu
          simp only [Option.some.injEq] at h
          subst h
          rw [AdT.vals, ← AdT.un_vals hu]
        · simp at h
    | _ => simp [AdT.un] at h
@[reducible] def Lf.T : Lf → Type
  | .i _ => Int | .b => Bool | .s => ByteArray | .sl => Sl | .p => Option Addr | .ad => Addr | .m => Option Nat | .any => Value | .fn _ n => AdT n | .yl => Nat
def Lf.emb : (l : Lf) → l.T → Value
  | .i k, n => .int k n
  | .b, x => .bool x
  | .s, x => .string x
  | .sl, x => .slice x.a x.n x.c
  | .p, a => .pointer a
  | .ad, a => .pointer (some a)
  | .m, r => .map r
  | .any, v => v
  | .fn f n, t => .func (.func f) #[] (AdT.vals n t).toArray
  | .yl, l => .func (.yield l) #[] #[]
def Lf.un : (l : Lf) → Value → Option l.T
  | .i k, .int k' n => if k = k' then some n else none
  | .b, .bool x => some x
  | .s, .string x => some x
  | .sl, .slice a n c => some ⟨a, n, c⟩
  | .p, .pointer a => some a
  | .ad, .pointer (some a) => some a
  | .m, .map r => some r
  | .any, v => some v
  | .fn f n, .func (.func g) ⟨[]⟩ c => if f = g then AdT.un n c.toList else none
  | .yl, .func (.yield l) ⟨[]⟩ ⟨[]⟩ => some l
  | _, _ => none
theorem Lf.un_emb {l : Lf} {v : Value} {x : l.T} (h : l.un v = some x) : v = l.emb x := by
  cases l with
  | i k =>
    cases v <;> simp only [Lf.un] at h <;> first | (split at h <;> simp_all [Lf.emb]) | simp at h
  | b => cases v <;> simp_all [Lf.un, Lf.emb]
  | s => cases v <;> simp_all [Lf.un, Lf.emb]
  | sl =>
    cases v <;> simp only [Lf.un, Option.some.injEq, reduceCtorEq] at h
    subst h; rfl
  | p => cases v <;> simp_all [Lf.un, Lf.emb]
  | ad =>
    cases v with
    | pointer a => cases a <;> simp_all [Lf.un, Lf.emb]
    | _ => simp [Lf.un] at h
  | m => cases v <;> simp_all [Lf.un, Lf.emb]
  | any => simp_all [Lf.un, Lf.emb]
  | fn f n =>
    cases v with
    | func g fs c =>
      obtain ⟨fs⟩ := fs
      cases g <;> cases fs <;> simp only [Lf.un] at h <;> try (simp at h)
      obtain ⟨hf, h⟩ := h
      subst hf; rw [Lf.emb, ← AdT.un_vals h]
    | _ => simp [Lf.un] at h
  | yl =>
    cases v with
    | func g fs c =>
      obtain ⟨fs⟩ := fs
      obtain ⟨c⟩ := c
      cases g <;> cases fs <;> cases c <;> simp only [Lf.un] at h <;> try (simp at h)
      subst h; rfl
    | _ => simp [Lf.un] at h

@[reducible] def Tup : List Lf → Type
  | [] => Unit
  | l :: ls => l.T × Tup ls
def Tup.cells : (ls : List Lf) → Tup ls → List Value
  | [], _ => []
  | l :: ls, t => l.emb t.1 :: Tup.cells ls t.2
def Tup.un : (ls : List Lf) → List Value → Option (Tup ls)
  | [], [] => some ()
  | l :: ls, v :: vs => match l.un v, Tup.un ls vs with
    | some x, some xs => some (x, xs)
    | _, _ => none
  | _, _ => none
theorem Tup.un_cells : ∀ {ls : List Lf} {vs : List Value} {t : Tup ls}, Tup.un ls vs = some t → vs = Tup.cells ls t
  | [], [], _, _ => rfl
  | [], _ :: _, _, h => by simp [Tup.un] at h
  | _ :: _, [], _, h => by simp [Tup.un] at h
  | l :: ls, v :: vs, t, h => by
    simp only [Tup.un] at h
    split at h
    · rename_i x xs h1 h2
      simp only [Option.some.injEq] at h
      subst h
      rw [Tup.cells, ← Lf.un_emb h1, ← Tup.un_cells h2]
    · simp at h

inductive Ty where
  | lf (l : Lf) | ag (ls : List Lf)
@[reducible] def Ty.T : Ty → Type
  | .lf l => l.T
  | .ag ls => Tup ls
def Ty.emb : (τ : Ty) → τ.T → Value
  | .lf l, x => l.emb x
  | .ag ls, x => .agg (Tup.cells ls x).toArray
def Ty.un : (τ : Ty) → Value → Option τ.T
  | .lf l, v => l.un v
  | .ag ls, .agg cs => Tup.un ls cs.toList
  | .ag _, _ => none
theorem Ty.un_emb {τ : Ty} {v : Value} {x : τ.T} (h : τ.un v = some x) : v = τ.emb x := by
  cases τ with
  | lf l => exact Lf.un_emb h
  | ag ls =>
    cases v <;> simp only [Ty.un] at h <;> try (simp at h)
    rename_i cs
    rw [Ty.emb, ← Tup.un_cells h]

@[reducible] def Tys : List Ty → Type
  | [] => Unit
  | τ :: τs => τ.T × Tys τs
def Tys.vals : (τs : List Ty) → Tys τs → List Value
  | [], _ => []
  | τ :: τs, t => τ.emb t.1 :: Tys.vals τs t.2
def Tys.un : (τs : List Ty) → List Value → Option (Tys τs)
  | [], [] => some ()
  | τ :: τs, v :: vs => match τ.un v, Tys.un τs vs with
    | some x, some xs => some (x, xs)
    | _, _ => none
  | _, _ => none
theorem Tys.un_vals : ∀ {τs : List Ty} {vs : List Value} {t : Tys τs}, Tys.un τs vs = some t → vs = Tys.vals τs t
  | [], [], _, _ => rfl
  | [], _ :: _, _, h => by simp [Tys.un] at h
  | _ :: _, [], _, h => by simp [Tys.un] at h
  | τ :: τs, v :: vs, t, h => by
    simp only [Tys.un] at h
    split at h
    · rename_i x xs h1 h2
      simp only [Option.some.injEq] at h
      subst h
      rw [Tys.vals, ← Ty.un_emb h1, ← Tys.un_vals h2]
    · simp at h
/-- What a call hands back: nothing, one value, or several. -/
inductive Rs where
  | z | o (τ : Ty) | n (τs : List Ty)
@[reducible] def Rs.T : Rs → Type
  | .z => Unit
  | .o τ => τ.T
  | .n τs => Tys τs
def Rs.emb : (r : Rs) → r.T → Value
  | .z, _ => .tuple #[]
  | .o τ, x => τ.emb x
  | .n τs, x => .tuple (Tys.vals τs x).toArray
def Rs.unL : (r : Rs) → List Value → Option r.T
  | .z, [] => some ()
  | .o τ, [v] => τ.un v
  | .n τs, vs => Tys.un τs vs
  | _, _ => none

def CallT (r : Rs) (P : Program) (f : FuncId) (args : List Value) (w : World) (K : r.T → World → Prop) : Prop :=
  Calls P f args.toArray w (fun e w' => ∃ x, e = .returned (r.emb x) ∧ K x w')
def CallP (r : Rs) (P : Program) (f : FuncId) (args : List Value) (w : World) (K : r.T → World → Prop) (Kp : List PanicEntry → World → Prop) : Prop :=
  Calls P f args.toArray w (fun e w' => (∃ x, e = .returned (r.emb x) ∧ K x w') ∨ ∃ ch, e = .panicked ch ∧ Kp ch w')
def RunT (r : Rs) (P : Program) (s : Sem Value) (w : World) (K : r.T → World → Prop) : Prop := ∃ x w', s.run P w = .ok (r.emb x) w' ∧ K x w'
def RunU (P : Program) (s : Sem Unit) (w : World) (K : World → Prop) : Prop := ∃ w', s.run P w = .ok () w' ∧ K w'

/-- A slot's value; 'b': a bool that is known. -/
inductive EV where
  | v (x : Value) | b (t : Bool)
def EV.val : EV → Value
  | .v x => x
  | .b t => .bool t
abbrev Env := List EV
def u0 : EV := .v undef
def evO (env : Env) : Operand → EV
  | .tmp t => env.getD t u0
  | .const (.bool t) => .b t
  | .const v => .v v
  | .global g => .v (.pointer (some ⟨g, 0, none⟩))
  | .func f => .v (.func (.func f) #[] #[])
def rho (env : Env) (x : Operand) : Value := (evO env x).val
def act (ds : List Deferred) (env : Env) : Act := { tmps := (env.map EV.val).toArray, defers := ds }
theorem act_eval (ds : List Deferred) (env : Env) : (act ds env).eval = rho env := by
  funext x
  cases x with
  | tmp t =>
    simp only [Act.eval, act, rho, evO, u0]
    simp only [Array.getD_eq_getD_getElem?, List.getElem?_toArray, List.getElem?_map, List.getD_eq_getElem?_getD]
    cases env[t]? <;> simp [EV.val]
  | const v => cases v <;> rfl
  | global g => rfl
  | func f => rfl
def put (env : Env) (d : Option Tmp) (v : EV) : Env :=
  match d with
  | some d => env.set d v
  | none => env
theorem act_put (ds : List Deferred) (env : Env) (d : Option Tmp) (v : EV) : (act ds env).put d v.val = act ds (put env d v) := by
  cases d <;> simp [act, Act.put, put, List.map_set]

/-- A Bool's value under a test that 'ev' splits. -/
def Nw (cs : Array Value) (t : TypeId) (w : World) (K : Addr → World → Prop) : Prop := K ⟨w.heap.size, 0, none⟩ (w.alloc (.cells cs t))
def Ld (l : Lf) (a : Addr) (w : World) (K : l.T → World → Prop) : Prop := ∃ x : l.T, w.cell? a = some (l.emb x) ∧ K x w
def LdA (ls : List Lf) (a : Addr) (w : World) (K : Tup ls → World → Prop) : Prop :=
  ∃ x : Tup ls, (∀ j v, (Tup.cells ls x)[j]? = some v → w.cell? (a.add j) = some v) ∧ K x w
def St (a : Addr) (v : Value) (w : World) (K : World → Prop) : Prop :=
  v.oneCell' = true ∧ (∃ old, w.cell? a = some old) ∧ w.frozen? a = false ∧ K (w.setCell a v)
def Ix (s : Option Addr) (n : Nat) (i : Int) (sz : Nat) (w : World) (K : Addr → World → Prop) : Prop :=
  ∃ a, s = some a ∧ 0 ≤ i ∧ i < n ∧ K (a.add (i.toNat * sz)) w
def Sx (s : ByteArray) (i : Int) (w : World) (K : Int → World → Prop) : Prop :=
  0 ≤ i ∧ ∃ b, s[i.toNat]? = some b ∧ K (b.toNat : Int) w
def Nc (p : Option Addr) (w : World) (K : Addr → World → Prop) : Prop := ∃ a, p = some a ∧ K a w
def StA (P : Program) (a : Addr) (vs : List Value) (w : World) (K : World → Prop) : Prop := RunU P (storeCells a vs) w K
def Sc (P : Program) (t : TypeId) (s : Sl) (lo hi mx : Option Int) (w : World) (K : Sl → World → Prop) : Prop :=
  RunT (.o (.lf .sl)) P (Instr.slice t (.slice s.a s.n s.c) (lo.map (.int .i64)) (hi.map (.int .i64)) (mx.map (.int .i64))) w K
def Ss (P : Program) (t : TypeId) (s : ByteArray) (lo hi : Option Int) (w : World) (K : ByteArray → World → Prop) : Prop :=
  RunT (.o (.lf .s)) P (Instr.slice t (.string s) (lo.map (.int .i64)) (hi.map (.int .i64)) none) w K

inductive OpP where
  | d | t (r : Rs) | u | l (τ : Ty) | c (r : Rs) | cp (r : Rs) | n | sp (p : OpP) | y
/-- The plan for an operation of a region that draws its order, where results may lie in new memory: what needs no memory (sq: a bool that is split), and what bears a fact; h: the one that changes what the others leave alone. -/
inductive GP where
  | q | sq | g (r : Rs) (p : OpP) | sg (p : OpP) | h (r : Rs) (p : OpP)
/-- The same where boxes are made and filled: k: the second one that changes what the others leave alone; a: a box of a type is made; s: the box that operation j has made is filled. -/
inductive GB where
  | q | g (r : Rs) (p : OpP) | h (r : Rs) (p : OpP) | k (r : Rs) (p : OpP) | a (t : TypeId) | s (j : Nat) (t : TypeId) (r : Rs) (p : OpP)
/-- The plan that goes beside the code. -/
inductive Pl where
  | g (ops : List (GP × List Nat)) (tail : List OpP) | x (ops : List (GB × List Nat)) (tail : List OpP)
  | r (ops : List OpP) | s (a b : Pl) | j (slots : List (Nat × Lf)) (a b : Pl) | c (a b : Pl) | b (a : Pl) | l (slots : List (Nat × Lf)) (a : Pl) | z

def szOf (P : Program) (t : TypeId) : Option Nat := (P.info? t).map (·.size)
def aggT (P : Program) (t : TypeId) : Option Bool :=
  match P.underlying t with
  | some (.struct _) | some (.array _ _) => some true
  | some _ => some false
  | none => none
def zc (P : Program) (t : TypeId) : Array Value :=
  match P.info? t with
  | some i => match i.zero with
    | some v => v.cells
    | none => #[]
  | none => #[]
def zok (P : Program) (t : TypeId) : Bool :=
  match P.info? t with
  | some i => i.zero.isSome
  | none => false
/-- The cells of a literal: zeros, overwritten by its parts. -/
def over (cells : List Value) (off : Nat) : List Value → List Value
  | [] => cells
  | v :: vs => over (cells.set off v) (off + 1) vs
def fillL (place : Nat → Option (Nat × Nat)) (cells : List Value) : List (Nat × Value) → Option (List Value)
  | [] => some cells
  | (i, v) :: rest =>
    match place i with
    | none => none
    | some (off, size) =>
      if v.cells.toList.length ≠ size || off + v.cells.toList.length > cells.length then none
      else fillL place (over cells off v.cells.toList) rest
def rep (zero : List Value) : Nat → List Value
  | 0 => []
  | n + 1 => zero ++ rep zero n
def fieldsOf (P : Program) (t : TypeId) : Option (List Field) :=
  match P.underlying t with
  | some (.struct fs) => some fs.toList
  | _ => none
def placesOf (P : Program) : List Field → Option (List (Nat × Nat))
  | [] => some []
  | f :: fs => match szOf P f.type, placesOf P fs with
    | some n, some r => some ((f.offset, n) :: r)
    | _, _ => none
def elemOf (P : Program) (t : TypeId) : Option TypeId :=
  match P.underlying t with
  | some (.slice e) => some e
  | _ => none
def arrOf (P : Program) (t : TypeId) : Option TypeId :=
  match P.underlying t with
  | some (.array _ e) => some e
  | _ => none
end Go.Proofs.YtihllippchgkgaaGreat.V

/- The verification-condition generator: what each operation asks. -/
namespace Go.Proofs.YtihllippchgkgaaGreat.V
open Go Go.RowKit

def semV (ρ : Operand → Value) (o : Oper) : Option (Sem Value) :=
  match o.op with
  | .binOp op t x y _ => some (do eqGuard op t x y (ρ x) (ρ y); binOp op t (ρ x) (ρ y))
  | .convert s d x => some (convert s d (ρ x))
  | .makeMap t r => some (Instr.makeMap t (r.map ρ))
  | .makeSlice t l c => some (Instr.makeSlice t (ρ l) (ρ c))
  | .slice t x lo hi mx => some (Instr.sliceAt t (ρ x) (lo.map ρ) (hi.map ρ) (mx.map ρ))
  | .index t x ix => some (Instr.index t (ρ x) (ρ ix))
  | .indexAddr t x ix => some (Instr.indexAt t (ρ x) (ρ ix))
  | .lookup t x ix ok => some (Instr.lookup t (ρ x) (ρ ix) ok)
  | .range t x => some (Instr.range t (ρ x))
  | .next it s => some (Instr.next (ρ it) s o.type)
  | .entry it => some (Instr.entry (ρ it))
  | .mapEntry t m k => some (Instr.mapEntry t (ρ m) (ρ k))
  | .typeAssert x xt as1 ok => some (Instr.typeAssert (ρ x) xt as1 ok)
  | .load t a => some (Instr.loadAt t (ρ a))
  | .makeInterface t x => some (Instr.makeInterface t (ρ x))
  | .field t x f => some (Instr.field t (ρ x) f)
  | .call { callee := .builtin b, args, argTypes } =>
    let vs := (args.toList.map ρ).toArray
    match b with
    | .append => some (Builtin.append_ argTypes o.type vs)
    | .cap => some (Builtin.cap_ argTypes o.type vs)
    | .clear => some (Builtin.clear_ argTypes o.type vs)
    | .copy => some (Builtin.copy_ argTypes o.type vs)
    | .delete => some (Builtin.delete_ argTypes o.type vs)
    | .len => some (Builtin.len_ argTypes o.type vs)
    | .max => some (Builtin.max_ argTypes o.type vs)
    | .min => some (Builtin.min_ argTypes o.type vs)
    | .unsafeString => some (Builtin.unsafeString_ argTypes o.type vs)
    | .unsafeSliceData => some (Builtin.unsafeSliceData_ argTypes o.type vs)
    | .unsafeStringData => some (Builtin.unsafeStringData_ argTypes o.type vs)
    | .unsafeSlice => some (Builtin.unsafeSlice_ argTypes o.type vs)
    | _ => none
  | _ => none
theorem semV_run {ρ : Operand → Value} {o : Oper} {s : Sem Value} (h : semV ρ o = some s) (P : Program) (w : World) :
    (execOp ρ o).run P w = (s.run P w).andThen fun v w' => .ok (.value v) w' := by
  obtain ⟨dst, op, type, pos, after, guard⟩ := o
  cases op <;> simp only [semV, Option.some.injEq, reduceCtorEq] at h
  case call c =>
    obtain ⟨callee, args, argTypes⟩ := c
    cases callee <;> simp only [reduceCtorEq] at h
    rename_i b
    have e : (List.map ρ args.toList).toArray = args.map ρ := by simp [← Array.toList_map]
    rw [e] at h
    cases b <;> simp only [Option.some.injEq, reduceCtorEq] at h <;> (subst h; simp [execOp, resolve, invoke, builtin])
  case binOp =>
    subst h
    simp only [execOp, Sem.run_bind, Sem.run_pure]
  all_goals (subst h; simp [execOp])
def semU (ρ : Operand → Value) (o : Oper) : Option (Sem Unit) :=
  match o.op with
  | .store t a x => some (Instr.storeAt t (ρ a) (ρ x))
  | .mapUpdate t m k x | .insert t m k x => some (Instr.mapUpdate t (ρ m) (ρ k) (ρ x))
  | .entryStore t m s x => some (Instr.entryStore t (ρ m) (ρ s) (ρ x))
  | _ => none
theorem semU_run {ρ : Operand → Value} {o : Oper} {s : Sem Unit} (h : semU ρ o = some s) (P : Program) (w : World) :
    (execOp ρ o).run P w = (s.run P w).andThen fun _ w' => .ok .skip w' := by
  obtain ⟨dst, op, type, pos, after, guard⟩ := o
  cases op <;> simp only [semU, Option.some.injEq, reduceCtorEq] at h
  all_goals (subst h; simp [execOp])

def callOf (env : Env) (o : Oper) : Option (FuncId × List Value) :=
  match o.op with
  | .call { callee := .value x, args, .. } =>
    match rho env x with
    | .func (.func f) first cap => some (f, first.toList ++ (args.toList.map (rho env) ++ cap.toList))
    | _ => none
  | _ => none
def callable (P : Program) (f : FuncId) : Bool :=
  match P.funcs[f]? with
  | some fn => fn.body.isSome && !(fn.name == "runtime.NumGoroutine")
  | none => false
theorem callOf_run {env : Env} {o : Oper} {f : FuncId} {args : List Value} (h : callOf env o = some (f, args)) {P : Program} (hc : callable P f = true) (w : World) :
    (execOp (rho env) o).run P w = .ok (.enter f args.toArray) w := by
  obtain ⟨dst, op, type, pos, after, guard⟩ := o
  cases op <;> simp only [callOf, reduceCtorEq] at h
  rename_i c
  obtain ⟨callee, as1, ats⟩ := c
  cases callee <;> simp only [reduceCtorEq] at h
  rename_i x
  split at h
  · rename_i f' first cap hx
    simp only [Option.some.injEq, Prod.mk.injEq] at h
    obtain ⟨rfl, rfl⟩ := h
    unfold callable at hc
    split at hc
    · rename_i fn hfn
      simp only [Bool.and_eq_true, Bool.not_eq_true', beq_eq_false_iff_ne] at hc
      have hb : fn.body ≠ none := by intro hh; simp [hh] at hc
      have e : (first.toList ++ (as1.toList.map (rho env) ++ cap.toList)).toArray = first ++ (as1.map (rho env) ++ cap) := by
        rw [← Array.toList_inj]; simp
      rw [e]
      simp [execOp, resolve, Deferred.ofValue, hx, invoke, callFunc, hfn, hc.2, hb]
    · simp at hc
  · simp at h

def Nx (P : Program) (it : Value) (s : Bool) (t : TypeId) (w : World) (K : Bool → List Value → World → Prop) : Prop :=
  ∃ b rest w', (Instr.next it s t).run P w = .ok (.tuple (.bool b :: rest).toArray) w' ∧ K b rest w'
/-- What a bare operation asks. -/
def evD (P : Program) (o : Oper) (env : Env) (w : World) (K : EV → World → Prop) (Q : List PanicEntry → World → Prop) : Prop :=
  match o.op with
  | .move x | .assign x => K (evO env x) w
  | .pick c a b =>
    match evO env c with
    | .b t => K (match t with | true => evO env a | false => evO env b) w
    | .v (.bool t) => (t = true → K (evO env a) w) ∧ (t = false → K (evO env b) w)
    | _ => False
  | .binOp op _ x y _ =>
    match op, rho env x, rho env y with
    | .quo, .int k a, .int k' b => if k = k' then b ≠ 0 ∧ K (.v (.int k (k.wrap (a.tdiv b)))) w else False
    | .rem, .int k a, .int k' b => if k = k' then b ≠ 0 ∧ K (.v (.int k (a.tmod b))) w else False
    | .shl, .int k a, .int _ b => 0 ≤ b ∧ K (.v (.int k (k.wrap (a * 2 ^ (min b.toNat k.bits))))) w
    | .shr, .int k a, .int _ b => 0 ≤ b ∧ K (.v (.int k (a.fdiv (2 ^ (min b.toNat k.bits))))) w
    | .add, .string a, .string b => ((a.size + b.size : Nat) : Int) ≤ IntKind.i64.max ∧ K (.v (.string (a ++ b))) w
    | _, _, _ => match (execOp (rho env) o).run P w with
      | .ok (.value v) w' => K (.v v) w'
      | _ => False
  | .unOp _ _ _ | .fieldAddr _ _ _ | .convert _ _ _ => match (execOp (rho env) o).run P w with
      | .ok (.value v) w' => K (.v v) w'
      | _ => False
  | .extract t ix => match rho env t with
    | .tuple vs => match vs.toList[ix]? with
      | some v => K (.v v) w
      | none => False
    | _ => False
  | .alloc t => if zok P t then Nw (zc P t) t w fun a w => K (.v (.pointer (some a))) w else False
  | .box t x => Nw (rho env x).cells t w fun a w => K (.v (.pointer (some a))) w
  | .buildSlice t len parts => match elemOf P t with
    | some e => match szOf P e with
      | some sz => if len * sz ≤ 2 ^ 24 && zok P e && (zc P e).toList.length == sz then
          match fillL (fun i => some (i * sz, sz)) (rep (zc P e).toList len) (parts.toList.map fun (i, x) => (i, rho env x)) with
          | some cs => Nw cs.toArray e w fun a w => K (.v (.slice (some a) len len)) w
          | none => False
        else False
      | none => False
    | none => False
  | .build t parts => match fieldsOf P t with
    | some fs => match placesOf P fs with
      | some ps => if zok P t then
          match fillL (fun i => ps[i]?) (zc P t).toList (parts.toList.map fun (i, x) => (i, rho env x)) with
          | some cs => K (.v (.agg cs.toArray)) w
          | none => False
        else False
      | none => False
    | none => match arrOf P t with
      | some e => match szOf P e with
        | some sz => if zok P t then
            match fillL (fun i => some (i * sz, sz)) (zc P t).toList (parts.toList.map fun (i, x) => (i, rho env x)) with
            | some cs => K (.v (.agg cs.toArray)) w
            | none => False
          else False
        | none => False
      | none => False
  | .store t a x => match rho env a with
    | .pointer (some ad) =>
      match aggT P t with
      | some false => if szOf P t = some 1 then St ad (rho env x) w fun w => K u0 w else False
      | some true => match rho env x with
        | .agg cs => if szOf P t = some cs.toList.length then StA P ad cs.toList w fun w => K u0 w else False
        | _ => False
      | none => False
    | _ => False
  | .nilCheck x => match rho env x with
    | .pointer (some a) => K (.v (.pointer (some a))) w
    | _ => False
  | .field t x f => match fieldsOf P t with
    | some fs => match fs[f]? with
      | some fd => match rho env x with
        | .agg cs => match aggT P fd.type with
          | some false => match cs.toList[fd.offset]? with
            | some v => K (.v v) w
            | none => False
          | _ => False
        | _ => False
      | none => False
    | none => False
  | .indexAddr t x ix => match rho env x, rho env ix with
    | .slice s n _, .int _ i => match elemOf P t with
      | some e => match szOf P e with
        | some sz => Ix s n i sz w fun a w => K (.v (.pointer (some a))) w
        | none => False
      | none => False
    | _, _ => False
  | .index t x ix => match rho env x, rho env ix with
    | .string s, .int _ i => match P.underlying t with
      | some .string => Sx s i w fun b w => K (.v (.int .u8 b)) w
      | _ => False
    | _, _ => False
  | .next it s => Nx P (rho env it) s o.type w fun b rest w => K (.v (.tuple (.bool b :: rest).toArray)) w
  | .makeInterface t x => match P.underlying t with
    | some (.interface _) => False
    | some _ => K (.v (.iface t (rho env x))) w
    | none => False
  | .makeFunc fn first cap => K (.v (.func fn (first.toList.map (rho env)).toArray (cap.toList.map (rho env)).toArray)) w
  | .call { callee := .builtin .len, args, argTypes } => match args.toList.map (rho env), argTypes.toList with
    | [.slice _ n _], [t] => match P.underlying t with
      | some (.slice _) => K (.v (.int .i64 n)) w
      | _ => False
    | [.string s], [t] => match P.underlying t with
      | some .string => K (.v (.int .i64 s.size)) w
      | _ => False
    | _, _ => False
  | .call { callee := .builtin .cap, args, argTypes } => match args.toList.map (rho env), argTypes.toList with
    | [.slice _ _ c], [t] => match P.underlying t with
      | some (.slice _) => K (.v (.int .i64 c)) w
      | _ => False
    | _, _ => False
  | .call { callee := .builtin .max, args, .. } => match args.toList.map (rho env) with
    | [.int k a, .int _ b] => K (.v (.int k (if b > a then b else a))) w
    | _ => False
  | .call { callee := .builtin .min, args, .. } => match args.toList.map (rho env) with
    | [.int k a, .int _ b] => K (.v (.int k (if b < a then b else a))) w
    | _ => False
  | .panic _ => match (execOp (rho env) o).run P w with
    | .halt (.panic v) w' => Q [{ v, recovered := false }] w'
    | _ => False
  | _ => False
/-- A bool that guards what comes: both ways at once. -/
def spl (K : EV → World → Prop) (v : EV) (w : World) : Prop :=
  match v with
  | .v (.bool t) => (t = true → K (.b true) w) ∧ (t = false → K (.b false) w)
  | .v x => K (.v x) w
  | .b t => K (.b t) w
def evOp (P : Program) (pl : OpP) (o : Oper) (env : Env) (w : World) (K : EV → World → Prop) (Q : List PanicEntry → World → Prop) : Prop :=
  match pl with
  | .d => evD P o env w K Q
  | .sp p => evOp P p o env w (spl K) Q
  | .t r => match semV (rho env) o with
    | some s => RunT r P s w fun x w => K (.v (r.emb x)) w
    | none => False
  | .u => match semU (rho env) o with
    | some s => RunU P s w fun w => K u0 w
    | none => False
  | .l τ => match o.op with
    | .load t a => match rho env a with
      | .pointer (some ad) => match τ with
        | .lf l => if aggT P t = some false then Ld l ad w fun x w => K (.v (l.emb x)) w else False
        | .ag ls => if aggT P t = some true && szOf P t = some ls.length then LdA ls ad w fun x w => K (.v (.agg (Tup.cells ls x).toArray)) w else False
      | _ => False
    | _ => False
  | .c r => match callOf env o with
    | some (f, args) => if callable P f then CallT r P f args w fun x w => K (.v (r.emb x)) w else False
    | none => False
  | .cp r => match callOf env o with
    | some (f, args) => if callable P f then CallP r P f args w (fun x w => K (.v (r.emb x)) w) Q else False
    | none => False
  | .n => match o.op with
    | .nilCheck x => match rho env x with
      | .pointer p => Nc p w fun a w => K (.v (.pointer (some a))) w
      | _ => False
    | _ => False
  | .y => False
end Go.Proofs.YtihllippchgkgaaGreat.V

/- The verification-condition generator: soundness, operation by operation. -/
namespace Go.Proofs.YtihllippchgkgaaGreat.V
open Go Go.RowKit

section
variable {P : Program} {ds : List Deferred} {o : Oper} {env : Env} {w : World} {K : EV → World → Prop} {Q : List PanicEntry → World → Prop}
variable {next : Act → World → Prop} {Q' : Exit → Act → World → Prop}

theorem upon_val {v : Value} {w' : World} (hr : (execOp (rho env) o).run P w = .ok (.value v) w') (h : K (.v v) w')
    (hK : ∀ v w', K v w' → next (act ds (put env o.dst v)) w') : o.wp P (act ds env) w next Q' := by
  unfold Oper.wp
  rw [act_eval, hr, Oper.upon_value]
  have := act_put ds env o.dst (.v v)
  simp only [EV.val] at this
  rw [this]
  exact hK _ _ h
theorem upon_ev {v : EV} {w' : World} (hr : (execOp (rho env) o).run P w = .ok (.value v.val) w') (h : K v w')
    (hK : ∀ v w', K v w' → next (act ds (put env o.dst v)) w') : o.wp P (act ds env) w next Q' := by
  unfold Oper.wp
  rw [act_eval, hr, Oper.upon_value, act_put]
  exact hK _ _ h
theorem upon_skip {w' : World} (hr : (execOp (rho env) o).run P w = .ok .skip w') (h : K u0 w')
    (hK : ∀ v w', K v w' → next (act ds (put env o.dst v)) w') : o.wp P (act ds env) w next Q' := by
  unfold Oper.wp
  rw [act_eval, hr, Oper.upon_skip]
  have := act_put ds env o.dst u0
  simp only [EV.val, u0] at this
  rw [this]
  exact hK _ _ h

theorem run_typeInfo {t : TypeId} {i : TypeInfo} (h : P.info? t = some i) : (typeInfo t).run P w = .ok i w := by simp [typeInfo, h]
theorem run_sizeOf {t : TypeId} {n : Nat} (h : szOf P t = some n) : (sizeOf t).run P w = .ok n w := by
  simp only [szOf, Option.map_eq_some_iff] at h
  obtain ⟨i, hi, rfl⟩ := h
  simp [sizeOf, typeInfo, hi]
theorem run_isAgg {t : TypeId} {b : Bool} (h : aggT P t = some b) : (isAgg t).run P w = .ok b w := by
  unfold aggT at h
  unfold isAgg
  split at h
  · rename_i hu; simp only [Option.some.injEq] at h; subst h; simp [underlying, hu]
  · rename_i hu; simp only [Option.some.injEq] at h; subst h; simp [underlying, hu]
  · rename_i d h1 h2 hu
    simp only [Option.some.injEq] at h
    subst h
    simp only [Sem.run_bind, underlying, run_program, Result.andThen_ok, hu, Sem.run_pure]
  · simp at h
theorem run_zeroValue {t : TypeId} (h : zok P t = true) : ∃ v, (zeroValue t).run P w = .ok v w ∧ v.cells = zc P t := by
  unfold zok at h
  split at h
  · rename_i i hi
    cases hz : i.zero with
    | none => simp [hz] at h
    | some v => exact ⟨v, by simp [zeroValue, typeInfo, hi, hz], by simp [zc, hi, hz]⟩
  · simp at h
theorem run_loadCellsFrom {a : Addr} : ∀ (vs : List Value) (i : Nat) (acc : Array Value), (∀ j v, vs[j]? = some v → w.cell? (a.add (i + j)) = some v) →
    (loadCellsFrom a i vs.length acc).run P w = .ok (acc ++ vs.toArray) w := by
  intro vs
  induction vs with
  | nil => intro i acc _; simp [loadCellsFrom]
  | cons v vs ih =>
    intro i acc h
    have h0 := h 0 v rfl
    simp only [Nat.add_zero] at h0
    have h1 := ih (i + 1) (acc.push v) (fun j u hj => by have := h (j + 1) u (by simpa using hj); rw [show i + 1 + j = i + (j + 1) by omega]; exact this)
    simp only [List.length_cons, loadCellsFrom, Sem.run_bind, run_load, h0, Result.andThen_ok, h1]
    simp
theorem run_loadLf {t : TypeId} {a : Addr} {v : Value} (ht : aggT P t = some false) (h : w.cell? a = some v) : (loadVar t a).run P w = .ok v w := by
  simp [loadVar, run_isAgg ht, h]
theorem run_loadAg {t : TypeId} {a : Addr} {vs : List Value} (ht : aggT P t = some true) (hs : szOf P t = some vs.length)
    (h : ∀ j v, vs[j]? = some v → w.cell? (a.add j) = some v) : (loadVar t a).run P w = .ok (.agg vs.toArray) w := by
  have := run_loadCellsFrom (P := P) (w := w) (a := a) vs 0 #[] (by simpa using h)
  simp [loadVar, run_isAgg ht, run_sizeOf hs, loadCells, this]
theorem run_storeLf {t : TypeId} {a : Addr} {v old : Value} (hs : szOf P t = some 1) (hv : v.oneCell' = true) (h : w.cell? a = some old) (hf : w.frozen? a = false) :
    (storeVar t a v).run P w = .ok () (w.setCell a v) := by
  have hc : v.cells = #[v] := by cases v <;> simp_all [Value.cells, Value.oneCell']
  have ha : a.add 0 = a := by simp [Addr.add]
  simp [storeVar, run_sizeOf hs, hc, storeCells, ha, run_store P w a v .plain hv, h, hf]
theorem run_indexAt {t e : TypeId} {s : Option Addr} {n c : Nat} {k : IntKind} {i : Int} {sz : Nat} {a : Addr} (he : elemOf P t = some e) (hs : szOf P e = some sz) (ha : s = some a) (h0 : 0 ≤ i) (h1 : i < n) :
    (Instr.indexAt t (.slice s n c) (.int k i)).run P w = .ok (.pointer (some (a.add (i.toNat * sz)))) w := by
  unfold elemOf at he
  split at he
  · rename_i e' hu
    simp only [Option.some.injEq] at he
    subst he ha
    simp [Instr.indexAt, asIntOf, underlying, hu, h0, h1, run_sizeOf hs]
  · simp at he
theorem over_eq : ∀ (vs : List Value) (cells : List Value) (off : Nat), over cells off vs = (vs.zipIdx off).foldl (fun cs (c, j) => cs.set j c) cells
  | [], _, _ => rfl
  | v :: vs, cells, off => by simp [over, over_eq vs, List.zipIdx_cons]
theorem over_length : ∀ (vs : List Value) (cells : List Value) (off : Nat), (over cells off vs).length = cells.length
  | [], _, _ => rfl
  | v :: vs, cells, off => by simp [over, over_length vs]
theorem foldl_set (off : Nat) : ∀ (vs : List Value) (k : Nat) (cells : Array Value), (vs.zipIdx k).foldl (fun cs x => cs.setIfInBounds (off + x.2) x.1) cells = (over cells.toList (off + k) vs).toArray
  | [], _, _ => by simp [over]
  | v :: vs, k, cells => by
    simp only [List.zipIdx_cons, List.foldl_cons, over]
    rw [foldl_set off vs (k + 1)]
    simp [Nat.add_assoc]
theorem fillL_fill {place : Nat → Option (Nat × Nat)} : ∀ {parts : List (Nat × Value)} {cells r : List Value}, fillL place cells parts = some r → Instr.fill place cells.toArray parts = some r.toArray
  | [], cells, r, h => by simp only [fillL, Option.some.injEq] at h; subst h; rfl
  | (i, v) :: rest, cells, r, h => by
    simp only [fillL] at h
    simp only [Instr.fill]
    cases hp : place i with
    | none => simp [hp] at h
    | some x =>
      obtain ⟨off, size⟩ := x
      simp only [hp] at h
      split at h
      · simp at h
      · rename_i hc
        simp only [Array.length_toList] at hc
        have hc' : ¬ ((v.cells.size ≠ size || off + v.cells.size > cells.toArray.size) = true) := by simpa using hc
        have hc2 : ¬ (v.cells.size ≠ size || decide (off + v.cells.size > cells.toArray.size)) = true := hc'
        simp only [ne_eq, List.size_toArray] at hc2 ⊢
        rw [if_neg (by simpa using hc2)]
        have := fillL_fill h
        rw [← this]
        congr 1
        rw [← Array.foldl_toList, Array.toList_zipIdx, foldl_set off v.cells.toList 0 cells.toArray]
        simp
theorem rep_length (z : List Value) : ∀ n, (rep z n).length = n * z.length
  | 0 => by simp [rep]
  | n + 1 => by simp [rep, rep_length z n, Nat.succ_mul, Nat.add_comm]
theorem rep_get (z : List Value) : ∀ (n i : Nat), i < n * z.length → (rep z n)[i]? = z[i % z.length]?
  | 0, i, h => by simp at h
  | n + 1, i, h => by
    simp only [rep]
    by_cases hi : i < z.length
    · rw [List.getElem?_append_left hi, Nat.mod_eq_of_lt hi]
    · have hle : z.length ≤ i := by omega
      rw [List.getElem?_append_right hle, rep_get z n (i - z.length) (by rw [Nat.succ_mul] at h; omega)]
      congr 1
      conv => rhs; rw [show i = i - z.length + z.length by omega, Nat.add_mod_right]
theorem rep_range (z : Array Value) (n : Nat) (hz : 0 < z.size) : (Array.range (n * z.size)).map (fun i => z[i % z.size]!) = (rep z.toList n).toArray := by
  apply Array.ext
  · simp [rep_length]
  · intro i h1 h2
    simp only [Array.size_map, Array.size_range] at h1
    have hr := rep_get z.toList n i (by simpa using h1)
    have hl : i < (rep z.toList n).length := by rw [rep_length]; simpa using h1
    rw [List.getElem?_eq_getElem hl] at hr
    have hm : i % z.size < z.size := Nat.mod_lt _ hz
    simp only [Array.getElem_map, Array.getElem_range, List.getElem_toArray]
    rw [getElem!_pos z (i % z.size) hm]
    simp only [Array.length_toList] at hr
    rw [List.getElem?_eq_getElem (by simpa using hm)] at hr
    simp only [Option.some.injEq] at hr
    rw [hr]; simp
theorem run_buildSlice {t e : TypeId} {sz len : Nat} {parts : Array (Nat × Value)} {cs : List Value} (he : elemOf P t = some e) (hs : szOf P e = some sz) (hl : len * sz ≤ 2 ^ 24) (hz : zok P e = true)
    (hzl : (zc P e).toList.length = sz) (hf : fillL (fun i => some (i * sz, sz)) (rep (zc P e).toList len) parts.toList = some cs) :
    (Instr.buildSlice t len parts).run P w = .ok (.slice (some ⟨w.heap.size, 0, none⟩) len len) (w.alloc (.cells cs.toArray e)) := by
  unfold elemOf at he
  split at he
  · rename_i e' hu
    simp only [Option.some.injEq] at he
    subst he
    obtain ⟨v, hv, hvc⟩ := run_zeroValue (w := w) hz
    have hff := fillL_fill hf
    simp only [Array.length_toList] at hzl
    have hsz : ¬ len * sz > 2 ^ 24 := by omega
    by_cases h0 : len * sz = 0
    · have hrep : rep (zc P e').toList len = [] := by
        apply List.eq_nil_of_length_eq_zero; rw [rep_length]; simp [hzl, h0]
      rw [hrep] at hff
      have e0 : Array.map (fun _ : Nat => (default : Value)) (Array.range 0) = #[] := by apply Array.eq_empty_of_size_eq_zero; simp
      simp [Instr.buildSlice, underlying, hu, run_sizeOf hs, h0, newRow]
      rw [e0, hff]
      simp
    · have hzp : 0 < (zc P e').size := by rw [hzl]; exact Nat.pos_of_ne_zero (fun hh => h0 (by simp [hh]))
      have hr := rep_range (zc P e') len hzp
      rw [hzl] at hr
      have hr2 : (Array.range (len * sz)).map (fun i => (zc P e')[i % (zc P e').size]!) = (rep (zc P e').toList len).toArray := by rw [hzl]; exact hr
      simp [Instr.buildSlice, underlying, hu, run_sizeOf hs, hsz, h0, hv, hvc, newRow, hr2, hff]
  · simp at he
theorem mapM_places {fs : List Field} {ps : List (Nat × Nat)} (h : placesOf P fs = some ps) : (fs.mapM fun f => (do pure (f.offset, ← sizeOf f.type) : Sem (Nat × Nat))).run P w = .ok ps w := by
  induction fs generalizing ps with
  | nil => simp only [placesOf, Option.some.injEq] at h; subst h; simp
  | cons f fs ih =>
    simp only [placesOf] at h
    split at h
    · rename_i n r h1 h2
      simp only [Option.some.injEq] at h
      subst h
      simp only [List.mapM_cons, Sem.run_bind, run_sizeOf h1, Result.andThen_ok, Sem.run_pure, ih h2]
    · simp at h
theorem run_build {t : TypeId} {fs : List Field} {ps : List (Nat × Nat)} {parts : Array (Nat × Value)} {cs : List Value} (hfs : fieldsOf P t = some fs) (hps : placesOf P fs = some ps) (hz : zok P t = true)
    (hf : fillL (fun i => ps[i]?) (zc P t).toList parts.toList = some cs) : (Instr.build t parts).run P w = .ok (.agg cs.toArray) w := by
  unfold fieldsOf at hfs
  split at hfs
  · rename_i fa hu
    simp only [Option.some.injEq] at hfs
    subst hfs
    obtain ⟨v, hv, hvc⟩ := run_zeroValue (w := w) hz
    have hff := fillL_fill hf
    have hm := mapM_places (w := w) hps
    have hm2 : (fa.mapM fun f => (do pure (f.offset, ← sizeOf f.type) : Sem (Nat × Nat))).run P w = .ok ps.toArray w := by
      rw [← Array.toArray_toList (xs := fa), List.mapM_toArray]
      simp only [Sem.run_map]
      rw [Array.toArray_toList, hm]; rfl
    have hff2 : Instr.fill (fun x => ps.toArray[x]?) (zc P t) parts.toList = some cs.toArray := by simpa using hff
    simp only [Instr.build, Sem.run_bind, hv, Result.andThen_ok, underlying, run_program, hu, Sem.run_pure]
    rw [hm2]
    simp only [Result.andThen_ok, hvc, hff2, Sem.run_pure]
  · simp at hfs
theorem run_buildA {t e : TypeId} {sz : Nat} {parts : Array (Nat × Value)} {cs : List Value} (he : arrOf P t = some e) (hs : szOf P e = some sz) (hz : zok P t = true)
    (hf : fillL (fun i => some (i * sz, sz)) (zc P t).toList parts.toList = some cs) : (Instr.build t parts).run P w = .ok (.agg cs.toArray) w := by
  unfold arrOf at he
  split at he
  · rename_i n e' hu
    simp only [Option.some.injEq] at he
    subst he
    obtain ⟨v, hv, hvc⟩ := run_zeroValue (w := w) hz
    have hff := fillL_fill hf
    have hff2 : Instr.fill (fun i => some (i * sz, sz)) (zc P t) parts.toList = some cs.toArray := by simpa using hff
    simp only [Instr.build, Sem.run_bind, hv, Result.andThen_ok, underlying, run_program, hu, Sem.run_pure, run_sizeOf hs, hvc, hff2]
  · simp at he
end
end Go.Proofs.YtihllippchgkgaaGreat.V

/- The verification-condition generator: lists of operations, regions, statements. -/
namespace Go.Proofs.YtihllippchgkgaaGreat.V
open Go Go.RowKit

section
variable {P : Program} {ds : List Deferred} {o : Oper} {env : Env} {w : World} {K : EV → World → Prop} {Q : List PanicEntry → World → Prop}
variable {next : Act → World → Prop} {Q' : Exit → Act → World → Prop}

theorem evD_pure (h : match (execOp (rho env) o).run P w with | .ok (.value v) w' => K (.v v) w' | _ => False)
    (hK : ∀ v w', K v w' → next (act ds (put env o.dst v)) w') : o.wp P (act ds env) w next Q' := by
  split at h
  · rename_i v w' hr; exact upon_val hr h hK
  · exact h.elim
theorem evD_sound (h : evD P o env w K Q) (hK : ∀ v w', K v w' → next (act ds (put env o.dst v)) w')
    (hQ : ∀ ch w', Q ch w' → Q' (.panic ch) (act ds env) w') : o.wp P (act ds env) w next Q' := by
  obtain ⟨dst, op, type, pos, after, guard⟩ := o
  cases op with
  | move x => exact upon_ev (by simp [execOp, rho]) h hK
  | assign x => exact upon_ev (by simp [execOp, rho]) h hK
  | pick c a b =>
    simp only [evD] at h
    split at h
    · rename_i t hc
      cases t with
      | true => exact upon_ev (v := evO env a) (by simp [execOp, rho, hc, EV.val, asBool]) h hK
      | false => exact upon_ev (v := evO env b) (by simp [execOp, rho, hc, EV.val, asBool]) h hK
    · rename_i t hc
      cases t with
      | true => exact upon_ev (v := evO env a) (by simp [execOp, rho, hc, EV.val, asBool]) (h.1 rfl) hK
      | false => exact upon_ev (v := evO env b) (by simp [execOp, rho, hc, EV.val, asBool]) (h.2 rfl) hK
    · exact h.elim
  | binOp op t x y yt =>
    simp only [evD] at h
    split at h
    · rename_i k a k' b hx hy
      split at h
      · rename_i hk
        subst hk
        refine upon_val (v := .int k (k.wrap (a.tdiv b))) ?_ h.2 hK
        simp [execOp, hx, hy, eqGuard, binOp, Op.intDiv, h.1]
      · exact h.elim
    · rename_i k a k' b hx hy
      split at h
      · rename_i hk
        subst hk
        refine upon_val (v := .int k (a.tmod b)) ?_ h.2 hK
        simp [execOp, hx, hy, eqGuard, binOp, Op.intDiv, h.1]
      · exact h.elim
    · rename_i k a k' b hx hy
      refine upon_val (v := .int k (k.wrap (a * 2 ^ (min b.toNat k.bits)))) ?_ h.2 hK
      have : ¬ b < 0 := by have := h.1; omega
      simp [execOp, hx, hy, eqGuard, binOp, Op.shift, this]
    · rename_i k a k' b hx hy
      refine upon_val (v := .int k (a.fdiv (2 ^ (min b.toNat k.bits)))) ?_ h.2 hK
      have : ¬ b < 0 := by have := h.1; omega
      simp [execOp, hx, hy, eqGuard, binOp, Op.shift, this]
    · rename_i a b hx hy
      refine upon_val (v := .string (a ++ b)) ?_ h.2 hK
      have hh : ((a.size : Int) + b.size) ≤ 9223372036854775807 := by have := h.1; have e : IntKind.i64.max = 9223372036854775807 := rfl; omega
      simp only [execOp, hx, hy, eqGuard, binOp, Op.stringOp, Sem.run_bind, Int.natCast_add]
      simp
      exact hh
    · exact evD_pure h hK
  | unOp op t x => exact evD_pure h hK
  | fieldAddr s x f => exact evD_pure h hK
  | convert s d x => exact evD_pure h hK
  | extract t ix =>
    simp only [evD] at h
    split at h
    · rename_i vs hv
      split at h
      · rename_i v hi
        simp only [Array.getElem?_toList] at hi
        exact upon_val (by simp [execOp, hv, Instr.extract, hi]) h hK
      · exact h.elim
    · exact h.elim
  | alloc t =>
    simp only [evD] at h
    split at h
    · rename_i hz
      obtain ⟨v, hv, hvc⟩ := run_zeroValue (P := P) (w := w) hz
      exact upon_val (by simp [execOp, Instr.alloc, hv, newVar, newRow, hvc]) h hK
    · exact h.elim
  | box t x => exact upon_val (by simp [execOp, Instr.box, newVar, newRow]) h hK
  | buildSlice t len parts =>
    simp only [evD] at h
    split at h
    · rename_i e he
      split at h
      · rename_i sz hs
        split at h
        · rename_i hc
          simp only [Bool.and_eq_true, decide_eq_true_eq, beq_iff_eq] at hc
          obtain ⟨⟨hl, hz⟩, hzl⟩ := hc
          split at h
          · rename_i cs hf
            refine upon_val ?_ h hK
            have := run_buildSlice (w := w) (parts := parts.map fun (i, x) => (i, rho env x)) he hs hl hz hzl (by simpa using hf)
            simp [execOp, this]
          · exact h.elim
        · exact h.elim
      · exact h.elim
    · exact h.elim
  | build t parts =>
    simp only [evD] at h
    split at h
    · rename_i fs hfs
      split at h
      · rename_i ps hps
        split at h
        · rename_i hz
          split at h
          · rename_i cs hf
            refine upon_val ?_ h hK
            have := run_build (w := w) (parts := parts.map fun (i, x) => (i, rho env x)) hfs hps hz (by simpa using hf)
            simp [execOp, this]
          · exact h.elim
        · exact h.elim
      · exact h.elim
    · split at h
      · rename_i e he
        split at h
        · rename_i sz hs
          split at h
          · rename_i hz
            split at h
            · rename_i cs hf
              refine upon_val ?_ h hK
              have := run_buildA (w := w) (parts := parts.map fun (i, x) => (i, rho env x)) he hs hz (by simpa using hf)
              simp [execOp, this]
            · exact h.elim
          · exact h.elim
        · exact h.elim
      · exact h.elim
  | store t a x =>
    simp only [evD] at h
    split at h
    · rename_i ad ha
      split at h
      · split at h
        · rename_i hs
          obtain ⟨hv, ⟨old, ho⟩, hf, hk⟩ := h
          exact upon_skip (by simp [execOp, ha, Instr.storeAt, Instr.sureAddr, run_storeLf hs hv ho hf]) hk hK
        · exact h.elim
      · split at h
        · rename_i cs hx
          split at h
          · rename_i hs
            obtain ⟨w', hr, hk⟩ := h
            refine upon_skip (w' := w') ?_ hk hK
            simp only [Array.length_toList] at hs
            simp [execOp, ha, Instr.storeAt, Instr.sureAddr, storeVar, run_sizeOf hs, hx, Value.cells, hr]
          · exact h.elim
        · exact h.elim
      · exact h.elim
    · exact h.elim
  | nilCheck x =>
    simp only [evD] at h
    split at h
    · rename_i a ha
      exact upon_val (by simp [execOp, ha]) h hK
    · exact h.elim
  | field t x f =>
    simp only [evD] at h
    split at h
    · rename_i fs hfs
      split at h
      · rename_i fd hfd
        split at h
        · rename_i cs hx
          split at h
          · rename_i hag
            split at h
            · rename_i v hv
              unfold fieldsOf at hfs
              split at hfs
              · rename_i fa hu
                simp only [Option.some.injEq] at hfs
                subst hfs
                simp only [Array.getElem?_toList] at hfd hv
                refine upon_val ?_ h hK
                simp [execOp, Instr.field, underlying, hu, hfd, hx, asAgg, part, run_isAgg hag, hv]
              · simp at hfs
            · exact h.elim
          · exact h.elim
        · exact h.elim
      · exact h.elim
    · exact h.elim
  | indexAddr t x ix =>
    simp only [evD] at h
    split at h
    · rename_i s n c k i hx hi
      split at h
      · rename_i e he
        split at h
        · rename_i sz hs
          obtain ⟨a, ha, h0, h1, hk⟩ := h
          exact upon_val (by simp [execOp, hx, hi, run_indexAt he hs ha h0 h1]) hk hK
        · exact h.elim
      · exact h.elim
    · exact h.elim
  | index t x ix =>
    simp only [evD] at h
    split at h
    · rename_i s k i hx hi
      split at h
      · rename_i hu
        obtain ⟨h0, b, hb, hk⟩ := h
        refine upon_val ?_ hk hK
        simp [execOp, hx, hi, Instr.index, asIntOf, underlying, hu, h0, hb]
      · exact h.elim
    · exact h.elim
  | makeInterface t x =>
    simp only [evD] at h
    split at h
    · exact h.elim
    · rename_i d hd hu
      refine upon_val ?_ h hK
      simp only [execOp, Instr.makeInterface, Sem.run_bind, underlying, run_program, Result.andThen_ok, hu, Sem.run_pure]
    · exact h.elim
  | next it s =>
    obtain ⟨b, rest, w', hr, hk⟩ := h
    exact upon_val (by simp [execOp, hr]) hk hK
  | makeFunc fn first cap =>
    refine upon_val ?_ h hK
    have e1 : (first.toList.map (rho env)).toArray = first.map (rho env) := by simp [← Array.toList_map]
    have e2 : (cap.toList.map (rho env)).toArray = cap.map (rho env) := by simp [← Array.toList_map]
    rw [e1, e2]
    simp [execOp, Instr.makeFunc]
  | call c =>
    obtain ⟨callee, args, ats⟩ := c
    cases callee with
    | value x => exact h.elim
    | invoke r m => exact h.elim
    | builtin b =>
      cases b with
      | len =>
        simp only [evD] at h
        split at h
        · rename_i s n cc t ha ht
          split at h
          · rename_i e hu
            refine upon_val ?_ h hK
            have h0 : (args.map (rho env))[0]? = some (.slice s n cc) := by rw [← Array.getElem?_toList, Array.toList_map, ha]; rfl
            have h1 : ats[0]? = some t := by rw [← Array.getElem?_toList, ht]; rfl
            simp only [Array.getElem?_map] at h0
            simp [execOp, resolve, invoke, builtin, Builtin.len_, h0, h1, underlying, hu, goInt]
          · exact h.elim
        · rename_i s t ha ht
          split at h
          · rename_i hu
            refine upon_val ?_ h hK
            have h0 : (args.map (rho env))[0]? = some (.string s) := by rw [← Array.getElem?_toList, Array.toList_map, ha]; rfl
            have h1 : ats[0]? = some t := by rw [← Array.getElem?_toList, ht]; rfl
            simp only [Array.getElem?_map] at h0
            simp [execOp, resolve, invoke, builtin, Builtin.len_, h0, h1, underlying, hu, goInt]
          · exact h.elim
        · exact h.elim
      | cap =>
        simp only [evD] at h
        split at h
        · rename_i s n cc t ha ht
          split at h
          · rename_i e hu
            refine upon_val ?_ h hK
            have h0 : (args.map (rho env))[0]? = some (.slice s n cc) := by rw [← Array.getElem?_toList, Array.toList_map, ha]; rfl
            have h1 : ats[0]? = some t := by rw [← Array.getElem?_toList, ht]; rfl
            simp only [Array.getElem?_map] at h0
            simp [execOp, resolve, invoke, builtin, Builtin.cap_, h0, h1, underlying, hu, goInt]
          · exact h.elim
        · exact h.elim
      | max =>
        simp only [evD] at h
        split at h
        · rename_i k a k' b ha
          refine upon_val ?_ h hK
          have h0 : (args.map (rho env)).toList = [.int k a, .int k' b] := by rw [Array.toList_map, ha]
          simp only [Array.toList_map] at h0
          simp [execOp, resolve, invoke, builtin, Builtin.max_, h0, Builtin.max2]
        · exact h.elim
      | min =>
        simp only [evD] at h
        split at h
        · rename_i k a k' b ha
          refine upon_val ?_ h hK
          have h0 : (args.map (rho env)).toList = [.int k a, .int k' b] := by rw [Array.toList_map, ha]
          simp only [Array.toList_map] at h0
          simp [execOp, resolve, invoke, builtin, Builtin.min_, h0, Builtin.min2]
        · exact h.elim
      | _ => exact h.elim
  | panic x =>
    simp only [evD] at h
    split at h
    · rename_i v w' hr
      unfold Oper.wp
      rw [act_eval, hr, Oper.upon_panic]
      exact hQ _ _ h
    · exact h.elim
  | _ => exact h.elim
theorem spl_out {v : EV} {w' : World} (h : spl K v w') (hK : ∀ v w', K v w' → next (act ds (put env o.dst v)) w') : next (act ds (put env o.dst v)) w' := by
  cases v with
  | b t => exact hK _ _ h
  | v x =>
    cases x with
    | bool t =>
      have he : act ds (put env o.dst (.v (.bool t))) = act ds (put env o.dst (.b t)) := by rw [← act_put, ← act_put]; rfl
      rw [he]
      cases t with
      | true => exact hK _ _ (h.1 rfl)
      | false => exact hK _ _ (h.2 rfl)
    | _ => exact hK _ _ h
theorem evOp_sound {pl : OpP} (h : evOp P pl o env w K Q) (hK : ∀ v w', K v w' → next (act ds (put env o.dst v)) w')
    (hQ : ∀ ch w', Q ch w' → Q' (.panic ch) (act ds env) w') : o.wp P (act ds env) w next Q' := by
  induction pl generalizing K with
  | y => exact h.elim
  | sp p ih => exact ih h (fun v w' hh => spl_out hh hK)
  | d => exact evD_sound h hK hQ
  | t r =>
    simp only [evOp] at h
    split at h
    · rename_i s hs
      obtain ⟨x, w', hr, hk⟩ := h
      exact upon_val (by rw [semV_run hs, hr]; rfl) hk hK
    · exact h.elim
  | u =>
    simp only [evOp] at h
    split at h
    · rename_i s hs
      obtain ⟨w', hr, hk⟩ := h
      exact upon_skip (by rw [semU_run hs, hr]; rfl) hk hK
    · exact h.elim
  | l τ =>
    obtain ⟨dst, op, type, pos, after, guard⟩ := o
    cases op with
    | load t a =>
      simp only [evOp] at h
      split at h
      · rename_i ad ha
        split at h
        · split at h
          · rename_i l ht
            obtain ⟨x, hx, hk⟩ := h
            exact upon_val (by simp [execOp, ha, Instr.loadAt, Instr.sureAddr, run_loadLf ht hx]) hk hK
          · exact h.elim
        · split at h
          · rename_i ls ht
            simp only [Bool.and_eq_true, decide_eq_true_eq] at ht
            obtain ⟨x, hx, hk⟩ := h
            have hl : (Tup.cells ls x).length = ls.length := by
              clear hx hk ht
              induction ls with
              | nil => rfl
              | cons l ls ih => simp [Tup.cells, ih]
            exact upon_val (by simp [execOp, ha, Instr.loadAt, Instr.sureAddr, run_loadAg ht.1 (hl ▸ ht.2) hx]) hk hK
          · exact h.elim
      · exact h.elim
    | _ => exact h.elim
  | c r =>
    simp only [evOp] at h
    split at h
    · rename_i f args hc
      split at h
      · rename_i hcb
        unfold Oper.wp
        rw [act_eval, callOf_run hc hcb, Oper.upon_enter]
        refine Calls.mono h ?_
        rintro e w' ⟨x, rfl, hk⟩
        have := act_put ds env o.dst (.v (r.emb x))
        simp only [EV.val] at this
        simp only [this]
        exact hK _ _ hk
      · exact h.elim
    · exact h.elim
  | cp r =>
    simp only [evOp] at h
    split at h
    · rename_i f args hc
      split at h
      · rename_i hcb
        unfold Oper.wp
        rw [act_eval, callOf_run hc hcb, Oper.upon_enter]
        refine Calls.mono h ?_
        rintro e w' (⟨x, rfl, hk⟩ | ⟨ch, rfl, hk⟩)
        · have := act_put ds env o.dst (.v (r.emb x))
          simp only [EV.val] at this
          simp only [this]
          exact hK _ _ hk
        · exact hQ _ _ hk
      · exact h.elim
    · exact h.elim
  | n =>
    obtain ⟨dst, op, type, pos, after, guard⟩ := o
    cases op with
    | nilCheck x =>
      simp only [evOp] at h
      split at h
      · rename_i p hp
        obtain ⟨a, rfl, hk⟩ := h
        exact upon_val (by simp [execOp, hp]) hk hK
      · exact h.elim
    | _ => exact h.elim
end
end Go.Proofs.YtihllippchgkgaaGreat.V

/- The verification-condition generator: 'ev' and its soundness. -/
namespace Go.Proofs.YtihllippchgkgaaGreat.V
open Go Go.RowKit

def evL (P : Program) (ops : Array Oper) (K : Exit → Env → World → Prop) : List OpP → List Oper → Env → World → Prop
  | _, [], env, w => K .normal env w
  | [], _ :: _, _, _ => False
  | p :: ps, o :: os, env, w =>
    match o.guard with
    | none => evOp P p o env w (fun v w' => evL P ops K ps os (put env o.dst v) w') (fun ch w' => K (.panic ch) env w')
    | some (j, want) =>
      match (ops.toList[j]?).bind (·.dst) with
      | none => False
      | some d => match env.getD d u0 with
        | .b t => match t == want with
          | true => evOp P p o env w (fun v w' => evL P ops K ps os (put env o.dst v) w') (fun ch w' => K (.panic ch) env w')
          | false => evL P ops K ps os (put env o.dst u0) w
        | .v (.bool t) =>
          (t = want → evOp P p o (env.set d (.b want)) w (fun v w' => evL P ops K ps os (put (env.set d (.b want)) o.dst v) w') (fun ch w' => K (.panic ch) (env.set d (.b want)) w')) ∧
          (t = (!want) → evL P ops K ps os (put (env.set d (.b (!want))) o.dst u0) w)
        | .v _ => evL P ops K ps os (put env o.dst u0) w

def Ag (S : List Nat) (env env' : Env) : Prop := env'.length = env.length ∧ ∀ i, i ∉ S → (env'.getD i u0).val = (env.getD i u0).val
theorem Ag.refl (S : List Nat) (env : Env) : Ag S env env := ⟨rfl, fun _ _ => rfl⟩
theorem Ag.trans {S : List Nat} {a b c : Env} (h : Ag S a b) (k : Ag S b c) : Ag S a c := ⟨k.1.trans h.1, fun i hi => (k.2 i hi).trans (h.2 i hi)⟩
theorem Ag.mono {S T : List Nat} {a b : Env} (h : Ag S a b) (hs : ∀ i, i ∈ S → i ∈ T) : Ag T a b := ⟨h.1, fun i hi => h.2 i (fun hh => hi (hs i hh))⟩
theorem Ag.put {S : List Nat} (env : Env) (d : Option Tmp) (v : EV) (h : ∀ k, d = some k → k ∈ S) : Ag S env (put env d v) := by
  cases d with
  | none => exact Ag.refl _ _
  | some d =>
    refine ⟨by simp [V.put], fun i hi => ?_⟩
    have : d ≠ i := fun e => hi (e ▸ h d rfl)
    simp [V.put, List.getD_eq_getElem?_getD, List.getElem?_set_ne this]
theorem set_val {env : Env} {d : Nat} {v : EV} (h : (env.getD d u0).val = v.val) (i : Nat) : ((env.set d v).getD i u0).val = (env.getD i u0).val := by
  by_cases hi : d = i
  · subst hi
    rw [List.getD_eq_getElem?_getD, List.getElem?_set]
    by_cases hl : d < env.length
    · simp [hl, ← h]
    · rw [List.getD_eq_getElem?_getD] at h ⊢
      simp [hl]
  · rw [List.getD_eq_getElem?_getD, List.getD_eq_getElem?_getD, List.getElem?_set_ne hi]
theorem Ag.set {S : List Nat} {env : Env} {d : Nat} {v : EV} (h : (env.getD d u0).val = v.val) : Ag S env (env.set d v) := ⟨by simp, fun i _ => set_val h i⟩
theorem act_congr {ds : List Deferred} {a b : Env} (hl : a.length = b.length) (h : ∀ i, (a.getD i u0).val = (b.getD i u0).val) : act ds a = act ds b := by
  have : a.map EV.val = b.map EV.val := by
    apply List.ext_getElem
    · simp [hl]
    · intro i h1 h2
      simp only [List.length_map] at h1 h2
      have := h i
      simp only [List.getD_eq_getElem?_getD, List.getElem?_eq_getElem h1, List.getElem?_eq_getElem h2, Option.getD_some] at this
      simpa using this
  simp [act, this]
theorem act_set {ds : List Deferred} {env : Env} {d : Nat} {v : EV} (h : (env.getD d u0).val = v.val) : act ds (env.set d v) = act ds env := act_congr (by simp) (set_val h)

theorem tmps_get (ds : List Deferred) (env : Env) (d : Nat) : (act ds env).tmps[d]? = (env[d]?).map EV.val := by simp [act]
theorem wanted_some {ops : Array Oper} {o : Oper} {ds : List Deferred} {env : Env} {j d : Nat} {want : Bool} (hg : o.guard = some (j, want)) (hd : (ops.toList[j]?).bind (·.dst) = some d) :
    Region.wanted o (yielded ops (act ds env).tmps) = match (env.getD d u0).val with
      | .bool t => t == want
      | _ => false := by
  have hd' : (ops[j]?).bind (·.dst) = some d := by simpa using hd
  simp only [Region.wanted, hg, yielded, hd', Option.bind_some, tmps_get, List.getD_eq_getElem?_getD]
  cases env[d]? with
  | none => simp [u0, EV.val, undef]
  | some v =>
    simp only [Option.map_some, Option.getD_some]
    cases v.val <;> simp
    all_goals rfl

section
variable {P : Program} {ds : List Deferred}
theorem evL_sound {ops : Array Oper} {S : List Nat} {env0 : Env} {K : Exit → Env → World → Prop} {Q : Exit → Act → World → Prop} (hK : ∀ e env' w', K e env' w' → Ag S env0 env' → Q e (act ds env') w') :
    ∀ (ps : List OpP) (os : List Oper) (env : Env) (w : World), (∀ o ∈ os, ∀ d, o.dst = some d → d ∈ S) → Ag S env0 env → evL P ops K ps os env w → wpList P ops Q os (act ds env) w
  | _, [], env, w, _, ha, h => by cases ‹List OpP› <;> exact hK _ _ _ h ha
  | [], _ :: _, _, _, _, _, h => h.elim
  | p :: ps, o :: os, env, w, hS, ha, h => by
    have ih := evL_sound (ops := ops) hK ps os
    have hos : ∀ o' ∈ os, ∀ d, o'.dst = some d → d ∈ S := fun o' ho' => hS o' (List.mem_cons_of_mem _ ho')
    have hod : ∀ k, o.dst = some k → k ∈ S := hS o List.mem_cons_self
    have exec : ∀ env1, act ds env1 = act ds env → Ag S env0 env1 → evOp P p o env1 w (fun v w' => evL P ops K ps os (put env1 o.dst v) w') (fun ch w' => K (.panic ch) env1 w') →
        o.wp P (act ds env) w (wpList P ops Q os) Q := by
      intro env1 he ha1 h1
      rw [← he]
      exact evOp_sound h1 (fun v w' hh => ih _ _ hos (ha1.trans (Ag.put env1 o.dst v hod)) hh) (fun ch w' hh => hK _ _ _ hh ha1)
    have skip : ∀ env1, act ds env1 = act ds env → Ag S env0 env1 → evL P ops K ps os (put env1 o.dst u0) w → wpList P ops Q os ((act ds env).put o.dst undef) w := by
      intro env1 he ha1 h1
      rw [← he]
      have := act_put ds env1 o.dst u0
      simp only [EV.val, u0] at this
      rw [this]
      exact ih _ _ hos (ha1.trans (Ag.put env1 o.dst _ hod)) h1
    simp only [evL] at h
    unfold wpList
    split at h
    · rename_i hg
      rw [if_pos (by simp [Region.wanted, hg])]
      exact .inl (exec env rfl ha h)
    · rename_i j want hg
      split at h
      · exact h.elim
      · rename_i d hd
        have hwant := wanted_some (ds := ds) (env := env) hg hd
        split at h
        · rename_i t ht
          simp only [ht, EV.val] at hwant
          split at h
          · rename_i htw
            rw [htw] at hwant
            rw [if_pos hwant]
            exact .inl (exec env rfl ha h)
          · rename_i htw
            rw [htw] at hwant
            rw [if_neg (by simp [hwant])]
            exact skip env rfl ha h
        · rename_i t ht
          simp only [ht, EV.val] at hwant
          by_cases htw : t = want
          · subst htw
            have hv : (env.getD d u0).val = (EV.b t).val := by rw [ht]; rfl
            rw [if_pos (by simp [hwant])]
            exact .inl (exec _ (act_set hv) (ha.trans (Ag.set hv)) (h.1 rfl))
          · have htn : t = !want := by cases t <;> cases want <;> simp_all
            have hv : (env.getD d u0).val = (EV.b (!want)).val := by rw [ht, htn]; rfl
            rw [if_neg (by rw [hwant]; simp [htw])]
            exact skip _ (act_set hv) (ha.trans (Ag.set hv)) (h.2 htn)
        · rename_i x hx ht
          have hw0 : Region.wanted o (yielded ops (act ds env).tmps) = false := by
            rw [hwant, ht]
            simp only [EV.val]
          rw [if_neg (by simp [hw0])]
          exact skip env rfl ha h
end

/-- What of the model's monad needs no memory. -/
def pureS {α : Type} (P : Program) : Sem α → Option α
  | .pure a => some a
  | .program k => pureS P (k P)
  | _ => none
theorem pureS_run {α : Type} {P : Program} {s : Sem α} {a : α} (h : pureS P s = some a) (w : World) : s.run P w = .ok a w := by
  induction s with
  | pure b => simp only [pureS, Option.some.injEq] at h; subst h; rfl
  | program k ih => exact ih P h
  | _ => simp [pureS] at h

def QLd (l : Lf) (a : Addr) (C : World → Prop) (K : l.T → Prop) : Prop := ∃ x : l.T, (∀ w, C w → w.cell? a = some (l.emb x)) ∧ K x
def QLdA (ls : List Lf) (a : Addr) (C : World → Prop) (K : Tup ls → Prop) : Prop :=
  ∃ x : Tup ls, (∀ w, C w → ∀ j v, (Tup.cells ls x)[j]? = some v → w.cell? (a.add j) = some v) ∧ K x
def QCl (r : Rs) (P : Program) (f : FuncId) (args : List Value) (C : World → Prop) (K : r.T → Prop) : Prop := ∃ x : r.T, (∀ w, C w → CallT r P f args w fun y w' => y = x ∧ C w') ∧ K x
def QIx (s : Option Addr) (n : Nat) (i : Int) (sz : Nat) (K : Addr → Prop) : Prop := ∃ a, s = some a ∧ 0 ≤ i ∧ i < n ∧ K (a.add (i.toNat * sz))
def QSx (s : ByteArray) (i : Int) (K : Int → Prop) : Prop := 0 ≤ i ∧ ∃ b, s[i.toNat]? = some b ∧ K (b.toNat : Int)
/-- An operation of a region that draws its order: one value in every world of a class. -/
def splQ (K : EV → Prop) (v : EV) : Prop :=
  match v with
  | .v (.bool t) => (t = true → K (.b true)) ∧ (t = false → K (.b false))
  | .v x => K (.v x)
  | .b t => K (.b t)
def evQo (P : Program) (C : World → Prop) (pl : OpP) (o : Oper) (env : Env) (K : EV → Prop) : Prop :=
  match pl with
  | .sp p => evQo P C p o env (splQ K)
  | .l (.lf l) => match o.op with
    | .load t a => match rho env a with
      | .pointer (some ad) => if aggT P t = some false then QLd l ad C fun x => K (.v (l.emb x)) else False
      | _ => False
    | _ => False
  | .l (.ag ls) => match o.op with
    | .load t a => match rho env a with
      | .pointer (some ad) => if aggT P t = some true && szOf P t = some ls.length then QLdA ls ad C fun x => K (.v (.agg (Tup.cells ls x).toArray)) else False
      | _ => False
    | _ => False
  | .c r => match callOf env o with
    | some (f, args) => if callable P f then QCl r P f args C fun x => K (.v (r.emb x)) else False
    | none => False
  | .n => match o.op with
    | .nilCheck x => match rho env x with
      | .pointer p => ∃ a, p = some a ∧ K (.v (.pointer (some a)))
      | _ => False
    | _ => False
  | .d => match o.op with
    | .move x | .assign x => K (evO env x)
    | .pick c a b =>
      match evO env c with
      | .b t => K (match t with | true => evO env a | false => evO env b)
      | _ => False
    | .binOp op _ x y _ =>
      match op, rho env x, rho env y with
      | .quo, .int k a, .int k' b => if k = k' then b ≠ 0 ∧ K (.v (.int k (k.wrap (a.tdiv b)))) else False
      | .rem, .int k a, .int k' b => if k = k' then b ≠ 0 ∧ K (.v (.int k (a.tmod b))) else False
      | .add, .string a, .string b => ((a.size + b.size : Nat) : Int) ≤ IntKind.i64.max ∧ K (.v (.string (a ++ b)))
      | _, _, _ => match pureS P (execOp (rho env) o) with
        | some (.value v) => K (.v v)
        | _ => False
    | .unOp _ _ _ | .fieldAddr _ _ _ | .convert _ _ _ => match pureS P (execOp (rho env) o) with
        | some (.value v) => K (.v v)
        | _ => False
    | .extract t ix => match rho env t with
      | .tuple vs => match vs.toList[ix]? with
        | some v => K (.v v)
        | none => False
      | _ => False
    | .nilCheck x => match rho env x with
      | .pointer (some a) => K (.v (.pointer (some a)))
      | _ => False
    | .indexAddr t x ix => match rho env x, rho env ix with
      | .slice s n _, .int _ i => match elemOf P t with
        | some e => match szOf P e with
          | some sz => QIx s n i sz fun a => K (.v (.pointer (some a)))
          | none => False
        | none => False
      | _, _ => False
    | .index t x ix => match rho env x, rho env ix with
      | .string s, .int _ i => match P.underlying t with
        | some .string => QSx s i fun b => K (.v (.int .u8 b))
        | _ => False
      | _, _ => False
    | .call { callee := .builtin .len, args, argTypes } => match args.toList.map (rho env), argTypes.toList with
      | [.slice _ n _], [t] => match P.underlying t with
        | some (.slice _) => K (.v (.int .i64 n))
        | _ => False
      | [.string s], [t] => match P.underlying t with
        | some .string => K (.v (.int .i64 s.size))
        | _ => False
      | _, _ => False
    | _ => False
  | _ => False
def evQ (P : Program) (ops : Array Oper) (C : World → Prop) (K : Env → Prop) : List OpP → List Oper → Env → Prop
  | _, [], env => K env
  | [], _ :: _, _ => False
  | p :: ps, o :: os, env =>
    match o.guard with
    | none => evQo P C p o env (fun v => evQ P ops C K ps os (put env o.dst v))
    | some (j, want) =>
      match (ops.toList[j]?).bind (·.dst) with
      | none => False
      | some d => match env.getD d u0 with
        | .b t => match t == want with
          | true => evQo P C p o env (fun v => evQ P ops C K ps os (put env o.dst v))
          | false => evQ P ops C K ps os (put env o.dst u0)
        | .v (.bool t) =>
          (t = want → evQo P C p o (env.set d (.b want)) (fun v => evQ P ops C K ps os (put (env.set d (.b want)) o.dst v))) ∧
          (t = (!want) → evQ P ops C K ps os (put (env.set d (.b (!want))) o.dst u0))
        | .v _ => evQ P ops C K ps os (put env o.dst u0)

section
variable {P : Program} {ds : List Deferred} {C : World → Prop}
theorem quiet_val {o : Oper} {env : Env} {K : EV → Prop} {next : Act → Prop} {v : EV} (hr : ∀ w, (execOp (rho env) o).run P w = .ok (.value v.val) w) (h : K v)
    (hK : ∀ v, K v → next (act ds (put env o.dst v))) : o.quiet P (act ds env) C next := by
  refine ⟨v.val, fun w _ => ?_, ?_⟩
  · unfold Oper.quietAt
    rw [act_eval, hr w]
    exact ⟨rfl, rfl⟩
  · rw [act_put]; exact hK _ h
theorem evQo_pure {o : Oper} {env : Env} {K : EV → Prop} {next : Act → Prop} (h : match pureS P (execOp (rho env) o) with | some (.value v) => K (.v v) | _ => False)
    (hK : ∀ v, K v → next (act ds (put env o.dst v))) : o.quiet P (act ds env) C next := by
  split at h
  · rename_i v hr; exact quiet_val (v := .v v) (fun w => pureS_run hr w) h hK
  · exact h.elim
theorem splQ_out {o : Oper} {env : Env} {K : EV → Prop} {next : Act → Prop} {v : EV} (h : splQ K v) (hK : ∀ v, K v → next (act ds (put env o.dst v))) : next (act ds (put env o.dst v)) := by
  cases v with
  | b t => exact hK _ h
  | v x =>
    cases x with
    | bool t =>
      have he : act ds (put env o.dst (.v (.bool t))) = act ds (put env o.dst (.b t)) := by rw [← act_put, ← act_put]; rfl
      rw [he]
      cases t with
      | true => exact hK _ (h.1 rfl)
      | false => exact hK _ (h.2 rfl)
    | _ => exact hK _ h
theorem evQo_sound0 {p : OpP} {o : Oper} {env : Env} {K : EV → Prop} {next : Act → Prop} (hp : ∀ q, p ≠ .sp q) (h : evQo P C p o env K)
    (hK : ∀ v, K v → next (act ds (put env o.dst v))) : o.quiet P (act ds env) C next := by
  obtain ⟨dst, op, type, pos, after, guard⟩ := o
  cases p with
  | sp q => exact (hp q rfl).elim
  | l τ =>
    cases τ with
    | ag ls =>
      cases op with
      | load t a =>
        simp only [evQo] at h
        split at h
        · rename_i ad ha
          split at h
          · rename_i ht
            simp only [Bool.and_eq_true, decide_eq_true_eq] at ht
            obtain ⟨x, hx, hk⟩ := h
            have hl : (Tup.cells ls x).length = ls.length := by
              clear hx hk ht
              induction ls with
              | nil => rfl
              | cons l ls ih => simp [Tup.cells, ih]
            refine ⟨.agg (Tup.cells ls x).toArray, fun w hw => ?_, ?_⟩
            · unfold Oper.quietAt
              rw [act_eval]
              simp [execOp, ha, Instr.loadAt, Instr.sureAddr, run_loadAg ht.1 (hl ▸ ht.2) (hx w hw), Oper.quietUpon]
            · have := act_put ds env dst (.v (.agg (Tup.cells ls x).toArray))
              simp only [EV.val] at this
              rw [this]; exact hK _ hk
          · exact h.elim
        · exact h.elim
      | _ => exact h.elim
    | lf l =>
      cases op with
      | load t a =>
        simp only [evQo] at h
        split at h
        · rename_i ad ha
          split at h
          · rename_i ht
            obtain ⟨x, hx, hk⟩ := h
            refine ⟨l.emb x, fun w hw => ?_, ?_⟩
            · unfold Oper.quietAt
              rw [act_eval]
              simp [execOp, ha, Instr.loadAt, Instr.sureAddr, run_loadLf ht (hx w hw), Oper.quietUpon]
            · have := act_put ds env dst (.v (l.emb x))
              simp only [EV.val] at this
              rw [this]; exact hK _ hk
          · exact h.elim
        · exact h.elim
      | _ => exact h.elim
  | c r =>
    simp only [evQo] at h
    split at h
    · rename_i f args hc
      split at h
      · rename_i hcb
        obtain ⟨x, hx, hk⟩ := h
        refine ⟨r.emb x, fun w hw => ?_, ?_⟩
        · unfold Oper.quietAt
          rw [act_eval, callOf_run hc hcb]
          refine ⟨rfl, Calls.mono (hx w hw) ?_⟩
          rintro e w' ⟨y, rfl, rfl, hc'⟩
          exact ⟨rfl, hc'⟩
        · have := act_put ds env dst (.v (r.emb x))
          simp only [EV.val] at this
          rw [this]; exact hK _ hk
      · exact h.elim
    · exact h.elim
  | n =>
    cases op with
    | nilCheck x =>
      simp only [evQo] at h
      split at h
      · rename_i pp hp
        obtain ⟨a, rfl, hk⟩ := h
        exact quiet_val (v := .v (.pointer (some a))) (fun w => by simp [execOp, hp, EV.val]) hk hK
      · exact h.elim
    | _ => exact h.elim
  | d =>
    cases op with
    | move x => exact quiet_val (fun w => by simp [execOp, rho]) h hK
    | assign x => exact quiet_val (fun w => by simp [execOp, rho]) h hK
    | pick c a b =>
      simp only [evQo] at h
      split at h
      · rename_i t hc
        cases t with
        | true => exact quiet_val (v := evO env a) (fun w => by simp [execOp, rho, hc, EV.val, asBool]) h hK
        | false => exact quiet_val (v := evO env b) (fun w => by simp [execOp, rho, hc, EV.val, asBool]) h hK
      · exact h.elim
    | binOp op t x y yt =>
      simp only [evQo] at h
      split at h
      · rename_i k a k' b hx hy
        split at h
        · rename_i hk
          subst hk
          refine quiet_val (v := .v (.int k (k.wrap (a.tdiv b)))) (fun w => ?_) h.2 hK
          simp [execOp, hx, hy, eqGuard, binOp, Op.intDiv, h.1, EV.val]
        · exact h.elim
      · rename_i k a k' b hx hy
        split at h
        · rename_i hk
          subst hk
          refine quiet_val (v := .v (.int k (a.tmod b))) (fun w => ?_) h.2 hK
          simp [execOp, hx, hy, eqGuard, binOp, Op.intDiv, h.1, EV.val]
        · exact h.elim
      · rename_i a b hx hy
        refine quiet_val (v := .v (.string (a ++ b))) (fun w => ?_) h.2 hK
        have hh : ((a.size : Int) + b.size) ≤ 9223372036854775807 := by have := h.1; have e : IntKind.i64.max = 9223372036854775807 := rfl; omega
        simp only [execOp, hx, hy, eqGuard, binOp, Op.stringOp, Sem.run_bind, Int.natCast_add]
        simp [EV.val]
        exact hh
      · exact evQo_pure h hK
    | unOp op t x => exact evQo_pure h hK
    | fieldAddr s x f => exact evQo_pure h hK
    | convert s d x => exact evQo_pure h hK
    | extract t ix =>
      simp only [evQo] at h
      split at h
      · rename_i vs hv
        split at h
        · rename_i v hi
          simp only [Array.getElem?_toList] at hi
          exact quiet_val (v := .v v) (fun w => by simp [execOp, hv, Instr.extract, hi, EV.val]) h hK
        · exact h.elim
      · exact h.elim
    | nilCheck x =>
      simp only [evQo] at h
      split at h
      · rename_i a ha
        exact quiet_val (v := .v (.pointer (some a))) (fun w => by simp [execOp, ha, EV.val]) h hK
      · exact h.elim
    | indexAddr t x ix =>
      simp only [evQo] at h
      split at h
      · rename_i s n c k i hx hi
        split at h
        · rename_i e he
          split at h
          · rename_i sz hs
            obtain ⟨a, ha, h0, h1, hk⟩ := h
            exact quiet_val (v := .v (.pointer (some (a.add (i.toNat * sz))))) (fun w => by simp [execOp, hx, hi, run_indexAt he hs ha h0 h1, EV.val]) hk hK
          · exact h.elim
        · exact h.elim
      · exact h.elim
    | index t x ix =>
      simp only [evQo] at h
      split at h
      · rename_i s k i hx hi
        split at h
        · rename_i hu
          obtain ⟨h0, b, hb, hk⟩ := h
          refine quiet_val (v := .v (.int .u8 (b.toNat : Int))) (fun w => ?_) hk hK
          simp [execOp, hx, hi, Instr.index, asIntOf, underlying, hu, h0, hb, EV.val]
        · exact h.elim
      · exact h.elim
    | call c =>
      obtain ⟨callee, args, ats⟩ := c
      cases callee with
      | value x => exact h.elim
      | invoke r m => exact h.elim
      | builtin b =>
        cases b with
        | len =>
          simp only [evQo] at h
          split at h
          · rename_i s n cc t ha ht
            split at h
            · rename_i e hu
              refine quiet_val (v := .v (.int .i64 n)) (fun w => ?_) h hK
              have h0 : (args.map (rho env))[0]? = some (.slice s n cc) := by rw [← Array.getElem?_toList, Array.toList_map, ha]; rfl
              have h1 : ats[0]? = some t := by rw [← Array.getElem?_toList, ht]; rfl
              simp only [Array.getElem?_map] at h0
              simp [execOp, resolve, invoke, builtin, Builtin.len_, h0, h1, underlying, hu, goInt, EV.val]
            · exact h.elim
          · rename_i s t ha ht
            split at h
            · rename_i hu
              refine quiet_val (v := .v (.int .i64 s.size)) (fun w => ?_) h hK
              have h0 : (args.map (rho env))[0]? = some (.string s) := by rw [← Array.getElem?_toList, Array.toList_map, ha]; rfl
              have h1 : ats[0]? = some t := by rw [← Array.getElem?_toList, ht]; rfl
              simp only [Array.getElem?_map] at h0
              simp [execOp, resolve, invoke, builtin, Builtin.len_, h0, h1, underlying, hu, goInt, EV.val]
            · exact h.elim
          · exact h.elim
        | _ => exact h.elim
    | _ => exact h.elim
  | _ => exact h.elim
theorem evQo_sound {p : OpP} {o : Oper} {env : Env} {next : Act → Prop} : ∀ {K : EV → Prop}, evQo P C p o env K →
    (∀ v, K v → next (act ds (put env o.dst v))) → o.quiet P (act ds env) C next := by
  induction p with
  | sp p ih => exact fun h hK => ih h (fun v hh => splQ_out hh hK)
  | _ => exact fun h hK => evQo_sound0 (fun _ => by simp) h hK
theorem evQ_sound {ops : Array Oper} {S : List Nat} {env0 : Env} {K : Env → Prop} {Q : Act → Prop} (hK : ∀ env', K env' → Ag S env0 env' → Q (act ds env')) :
    ∀ (ps : List OpP) (os : List Oper) (env : Env), (∀ o ∈ os, ∀ d, o.dst = some d → d ∈ S) → Ag S env0 env → evQ P ops C K ps os env → wpQuiet P ops C Q os (act ds env)
  | _, [], env, _, ha, h => by cases ‹List OpP› <;> exact hK _ h ha
  | [], _ :: _, _, _, _, h => h.elim
  | p :: ps, o :: os, env, hS, ha, h => by
    have ih := evQ_sound (ops := ops) hK ps os
    have hos : ∀ o' ∈ os, ∀ d, o'.dst = some d → d ∈ S := fun o' ho' => hS o' (List.mem_cons_of_mem _ ho')
    have hod : ∀ k, o.dst = some k → k ∈ S := hS o List.mem_cons_self
    have exec : ∀ env1, act ds env1 = act ds env → Ag S env0 env1 → evQo P C p o env1 (fun v => evQ P ops C K ps os (put env1 o.dst v)) →
        o.quiet P (act ds env) C (wpQuiet P ops C Q os) := by
      intro env1 he ha1 h1
      rw [← he]
      exact evQo_sound h1 (fun v hh => ih _ hos (ha1.trans (Ag.put env1 o.dst v hod)) hh)
    have skip : ∀ env1, act ds env1 = act ds env → Ag S env0 env1 → evQ P ops C K ps os (put env1 o.dst u0) → wpQuiet P ops C Q os ((act ds env).put o.dst undef) := by
      intro env1 he ha1 h1
      rw [← he]
      have := act_put ds env1 o.dst u0
      simp only [EV.val, u0] at this
      rw [this]
      exact ih _ hos (ha1.trans (Ag.put env1 o.dst _ hod)) h1
    simp only [evQ] at h
    unfold wpQuiet
    split at h
    · rename_i hg
      rw [if_pos (by simp [Region.wanted, hg])]
      exact exec env rfl ha h
    · rename_i j want hg
      split at h
      · exact h.elim
      · rename_i d hd
        have hwant := wanted_some (ds := ds) (env := env) hg hd
        split at h
        · rename_i t ht
          simp only [ht, EV.val] at hwant
          split at h
          · rename_i htw
            rw [htw] at hwant
            rw [if_pos hwant]
            exact exec env rfl ha h
          · rename_i htw
            rw [htw] at hwant
            rw [if_neg (by simp [hwant])]
            exact skip env rfl ha h
        · rename_i t ht
          simp only [ht, EV.val] at hwant
          by_cases htw : t = want
          · subst htw
            have hv : (env.getD d u0).val = (EV.b t).val := by rw [ht]; rfl
            rw [if_pos (by simp [hwant])]
            exact exec _ (act_set hv) (ha.trans (Ag.set hv)) (h.1 rfl)
          · have htn : t = !want := by cases t <;> cases want <;> simp_all
            have hv : (env.getD d u0).val = (EV.b (!want)).val := by rw [ht, htn]; rfl
            rw [if_neg (by rw [hwant]; simp [htw])]
            exact skip _ (act_set hv) (ha.trans (Ag.set hv)) (h.2 htn)
        · rename_i x hx ht
          have hw0 : Region.wanted o (yielded ops (act ds env).tmps) = false := by
            rw [hwant, ht]
            simp only [EV.val]
          rw [if_neg (by simp [hw0])]
          exact skip env rfl ha h
end
end Go.Proofs.YtihllippchgkgaaGreat.V

/- Regions that draw their order and hold operations whose results lie in new memory: one fact for each operation, kept by every step. -/
namespace Go.Proofs.YtihllippchgkgaaGreat.V
open Go Go.RowKit

def fT : World → Prop := fun _ => True
def updF (f : Nat → World → Prop) (i : Nat) (φ : World → Prop) : Nat → World → Prop := fun k => if k = i then φ else f k
theorem updF_ne {f : Nat → World → Prop} {i k : Nat} {φ : World → Prop} (h : k ≠ i) : updF f i φ k = f k := if_neg h
theorem updF_eq {f : Nat → World → Prop} {i : Nat} {φ : World → Prop} : updF f i φ i = φ := if_pos rfl
theorem updF_comm {f : Nat → World → Prop} {i k : Nat} {φ ψ : World → Prop} (h : i ≠ k) : updF (updF f i φ) k ψ = updF (updF f k ψ) i φ := by
  funext q
  unfold updF
  split
  · rename_i h1; rw [if_neg (by omega)]
  · rfl
def Res (P : Program) (r : Result Next) (R : Value → World → Prop) : Prop :=
  match r with
  | .ok (.value v) w' => R v w'
  | .ok .skip w' => R undef w'
  | .ok (.enter f args) w' => Calls P f args w' fun
    | .returned v, w'' => R v w''
    | _, _ => False
  | .ok (.row row args) w' => Rows P row args w' R
  | _ => False
theorem put_inj {a : Act} {d : Nat} {u v : Value} (hd : d < a.tmps.size) (h : a.put (some d) u = a.put (some d) v) : u = v := by
  have h1 := congrArg (fun x : Act => x.tmps[d]?) h
  simp only [Act.put, Array.getElem?_setIfInBounds_self_of_lt hd, Option.some.injEq] at h1
  exact h1
theorem res_of_wp {P : Program} {o : Oper} {a : Act} {w : World} {R : Value → World → Prop} {d : Nat} (hd : o.dst = some d) (hs : d < a.tmps.size)
    (h : o.wp P a w (fun a' w' => ∃ v, a' = a.put o.dst v ∧ R v w') (fun _ _ _ => False)) : Res P ((execOp a.eval o).run P w) R := by
  unfold Oper.wp at h
  rw [hd] at h
  have inj : ∀ {u : Value} {w' : World}, (∃ v, a.put o.dst u = a.put (some d) v ∧ R v w') → R u w' := by
    rintro u w' ⟨v, he, hr⟩
    rw [hd] at he
    rw [put_inj hs he]; exact hr
  generalize (execOp a.eval o).run P w = r at *
  cases r with
  | ok n w' =>
    cases n <;> simp only [Oper.upon] at h
    case value v => exact inj h
    case skip => exact inj h
    case enter f args =>
      refine Calls.mono h fun e w'' he => ?_
      cases e with
      | returned v => exact inj he
      | panicked ch => exact he
      | outgrown => obtain ⟨_, _, hf⟩ := he; exact hf
    case row row args => exact Rows.mono h fun v w'' he => inj he
    case defer dd =>
      obtain ⟨v, he, _⟩ := h
      have h1 := congrArg (fun x : Act => x.defers.length) he
      rw [hd] at h1
      simp [Act.put] at h1
    all_goals exact h.elim
  | halt x w' => cases x <;> simp only [Oper.upon] at h
theorem res_none {P : Program} {o : Oper} {a : Act} {w : World} {R : World → Prop} (hd : o.dst = none) (h : o.wp P a w (fun a' w' => a' = a ∧ R w') (fun _ _ _ => False)) : Res P ((execOp a.eval o).run P w) (fun _ w' => R w') := by
  unfold Oper.wp at h
  generalize (execOp a.eval o).run P w = r at *
  cases r with
  | ok n w' =>
    cases n <;> simp only [Oper.upon] at h
    case value v => exact h.2
    case skip => exact h.2
    case enter f args =>
      refine Calls.mono h fun e w'' he => ?_
      cases e with
      | returned v => exact he.2
      | panicked ch => exact he
      | outgrown => obtain ⟨_, _, hf⟩ := he; exact hf
    case row row args => exact Rows.mono h fun v w'' he => he.2
    case defer dd =>
      obtain ⟨he, _⟩ := h
      have h1 := congrArg (fun x : Act => x.defers.length) he
      rw [hd] at h1
      simp [Act.put] at h1
    all_goals exact h.elim
  | halt x w' => cases x <;> simp only [Oper.upon] at h
theorem wp_of_res {P : Program} {o : Oper} {a : Act} {w : World} {R : Value → World → Prop} {next : Act → World → Prop} {Q : Exit → Act → World → Prop} (h : Res P ((execOp a.eval o).run P w) R)
    (hn : ∀ v w', R v w' → next (a.put o.dst v) w') : o.wp P a w next Q := by
  unfold Oper.wp
  generalize (execOp a.eval o).run P w = r at *
  cases r with
  | ok n w' =>
    cases n <;> simp only [Res] at h <;> simp only [Oper.upon]
    case value v => exact hn _ _ h
    case skip => exact hn _ _ h
    case enter f args =>
      refine Calls.mono h fun e w'' he => ?_
      cases e with
      | returned v => exact hn _ _ he
      | panicked ch => exact he.elim
      | outgrown => exact he.elim
    case row row args => exact Rows.mono h fun v w'' he => hn _ _ he
  | halt x w' => simp only [Res] at h
/-- The same where a call may panic. -/
def ResP (P : Program) (r : Result Next) (R : Value → World → Prop) (Qp : List PanicEntry → World → Prop) : Prop :=
  match r with
  | .ok (.value v) w' => R v w'
  | .ok .skip w' => R undef w'
  | .ok (.enter f args) w' => Calls P f args w' fun
    | .returned v, w'' => R v w''
    | .panicked ch, w'' => Qp ch w''
    | .outgrown, _ => False
  | .ok (.row row args) w' => Rows P row args w' R
  | .halt (.panic v) w' => Qp [{ v, recovered := false }] w'
  | _ => False
def pX (Qp : List PanicEntry → World → Prop) : Exit → Act → World → Prop
  | .panic ch, _, w => Qp ch w
  | _, _, _ => False
theorem resP_of_wp {P : Program} {o : Oper} {a : Act} {w : World} {R : Value → World → Prop} {Qp : List PanicEntry → World → Prop} {d : Nat} (hd : o.dst = some d) (hs : d < a.tmps.size)
    (h : o.wp P a w (fun a' w' => ∃ v, a' = a.put o.dst v ∧ R v w') (pX Qp)) : ResP P ((execOp a.eval o).run P w) R Qp := by
  unfold Oper.wp at h
  rw [hd] at h
  have inj : ∀ {u : Value} {w' : World}, (∃ v, a.put o.dst u = a.put (some d) v ∧ R v w') → R u w' := by
    rintro u w' ⟨v, he, hr⟩
    rw [hd] at he
    rw [put_inj hs he]; exact hr
  generalize (execOp a.eval o).run P w = r at *
  cases r with
  | ok n w' =>
    cases n <;> simp only [Oper.upon] at h
    case value v => exact inj h
    case skip => exact inj h
    case enter f args =>
      refine Calls.mono h fun e w'' he => ?_
      cases e with
      | returned v => exact inj he
      | panicked ch => exact he
      | outgrown => obtain ⟨_, _, hf⟩ := he; exact hf
    case row row args => exact Rows.mono h fun v w'' he => inj he
    case defer dd =>
      obtain ⟨v, he, _⟩ := h
      have h1 := congrArg (fun x : Act => x.defers.length) he
      rw [hd] at h1
      simp [Act.put] at h1
    all_goals exact h.elim
  | halt x w' => cases x <;> simp only [Oper.upon] at h; exact h
theorem resP_none {P : Program} {o : Oper} {a : Act} {w : World} {R : World → Prop} {Qp : List PanicEntry → World → Prop} (hd : o.dst = none) (h : o.wp P a w (fun a' w' => a' = a ∧ R w') (pX Qp)) : ResP P ((execOp a.eval o).run P w) (fun _ w' => R w') Qp := by
  unfold Oper.wp at h
  generalize (execOp a.eval o).run P w = r at *
  cases r with
  | ok n w' =>
    cases n <;> simp only [Oper.upon] at h
    case value v => exact h.2
    case skip => exact h.2
    case enter f args =>
      refine Calls.mono h fun e w'' he => ?_
      cases e with
      | returned v => exact he.2
      | panicked ch => exact he
      | outgrown => obtain ⟨_, _, hf⟩ := he; exact hf
    case row row args => exact Rows.mono h fun v w'' he => he.2
    case defer dd =>
      obtain ⟨he, _⟩ := h
      have h1 := congrArg (fun x : Act => x.defers.length) he
      rw [hd] at h1
      simp [Act.put] at h1
    all_goals exact h.elim
  | halt x w' => cases x <;> simp only [Oper.upon] at h; exact h
theorem wp_of_resP {P : Program} {o : Oper} {a : Act} {w : World} {R : Value → World → Prop} {Qp : List PanicEntry → World → Prop} {next : Act → World → Prop} {Q : Exit → Act → World → Prop} (h : ResP P ((execOp a.eval o).run P w) R Qp)
    (hn : ∀ v w', R v w' → next (a.put o.dst v) w') (hq : ∀ ch w', Qp ch w' → Q (.panic ch) a w') : o.wp P a w next Q := by
  unfold Oper.wp
  generalize (execOp a.eval o).run P w = r at *
  cases r with
  | ok n w' =>
    cases n <;> simp only [ResP] at h <;> simp only [Oper.upon]
    case value v => exact hn _ _ h
    case skip => exact hn _ _ h
    case enter f args =>
      refine Calls.mono h fun e w'' he => ?_
      cases e with
      | returned v => exact hn _ _ he
      | panicked ch => exact hq _ _ he
      | outgrown => exact he.elim
    case row row args => exact Rows.mono h fun v w'' he => hn _ _ he
  | halt x w' => cases x <;> simp only [ResP] at h <;> simp only [Oper.upon]; exact hq _ _ h
section
variable (P : Program) (ops : Array Oper) (St : Nat → World → World → Prop) (C : World → Prop) (D : Nat → List Nat) (T : Nat → Sem Next → Value → (World → Prop) → Prop) (Qp : List PanicEntry → World → Prop) (Q : Act → World → Prop)
/-- An operation is done now. -/
def SVat (i : Nat) (a : Act) (f : Nat → World → Prop) (K : Act → (Nat → World → Prop) → Prop) : Prop :=
  match ops[i]? with
  | none => False
  | some o => if Region.wanted o (yielded ops a.tmps) then
      (∀ w, C w → (∀ k ∈ D i, f k w) → ResP P ((execOp a.eval o).run P w) (fun v w' => ∃ φ, T i (execOp a.eval o) v φ ∧ St i w w' ∧ φ w') Qp) ∧
      (∃ v φ, T i (execOp a.eval o) v φ) ∧ ∀ v φ, T i (execOp a.eval o) v φ → K (a.put o.dst v) (updF f i φ)
    else K (a.put o.dst undef) (updF f i fT)
def SV : List Nat → Act → (Nat → World → Prop) → Prop
  | [], a, f => ∀ w, C w → (∀ k, f k w) → Q a w
  | i :: l, a, f => SVat P ops St C D T Qp i a f (SV l)
end
section
variable {P : Program} {ops : Array Oper} {St : Nat → World → World → Prop} {C : World → Prop} {D : Nat → List Nat} {T : Nat → Sem Next → Value → (World → Prop) → Prop} {Qp : List PanicEntry → World → Prop} {Q : Act → World → Prop}
theorem SVat.mono {i : Nat} {a : Act} {f : Nat → World → Prop} {K K' : Act → (Nat → World → Prop) → Prop} (h : SVat P ops St C D T Qp i a f K) (hk : ∀ a f, K a f → K' a f) : SVat P ops St C D T Qp i a f K' := by
  unfold SVat at *
  split
  · simp_all
  · rename_i o ho
    simp only [ho] at h
    split
    · rename_i hw; simp only [hw, if_true] at h; exact ⟨h.1, h.2.1, fun v φ ht => hk _ _ (h.2.2 v φ ht)⟩
    · rename_i hw; simp only [hw] at h; exact hk _ _ h
theorem swap {k i : Nat} {ok oi : Oper} (hok : ops[k]? = some ok) (hoi : ops[i]? = some oi) (hap : ok.apart ops oi = true) (hsk : ∀ cs b, ok.op ≠ .select cs b) (hsi : ∀ cs b, oi.op ≠ .select cs b)
    (hki : k ∉ D i) (hik : i ∉ D k) (hne : k ≠ i) {a : Act} {f : Nat → World → Prop} {K : Act → (Nat → World → Prop) → Prop}
    (h : SVat P ops St C D T Qp k a f (fun a' f' => SVat P ops St C D T Qp i a' f' K)) : SVat P ops St C D T Qp i a f (fun a' f' => SVat P ops St C D T Qp k a' f' K) := by
  obtain ⟨h1, h2, h3⟩ := Oper.apart_spec hap
  have ei : ∀ (a : Act) v, execOp (a.put ok.dst v).eval oi = execOp a.eval oi := fun a v => execOp_put oi hsi a ok.dst v h1
  have ek : ∀ (a : Act) v, execOp (a.put oi.dst v).eval ok = execOp a.eval ok := fun a v => execOp_put ok hsk a oi.dst v h3
  have wi : ∀ (a : Act) v, Region.wanted oi (yielded ops (a.put ok.dst v).tmps) = Region.wanted oi (yielded ops a.tmps) := fun a v => wanted_put oi a ok.dst v h1
  have wk : ∀ (a : Act) v, Region.wanted ok (yielded ops (a.put oi.dst v).tmps) = Region.wanted ok (yielded ops a.tmps) := fun a v => wanted_put ok a oi.dst v h3
  have pc : ∀ (a : Act) v u, (a.put oi.dst v).put ok.dst u = (a.put ok.dst u).put oi.dst v := fun a v u => (Act.put_comm a u v h2).symm
  have fi : ∀ (φ : World → Prop) w, (∀ q ∈ D i, f q w) → ∀ q ∈ D i, updF f k φ q w := fun φ w h q hq => by rw [updF_ne (fun e => by subst e; exact hki hq)]; exact h q hq
  have fk : ∀ (φ : World → Prop) w, (∀ q ∈ D k, updF f i φ q w) → ∀ q ∈ D k, f q w := fun φ w h q hq => by have := h q hq; rwa [updF_ne (fun e => by subst e; exact hik hq)] at this
  unfold SVat at h ⊢
  simp only [hok, hoi] at h ⊢
  simp only [ei, wi, ek, wk] at h ⊢
  by_cases hwk : Region.wanted ok (yielded ops a.tmps) = true
  · simp only [hwk, if_true] at h ⊢
    obtain ⟨hc, ⟨v0, φ0, ht0⟩, hK⟩ := h
    by_cases hwi : Region.wanted oi (yielded ops a.tmps) = true
    · simp only [hwi, if_true] at hK ⊢
      have h0 := hK v0 φ0 ht0
      refine ⟨fun w hw hf => h0.1 w hw (fi φ0 w hf), h0.2.1, fun v φ ht => ⟨fun w hw hf => hc w hw (fk φ w hf), ⟨v0, φ0, ht0⟩, fun u ψ hu => ?_⟩⟩
      rw [pc, updF_comm (Ne.symm hne)]
      exact (hK u ψ hu).2.2 v φ ht
    · simp only [hwi] at hK ⊢
      refine ⟨fun w hw hf => hc w hw (fk fT w hf), ⟨v0, φ0, ht0⟩, fun u ψ hu => ?_⟩
      rw [pc, updF_comm (Ne.symm hne)]
      exact hK u ψ hu
  · simp only [hwk] at h ⊢
    by_cases hwi : Region.wanted oi (yielded ops a.tmps) = true
    · simp only [hwi, if_true] at h ⊢
      refine ⟨fun w hw hf => h.1 w hw (fi fT w hf), h.2.1, fun v φ ht => ?_⟩
      rw [if_neg (by simp), pc, updF_comm (Ne.symm hne)]
      exact h.2.2 v φ ht
    · simp only [hwi] at h ⊢
      rw [if_neg (by simp)] at h ⊢
      rw [if_neg (by simp), pc, updF_comm (Ne.symm hne)]
      rw [if_neg (by simp)] at h
      exact h
theorem pull {i : Nat} {oi : Oper} (hoi : ops[i]? = some oi) (hsi : ∀ cs b, oi.op ≠ .select cs b) : ∀ (l1 l2 : List Nat) (a : Act) (f : Nat → World → Prop),
    (∀ k ∈ l1, ∃ ok, ops[k]? = some ok ∧ ok.apart ops oi = true ∧ k ∉ D i ∧ i ∉ D k ∧ k ≠ i ∧ ∀ cs b, ok.op ≠ .select cs b) → SV P ops St C D T Qp Q (l1 ++ i :: l2) a f → SVat P ops St C D T Qp i a f (SV P ops St C D T Qp Q (l1 ++ l2))
  | [], l2, a, f, _, h => h
  | k :: l1, l2, a, f, hl, h => by
    obtain ⟨ok, hok, hap, hki, hik, hne, hsk⟩ := hl k List.mem_cons_self
    have h1 : SVat P ops St C D T Qp k a f (fun a' f' => SVat P ops St C D T Qp i a' f' (SV P ops St C D T Qp Q (l1 ++ l2))) :=
      SVat.mono h fun a f hh => pull hoi hsi l1 l2 a f (fun q hq => hl q (List.mem_cons_of_mem _ hq)) hh
    exact swap hok hoi hap hsk hsi hki hik hne h1
/-- Operation i comes behind operation k, in so many steps. -/
def reach (ops : Array Oper) : Nat → Nat → Nat → Bool
  | 0, _, _ => false
  | f + 1, i, k => match ops[i]? with
    | none => false
    | some o => o.after.any fun e => Region.binds .any e && (e.on == k || reach ops f e.on k)
theorem reach_listed {ops : Array Oper} {L : Nat → Prop} (hc : ∀ j o, ops[j]? = some o → L j → ∀ e ∈ o.after, Region.binds .any e = true → L e.on) {k : Nat} :
    ∀ (f i : Nat) (o : Oper), ops[i]? = some o → (∀ e ∈ o.after, Region.binds .any e = true → L e.on) → reach ops f i k = true → L k
  | 0, _, _, _, _, h => by simp [reach] at h
  | f + 1, i, o, ho, he, h => by
    simp only [reach, ho] at h
    obtain ⟨e, hm, hh⟩ := Array.any_eq_true'.1 h
    simp only [Bool.and_eq_true, Bool.or_eq_true, beq_iff_eq] at hh
    obtain ⟨hb, h1 | h1⟩ := hh
    · exact h1 ▸ he e hm hb
    · cases hq : ops[e.on]? with
      | none =>
        cases f with
        | zero => simp [reach] at h1
        | succ f => simp [reach, hq] at h1
      | some o' => exact reach_listed hc f e.on o' hq (fun e' hm' hb' => hc _ _ hq (he e hm hb) e' hm' hb') h1
/-- What is asked of the region's text. -/
def depsOk (ops : Array Oper) (n : Nat) (D : Nat → List Nat) : Bool :=
  (List.range n).all fun i => match ops[i]? with
    | none => false
    | some o => (o.after.all fun e => !Region.binds .any e || decide (e.on < i)) && (D i).all (fun k => decide (k ≤ i)) && (match o.op with | .select _ _ => false | _ => true) &&
      (List.range i).all fun k => (o.after.any fun e => Region.binds .any e && e.on == k) || (match ops[k]? with | some ok => ok.apart ops o && !(D i).contains k | none => false) || reach ops 6 i k
theorem depsOk_spec {ops : Array Oper} {n : Nat} {D : Nat → List Nat} (h : depsOk ops n D = true) {i : Nat} (hi : i < n) {o : Oper} (ho : ops[i]? = some o) :
    (∀ e ∈ o.after, Region.binds .any e = true → e.on < i) ∧ (∀ k ∈ D i, k ≤ i) ∧ (∀ cs b, o.op ≠ .select cs b) ∧
    ∀ k, k < i → reach ops 6 i k = true ∨ ∃ ok, ops[k]? = some ok ∧ ok.apart ops o = true ∧ k ∉ D i := by
  have h1 := List.all_eq_true.1 h i (List.mem_range.2 hi)
  simp only [ho, Bool.and_eq_true, List.all_eq_true, decide_eq_true_eq, List.mem_range] at h1
  obtain ⟨⟨⟨ha, hD⟩, hsel⟩, hk⟩ := h1
  refine ⟨fun e he hb => ?_, hD, fun cs b e => by rw [e] at hsel; simp at hsel, fun k hki => ?_⟩
  · have := Array.all_eq_true_iff_forall_mem.1 ha e he
    simpa [hb] using this
  · have := hk k hki
    rw [Bool.or_eq_true, Bool.or_eq_true] at this
    rcases this with (h2 | h2) | h2
    · obtain ⟨e, he, hh⟩ := Array.any_eq_true'.1 h2
      simp only [Bool.and_eq_true, beq_iff_eq] at hh
      refine .inl ?_
      simp only [reach, ho]
      exact Array.any_eq_true'.2 ⟨e, he, by simp [hh.1, hh.2]⟩
    · split at h2
      · rename_i ok hok
        simp only [Bool.and_eq_true, Bool.not_eq_true', List.contains_eq_mem, decide_eq_false_iff_not] at h2
        exact .inr ⟨ok, hok, h2.1, h2.2⟩
      · simp at h2
    · exact .inl h2
def left (n : Nat) (listed : Array Bool) : List Nat := (List.range n).filter fun i => !listed.getD i true
theorem left_set {n i : Nat} {listed : Array Bool} (hs : n ≤ listed.size) (hi : i < n) (hl : listed.getD i true = false) :
    ∃ l1 l2, left n listed = l1 ++ i :: l2 ∧ left n (listed.setIfInBounds i true) = l1 ++ l2 ∧ (∀ k ∈ l1, k < i ∧ listed.getD k true = false) := by
  have hget : ∀ k, (listed.setIfInBounds i true).getD k true = if k = i then true else listed.getD k true := by
    intro k
    simp only [Array.getD_eq_getD_getElem?]
    by_cases hk : k = i
    · subst hk; rw [Array.getElem?_setIfInBounds_self_of_lt (by omega)]; simp
    · rw [Array.getElem?_setIfInBounds_ne (fun e => hk e.symm), if_neg hk]
  have hsplit : List.range n = List.range i ++ i :: (List.range (n - i - 1)).map (· + (i + 1)) := by
    refine List.ext_getElem? fun q => ?_
    rcases Nat.lt_trichotomy q i with h | h | h
    · rw [List.getElem?_append_left (by simpa using h), List.getElem?_range (by omega), List.getElem?_range h]
    · subst h; rw [List.getElem?_append_right (by simp)]; simp [hi]
    · rw [List.getElem?_append_right (by simp; omega)]
      rw [show q - (List.range i).length = (q - i - 1) + 1 by simp; omega, List.getElem?_cons_succ, List.getElem?_map]
      rcases Nat.lt_or_ge q n with h2 | h2
      · rw [List.getElem?_range h2, List.getElem?_range (by omega)]; simp; omega
      · rw [List.getElem?_eq_none (by simpa using h2), List.getElem?_eq_none (by simp; omega)]; rfl
  refine ⟨(List.range i).filter fun k => !listed.getD k true, ((List.range (n - i - 1)).map (· + (i + 1))).filter fun k => !listed.getD k true, ?_, ?_, ?_⟩
  · unfold left
    rw [hsplit, List.filter_append, List.filter_cons, if_pos (by simp [hl])]
  · unfold left
    rw [hsplit, List.filter_append, List.filter_cons, if_neg (by rw [hget]; simp)]
    congr 1
    · refine List.filter_congr fun k hk => ?_
      rw [hget, if_neg (by have := List.mem_range.1 hk; omega)]
    · refine List.filter_congr fun k hk => ?_
      obtain ⟨q, _, rfl⟩ := List.mem_map.1 hk
      rw [hget, if_neg (by omega)]
  · intro k hk
    rw [List.mem_filter] at hk
    exact ⟨List.mem_range.1 hk.1, by simpa using hk.2⟩
/-- The operations from n on come last, one by one. -/
def tailOk (ops : Array Oper) (n : Nat) : Bool :=
  (List.range ops.size).all fun i => decide (i < n) || match ops[i]? with
    | none => false
    | some o => o.guard.isNone && (o.after.all fun e => !Region.binds .any e || decide (e.on < i)) && (List.range i).all fun k => (o.after.any fun e => Region.binds .any e && e.on == k) || reach ops 2 i k
theorem tailOk_spec {n : Nat} (h : tailOk ops n = true) {i : Nat} (hi : n ≤ i) {o : Oper} (ho : ops[i]? = some o) :
    o.guard = none ∧ (∀ e ∈ o.after, Region.binds .any e = true → e.on < i) ∧ ∀ k, k < i → ∀ L : Nat → Prop, (∀ j o, ops[j]? = some o → L j → ∀ e ∈ o.after, Region.binds .any e = true → L e.on) → (∀ e ∈ o.after, Region.binds .any e = true → L e.on) → L k := by
  have h1 := List.all_eq_true.1 h i (List.mem_range.2 (Array.getElem?_eq_some_iff.1 ho).1)
  rw [Bool.or_eq_true] at h1
  rcases h1 with h1 | h1
  · simp only [decide_eq_true_eq] at h1; omega
  · simp only [ho, Bool.and_eq_true, List.all_eq_true, List.mem_range] at h1
    obtain ⟨⟨hg, ha⟩, hk⟩ := h1
    refine ⟨by simpa using hg, fun e he hb => ?_, fun k hki L hc hL => ?_⟩
    · have := Array.all_eq_true_iff_forall_mem.1 ha e he
      simpa [hb] using this
    · rcases Bool.or_eq_true _ _ ▸ hk k hki with h3 | h3
      · obtain ⟨e, he, hh⟩ := Array.any_eq_true'.1 h3
        simp only [Bool.and_eq_true, beq_iff_eq] at hh
        exact hh.2 ▸ hL e he hh.1
      · exact reach_listed hc 2 i o ho hL h3
theorem ready_iff {listed : Array Bool} {i : Nat} : i ∈ Region.ready .any ops listed ↔ ∃ o, ops[i]? = some o ∧ listed.getD i true = false ∧ ∀ e ∈ o.after, Region.binds .any e = true → listed.getD e.on false = true := by
  unfold Region.ready
  rw [List.mem_filter]
  constructor
  · rintro ⟨hir, hi2⟩
    have hir := List.mem_range.1 hir
    have ho : ops[i]? = some ops[i] := Array.getElem?_eq_getElem hir
    simp only [ho, Option.map_some, Option.getD_some, Bool.and_eq_true, Bool.not_eq_true'] at hi2
    refine ⟨_, ho, hi2.1, fun e he hb => ?_⟩
    have := Array.all_eq_true_iff_forall_mem.1 hi2.2 e he
    simpa [hb] using this
  · rintro ⟨o, ho, hl, ha⟩
    refine ⟨List.mem_range.2 (Array.getElem?_eq_some_iff.1 ho).1, ?_⟩
    simp only [ho, Option.map_some, Option.getD_some, Bool.and_eq_true, Bool.not_eq_true']
    refine ⟨hl, Array.all_eq_true_iff_forall_mem.2 fun e he => ?_⟩
    cases hb : Region.binds .any e with
    | false => simp
    | true => simpa using ha e he hb
theorem getD_tf {listed : Array Bool} {k : Nat} (hk : k < listed.size) : listed.getD k true = listed.getD k false := by
  simp only [Array.getD_eq_getD_getElem?, Array.getElem?_eq_getElem hk, Option.getD_some]
theorem wpAny_of_SV {n : Nat} (hn : n ≤ ops.size) (hD : depsOk ops n D = true) (hTl : tailOk ops n = true) (hT : ∀ i s v φ, T i s v φ → ∀ j x y, φ x → St j x y → φ y) (hC : ∀ j x y, C x → St j x y → C y) {Q' : Exit → Act → World → Prop} {m : Nat} {A : Act → Prop} (hA : ∀ i o, i < n → ops[i]? = some o → ∀ a v, A a → A (a.put o.dst v)) (hQp : ∀ ch a w, A a → Qp ch w → Q' (.panic ch) a w)
    (hQ : ∀ a w (listed : Array Bool), listed.size = ops.size → (∀ k, k < n → listed.getD k true = true) → (∀ k, n ≤ k → k < ops.size → listed.getD k true = false) → Q a w → wpAny P .any ops Q' m listed a w) :
    ∀ (fuel : Nat) (listed : Array Bool) (a : Act) (w : World) (f : Nat → World → Prop), A a → listed.size = ops.size → (∀ k, n ≤ k → k < ops.size → listed.getD k true = false) → (∀ j o, ops[j]? = some o → listed.getD j true = true → ∀ e ∈ o.after, Region.binds .any e = true → listed.getD e.on true = true) → (left n listed).length = fuel → SV P ops St C D T Qp Q (left n listed) a f → C w → (∀ k, f k w) →
      (∀ k j x y, j ≠ k → f k x → St j x y → f k y) → wpAny P .any ops Q' (fuel + m) listed a w
  | 0, listed, a, w, f, hAa, hsz, hB, _, hl, hS, hw, hf, _ => by
    have h0 : left n listed = [] := List.eq_nil_of_length_eq_zero hl
    rw [h0] at hS
    rw [Nat.zero_add]
    refine hQ _ _ _ hsz (fun k hk => ?_) hB (hS w hw hf)
    cases hb : listed.getD k true with
    | true => rfl
    | false =>
      obtain ⟨l1, l2, e1, _, _⟩ := left_set (show n ≤ listed.size by omega) hk hb
      rw [h0] at e1; simp at e1
  | fuel + 1, listed, a, w, f, hAa, hsz, hB, hcl, hl, hS, hw, hf, hst => by
    -- the first that is left
    obtain ⟨i0, hi0, hb0, hfirst⟩ : ∃ i0, i0 < n ∧ listed.getD i0 true = false ∧ ∀ k, k < i0 → listed.getD k true = true := by
      cases hll : left n listed with
      | nil => rw [hll] at hl; simp at hl
      | cons i l =>
        have hmem : i ∈ left n listed := by rw [hll]; exact List.mem_cons_self
        simp only [left, List.mem_filter, List.mem_range] at hmem
        refine ⟨i, hmem.1, by simpa using hmem.2, fun k hk => ?_⟩
        cases hb : listed.getD k true with
        | true => rfl
        | false =>
          exfalso
          have hs' : (left n listed).Pairwise (· < ·) := (List.pairwise_lt_range (n := n)).filter _
          have hk2 : k ∈ left n listed := by unfold left; rw [List.mem_filter]; exact ⟨List.mem_range.2 (by omega), by rw [hb]; rfl⟩
          rw [hll] at hk2 hs'
          rcases List.mem_cons.1 hk2 with e | e
          · omega
          · have := (List.pairwise_cons.1 hs').1 k e; omega
    rw [show fuel + 1 + m = (fuel + m) + 1 by omega]
    refine ⟨fun hnil => ?_, fun i hi => ?_⟩
    · exfalso
      have ho : ops[i0]? = some ops[i0] := Array.getElem?_eq_getElem (by omega)
      obtain ⟨h1, _, _, _⟩ := depsOk_spec hD hi0 ho
      have : i0 ∈ Region.ready .any ops listed := ready_iff.2 ⟨_, ho, hb0, fun e he hb => by
        have := h1 e he hb
        rw [← getD_tf (by omega)]; exact hfirst _ this⟩
      rw [hnil] at this; simp at this
    · obtain ⟨o, ho, hil, hia⟩ := ready_iff.1 hi
      have hin : i < n := by
        rcases Nat.lt_or_ge i n with h | h
        · exact h
        · exfalso
          have hsp := tailOk_spec hTl h ho
          have hlt := (Array.getElem?_eq_some_iff.1 ho).1
          have := hsp.2.2 i0 (by omega) (fun k => listed.getD k true = true) hcl (fun e he hb => by have := hsp.2.1 e he hb; show listed.getD e.on true = true; rw [getD_tf (by omega)]; exact hia e he hb)
          rw [hb0] at this
          simp at this
      obtain ⟨_, hDi, hsel, hk⟩ := depsOk_spec hD hin ho
      obtain ⟨l1, l2, e1, e2, e3⟩ := left_set (show n ≤ listed.size by omega) hin hil
      rw [e1] at hS hl
      have hp := pull ho hsel l1 l2 a f (fun k hkl => by
        obtain ⟨hlt, hkl'⟩ := e3 k hkl
        rcases hk k hlt with hr | ⟨ok, hok, hap, hnd⟩
        · exfalso
          have := reach_listed (L := fun k => listed.getD k true = true) hcl 6 i o ho (fun e he hb => by
            have h1 := (depsOk_spec hD hin ho).1 e he hb
            rw [getD_tf (by omega)]; exact hia e he hb) hr
          rw [hkl'] at this
          simp at this
        · have hds := depsOk_spec hD (show k < n by omega) hok
          exact ⟨ok, hok, hap, hnd, fun hh => by have := hds.2.1 i hh; omega, by omega, hds.2.2.1⟩) hS
      unfold SVat at hp
      unfold wpOp
      simp only [ho] at hp ⊢
      have hlen : (left n (listed.setIfInBounds i true)).length = fuel := by rw [e2]; simp at hl ⊢; omega
      have hB' : ∀ k, n ≤ k → k < ops.size → (listed.setIfInBounds i true).getD k true = false := fun k h1 h2 => by
        have := hB k h1 h2
        simp only [Array.getD_eq_getD_getElem?] at this ⊢
        rw [Array.getElem?_setIfInBounds_ne (by omega)]; exact this
      have hcl' : ∀ j oj, ops[j]? = some oj → (listed.setIfInBounds i true).getD j true = true → ∀ e ∈ oj.after, Region.binds .any e = true → (listed.setIfInBounds i true).getD e.on true = true := by
        have hget : ∀ k, (listed.setIfInBounds i true).getD k true = if k = i then true else listed.getD k true := by
          intro k
          simp only [Array.getD_eq_getD_getElem?]
          by_cases hk : k = i
          · subst hk; rw [Array.getElem?_setIfInBounds_self_of_lt (by omega)]; simp
          · rw [Array.getElem?_setIfInBounds_ne (fun e => hk e.symm), if_neg hk]
        intro j oj hoj hj e he hb
        rw [hget] at hj ⊢
        split
        · rfl
        · by_cases hji : j = i
          · subst hji
            rw [ho] at hoj; simp only [Option.some.injEq] at hoj; subst hoj
            have h1 := (depsOk_spec hD hin ho).1 e he hb
            rw [getD_tf (by omega)]; exact hia e he hb
          · rw [if_neg hji] at hj
            exact hcl j oj hoj hj e he hb
      split
      · rename_i hwt
        simp only [hwt, if_true] at hp
        refine .inl (wp_of_resP (hp.1 w hw fun k _ => hf k) (fun v w' hr => ?_) (fun ch w' hh => hQp _ _ _ hAa hh))
        obtain ⟨φ, ht, hs, hφ⟩ := hr
        refine wpAny_of_SV hn hD hTl hT hC hA hQp hQ fuel _ _ w' (updF f i φ) (hA i o hin ho _ _ hAa) (by simpa using hsz) hB' hcl' hlen (by rw [e2]; exact hp.2.2 v φ ht) (hC _ _ _ hw hs) (fun k => ?_) (fun k j x y hjk hx hxy => ?_)
        · by_cases e : k = i
          · subst e; rw [updF_eq]; exact hφ
          · rw [updF_ne e]; exact hst k _ _ _ (fun e2 => e e2.symm) (hf k) hs
        · by_cases e : k = i
          · subst e; rw [updF_eq] at hx ⊢; exact hT _ _ _ _ ht _ _ _ hx hxy
          · rw [updF_ne e] at hx ⊢; exact hst k _ _ _ hjk hx hxy
      · rename_i hwt
        simp only [hwt] at hp
        refine wpAny_of_SV hn hD hTl hT hC hA hQp hQ fuel _ _ w (updF f i fT) (hA i o hin ho _ _ hAa) (by simpa using hsz) hB' hcl' hlen (by rw [e2]; exact hp) hw (fun k => ?_) (fun k j x y hjk hx hxy => ?_)
        · by_cases e : k = i
          · subst e; rw [updF_eq]; trivial
          · rw [updF_ne e]; exact hf k
        · by_cases e : k = i
          · subst e; rw [updF_eq]; trivial
          · rw [updF_ne e] at hx ⊢; exact hst k _ _ _ hjk hx hxy
/-- The tail, one by one. -/
theorem wpAny_tail {ds : List Deferred} {n : Nat} {Dd : Nat → List Nat} (hDo : depsOk ops n Dd = true) (hTl : tailOk ops n = true) {K : Exit → Env → World → Prop} {Q' : Exit → Act → World → Prop} {S : List Nat} {env0 : Env} (hK : ∀ e env' w', K e env' w' → Ag S env0 env' → Q' e (act ds env') w') :
    ∀ (ps : List OpP) (os : List Oper) (q : Nat) (listed : Array Bool) (env : Env) (w : World), n ≤ q → ops.toList.drop q = os → listed.size = ops.size → (∀ k, k < q → k < ops.size → listed.getD k true = true) → (∀ k, q ≤ k → k < ops.size → listed.getD k true = false) →
      (∀ o ∈ os, ∀ d, o.dst = some d → d ∈ S) → Ag S env0 env → evL P ops K ps os env w → wpAny P .any ops Q' os.length listed (act ds env) w
  | ps, [], q, listed, env, w, hq, hd, hsz, ht, hf, hS, ha, h => by
    have hqs : ops.size ≤ q := by
      have := congrArg List.length hd
      simp at this; omega
    refine ⟨?_, hK _ _ _ (by cases ps <;> exact h) ha⟩
    rw [List.eq_nil_iff_forall_not_mem]
    intro i hi
    obtain ⟨o, ho, hl, _⟩ := ready_iff.1 hi
    have hi' := (Array.getElem?_eq_some_iff.1 ho).1
    rw [ht i (by omega) hi'] at hl
    simp at hl
  | [], _ :: _, _, _, _, _, _, _, _, _, _, _, _, h => h.elim
  | p :: ps, o :: os, q, listed, env, w, hq, hd, hsz, ht, hf, hS, ha, h => by
    have hoq : ops[q]? = some o := by have := congrArg (·[0]?) hd; simpa using this
    have hos : ops.toList.drop (q + 1) = os := by have := congrArg List.tail hd; simpa using this
    have hqs := (Array.getElem?_eq_some_iff.1 hoq).1
    obtain ⟨hg, he1, he2⟩ := tailOk_spec hTl hq hoq
    rw [List.length_cons]
    refine ⟨fun hnil => ?_, fun i hi => ?_⟩
    · exfalso
      have : q ∈ Region.ready .any ops listed := ready_iff.2 ⟨o, hoq, hf q (Nat.le_refl _) hqs, fun e he hb => by
        have := he1 e he hb
        rw [← getD_tf (by omega)]; exact ht _ this (by omega)⟩
      rw [hnil] at this; simp at this
    · obtain ⟨o', ho', hil, hia⟩ := ready_iff.1 hi
      have hi' := (Array.getElem?_eq_some_iff.1 ho').1
      have hiq : i = q := by
        rcases Nat.lt_trichotomy i q with h1 | h1 | h1
        · rw [ht i h1 hi'] at hil; simp at hil
        · exact h1
        · exfalso
          have hsp := tailOk_spec hTl (show n ≤ i by omega) ho'
          have := hsp.2.2 q h1 (fun k => listed.getD k true = true) (fun j oj hoj hj e he hb => by
            have hjs := (Array.getElem?_eq_some_iff.1 hoj).1
            have hjq : j < q := by
              rcases Nat.lt_or_ge j q with h2 | h2
              · exact h2
              · rw [hf j h2 hjs] at hj; simp at hj
            have hlt : e.on < j := by
              rcases Nat.lt_or_ge j n with h2 | h2
              · exact (depsOk_spec hDo h2 hoj).1 e he hb
              · exact (tailOk_spec hTl h2 hoj).2.1 e he hb
            exact ht _ (by omega) (by omega)) (fun e he hb => by have := hsp.2.1 e he hb; show listed.getD e.on true = true; rw [getD_tf (by omega)]; exact hia e he hb)
          rw [hf q (Nat.le_refl _) hqs] at this
          simp at this
      subst hiq
      have ih := wpAny_tail hDo hTl hK ps os (i + 1) (listed.setIfInBounds i true)
      have hset : ∀ k, (listed.setIfInBounds i true).getD k true = if k = i then true else listed.getD k true := by
        intro k
        simp only [Array.getD_eq_getD_getElem?]
        by_cases hk : k = i
        · subst hk; rw [Array.getElem?_setIfInBounds_self_of_lt (by omega)]; simp
        · rw [Array.getElem?_setIfInBounds_ne (fun e => hk e.symm), if_neg hk]
      unfold wpOp
      simp only [hoq]
      rw [if_pos (by simp [Region.wanted, hg])]
      simp only [evL, hg] at h
      refine .inl (evOp_sound h (fun v w' hk => ?_) (fun ch w' hk => hK _ _ _ hk ha))
      refine ih _ w' (by omega) hos (by simpa using hsz) (fun k h1 h2 => ?_) (fun k h1 h2 => ?_) (fun o' ho' => hS o' (List.mem_cons_of_mem _ ho')) (ha.trans (Ag.put env o.dst v (hS o List.mem_cons_self))) hk
      · rw [hset]
        split
        · rfl
        · exact ht k (by omega) h2
      · rw [hset, if_neg (by omega)]
        exact hf k (by omega) h2
end
end Go.Proofs.YtihllippchgkgaaGreat.V

/- Regions that draw their order and hold operations whose results lie in new memory: the conditions, and that they are enough. -/
namespace Go.Proofs.YtihllippchgkgaaGreat.V
open Go Go.RowKit
set_option linter.unusedVariables false

section
variable {P : Program} {C : World → Prop}
def QV (P : Program) (o : Oper) (env : Env) (K : EV → Prop) : Prop := ∃ v : EV, (∀ w, (execOp (rho env) o).run P w = .ok (.value v.val) w) ∧ K v
theorem qv_val {o : Oper} {env : Env} {K : EV → Prop} {v : EV} (hr : ∀ w, (execOp (rho env) o).run P w = .ok (.value v.val) w) (h : K v) : QV P o env K := ⟨v, hr, h⟩
theorem qv_pure {o : Oper} {env : Env} {K : EV → Prop} (h : match pureS P (execOp (rho env) o) with | some (.value v) => K (.v v) | _ => False) : QV P o env K := by
  split at h
  · rename_i v hr; exact ⟨.v v, fun w => pureS_run hr w, h⟩
  · exact h.elim
theorem evQo_val {o : Oper} {env : Env} {K : EV → Prop} (h : evQo P C .d o env K) : QV P o env K := by
  obtain ⟨dst, op, type, pos, after, guard⟩ := o
  cases op with
  | move x => exact qv_val (fun w => by simp [execOp, rho]) h
  | assign x => exact qv_val (fun w => by simp [execOp, rho]) h
  | pick c a b =>
    simp only [evQo] at h
    split at h
    · rename_i t hc
      cases t with
      | true => exact qv_val (v := evO env a) (fun w => by simp [execOp, rho, hc, EV.val, asBool]) h
      | false => exact qv_val (v := evO env b) (fun w => by simp [execOp, rho, hc, EV.val, asBool]) h
    · exact h.elim
  | binOp op t x y yt =>
    simp only [evQo] at h
    split at h
    · rename_i k a k' b hx hy
      split at h
      · rename_i hk
        subst hk
        refine qv_val (v := .v (.int k (k.wrap (a.tdiv b)))) (fun w => ?_) h.2
        simp [execOp, hx, hy, eqGuard, binOp, Op.intDiv, h.1, EV.val]
      · exact h.elim
    · rename_i k a k' b hx hy
      split at h
      · rename_i hk
        subst hk
        refine qv_val (v := .v (.int k (a.tmod b))) (fun w => ?_) h.2
        simp [execOp, hx, hy, eqGuard, binOp, Op.intDiv, h.1, EV.val]
      · exact h.elim
    · rename_i a b hx hy
      refine qv_val (v := .v (.string (a ++ b))) (fun w => ?_) h.2
      have hh : ((a.size : Int) + b.size) ≤ 9223372036854775807 := by have := h.1; have e : IntKind.i64.max = 9223372036854775807 := rfl; omega
      simp only [execOp, hx, hy, eqGuard, binOp, Op.stringOp, Sem.run_bind, Int.natCast_add]
      simp [EV.val]
      exact hh
    · exact qv_pure h
  | unOp op t x => exact qv_pure h
  | fieldAddr s x f => exact qv_pure h
  | convert s d x => exact qv_pure h
  | extract t ix =>
    simp only [evQo] at h
    split at h
    · rename_i vs hv
      split at h
      · rename_i v hi
        simp only [Array.getElem?_toList] at hi
        exact qv_val (v := .v v) (fun w => by simp [execOp, hv, Instr.extract, hi, EV.val]) h
      · exact h.elim
    · exact h.elim
  | nilCheck x =>
    simp only [evQo] at h
    split at h
    · rename_i a ha
      exact qv_val (v := .v (.pointer (some a))) (fun w => by simp [execOp, ha, EV.val]) h
    · exact h.elim
  | indexAddr t x ix =>
    simp only [evQo] at h
    split at h
    · rename_i s n c k i hx hi
      split at h
      · rename_i e he
        split at h
        · rename_i sz hs
          obtain ⟨a, ha, h0, h1, hk⟩ := h
          exact qv_val (v := .v (.pointer (some (a.add (i.toNat * sz))))) (fun w => by simp [execOp, hx, hi, run_indexAt he hs ha h0 h1, EV.val]) hk
        · exact h.elim
      · exact h.elim
    · exact h.elim
  | index t x ix =>
    simp only [evQo] at h
    split at h
    · rename_i s k i hx hi
      split at h
      · rename_i hu
        obtain ⟨h0, b, hb, hk⟩ := h
        refine qv_val (v := .v (.int .u8 (b.toNat : Int))) (fun w => ?_) hk
        simp [execOp, hx, hi, Instr.index, asIntOf, underlying, hu, h0, hb, EV.val]
      · exact h.elim
    · exact h.elim
  | call c =>
    obtain ⟨callee, args, ats⟩ := c
    cases callee with
    | value x => exact h.elim
    | invoke r m => exact h.elim
    | builtin b =>
      cases b with
      | len =>
        simp only [evQo] at h
        split at h
        · rename_i s n cc t ha ht
          split at h
          · rename_i e hu
            refine qv_val (v := .v (.int .i64 n)) (fun w => ?_) h
            have h0 : (args.map (rho env))[0]? = some (.slice s n cc) := by rw [← Array.getElem?_toList, Array.toList_map, ha]; rfl
            have h1 : ats[0]? = some t := by rw [← Array.getElem?_toList, ht]; rfl
            simp only [Array.getElem?_map] at h0
            simp [execOp, resolve, invoke, builtin, Builtin.len_, h0, h1, underlying, hu, goInt, EV.val]
          · exact h.elim
        · rename_i s t ha ht
          split at h
          · rename_i hu
            refine qv_val (v := .v (.int .i64 s.size)) (fun w => ?_) h
            have h0 : (args.map (rho env))[0]? = some (.string s) := by rw [← Array.getElem?_toList, Array.toList_map, ha]; rfl
            have h1 : ats[0]? = some t := by rw [← Array.getElem?_toList, ht]; rfl
            simp only [Array.getElem?_map] at h0
            simp [execOp, resolve, invoke, builtin, Builtin.len_, h0, h1, underlying, hu, goInt, EV.val]
          · exact h.elim
        · exact h.elim
      | _ => exact h.elim
  | _ => exact h.elim
end
def adDflt : (n : Nat) → AdT n
  | 0 => ()
  | n + 1 => (⟨0, 0, none⟩, adDflt n)
def Lf.dflt : (l : Lf) → l.T
  | .i _ => (0 : Int)
  | .b => false
  | .s => ByteArray.empty
  | .sl => ⟨none, 0, 0⟩
  | .p => none
  | .ad => ⟨0, 0, none⟩
  | .m => none
  | .any => undef
  | .fn _ n => adDflt n
  | .yl => (0 : Nat)
def Tup.dflt : (ls : List Lf) → Tup ls
  | [] => ()
  | l :: ls => (l.dflt, Tup.dflt ls)
def Ty.dflt : (τ : Ty) → τ.T
  | .lf l => l.dflt
  | .ag ls => Tup.dflt ls
def Tys.dflt : (τs : List Ty) → Tys τs
  | [] => ()
  | τ :: τs => (τ.dflt, Tys.dflt τs)
def Rs.dflt : (r : Rs) → r.T
  | .z => ()
  | .o τ => τ.dflt
  | .n τs => Tys.dflt τs

inductive GF where
  | n | f (r : Rs) (G : r.T → World → Prop)
/-- A fact that every step keeps. -/
def Kept (Sp : World → World → Prop) {α : Type} (G : α → World → Prop) : Prop := ∀ x a b, G x a → Sp a b → G x b
def SpOk (Sp : World → World → Prop) (w : World) : Prop := (∀ a, Sp a a) ∧ (∀ a b c, Sp a b → Sp b c → Sp a c) ∧ Sp w { w with drawn := w.drawn + 1 }
def exG (Sp : World → World → Prop) : List GP → (List GF → Prop) → Prop
  | [], k => k []
  | .q :: r, k => exG Sp r fun g => k (.n :: g)
  | .sq :: r, k => exG Sp r fun g => k (.n :: g)
  | .g τ _ :: r, k => ∃ G : τ.T → World → Prop, Kept Sp G ∧ exG Sp r fun g => k (.f τ G :: g)
  | .sg _ :: r, k => ∃ G : Bool → World → Prop, Kept Sp G ∧ exG Sp r fun g => k (.f (.o (.lf .b)) G :: g)
  | .h τ _ :: r, k => ∃ G : τ.T → World → Prop, Kept Sp G ∧ exG Sp r fun g => k (.f τ G :: g)
/-- A step that leaves N alone. -/
def Sk (Sp : World → World → Prop) (N : World → Prop) : World → World → Prop := fun a b => Sp a b ∧ (N a → N b)
/-- N holds when the region's order is drawn. -/
def NOk (N : World → Prop) (w : World) : Prop := N { w with drawn := w.drawn + 1 }
def hypF (fs : List (World → Prop)) (w : World) (X : Prop) : List Nat → Prop
  | [] => X
  | k :: r => fs.getD k fT w → hypF fs w X r
theorem hypF_out {fs : List (World → Prop)} {w : World} {X : Prop} : ∀ {ids : List Nat}, hypF fs w X ids → (∀ k ∈ ids, fs.getD k fT w) → X
  | [], h, _ => h
  | k :: r, h, hf => hypF_out (h (hf k List.mem_cons_self)) fun q hq => hf q (List.mem_cons_of_mem _ hq)
/-- The result bears its fact. -/
def GK (r : Rs) (Sp : World → World → Prop) (w1 : World) (G : r.T → World → Prop) (v : Value) (w' : World) : Prop := ∃ x : r.T, v = r.emb x ∧ Sp w1 w' ∧ G x w'
/-- Operations without a result: a store. -/
def isZ : Rs → Bool
  | .z => true
  | _ => false
def vz : Rs → EV → Value
  | .z, _ => .tuple #[]
  | .o _, v => v.val
  | .n _, v => v.val
theorem vz_of {r : Rs} (h : isZ r = false) (v : EV) : vz r v = v.val := by cases r <;> first | rfl | simp [isZ] at h
def rOf : GP → Bool
  | .g r _ | .h r _ => isZ r
  | _ => false
def stepG (P : Program) (Sp Sc : World → World → Prop) (N : World → Prop) (w0 : World) (Qp : List PanicEntry → World → Prop) (p : GP) (ids : List Nat) (g : GF) (o : Oper) (env : Env) (fs : List (World → Prop)) (next : EV → (World → Prop) → Prop) : Prop :=
  match p with
  | .q => evQo P fT .d o env (fun v => next v fT)
  | .sq => evQo P fT .d o env (splQ fun v => next v fT)
  | .g _ pl => (match g with
    | .f r G => (∀ w, Sp w0 w → hypF fs w (evOp P pl o env w (fun v w' => GK r Sc w G (vz r v) w') Qp) ids) ∧ ∀ x : r.T, next (.v (r.emb x)) (G x)
    | .n => False)
  | .h _ pl => (match g with
    | .f r G => (∀ w, Sp w0 w → N w → hypF fs w (evOp P pl o env w (fun v w' => GK r Sp w G (vz r v) w') Qp) ids) ∧ ∀ x : r.T, next (.v (r.emb x)) (G x)
    | .n => False)
  | .sg pl => (match g with
    | .f r G => (∀ w, Sp w0 w → hypF fs w (evOp P pl o env w (fun v w' => GK r Sc w G (vz r v) w') Qp) ids) ∧ ∀ x : r.T, splQ (fun v => next v (G x)) (.v (r.emb x))
    | .n => False)
def evG (P : Program) (ops : Array Oper) (Sp Sc : World → World → Prop) (N : World → Prop) (w0 : World) (Qp : List PanicEntry → World → Prop) (gids : List Nat) (K : Env → World → Prop) : List GF → List (GP × List Nat) → List Oper → Env → List (World → Prop) → Prop
  | _, _, [], env, fs => ∀ w, Sp w0 w → hypF fs w (K env w) gids
  | g :: gs, p :: ps, o :: os, env, fs =>
    match o.guard with
    | none => stepG P Sp Sc N w0 Qp p.1 p.2 g o env fs fun v φ => evG P ops Sp Sc N w0 Qp gids K gs ps os (put env o.dst v) (fs ++ [φ])
    | some (j, want) =>
      match (ops.toList[j]?).bind (·.dst) with
      | none => False
      | some d => match env.getD d u0 with
        | .b t => match t == want with
          | true => stepG P Sp Sc N w0 Qp p.1 p.2 g o env fs fun v φ => evG P ops Sp Sc N w0 Qp gids K gs ps os (put env o.dst v) (fs ++ [φ])
          | false => evG P ops Sp Sc N w0 Qp gids K gs ps os (put env o.dst u0) (fs ++ [fT])
        | .v x => match x with
          | .bool _ => False
          | _ => evG P ops Sp Sc N w0 Qp gids K gs ps os (put env o.dst u0) (fs ++ [fT])
  | _, _, _ :: _, _, _ => False
def dstOk (n : Nat) : List (GP × List Nat) → List Oper → Bool
  | [], [] => true
  | p :: ps, o :: os => (match o.dst with | some d => decide (d < n) && !rOf p.1 | none => rOf p.1) && dstOk n ps os
  | _, _ => false
def fOf (ini : Nat → World → Prop) (fs : List (World → Prop)) : Nat → World → Prop := fun k => fs.getD k (ini k)
theorem fOf_upd (ini : Nat → World → Prop) (fs : List (World → Prop)) (φ : World → Prop) : fOf ini (fs ++ [φ]) = updF (fOf ini fs) fs.length φ := by
  funext k
  unfold fOf updF
  simp only [List.getD_eq_getElem?_getD]
  split
  · rename_i h; subst h; simp
  · rename_i h
    rcases Nat.lt_or_ge k fs.length with h1 | h1
    · rw [List.getElem?_append_left h1]
    · rw [List.getElem?_eq_none (by simp; omega), List.getElem?_eq_none h1]
def TG (gs : List GF) (i : Nat) (s : Sem Next) (P : Program) (v : Value) (φ : World → Prop) : Prop :=
  match gs[i]? with
  | some (.f r G) => ∃ x : r.T, (isZ r = true ∨ v = r.emb x) ∧ φ = G x
  | _ => (∀ w, s.run P w = .ok (.value v) w) ∧ φ = fT
def isH : GP → Bool
  | .h _ _ => true
  | _ => false
def hotAt (ps : List (GP × List Nat)) (i : Nat) : Bool :=
  match ps[i]? with
  | some p => isH p.1
  | none => false
def idsOf (ps : List (GP × List Nat)) (i : Nat) : List Nat :=
  match ps[i]? with
  | some p => p.2
  | none => []
/-- What the operations ask: their own facts; for the one that changes what the others leave alone also that it has not been done. -/
def dOf (ps : List (GP × List Nat)) (i : Nat) : List Nat := match hotAt ps i with | true => i :: idsOf ps i | false => idsOf ps i
def stOf (Sp Sc : World → World → Prop) (ps : List (GP × List Nat)) (i : Nat) : World → World → Prop := match hotAt ps i with | true => Sp | false => Sc
def iniOf (N : World → Prop) (ps : List (GP × List Nat)) (i : Nat) : World → Prop := match hotAt ps i with | true => N | false => fT
theorem fOf_get {ini : Nat → World → Prop} {fs : List (World → Prop)} {k : Nat} {w : World} (h : fOf ini fs k w) : fs.getD k fT w := by
  unfold fOf at h
  simp only [List.getD_eq_getElem?_getD] at h ⊢
  cases hk : fs[k]? with
  | none => simp [fT]
  | some φ => rw [hk] at h; exact h
theorem fOf_own {ini : Nat → World → Prop} {fs : List (World → Prop)} {w : World} (h : fOf ini fs fs.length w) : ini fs.length w := by
  unfold fOf at h
  simpa using h
def isG : GP → Bool
  | .g _ _ | .sg _ | .h _ _ => true
  | _ => false
/-- Which facts go with which plan. -/
def fits : List GF → List (GP × List Nat) → Prop
  | [], [] => True
  | g :: gs, p :: ps => (match isG p.1 with | true => ∃ r G, g = .f r G ∧ rOf p.1 = isZ r | false => g = .n) ∧ fits gs ps
  | _, _ => False
section
variable {P : Program} {ops : Array Oper} {Sp Sc : World → World → Prop} {Nf : World → Prop} {w0 : World} {Qp : List PanicEntry → World → Prop} {gids : List Nat} {K : Env → World → Prop} {ds : List Deferred}
theorem evG_SV {N : Nat} {G0 : List GF} {P0 : List (GP × List Nat)} {S : List Nat} {env0 : Env} (hrefl : ∀ a, Sp a a) (hreflc : ∀ a, Sc a a) :
    ∀ (gs : List GF) (ps : List (GP × List Nat)) (os : List Oper) (env : Env) (fs : List (World → Prop)) (n : Nat), G0.drop n = gs → P0.drop n = ps → (ops.toList.take N).drop n = os → fs.length = n → fits gs ps → dstOk env0.length ps os = true →
      (∀ o ∈ os, ∀ d, o.dst = some d → d ∈ S) → Ag S env0 env → evG P ops Sp Sc Nf w0 Qp gids K gs ps os env fs →
      SV P ops (stOf Sp Sc P0) (Sp w0) (dOf P0) (fun i s v φ => TG G0 i s P v φ) Qp (fun a w => ∃ env', K env' w ∧ Ag S env0 env' ∧ a = act ds env') (List.range' n os.length) (act ds env) (fOf (iniOf Nf P0) fs)
  | gs, ps, [], env, fs, n, _, _, _, _, _, _, _, ha, h => by
    intro w hw hf
    simp only [evG] at h
    exact ⟨env, hypF_out (h w hw) (fun k _ => fOf_get (hf k)), ha, rfl⟩
  | gs, ps, o :: os, env, fs, n, hg, hp, ho, hl, hfit, hdst, hS, ha, h => by
    rcases gs with _ | ⟨g, gs⟩
    · simp [evG] at h
    rcases ps with _ | ⟨⟨p, ids⟩, ps⟩
    · simp [evG] at h
    have hgn : G0[n]? = some g := by have := congrArg (·[0]?) hg; simpa using this
    have hpn : P0[n]? = some (p, ids) := by have := congrArg (·[0]?) hp; simpa using this
    have hon : ops[n]? = some o := by
      have h1 := congrArg (·[0]?) ho
      simp only [List.getElem?_drop, Nat.add_zero, List.getElem?_cons_zero, List.getElem?_take] at h1
      split at h1
      · simpa using h1
      · simp at h1
    have hgs : G0.drop (n + 1) = gs := by have := congrArg List.tail hg; simpa using this
    have hps : P0.drop (n + 1) = ps := by have := congrArg List.tail hp; simpa using this
    have hos : (ops.toList.take N).drop (n + 1) = os := by have := congrArg List.tail ho; simpa using this
    simp only [dstOk, Bool.and_eq_true] at hdst
    obtain ⟨hd0, hdst'⟩ := hdst
    have hSo : ∀ o' ∈ os, ∀ d, o'.dst = some d → d ∈ S := fun o' ho' => hS o' (List.mem_cons_of_mem _ ho')
    have hSd : ∀ k, o.dst = some k → k ∈ S := hS o List.mem_cons_self
    have rec' : ∀ (v : EV) (φ : World → Prop), evG P ops Sp Sc Nf w0 Qp gids K gs ps os (put env o.dst v) (fs ++ [φ]) →
        SV P ops (stOf Sp Sc P0) (Sp w0) (dOf P0) (fun i s v φ => TG G0 i s P v φ) Qp (fun a w => ∃ env', K env' w ∧ Ag S env0 env' ∧ a = act ds env') (List.range' (n + 1) os.length) ((act ds env).put o.dst v.val) (updF (fOf (iniOf Nf P0) fs) n φ) := by
      intro v φ hh
      rw [act_put, ← hl, ← fOf_upd]
      exact evG_SV hrefl hreflc gs ps os (put env o.dst v) (fs ++ [φ]) (fs.length + 1) (hl ▸ hgs) (hl ▸ hps) (hl ▸ hos) (by simp) hfit.2 hdst' hSo (ha.trans (Ag.put env o.dst v hSd)) hh
    have recS : ∀ (v : EV) (φ : World → Prop), splQ (fun v => evG P ops Sp Sc Nf w0 Qp gids K gs ps os (put env o.dst v) (fs ++ [φ])) v →
        SV P ops (stOf Sp Sc P0) (Sp w0) (dOf P0) (fun i s v φ => TG G0 i s P v φ) Qp (fun a w => ∃ env', K env' w ∧ Ag S env0 env' ∧ a = act ds env') (List.range' (n + 1) os.length) ((act ds env).put o.dst v.val) (updF (fOf (iniOf Nf P0) fs) n φ) := by
      intro v φ hh
      cases v with
      | b t => exact rec' _ _ hh
      | v x =>
        cases x with
        | bool t =>
          cases t with
          | true => exact rec' (.b true) _ (hh.1 rfl)
          | false => exact rec' (.b false) _ (hh.2 rfl)
        | _ => exact rec' _ _ hh
    have he : ∀ w, (execOp (act ds env).eval o).run P w = (execOp (rho env) o).run P w := fun w => by rw [act_eval]
    have hse : (env.length : Nat) = env0.length := ha.1
    have hhot : hotAt P0 n = isH p := by unfold hotAt; rw [hpn]
    have hstC : isH p = false → stOf Sp Sc P0 n = Sc := fun hp => by unfold stOf; rw [hhot, hp]
    have hstH : isH p = true → stOf Sp Sc P0 n = Sp := fun hp => by unfold stOf; rw [hhot, hp]
    have hst : ∀ a, stOf Sp Sc P0 n a a := fun a => by
      cases hp : isH p with
      | true => rw [hstH hp]; exact hrefl a
      | false => rw [hstC hp]; exact hreflc a
    -- what is done
    have exec : stepG P Sp Sc Nf w0 Qp p ids g o env fs (fun v φ => evG P ops Sp Sc Nf w0 Qp gids K gs ps os (put env o.dst v) (fs ++ [φ])) →
      (∀ w, Sp w0 w → (∀ k ∈ dOf P0 n, fOf (iniOf Nf P0) fs k w) → ResP P ((execOp (act ds env).eval o).run P w) (fun v w' => ∃ φ, TG G0 n (execOp (act ds env).eval o) P v φ ∧ stOf Sp Sc P0 n w w' ∧ φ w') Qp) ∧
      (∃ v φ, TG G0 n (execOp (act ds env).eval o) P v φ) ∧ ∀ v φ, TG G0 n (execOp (act ds env).eval o) P v φ →
        SV P ops (stOf Sp Sc P0) (Sp w0) (dOf P0) (fun i s v φ => TG G0 i s P v φ) Qp (fun a w => ∃ env', K env' w ∧ Ag S env0 env' ∧ a = act ds env') (List.range' (n + 1) os.length) ((act ds env).put o.dst v) (updF (fOf (iniOf Nf P0) fs) n φ) := by
      have quiet : ∀ {Kv : EV → Prop}, g = .n → evQo P fT .d o env Kv → (∀ v, Kv v → SV P ops (stOf Sp Sc P0) (Sp w0) (dOf P0) (fun i s v φ => TG G0 i s P v φ) Qp (fun a w => ∃ env', K env' w ∧ Ag S env0 env' ∧ a = act ds env') (List.range' (n + 1) os.length) ((act ds env).put o.dst v.val) (updF (fOf (iniOf Nf P0) fs) n fT)) →
          (∀ w, Sp w0 w → (∀ k ∈ dOf P0 n, fOf (iniOf Nf P0) fs k w) → ResP P ((execOp (act ds env).eval o).run P w) (fun v w' => ∃ φ, TG G0 n (execOp (act ds env).eval o) P v φ ∧ stOf Sp Sc P0 n w w' ∧ φ w') Qp) ∧
          (∃ v φ, TG G0 n (execOp (act ds env).eval o) P v φ) ∧ ∀ v φ, TG G0 n (execOp (act ds env).eval o) P v φ →
            SV P ops (stOf Sp Sc P0) (Sp w0) (dOf P0) (fun i s v φ => TG G0 i s P v φ) Qp (fun a w => ∃ env', K env' w ∧ Ag S env0 env' ∧ a = act ds env') (List.range' (n + 1) os.length) ((act ds env).put o.dst v) (updF (fOf (iniOf Nf P0) fs) n φ) := by
        intro Kv hgn' hq hK
        subst hgn'
        obtain ⟨v, hr, hk⟩ := evQo_val hq
        have hT : ∀ u φ, TG G0 n (execOp (act ds env).eval o) P u φ ↔ (∀ w, (execOp (rho env) o).run P w = .ok (.value u) w) ∧ φ = fT := by
          intro u φ; unfold TG; rw [hgn]; simp only [he]
        refine ⟨fun w hw _ => ?_, ⟨v.val, fT, (hT _ _).2 ⟨hr, rfl⟩⟩, fun u φ hu => ?_⟩
        · rw [he, hr w]
          exact ⟨fT, (hT _ _).2 ⟨hr, rfl⟩, hst w, trivial⟩
        · obtain ⟨hu1, rfl⟩ := (hT _ _).1 hu
          have := (hu1 w0).symm.trans (hr w0)
          simp only [Result.ok.injEq, Next.value.injEq, and_true] at this
          subst this
          exact hK v hk
      have hids : ∀ k ∈ ids, k ∈ dOf P0 n := fun k hk => by
        unfold dOf idsOf; rw [hpn]; cases hh : hotAt P0 n <;> simp [hk]
      have loud : ∀ {pl : OpP} {r : Rs} {G : r.T → World → Prop} {Sx : World → World → Prop}, g = .f r G → rOf p = isZ r → (∀ a b, Sx a b → stOf Sp Sc P0 n a b) → (∀ w, Sp w0 w → (∀ k ∈ dOf P0 n, fOf (iniOf Nf P0) fs k w) → hypF fs w (evOp P pl o env w (fun v w' => GK r Sx w G (vz r v) w') Qp) ids) →
          (∀ x : r.T, SV P ops (stOf Sp Sc P0) (Sp w0) (dOf P0) (fun i s v φ => TG G0 i s P v φ) Qp (fun a w => ∃ env', K env' w ∧ Ag S env0 env' ∧ a = act ds env') (List.range' (n + 1) os.length) ((act ds env).put o.dst (r.emb x)) (updF (fOf (iniOf Nf P0) fs) n (G x))) →
          (∀ w, Sp w0 w → (∀ k ∈ dOf P0 n, fOf (iniOf Nf P0) fs k w) → ResP P ((execOp (act ds env).eval o).run P w) (fun v w' => ∃ φ, TG G0 n (execOp (act ds env).eval o) P v φ ∧ stOf Sp Sc P0 n w w' ∧ φ w') Qp) ∧
          (∃ v φ, TG G0 n (execOp (act ds env).eval o) P v φ) ∧ ∀ v φ, TG G0 n (execOp (act ds env).eval o) P v φ →
            SV P ops (stOf Sp Sc P0) (Sp w0) (dOf P0) (fun i s v φ => TG G0 i s P v φ) Qp (fun a w => ∃ env', K env' w ∧ Ag S env0 env' ∧ a = act ds env') (List.range' (n + 1) os.length) ((act ds env).put o.dst v) (updF (fOf (iniOf Nf P0) fs) n φ) := by
        intro pl r G Sx hgr hrz hSx hc hK
        subst hgr
        have hT : ∀ u φ, TG G0 n (execOp (act ds env).eval o) P u φ ↔ ∃ x : r.T, (isZ r = true ∨ u = r.emb x) ∧ φ = G x := by
          intro u φ; unfold TG; rw [hgn]
        refine ⟨fun w hw hf => ?_, ⟨r.emb r.dflt, G r.dflt, (hT _ _).2 ⟨_, .inr rfl, rfl⟩⟩, fun u φ hu => ?_⟩
        · have hev := hypF_out (hc w hw hf) (fun k hk => fOf_get (hf k (hids k hk)))
          have mono : ∀ {r : Result Next} {R R' : Value → World → Prop}, ResP P r R Qp → (∀ v w', R v w' → R' v w') → ResP P r R' Qp := by
            intro r R R' h1 h2
            unfold ResP at *
            split <;> simp_all
            · refine Calls.mono h1 fun e w'' hh => ?_
              cases e <;> simp_all
            · exact Rows.mono h1 h2
          cases hod : o.dst with
          | none =>
            rw [hod] at hd0
            have hz : isZ r = true := by rw [← hrz]; exact hd0
            have hwp := evOp_sound (ds := ds) (next := fun a' w' => a' = act ds env ∧ GK r Sx w G (vz r u0) w') (Q' := pX Qp) hev (fun v w' hk => ⟨by rw [hod]; rfl, by cases r <;> first | exact hk | simp [isZ] at hz⟩) (fun _ _ hf => hf)
            exact mono (resP_none hod hwp) fun v w' ⟨x, _, hs, hG⟩ => ⟨G x, (hT _ _).2 ⟨x, .inl hz, rfl⟩, hSx _ _ hs, hG⟩
          | some d =>
            rw [hod] at hd0
            simp only [Bool.and_eq_true, decide_eq_true_eq, Bool.not_eq_true'] at hd0
            have hz : isZ r = false := by rw [← hrz]; exact hd0.2
            have hd1 : d < env0.length := hd0.1
            have hwp := evOp_sound (ds := ds) (next := fun a' w' => ∃ v, a' = (act ds env).put o.dst v ∧ GK r Sx w G v w') (Q' := pX Qp) hev (fun v w' hk => ⟨v.val, (act_put ds env o.dst v).symm, by rw [vz_of hz] at hk; exact hk⟩) (fun _ _ hf => hf)
            have hds : d < (act ds env).tmps.size := by
              have e : (act ds env).tmps.size = env0.length := by simp only [act, List.size_toArray, List.length_map]; exact hse
              rw [e]; exact hd1
            have hres := resP_of_wp hod hds hwp
            exact mono hres fun v w' ⟨x, hx, hs, hG⟩ => ⟨G x, (hT _ _).2 ⟨x, .inr hx, rfl⟩, hSx _ _ hs, hG⟩
        · obtain ⟨x, hz | rfl, rfl⟩ := (hT _ _).1 hu
          · have h1 := hK x
            have hod : o.dst = none := by
              cases hod : o.dst with
              | none => rfl
              | some d => rw [hod] at hd0; simp [hrz, hz] at hd0
            rw [hod] at h1 ⊢
            exact h1
          · exact hK x
      intro hh
      cases p with
      | q =>
        simp only [stepG] at hh
        exact quiet (by simpa [isG] using hfit.1) hh (fun v hv => rec' v fT hv)
      | sq =>
        simp only [stepG] at hh
        exact quiet (by simpa [isG] using hfit.1) hh (fun v hv => recS v fT hv)
      | g r0 pl =>
        obtain ⟨r, G, hgr, hrz⟩ := hfit.1
        subst hgr
        exact loud rfl hrz (fun a b hab => by rw [hstC rfl]; exact hab) (fun w hw _ => hh.1 w hw) (fun x => rec' (.v (r.emb x)) (G x) (hh.2 x))
      | h r0 pl =>
        obtain ⟨r, G, hgr, hrz⟩ := hfit.1
        subst hgr
        refine loud rfl hrz (fun a b hab => by rw [hstH rfl]; exact hab) (fun w hw hf => hh.1 w hw ?_) (fun x => rec' (.v (r.emb x)) (G x) (hh.2 x))
        have h1 := hf n (by unfold dOf; rw [hhot]; simp [isH])
        rw [← hl] at h1
        have h2 := fOf_own h1
        rw [hl] at h2
        unfold iniOf at h2; rw [hhot] at h2
        exact h2
      | sg pl =>
        obtain ⟨r, G, hgr, hrz⟩ := hfit.1
        subst hgr
        exact loud rfl hrz (fun a b hab => by rw [hstC rfl]; exact hab) (fun w hw _ => hh.1 w hw) (fun x => recS (.v (r.emb x)) (G x) (hh.2 x))
    rw [List.length_cons, List.range'_succ]
    unfold SV SVat
    simp only [hon]
    rw [evG] at h
    split at h
    · rename_i hgd
      rw [if_pos (by simp [Region.wanted, hgd])]
      exact exec h
    · rename_i j want hgd
      split at h
      · exact h.elim
      · rename_i d hd
        have hwant := wanted_some (ds := ds) (env := env) hgd hd
        split at h
        · rename_i t ht
          simp only [ht, EV.val] at hwant
          split at h
          · rename_i htw
            rw [htw] at hwant
            rw [if_pos hwant]
            exact exec h
          · rename_i htw
            rw [htw] at hwant
            rw [if_neg (by simp [hwant])]
            exact rec' u0 fT h
        · rename_i x ht
          simp only [ht, EV.val] at hwant
          cases x with
          | bool b => exact h.elim
          | _ =>
            simp only at hwant
            rw [if_neg (by rw [hwant]; simp)]
            exact rec' u0 fT h
theorem exG_out : ∀ (ps : List GP) {k : List GF → Prop}, exG Sp ps k → ∃ gs, k gs ∧ (∀ ps' : List (GP × List Nat), ps'.map (·.1) = ps → fits gs ps') ∧ ∀ (i : Nat) r G, gs[i]? = some (.f r G) → Kept Sp G := by
  have quiet : ∀ {p : GP} {r : List GP} {k : List GF → Prop}, isG p = false → (∃ gs, k (.n :: gs) ∧ (∀ ps' : List (GP × List Nat), ps'.map (·.1) = r → fits gs ps') ∧ ∀ (i : Nat) r G, gs[i]? = some (.f r G) → Kept Sp G) →
      ∃ gs, k gs ∧ (∀ ps' : List (GP × List Nat), ps'.map (·.1) = p :: r → fits gs ps') ∧ ∀ (i : Nat) r G, gs[i]? = some (.f r G) → Kept Sp G := by
    rintro p r k hp ⟨gs, h1, h2, h3⟩
    refine ⟨.n :: gs, h1, fun ps' hps => ?_, fun i r G hi => ?_⟩
    · rcases ps' with _ | ⟨q, ps'⟩
      · simp at hps
      · simp only [List.map_cons, List.cons.injEq] at hps
        refine ⟨?_, h2 _ hps.2⟩
        rw [hps.1, hp]
    · cases i with
      | zero => simp at hi
      | succ i => exact h3 i r G (by simpa using hi)
  have loud : ∀ {p : GP} {r : List GP} {k : List GF → Prop} {τ : Rs} {G0 : τ.T → World → Prop}, isG p = true → rOf p = isZ τ → Kept Sp G0 → (∃ gs, k (.f τ G0 :: gs) ∧ (∀ ps' : List (GP × List Nat), ps'.map (·.1) = r → fits gs ps') ∧ ∀ (i : Nat) r G, gs[i]? = some (.f r G) → Kept Sp G) →
      ∃ gs, k gs ∧ (∀ ps' : List (GP × List Nat), ps'.map (·.1) = p :: r → fits gs ps') ∧ ∀ (i : Nat) r G, gs[i]? = some (.f r G) → Kept Sp G := by
    rintro p r k τ G0 hp hz hk ⟨gs, h1, h2, h3⟩
    refine ⟨.f τ G0 :: gs, h1, fun ps' hps => ?_, fun i r G hi => ?_⟩
    · rcases ps' with _ | ⟨q, ps'⟩
      · simp at hps
      · simp only [List.map_cons, List.cons.injEq] at hps
        refine ⟨?_, h2 _ hps.2⟩
        rw [hps.1, hp]
        exact ⟨τ, G0, rfl, hz⟩
    · cases i with
      | zero =>
        simp only [List.getElem?_cons_zero, Option.some.injEq, GF.f.injEq] at hi
        obtain ⟨rfl, hi⟩ := hi
        rw [← eq_of_heq hi]; exact hk
      | succ i => exact h3 i r G (by simpa using hi)
  intro ps
  induction ps with
  | nil => exact fun h => ⟨[], h, fun ps' hp => by simp at hp; subst hp; trivial, by simp⟩
  | cons p r ih =>
    intro k h
    cases p with
    | q => exact quiet rfl (ih h)
    | sq => exact quiet rfl (ih h)
    | g τ pl => obtain ⟨G0, hk, h⟩ := h; exact loud rfl rfl hk (ih h)
    | sg pl => obtain ⟨G0, hk, h⟩ := h; exact loud rfl rfl hk (ih h)
    | h τ pl => obtain ⟨G0, hk, h⟩ := h; exact loud rfl rfl hk (ih h)
def hotB : List (GP × List Nat) → Bool
  | [] => false
  | p :: ps => match isH p.1 with | true => true | false => hotB ps
def gidsOf (ps : List (GP × List Nat)) : List Nat := (List.range ps.length).filter fun i => match ps[i]? with | some p => isG p.1 | none => false
/-- What a region asks that draws its order, one fact for each operation; its tail comes last, one by one. -/
def evR (P : Program) (ops : Array Oper) (ps : List (GP × List Nat)) (tl : List OpP) (K : Exit → Env → World → Prop) (env : Env) (w : World) : Prop :=
  match hotB ps with
  | false => ∃ Sp : World → World → Prop, SpOk Sp w ∧ exG Sp (ps.map (·.1)) fun gs =>
    evG P ops Sp Sp fT w (fun ch w' => ∀ env' : Env, K (.panic ch) env' w') (gidsOf ps) (fun env' w' => evL P ops K tl (ops.toList.drop ps.length) env' w') gs ps (ops.toList.take ps.length) env []
  | true => ∃ Sp : World → World → Prop, SpOk Sp w ∧ ∃ N : World → Prop, NOk N w ∧ exG Sp (ps.map (·.1)) fun gs =>
    evG P ops Sp (Sk Sp N) N w (fun ch w' => ∀ env' : Env, K (.panic ch) env' w') (gidsOf ps) (fun env' w' => evL P ops K tl (ops.toList.drop ps.length) env' w') gs ps (ops.toList.take ps.length) env []
/-- Of those that change what the others leave alone there is one. -/
def oneH (ps : List (GP × List Nat)) : Bool :=
  (List.range ps.length).all fun i => (List.range ps.length).all fun j => decide (i = j) || !(hotAt ps i && hotAt ps j)
theorem hotAt_lt {ps : List (GP × List Nat)} {k : Nat} (h : hotAt ps k = true) : k < ps.length := by
  unfold hotAt at h
  split at h
  · rename_i p hp; exact (List.getElem?_eq_some_iff.1 hp).1
  · simp at h
theorem oneH_spec {ps : List (GP × List Nat)} (h : oneH ps = true) (k j : Nat) (hk : hotAt ps k = true) (hj : hotAt ps j = true) : k = j := by
  have h1 := List.all_eq_true.1 h k (List.mem_range.2 (hotAt_lt hk))
  have h2 := List.all_eq_true.1 h1 j (List.mem_range.2 (hotAt_lt hj))
  rw [hk, hj] at h2
  simpa using h2
def okR (P : Program) (ops : Array Oper) (ps : List (GP × List Nat)) (n : Nat) : Bool :=
  P.follows .mixedOrders && (oneH ps && (depsOk ops ps.length (dOf ps) && (tailOk ops ps.length && (decide (ps.length ≤ ops.size) && dstOk n ps (ops.toList.take ps.length)))))
theorem evR_sound {id : Nat} {ps : List (GP × List Nat)} {tl : List OpP} {S : List Nat} {env : Env} {w : World} {K : Exit → Env → World → Prop} {Q' : Exit → Act → World → Prop} (hok : okR P ops ps env.length = true) (hS : ∀ o ∈ ops.toList, ∀ d, o.dst = some d → d ∈ S)
    (hK : ∀ e env' w', K e env' w' → Ag S env env' → Q' e (act ds env') w') (h : evR P ops ps tl K env w) : (Code.region id ops true).wp P Q' (act ds env) w := by
  simp only [okR, Bool.and_eq_true, decide_eq_true_eq] at hok
  obtain ⟨hm, hone, hD, hTl, hlen, hdst⟩ := hok
  have hone := oneH_spec hone
  obtain ⟨Sp, Sc, Nf, ⟨h1, h2, h3⟩, hc1, hc2, hN, hcN, h4⟩ : ∃ (Sp Sc : World → World → Prop) (N : World → Prop), SpOk Sp w ∧ (∀ a, Sc a a) ∧ (∀ a b, Sc a b → Sp a b) ∧ N { w with drawn := w.drawn + 1 } ∧ (∀ a b, N a → Sc a b → N b) ∧ exG Sp (ps.map (·.1)) fun gs =>
      evG P ops Sp Sc N w (fun ch w' => ∀ env' : Env, K (.panic ch) env' w') (gidsOf ps) (fun env' w' => evL P ops K tl (ops.toList.drop ps.length) env' w') gs ps (ops.toList.take ps.length) env [] := by
    unfold evR at h
    split at h
    · obtain ⟨Sp, h1, h2⟩ := h
      exact ⟨Sp, Sp, fT, h1, h1.1, fun _ _ h => h, trivial, fun _ _ _ _ => trivial, h2⟩
    · obtain ⟨Sp, h1, N, hN, h2⟩ := h
      exact ⟨Sp, Sk Sp N, N, h1, fun a => ⟨h1.1 a, fun h => h⟩, fun _ _ h => h.1, hN, fun a b ha hab => hab.2 ha, h2⟩
  obtain ⟨gs, h5, h6, h7⟩ := exG_out _ h4
  have hsub : ∀ i a b, stOf Sp Sc ps i a b → Sp a b := fun i a b h => by
    unfold stOf at h
    cases hh : hotAt ps i with
    | true => rw [hh] at h; exact h
    | false => rw [hh] at h; exact hc2 _ _ h
  have hSV := evG_SV (ds := ds) (N := ps.length) (S := S) (env0 := env) (G0 := gs) (P0 := ps) (Nf := Nf) h1 hc1 gs ps (ops.toList.take ps.length) env [] 0 rfl rfl rfl rfl (h6 ps rfl) hdst (fun o ho => hS o (List.mem_of_mem_take ho)) (Ag.refl _ _) h5
  refine wp_region_any hm ?_
  have hleft : left ps.length (Array.replicate ops.size false) = List.range ps.length := by
    unfold left
    rw [List.filter_eq_self]
    intro i hi
    have := List.mem_range.1 hi
    simp only [Array.getD_eq_getD_getElem?]
    rw [Array.getElem?_replicate, if_pos (by omega)]; rfl
  have htake : (ops.toList.take ps.length).length = ps.length := by have e : ops.toList.length = ops.size := Array.length_toList; rw [List.length_take]; omega
  have := wpAny_of_SV (P := P) (St := stOf Sp Sc ps) (C := Sp w) (D := dOf ps) (T := fun i s v φ => TG gs i s P v φ) (m := (ops.toList.drop ps.length).length) (Q' := Q') (Qp := fun ch w' => ∀ env' : Env, K (.panic ch) env' w') (A := fun a => ∃ env', a = act ds env' ∧ Ag S env env') hlen hD hTl ?_ (fun j x y hx hxy => h2 _ _ _ hx (hsub _ _ _ hxy)) (fun i o hi ho a v ⟨env', ha, hag⟩ => ⟨put env' o.dst (.v v), by rw [ha]; exact act_put ds env' o.dst (.v v), hag.trans (Ag.put env' o.dst (.v v) (hS o (by rw [← Array.getElem?_toList] at ho; exact List.mem_of_getElem? ho)))⟩) (fun ch a w' ⟨env', ha, hag⟩ hq => by rw [ha]; exact hK _ _ _ (hq env') hag) (Q := fun a w => ∃ env', evL P ops K tl (ops.toList.drop ps.length) env' w ∧ Ag S env env' ∧ a = act ds env') ?_ ps.length (Array.replicate ops.size false) (act ds env) { w with drawn := w.drawn + 1 } (fOf (iniOf Nf ps) []) ⟨env, rfl, Ag.refl _ _⟩ (by simp) (fun k h1 h2 => by
      simp only [Array.getD_eq_getD_getElem?]; rw [Array.getElem?_replicate, if_pos h2]; rfl) (fun j o hj h => by
        have hj' := (Array.getElem?_eq_some_iff.1 hj).1
        simp only [Array.getD_eq_getD_getElem?] at h; rw [Array.getElem?_replicate, if_pos hj'] at h; simp at h) (by rw [hleft]; simp) ?_ h3 ?_ ?_
  · have e : ps.length + (ops.toList.drop ps.length).length = ops.size := by have e : ops.toList.length = ops.size := Array.length_toList; rw [List.length_drop]; omega
    rw [e] at this
    exact this
  · intro i s v φ ht j x y hx hxy
    unfold TG at ht
    split at ht
    · rename_i r G hi
      obtain ⟨z, _, rfl⟩ := ht
      exact h7 i r G hi z x y hx (hsub _ _ _ hxy)
    · rw [ht.2]; trivial
  · rintro a w' listed hsz ht hf ⟨env', hk, hag, rfl⟩
    exact wpAny_tail hD hTl hK tl (ops.toList.drop ps.length) ps.length listed env' w' (Nat.le_refl _) rfl hsz (fun k h1 _ => ht k h1) hf (fun o ho => hS o (List.mem_of_mem_drop ho)) hag hk
  · rw [hleft, List.range_eq_range']
    rw [htake] at hSV
    exact hSV
  · intro k
    show iniOf Nf ps k _
    unfold iniOf
    cases hh : hotAt ps k with
    | true => exact hN
    | false => trivial
  · intro k j x y hjk hx hxy
    have hx : iniOf Nf ps k x := hx
    show iniOf Nf ps k y
    unfold iniOf at hx ⊢
    cases hk : hotAt ps k with
    | false => trivial
    | true =>
      rw [hk] at hx
      refine hcN _ _ hx ?_
      unfold stOf at hxy
      cases hj : hotAt ps j with
      | false => rw [hj] at hxy; exact hxy
      | true => exact absurd (hone k j hk hj).symm hjk
end
end Go.Proofs.YtihllippchgkgaaGreat.V

/- Regions that draw their order and make boxes that they fill: the ghost says which operation has made which box. -/
namespace Go.Proofs.YtihllippchgkgaaGreat.V
open Go Go.RowKit
set_option linter.unusedVariables false
/-- A world, which block which operation has made, and whether the first is done that changes what the others leave alone. -/
abbrev GW := ((Nat → Option Nat) × Bool) × World
def xT : GW → Prop := fun _ => True
/-- What a store stores. -/
def stA (ev : Operand → Value) (o : Oper) : Value := match o.op with | .store _ _ x => ev x | _ => undef
/-- An operation, and what it stores. -/
def sx (ev : Operand → Value) (o : Oper) : Sem Next × Value := (execOp ev o, stA ev o)
theorem sx_put {ops : Array Oper} (o : Oper) (hs : ∀ cs b, o.op ≠ .select cs b) (a : Act) (dst : Option Tmp) (v : Value) (h : ∀ d, dst = some d → d ∉ o.looksAt ops) : sx (a.put dst v).eval o = sx a.eval o := by
  unfold sx
  rw [execOp_put o hs a dst v h]
  congr 1
  unfold stA
  split
  · rename_i t p x ho
    refine Act.eval_put fun d hd hxd => h d hd (List.mem_append_left _ (List.mem_filterMap.2 ⟨.tmp d, ?_, rfl⟩))
    rw [ho, ← hxd]
    simp [Op.operands]
  · rfl
def updX (f : Nat → GW → Prop) (i : Nat) (φ : GW → Prop) : Nat → GW → Prop := fun k => if k = i then φ else f k
theorem updX_ne {f : Nat → GW → Prop} {i k : Nat} {φ : GW → Prop} (h : k ≠ i) : updX f i φ k = f k := if_neg h
theorem updX_eq {f : Nat → GW → Prop} {i : Nat} {φ : GW → Prop} : updX f i φ i = φ := if_pos rfl
theorem updX_comm {f : Nat → GW → Prop} {i k : Nat} {φ ψ : GW → Prop} (h : i ≠ k) : updX (updX f i φ) k ψ = updX (updX f k ψ) i φ := by
  funext q
  unfold updX
  split
  · rename_i h1; rw [if_neg (by omega)]
  · rfl
section
variable (P : Program) (ops : Array Oper) (St : Nat → GW → GW → Prop) (C : GW → Prop) (D : Nat → List Nat) (T : Nat → Sem Next × Value → Value → (GW → Prop) → Prop) (Qp : List PanicEntry → World → Prop) (Q : Act → GW → Prop)
/-- An operation is done now. -/
def SVatX (i : Nat) (a : Act) (f : Nat → GW → Prop) (K : Act → (Nat → GW → Prop) → Prop) : Prop :=
  match ops[i]? with
  | none => False
  | some o => if Region.wanted o (yielded ops a.tmps) then
      (∀ w : GW, C w → (∀ k ∈ D i, f k w) → ResP P ((execOp a.eval o).run P w.2) (fun v w' => ∃ (x : GW) (φ : GW → Prop), x.2 = w' ∧ T i (sx a.eval o) v φ ∧ St i w x ∧ φ x) Qp) ∧
      (∃ v φ, T i (sx a.eval o) v φ) ∧ ∀ v φ, T i (sx a.eval o) v φ → K (a.put o.dst v) (updX f i φ)
    else K (a.put o.dst undef) (updX f i xT)
def SVX : List Nat → Act → (Nat → GW → Prop) → Prop
  | [], a, f => ∀ w, C w → (∀ k, f k w) → Q a w
  | i :: l, a, f => SVatX P ops St C D T Qp i a f (SVX l)
end
section
variable {P : Program} {ops : Array Oper} {St : Nat → GW → GW → Prop} {C : GW → Prop} {D : Nat → List Nat} {T : Nat → Sem Next × Value → Value → (GW → Prop) → Prop} {Qp : List PanicEntry → World → Prop} {Q : Act → GW → Prop}
theorem SVatX.mono {i : Nat} {a : Act} {f : Nat → GW → Prop} {K K' : Act → (Nat → GW → Prop) → Prop} (h : SVatX P ops St C D T Qp i a f K) (hk : ∀ a f, K a f → K' a f) : SVatX P ops St C D T Qp i a f K' := by
  unfold SVatX at *
  split
  · simp_all
  · rename_i o ho
    simp only [ho] at h
    split
    · rename_i hw; simp only [hw, if_true] at h; exact ⟨h.1, h.2.1, fun v φ ht => hk _ _ (h.2.2 v φ ht)⟩
    · rename_i hw; simp only [hw] at h; exact hk _ _ h
theorem swapX {k i : Nat} {ok oi : Oper} (hok : ops[k]? = some ok) (hoi : ops[i]? = some oi) (hap : ok.apart ops oi = true) (hsk : ∀ cs b, ok.op ≠ .select cs b) (hsi : ∀ cs b, oi.op ≠ .select cs b)
    (hki : k ∉ D i) (hik : i ∉ D k) (hne : k ≠ i) {a : Act} {f : Nat → GW → Prop} {K : Act → (Nat → GW → Prop) → Prop}
    (h : SVatX P ops St C D T Qp k a f (fun a' f' => SVatX P ops St C D T Qp i a' f' K)) : SVatX P ops St C D T Qp i a f (fun a' f' => SVatX P ops St C D T Qp k a' f' K) := by
  obtain ⟨h1, h2, h3⟩ := Oper.apart_spec hap
  have ei : ∀ (a : Act) v, execOp (a.put ok.dst v).eval oi = execOp a.eval oi := fun a v => execOp_put oi hsi a ok.dst v h1
  have ek : ∀ (a : Act) v, execOp (a.put oi.dst v).eval ok = execOp a.eval ok := fun a v => execOp_put ok hsk a oi.dst v h3
  have esi : ∀ (a : Act) v, sx (a.put ok.dst v).eval oi = sx a.eval oi := fun a v => sx_put oi hsi a ok.dst v h1
  have esk : ∀ (a : Act) v, sx (a.put oi.dst v).eval ok = sx a.eval ok := fun a v => sx_put ok hsk a oi.dst v h3
  have wi : ∀ (a : Act) v, Region.wanted oi (yielded ops (a.put ok.dst v).tmps) = Region.wanted oi (yielded ops a.tmps) := fun a v => wanted_put oi a ok.dst v h1
  have wk : ∀ (a : Act) v, Region.wanted ok (yielded ops (a.put oi.dst v).tmps) = Region.wanted ok (yielded ops a.tmps) := fun a v => wanted_put ok a oi.dst v h3
  have pc : ∀ (a : Act) v u, (a.put oi.dst v).put ok.dst u = (a.put ok.dst u).put oi.dst v := fun a v u => (Act.put_comm a u v h2).symm
  have fi : ∀ (φ : GW → Prop) w, (∀ q ∈ D i, f q w) → ∀ q ∈ D i, updX f k φ q w := fun φ w h q hq => by rw [updX_ne (fun e => by subst e; exact hki hq)]; exact h q hq
  have fk : ∀ (φ : GW → Prop) w, (∀ q ∈ D k, updX f i φ q w) → ∀ q ∈ D k, f q w := fun φ w h q hq => by have := h q hq; rwa [updX_ne (fun e => by subst e; exact hik hq)] at this
  unfold SVatX at h ⊢
  simp only [hok, hoi] at h ⊢
  simp only [ei, esi, wi, ek, esk, wk] at h ⊢
  by_cases hwk : Region.wanted ok (yielded ops a.tmps) = true
  · simp only [hwk, if_true] at h ⊢
    obtain ⟨hc, ⟨v0, φ0, ht0⟩, hK⟩ := h
    by_cases hwi : Region.wanted oi (yielded ops a.tmps) = true
    · simp only [hwi, if_true] at hK ⊢
      have h0 := hK v0 φ0 ht0
      refine ⟨fun w hw hf => h0.1 w hw (fi φ0 w hf), h0.2.1, fun v φ ht => ⟨fun w hw hf => hc w hw (fk φ w hf), ⟨v0, φ0, ht0⟩, fun u ψ hu => ?_⟩⟩
      rw [pc, updX_comm (Ne.symm hne)]
      exact (hK u ψ hu).2.2 v φ ht
    · simp only [hwi] at hK ⊢
      refine ⟨fun w hw hf => hc w hw (fk xT w hf), ⟨v0, φ0, ht0⟩, fun u ψ hu => ?_⟩
      rw [pc, updX_comm (Ne.symm hne)]
      exact hK u ψ hu
  · simp only [hwk] at h ⊢
    by_cases hwi : Region.wanted oi (yielded ops a.tmps) = true
    · simp only [hwi, if_true] at h ⊢
      refine ⟨fun w hw hf => h.1 w hw (fi xT w hf), h.2.1, fun v φ ht => ?_⟩
      rw [if_neg (by simp), pc, updX_comm (Ne.symm hne)]
      exact h.2.2 v φ ht
    · simp only [hwi] at h ⊢
      rw [if_neg (by simp)] at h ⊢
      rw [if_neg (by simp), pc, updX_comm (Ne.symm hne)]
      rw [if_neg (by simp)] at h
      exact h
theorem pullX {i : Nat} {oi : Oper} (hoi : ops[i]? = some oi) (hsi : ∀ cs b, oi.op ≠ .select cs b) : ∀ (l1 l2 : List Nat) (a : Act) (f : Nat → GW → Prop),
    (∀ k ∈ l1, ∃ ok, ops[k]? = some ok ∧ ok.apart ops oi = true ∧ k ∉ D i ∧ i ∉ D k ∧ k ≠ i ∧ ∀ cs b, ok.op ≠ .select cs b) → SVX P ops St C D T Qp Q (l1 ++ i :: l2) a f → SVatX P ops St C D T Qp i a f (SVX P ops St C D T Qp Q (l1 ++ l2))
  | [], l2, a, f, _, h => h
  | k :: l1, l2, a, f, hl, h => by
    obtain ⟨ok, hok, hap, hki, hik, hne, hsk⟩ := hl k List.mem_cons_self
    have h1 : SVatX P ops St C D T Qp k a f (fun a' f' => SVatX P ops St C D T Qp i a' f' (SVX P ops St C D T Qp Q (l1 ++ l2))) :=
      SVatX.mono h fun a f hh => pullX hoi hsi l1 l2 a f (fun q hq => hl q (List.mem_cons_of_mem _ hq)) hh
    exact swapX hok hoi hap hsk hsi hki hik hne h1
end
section
variable {P : Program} {ops : Array Oper} {St : Nat → GW → GW → Prop} {C : GW → Prop} {D : Nat → List Nat} {T : Nat → Sem Next × Value → Value → (GW → Prop) → Prop} {Qp : List PanicEntry → World → Prop} {Q : Act → GW → Prop}
theorem wpAny_of_SVX {n : Nat} (hn : n ≤ ops.size) (hD : depsOk ops n D = true) (hTl : tailOk ops n = true) (hT : ∀ i s v φ, T i s v φ → ∀ j x y, j ≠ i → φ x → St j x y → φ y) (hC : ∀ j x y, C x → St j x y → C y) {Q' : Exit → Act → World → Prop} {m : Nat} {A : Act → Prop} (hA : ∀ i o, i < n → ops[i]? = some o → ∀ a v, A a → A (a.put o.dst v)) (hQp : ∀ ch a w, A a → Qp ch w → Q' (.panic ch) a w)
    (hQ : ∀ a (w : GW) (listed : Array Bool), listed.size = ops.size → (∀ k, k < n → listed.getD k true = true) → (∀ k, n ≤ k → k < ops.size → listed.getD k true = false) → Q a w → wpAny P .any ops Q' m listed a w.2) :
    ∀ (fuel : Nat) (listed : Array Bool) (a : Act) (w : GW) (f : Nat → GW → Prop), A a → listed.size = ops.size → (∀ k, n ≤ k → k < ops.size → listed.getD k true = false) → (∀ j o, ops[j]? = some o → listed.getD j true = true → ∀ e ∈ o.after, Region.binds .any e = true → listed.getD e.on true = true) → (left n listed).length = fuel → SVX P ops St C D T Qp Q (left n listed) a f → C w → (∀ k, f k w) →
      (∀ k j x y, j ≠ k → f k x → St j x y → f k y) → wpAny P .any ops Q' (fuel + m) listed a w.2
  | 0, listed, a, w, f, hAa, hsz, hB, _, hl, hS, hw, hf, _ => by
    have h0 : left n listed = [] := List.eq_nil_of_length_eq_zero hl
    rw [h0] at hS
    rw [Nat.zero_add]
    refine hQ _ _ _ hsz (fun k hk => ?_) hB (hS w hw hf)
    cases hb : listed.getD k true with
    | true => rfl
    | false =>
      obtain ⟨l1, l2, e1, _, _⟩ := left_set (show n ≤ listed.size by omega) hk hb
      rw [h0] at e1; simp at e1
  | fuel + 1, listed, a, w, f, hAa, hsz, hB, hcl, hl, hS, hw, hf, hst => by
    -- the first that is left
    obtain ⟨i0, hi0, hb0, hfirst⟩ : ∃ i0, i0 < n ∧ listed.getD i0 true = false ∧ ∀ k, k < i0 → listed.getD k true = true := by
      cases hll : left n listed with
      | nil => rw [hll] at hl; simp at hl
      | cons i l =>
        have hmem : i ∈ left n listed := by rw [hll]; exact List.mem_cons_self
        simp only [left, List.mem_filter, List.mem_range] at hmem
        refine ⟨i, hmem.1, by simpa using hmem.2, fun k hk => ?_⟩
        cases hb : listed.getD k true with
        | true => rfl
        | false =>
          exfalso
          have hs' : (left n listed).Pairwise (· < ·) := (List.pairwise_lt_range (n := n)).filter _
          have hk2 : k ∈ left n listed := by unfold left; rw [List.mem_filter]; exact ⟨List.mem_range.2 (by omega), by rw [hb]; rfl⟩
          rw [hll] at hk2 hs'
          rcases List.mem_cons.1 hk2 with e | e
          · omega
          · have := (List.pairwise_cons.1 hs').1 k e; omega
    rw [show fuel + 1 + m = (fuel + m) + 1 by omega]
    refine ⟨fun hnil => ?_, fun i hi => ?_⟩
    · exfalso
      have ho : ops[i0]? = some ops[i0] := Array.getElem?_eq_getElem (by omega)
      obtain ⟨h1, _, _, _⟩ := depsOk_spec hD hi0 ho
      have : i0 ∈ Region.ready .any ops listed := ready_iff.2 ⟨_, ho, hb0, fun e he hb => by
        have := h1 e he hb
        rw [← getD_tf (by omega)]; exact hfirst _ this⟩
      rw [hnil] at this; simp at this
    · obtain ⟨o, ho, hil, hia⟩ := ready_iff.1 hi
      have hin : i < n := by
        rcases Nat.lt_or_ge i n with h | h
        · exact h
        · exfalso
          have hsp := tailOk_spec hTl h ho
          have hlt := (Array.getElem?_eq_some_iff.1 ho).1
          have := hsp.2.2 i0 (by omega) (fun k => listed.getD k true = true) hcl (fun e he hb => by have := hsp.2.1 e he hb; show listed.getD e.on true = true; rw [getD_tf (by omega)]; exact hia e he hb)
          rw [hb0] at this
          simp at this
      obtain ⟨_, hDi, hsel, hk⟩ := depsOk_spec hD hin ho
      obtain ⟨l1, l2, e1, e2, e3⟩ := left_set (show n ≤ listed.size by omega) hin hil
      rw [e1] at hS hl
      have hp := pullX ho hsel l1 l2 a f (fun k hkl => by
        obtain ⟨hlt, hkl'⟩ := e3 k hkl
        rcases hk k hlt with hr | ⟨ok, hok, hap, hnd⟩
        · exfalso
          have := reach_listed (L := fun k => listed.getD k true = true) hcl 6 i o ho (fun e he hb => by
            have h1 := (depsOk_spec hD hin ho).1 e he hb
            rw [getD_tf (by omega)]; exact hia e he hb) hr
          rw [hkl'] at this
          simp at this
        · have hds := depsOk_spec hD (show k < n by omega) hok
          exact ⟨ok, hok, hap, hnd, fun hh => by have := hds.2.1 i hh; omega, by omega, hds.2.2.1⟩) hS
      unfold SVatX at hp
      unfold wpOp
      simp only [ho] at hp ⊢
      have hlen : (left n (listed.setIfInBounds i true)).length = fuel := by rw [e2]; simp at hl ⊢; omega
      have hB' : ∀ k, n ≤ k → k < ops.size → (listed.setIfInBounds i true).getD k true = false := fun k h1 h2 => by
        have := hB k h1 h2
        simp only [Array.getD_eq_getD_getElem?] at this ⊢
        rw [Array.getElem?_setIfInBounds_ne (by omega)]; exact this
      have hcl' : ∀ j oj, ops[j]? = some oj → (listed.setIfInBounds i true).getD j true = true → ∀ e ∈ oj.after, Region.binds .any e = true → (listed.setIfInBounds i true).getD e.on true = true := by
        have hget : ∀ k, (listed.setIfInBounds i true).getD k true = if k = i then true else listed.getD k true := by
          intro k
          simp only [Array.getD_eq_getD_getElem?]
          by_cases hk : k = i
          · subst hk; rw [Array.getElem?_setIfInBounds_self_of_lt (by omega)]; simp
          · rw [Array.getElem?_setIfInBounds_ne (fun e => hk e.symm), if_neg hk]
        intro j oj hoj hj e he hb
        rw [hget] at hj ⊢
        split
        · rfl
        · by_cases hji : j = i
          · subst hji
            rw [ho] at hoj; simp only [Option.some.injEq] at hoj; subst hoj
            have h1 := (depsOk_spec hD hin ho).1 e he hb
            rw [getD_tf (by omega)]; exact hia e he hb
          · rw [if_neg hji] at hj
            exact hcl j oj hoj hj e he hb
      split
      · rename_i hwt
        simp only [hwt, if_true] at hp
        refine .inl (wp_of_resP (hp.1 w hw fun k _ => hf k) (fun v w' hr => ?_) (fun ch w' hh => hQp _ _ _ hAa hh))
        obtain ⟨x', φ, rfl, ht, hs, hφ⟩ := hr
        refine wpAny_of_SVX hn hD hTl hT hC hA hQp hQ fuel _ _ x' (updX f i φ) (hA i o hin ho _ _ hAa) (by simpa using hsz) hB' hcl' hlen (by rw [e2]; exact hp.2.2 v φ ht) (hC _ _ _ hw hs) (fun k => ?_) (fun k j x y hjk hx hxy => ?_)
        · by_cases e : k = i
          · subst e; rw [updX_eq]; exact hφ
          · rw [updX_ne e]; exact hst k _ _ _ (fun e2 => e e2.symm) (hf k) hs
        · by_cases e : k = i
          · subst e; rw [updX_eq] at hx ⊢; exact hT _ _ _ _ ht _ _ _ hjk hx hxy
          · rw [updX_ne e] at hx ⊢; exact hst k _ _ _ hjk hx hxy
      · rename_i hwt
        simp only [hwt] at hp
        refine wpAny_of_SVX hn hD hTl hT hC hA hQp hQ fuel _ _ w (updX f i xT) (hA i o hin ho _ _ hAa) (by simpa using hsz) hB' hcl' hlen (by rw [e2]; exact hp) hw (fun k => ?_) (fun k j x y hjk hx hxy => ?_)
        · by_cases e : k = i
          · subst e; rw [updX_eq]; trivial
          · rw [updX_ne e]; exact hf k
        · by_cases e : k = i
          · subst e; rw [updX_eq]; trivial
          · rw [updX_ne e] at hx ⊢; exact hst k _ _ _ hjk hx hxy
end
end Go.Proofs.YtihllippchgkgaaGreat.V

/- Regions that draw their order and make boxes that they fill: the conditions, and that they are enough. -/
namespace Go.Proofs.YtihllippchgkgaaGreat.V
open Go Go.RowKit
set_option linter.unusedVariables false
/-- What an operation leaves behind. -/
inductive RF where
  | n | w (φ : World → Prop) | h (φ : World → Prop) | a (b : Nat) | s (j : Nat) (φ : World → Prop) (cs : Array Value) (t : TypeId)
def RF.toX (i : Nat) : RF → GW → Prop
  | .n => xT
  | .w φ => fun g => φ g.2
  | .h φ => fun g => φ g.2 ∧ g.1.2 = true
  | .a b => fun g => g.1.1 i = some b
  | .s j φ cs t => fun g => φ g.2 ∧ ∃ b, g.1.1 j = some b ∧ g.2.heap[b]? = some (.cells cs t (0, 0))
def RF.wd : RF → World → Prop
  | .w φ => φ
  | .h φ => φ
  | .s _ φ _ _ => φ
  | _ => fT
theorem RF.toX_wd {i : Nat} {r : RF} {g : GW} (h : r.toX i g) : r.wd g.2 := by
  cases r with
  | n => trivial
  | w φ => exact h
  | h φ => exact h.1
  | a b => trivial
  | s j φ cs t => exact h.1
/-- Old boxes of the region stay. -/
def NewOnly (H : Nat) (a c : World) : Prop := a.heap.size ≤ c.heap.size ∧ ∀ b, H ≤ b → b < a.heap.size → c.heap[b]? = a.heap[b]?
/-- Steps of the others. -/
def QOk (Sp Sq : World → World → Prop) : Prop := (∀ a, Sq a a) ∧ ∀ a b, Sq a b → Sp a b
def KeptN (Sq : World → World → Prop) (N : World → Prop) : Prop := ∀ a b, N a → Sq a b → N b
/-- The first: it brings about what the second needs. -/
def Sn (Sp : World → World → Prop) (N1 : World → Prop) : World → World → Prop := fun a b => Sp a b ∧ N1 b
def Sb (H : Nat) (Sp : World → World → Prop) : World → World → Prop := fun a c => Sp a c ∧ NewOnly H a c
def AXp (H : Nat) (t : TypeId) (cs : Array Value) (Sc : World → World → Prop) (w : World) (v : Value) (w' : World) : Prop :=
  v = .pointer (some ⟨w.heap.size, 0, none⟩) ∧ Sb H Sc w w' ∧ w.heap.size < w'.heap.size ∧ w'.heap[w.heap.size]? = some (.cells cs t (0, 0))
def SXp (b : Nat) (cs : Array Value) (t : TypeId) (w w' : World) : Prop := w.heap.size ≤ w'.heap.size ∧ (∀ k, k < w.heap.size → k ≠ b → w'.heap[k]? = w.heap[k]?) ∧ w'.heap[b]? = some (.cells cs t (0, 0))
/-- A box is filled. -/
def GS (r : Rs) (Sc : World → World → Prop) (w1 : World) (G : r.T → World → Prop) (b : Nat) (t : TypeId) (u : Value) (w' : World) : Prop := ∃ y : r.T, u = r.emb y ∧ Sc w1 w' ∧ SXp b (r.emb y).cells t w1 w' ∧ G y w'
/-- What the boxes hold at last. -/
def BxD (H : Nat) (w : World) (l : List (Nat × Array Value × TypeId)) : Prop :=
  (∀ x, x ∈ l → H ≤ x.1 ∧ x.1 < w.heap.size ∧ w.heap[x.1]? = some (.cells x.2.1 x.2.2 (0, 0))) ∧ (l.map (·.1)).Nodup
def bxs (rs : List RF) : List RF → List (Nat × Array Value × TypeId)
  | [] => []
  | .s j _ cs t :: r => match rs[j]? with
    | some (.a b) => (b, cs, t) :: bxs rs r
    | _ => bxs rs r
  | _ :: r => bxs rs r
/-- The last of those that change what the others leave alone: its fact is kept by the others alone. -/
def lastG (kq : Bool) : GB → Bool
  | .k _ _ => true
  | .h _ _ => !kq
  | _ => false
def exX (Sp Sq : World → World → Prop) (kq : Bool) : List GB → (List GF → Prop) → Prop
  | [], k => k []
  | .q :: r, k => exX Sp Sq kq r fun g => k (.n :: g)
  | .a _ :: r, k => exX Sp Sq kq r fun g => k (.n :: g)
  | .g τ _ :: r, k => ∃ G : τ.T → World → Prop, Kept Sp G ∧ exX Sp Sq kq r fun g => k (.f τ G :: g)
  | .h τ _ :: r, k => match kq with
    | true => ∃ G : τ.T → World → Prop, Kept Sp G ∧ exX Sp Sq kq r fun g => k (.f τ G :: g)
    | false => ∃ G : τ.T → World → Prop, Kept Sq G ∧ exX Sp Sq kq r fun g => k (.f τ G :: g)
  | .k τ _ :: r, k => ∃ G : τ.T → World → Prop, Kept Sq G ∧ exX Sp Sq kq r fun g => k (.f τ G :: g)
  | .s _ _ τ _ :: r, k => ∃ G : τ.T → World → Prop, Kept Sp G ∧ exX Sp Sq kq r fun g => k (.f τ G :: g)
def stepX (P : Program) (H : Nat) (Sp Sc Sh : World → World → Prop) (N N1 : World → Prop) (w0 : World) (Qp : List PanicEntry → World → Prop) (p : GB) (ids : List Nat) (g : GF) (o : Oper) (env : Env) (rs : List RF) (next : EV → RF → Prop) : Prop :=
  match p with
  | .q => evQo P fT .d o env (fun v => next v .n)
  | .g _ pl => (match g with
    | .f r G => (∀ w, Sp w0 w → hypF (rs.map RF.wd) w (evOp P pl o env w (fun v w' => GK r (Sb H Sc) w G (vz r v) w') Qp) ids) ∧ ∀ x : r.T, next (.v (r.emb x)) (.w (G x))
    | .n => False)
  | .h _ pl => (match g with
    | .f r G => (∀ w, Sp w0 w → N w → hypF (rs.map RF.wd) w (evOp P pl o env w (fun v w' => GK r (Sb H Sh) w G (vz r v) w') Qp) ids) ∧ ∀ x : r.T, next (.v (r.emb x)) (.h (G x))
    | .n => False)
  | .k _ pl => (match g with
    | .f r G => (∀ w, Sp w0 w → N1 w → hypF (rs.map RF.wd) w (evOp P pl o env w (fun v w' => GK r (Sb H Sp) w G (vz r v) w') Qp) ids) ∧ ∀ x : r.T, next (.v (r.emb x)) (.h (G x))
    | .n => False)
  | .a t => (∀ w, Sp w0 w → evOp P .d o env w (fun v w' => AXp H t (zc P t) Sc w v.val w') Qp) ∧ ∀ b : Nat, next (.v (.pointer (some ⟨b, 0, none⟩))) (.a b)
  | .s j t _ pl => (match g with
    | .f r G => (match rs[j]? with
      | some (.a b) => (∀ w, Sp w0 w → hypF (rs.map RF.wd) w (H ≤ b → w.heap[b]? = some (.cells (zc P t) t (0, 0)) → evOp P pl o env w (fun v w' => GS r Sc w G b t (stA (rho env) o) w') Qp) ids) ∧ (∃ y : r.T, stA (rho env) o = r.emb y) ∧ ∀ y : r.T, stA (rho env) o = r.emb y → next u0 (.s j (G y) (r.emb y).cells t)
      | _ => False)
    | .n => False)
def evX (P : Program) (H : Nat) (Sp Sc Sh : World → World → Prop) (N N1 : World → Prop) (w0 : World) (Qp : List PanicEntry → World → Prop) (gids : List Nat) (K : Env → World → Prop) : List GF → List (GB × List Nat) → List Oper → Env → List RF → Prop
  | _, _, [], env, rs => ∀ w, Sp w0 w → hypF (rs.map RF.wd) w (BxD H w (bxs rs rs) → K env w) gids
  | g :: gs, p :: ps, o :: os, env, rs =>
    match o.guard with
    | none => stepX P H Sp Sc Sh N N1 w0 Qp p.1 p.2 g o env rs fun v r => evX P H Sp Sc Sh N N1 w0 Qp gids K gs ps os (put env o.dst v) (rs ++ [r])
    | some _ => False
  | _, _, _ :: _, _, _ => False
def zOf : GB → Bool
  | .g r _ | .h r _ | .k r _ => isZ r
  | .s _ _ _ _ => true
  | _ => false
def dstX (n : Nat) : List (GB × List Nat) → List Oper → Bool
  | [], [] => true
  | p :: ps, o :: os => (match o.dst with | some d => decide (d < n) && !zOf p.1 | none => zOf p.1) && dstX n ps os
  | _, _ => false
def isHX : GB → Bool
  | .h _ _ => true
  | _ => false
def isKX : GB → Bool
  | .k _ _ => true
  | _ => false
def isSX : GB → Bool
  | .s _ _ _ _ => true
  | _ => false
def isGX : GB → Bool
  | .g _ _ | .h _ _ | .k _ _ | .s _ _ _ _ => true
  | _ => false
def plX (ps : List (GB × List Nat)) (i : Nat) : GB := match ps[i]? with | some p => p.1 | none => .q
def hotK (ps : List (GB × List Nat)) (i : Nat) : Bool := isKX (plX ps i)
/-- Where the first is. -/
def fstH : Nat → List (GB × List Nat) → Nat
  | n, [] => n
  | n, p :: ps => match isHX p.1 with | true => n | false => fstH (n + 1) ps
def hotX (ps : List (GB × List Nat)) (i : Nat) : Bool := isHX (plX ps i)
def idsX (ps : List (GB × List Nat)) (i : Nat) : List Nat := match ps[i]? with | some p => p.2 | none => []
def dgX (ps : List (GB × List Nat)) (i : Nat) : List Nat := match plX ps i with
  | .h _ _ => i :: idsX ps i
  | .k _ _ => i :: fstH 0 ps :: idsX ps i
  | .a _ => i :: idsX ps i
  | .s j _ _ _ => i :: j :: idsX ps i
  | _ => idsX ps i
def tgX (ps : List (GB × List Nat)) (i : Nat) : Option Nat := match plX ps i with
  | .s j _ _ _ => some j
  | _ => none
def GI (H : Nat) (x : GW) : Prop := (∀ k b, x.1.1 k = some b → H ≤ b ∧ b < x.2.heap.size) ∧ ∀ k l b, x.1.1 k = some b → x.1.1 l = some b → k = l
structure StX (P : Program) (H : Nat) (S : World → World → Prop) (N1 : World → Prop) (ps : List (GB × List Nat)) (i : Nat) (x y : GW) : Prop where
  fl : y.1.2 = (hotX ps i || x.1.2)
  fh : hotX ps i = true → N1 y.2 ∧ x.1.2 = false
  fk : hotK ps i = true → x.1.2 = true
  sp : S x.2 y.2
  size : x.2.heap.size ≤ y.2.heap.size
  gi : GI H y
  more : ∀ k b, x.1.1 k = some b → y.1.1 k = some b
  oth : ∀ k, k ≠ i → y.1.1 k = x.1.1 k
  keep : ∀ k b, x.1.1 k = some b → tgX ps i ≠ some k → y.2.heap[b]? = x.2.heap[b]?
  new : ∀ k b t, plX ps k = .a t → y.1.1 k = some b → x.1.1 k = some b ∨ y.2.heap[b]? = some (.cells (zc P t) t (0, 0))
def cgX (H : Nat) (Sp : World → World → Prop) (w0 : World) (x : GW) : Prop := Sp w0 x.2 ∧ H ≤ x.2.heap.size ∧ GI H x
def sgX (Sp Sc : World → World → Prop) (ps : List (GB × List Nat)) (i : Nat) : World → World → Prop := match hotX ps i || hotK ps i with | true => Sp | false => Sc
def iniX (P : Program) (N N1 : World → Prop) (ps : List (GB × List Nat)) (i : Nat) : GW → Prop := match plX ps i with
  | .h _ _ => fun g => N g.2 ∧ g.1.2 = false
  | .k _ _ => fun g => g.1.2 = true → N1 g.2
  | .a _ => fun g => g.1.1 i = none
  | .s j t _ _ => fun g => ∀ b, g.1.1 j = some b → g.2.heap[b]? = some (.cells (zc P t) t (0, 0))
  | _ => xT
def TgX (P : Program) (gs : List GF) (ps : List (GB × List Nat)) (i : Nat) (s : Sem Next × Value) (v : Value) (φ : GW → Prop) : Prop := match plX ps i with
  | .q => (∀ w, s.1.run P w = .ok (.value v) w) ∧ φ = xT
  | .a _ => ∃ b, v = .pointer (some ⟨b, 0, none⟩) ∧ φ = (RF.a b).toX i
  | .s j t _ _ => (match gs[i]? with
    | some (.f r G) => ∃ y : r.T, s.2 = r.emb y ∧ φ = (RF.s j (G y) (r.emb y).cells t).toX i
    | _ => False)
  | .h _ _ => (match gs[i]? with
    | some (.f r G) => ∃ x : r.T, (isZ r = true ∨ v = r.emb x) ∧ φ = (RF.h (G x)).toX i
    | _ => False)
  | .k _ _ => (match gs[i]? with
    | some (.f r G) => ∃ x : r.T, (isZ r = true ∨ v = r.emb x) ∧ φ = (RF.h (G x)).toX i
    | _ => False)
  | _ => (match gs[i]? with
    | some (.f r G) => ∃ x : r.T, (isZ r = true ∨ v = r.emb x) ∧ φ = (RF.w (G x)).toX i
    | _ => False)
def fgX (ini : Nat → GW → Prop) (rs : List RF) : Nat → GW → Prop := fun k => match rs[k]? with | some r => r.toX k | none => ini k
theorem fX_upd (ini : Nat → GW → Prop) (rs : List RF) (r : RF) : fgX ini (rs ++ [r]) = updX (fgX ini rs) rs.length (r.toX rs.length) := by
  funext k
  unfold fgX updX
  by_cases h : k = rs.length
  · subst h; simp
  · rw [if_neg h]
    rcases Nat.lt_or_ge k rs.length with h1 | h1
    · rw [List.getElem?_append_left h1]
    · simp only [List.getElem?_eq_none (show (rs ++ [r]).length ≤ k by simp; omega), List.getElem?_eq_none h1]
theorem fX_get {ini : Nat → GW → Prop} {rs : List RF} {k : Nat} {g : GW} (h : fgX ini rs k g) : (rs.map RF.wd).getD k fT g.2 := by
  unfold fgX at h
  simp only [List.getD_eq_getElem?_getD, List.getElem?_map]
  cases hk : rs[k]? with
  | none => simp [fT]
  | some r => rw [hk] at h; exact RF.toX_wd h
theorem fX_own {ini : Nat → GW → Prop} {rs : List RF} {g : GW} (h : fgX ini rs rs.length g) : ini rs.length g := by
  unfold fgX at h
  simpa using h
def tgs : List RF → List Nat
  | [] => []
  | .s j _ _ _ :: r => j :: tgs r
  | _ :: r => tgs r
def tgP : List (GB × List Nat) → List Nat
  | [] => []
  | (.s j _ _ _, _) :: r => j :: tgP r
  | _ :: r => tgP r
theorem tgs_app : ∀ (a : List RF) (r : RF), tgs (a ++ [r]) = tgs a ++ tgs [r]
  | [], r => rfl
  | x :: a, r => by cases x <;> simp [tgs, tgs_app a r]
theorem tgP_cons (p : GB) (ids : List Nat) (r : List (GB × List Nat)) : tgP ((p, ids) :: r) = tgP [(p, ids)] ++ tgP r := by cases p <;> rfl
def rfOk : GB → RF → Prop
  | .h _ _, .h _ => True
  | .h _ _, _ => False
  | .k _ _, .h _ => True
  | .k _ _, _ => False
  | .s j _ _ _, .s k _ _ _ => j = k
  | .s _ _ _ _, _ => False
  | _, .s _ _ _ _ => False
  | _, _ => True
theorem rfOk_h {r0 : Rs} {pl : OpP} {r : RF} (h : rfOk (.h r0 pl) r) : ∃ φ, r = .h φ := by
  cases r <;> simp [rfOk] at h
  exact ⟨_, rfl⟩
theorem rfOk_tg {p : GB} {ids : List Nat} {r : RF} (h : rfOk p r) : tgs [r] = tgP [(p, ids)] := by
  cases p <;> cases r <;> simp [rfOk, tgs, tgP] at h ⊢
  exact h.symm
def fitsX : List GF → List (GB × List Nat) → Prop
  | [], [] => True
  | g :: gs, p :: ps => (match isGX p.1 with | true => ∃ r G, g = .f r G ∧ (isSX p.1 = false → zOf p.1 = isZ r) | false => g = .n) ∧ fitsX gs ps
  | _, _ => False
section
variable {P : Program} {ops : Array Oper} {H : Nat} {Sp Sc Sh : World → World → Prop} {Nf N1f : World → Prop} {w0 : World} {Qp : List PanicEntry → World → Prop} {gids : List Nat} {K : Env → World → Prop} {ds : List Deferred}
theorem ResP.mono {r : Result Next} {R R' : Value → World → Prop} {Qp : List PanicEntry → World → Prop} (h1 : ResP P r R Qp) (h2 : ∀ v w', R v w' → R' v w') : ResP P r R' Qp := by
  unfold ResP at *
  split <;> simp_all
  · refine Calls.mono h1 fun e w'' hh => ?_
    cases e <;> simp_all
  · exact Rows.mono h1 h2
theorem bxs_mem {rs0 : List RF} : ∀ {r : List RF} {x : Nat × Array Value × TypeId}, x ∈ bxs rs0 r → ∃ j φ, RF.s j φ x.2.1 x.2.2 ∈ r ∧ rs0[j]? = some (.a x.1) ∧ j ∈ tgs r
  | [], x, h => by simp [bxs] at h
  | q :: r, x, h => by
    have tl : x ∈ bxs rs0 r → ∃ j φ, RF.s j φ x.2.1 x.2.2 ∈ q :: r ∧ rs0[j]? = some (.a x.1) ∧ j ∈ tgs (q :: r) := fun h => by
      obtain ⟨j, φ, h1, h2, h3⟩ := bxs_mem h
      exact ⟨j, φ, List.mem_cons_of_mem _ h1, h2, by cases q <;> simp [tgs, h3]⟩
    cases q with
    | s j φ cs t =>
      simp only [bxs] at h
      split at h
      · rename_i b hb
        rcases List.mem_cons.1 h with e | e
        · subst e
          exact ⟨j, φ, List.mem_cons_self, hb, by simp [tgs]⟩
        · exact tl e
      · exact tl h
    | n => exact tl h
    | w φ => exact tl h
    | h φ => exact tl h
    | a b => exact tl h
theorem bxs_nodup {g : GW} (hg : GI H g) {rs0 : List RF} (hf : ∀ j b, rs0[j]? = some (RF.a b) → g.1.1 j = some b) (r : List RF) (h : (tgs r).Nodup) : ((bxs rs0 r).map (·.1)).Nodup := by
  induction r with
  | nil => simp [bxs]
  | cons q r ih =>
    cases q with
    | s j φ cs t =>
      simp only [tgs, List.nodup_cons] at h
      simp only [bxs]
      split
      · rename_i b hb
        simp only [List.map_cons, List.nodup_cons]
        refine ⟨fun hm => ?_, ih h.2⟩
        obtain ⟨x, hx, e⟩ := List.mem_map.1 hm
        obtain ⟨j2, φ2, h1, h2, h3⟩ := bxs_mem hx
        have e1 := hf _ _ hb
        have e2 := hf _ _ h2
        rw [e] at e2
        exact h.1 (hg.2 _ _ _ e1 e2 ▸ h3)
      · exact ih h.2
    | n => exact ih h
    | w φ => exact ih h
    | h φ => exact ih h
    | a b => exact ih h
theorem evX_SV {N : Nat} {G0 : List GF} {P0 : List (GB × List Nat)} {S : List Nat} {env0 : Env} (hrefl : ∀ a, Sp a a) (hreflc : ∀ a, Sc a a) (hsh1 : ∀ a b, Sh a b → Sp a b) (hsh2 : ∀ a b, Sh a b → N1f b) (htg : (tgP P0).Nodup) (hkf : ∀ i, hotK P0 i = true → hotX P0 (fstH 0 P0) = true ∧ fstH 0 P0 < i) :
    ∀ (gs : List GF) (ps : List (GB × List Nat)) (os : List Oper) (env : Env) (rs : List RF) (n : Nat), G0.drop n = gs → P0.drop n = ps → (ops.toList.take N).drop n = os → rs.length = n → (∀ i r, rs[i]? = some r → rfOk (plX P0 i) r) → tgs rs ++ tgP ps = tgP P0 → fitsX gs ps → dstX env0.length ps os = true →
      (∀ o ∈ os, ∀ d, o.dst = some d → d ∈ S) → Ag S env0 env → evX P H Sp Sc Sh Nf N1f w0 Qp gids K gs ps os env rs →
      SVX P ops (fun i => StX P H (sgX Sp Sc P0 i) N1f P0 i) (cgX H Sp w0) (dgX P0) (TgX P G0 P0) Qp (fun a g => ∃ env', K env' g.2 ∧ Ag S env0 env' ∧ a = act ds env') (List.range' n os.length) (act ds env) (fgX (iniX P Nf N1f P0) rs)
  | gs, ps, [], env, rs, n, _, _, _, _, _, hts, _, hdst, _, ha, h => by
    intro g hg hf
    have hps : ps = [] := by cases ps <;> simp [dstX] at hdst ⊢
    subst hps
    have htr : (tgs rs).Nodup := by rw [show tgs rs = tgP P0 by simpa [tgP] using hts]; exact htg
    have hal : ∀ j b, rs[j]? = some (RF.a b) → g.1.1 j = some b := fun j b hj => by have := hf j; unfold fgX at this; rw [hj] at this; exact this
    simp only [evX] at h
    refine ⟨env, hypF_out (h g.2 hg.1) (fun k _ => fX_get (hf k)) ⟨fun x hx => ?_, bxs_nodup hg.2.2 hal _ htr⟩, ha, rfl⟩
    obtain ⟨j, φ, h1, h2, _⟩ := bxs_mem hx
    have hj := hal _ _ h2
    have hb := hg.2.2.1 _ _ hj
    obtain ⟨i, hi⟩ := List.getElem?_of_mem h1
    have := hf i
    unfold fgX at this
    rw [hi] at this
    obtain ⟨_, b', hb', hc⟩ := this
    rw [hj] at hb'
    simp only [Option.some.injEq] at hb'
    subst hb'
    exact ⟨hb.1, hb.2, hc⟩
  | gs, ps, o :: os, env, rs, n, hg, hp, ho, hl, hrec, hts, hfit, hdst, hS, ha, h => by
    rcases gs with _ | ⟨g, gs⟩
    · simp [evX] at h
    rcases ps with _ | ⟨⟨p, ids⟩, ps⟩
    · simp [evX] at h
    have hgn : G0[n]? = some g := by have := congrArg (·[0]?) hg; simpa using this
    have hpn : P0[n]? = some (p, ids) := by have := congrArg (·[0]?) hp; simpa using this
    have hplx : plX P0 n = p := by unfold plX; rw [hpn]
    have hidx : idsX P0 n = ids := by unfold idsX; rw [hpn]
    have hon : ops[n]? = some o := by
      have h1 := congrArg (·[0]?) ho
      simp only [List.getElem?_drop, Nat.add_zero, List.getElem?_cons_zero, List.getElem?_take] at h1
      split at h1
      · simpa using h1
      · simp at h1
    have hgs : G0.drop (n + 1) = gs := by have := congrArg List.tail hg; simpa using this
    have hps : P0.drop (n + 1) = ps := by have := congrArg List.tail hp; simpa using this
    have hos : (ops.toList.take N).drop (n + 1) = os := by have := congrArg List.tail ho; simpa using this
    simp only [dstX, Bool.and_eq_true] at hdst
    obtain ⟨hd0, hdst'⟩ := hdst
    have hSo : ∀ o' ∈ os, ∀ d, o'.dst = some d → d ∈ S := fun o' ho' => hS o' (List.mem_cons_of_mem _ ho')
    have hSd : ∀ k, o.dst = some k → k ∈ S := hS o List.mem_cons_self
    have rec' : ∀ (v : EV) (r : RF), rfOk p r → evX P H Sp Sc Sh Nf N1f w0 Qp gids K gs ps os (put env o.dst v) (rs ++ [r]) →
        SVX P ops (fun i => StX P H (sgX Sp Sc P0 i) N1f P0 i) (cgX H Sp w0) (dgX P0) (TgX P G0 P0) Qp (fun a g => ∃ env', K env' g.2 ∧ Ag S env0 env' ∧ a = act ds env') (List.range' (n + 1) os.length) ((act ds env).put o.dst v.val) (updX (fgX (iniX P Nf N1f P0) rs) n (r.toX n)) := by
      intro v r hr hh
      rw [act_put, ← hl, ← fX_upd]
      refine evX_SV hrefl hreflc hsh1 hsh2 htg hkf gs ps os (put env o.dst v) (rs ++ [r]) (rs.length + 1) (hl ▸ hgs) (hl ▸ hps) (hl ▸ hos) (by simp) (fun i q hq => ?_) ?_ hfit.2 hdst' hSo (ha.trans (Ag.put env o.dst v hSd)) hh
      · rcases Nat.lt_trichotomy i rs.length with h1 | h1 | h1
        · rw [List.getElem?_append_left h1] at hq; exact hrec i q hq
        · subst h1
          rw [List.getElem?_append_right (Nat.le_refl _)] at hq
          simp only [Nat.sub_self, List.getElem?_cons_zero, Option.some.injEq] at hq
          subst hq
          rw [hl, hplx]; exact hr
        · rw [List.getElem?_eq_none (by simp; omega)] at hq; simp at hq
      · rw [tgs_app, rfOk_tg (ids := ids) hr, List.append_assoc, ← tgP_cons]; exact hts
    have he : ∀ w, (execOp (act ds env).eval o).run P w = (execOp (rho env) o).run P w := fun w => by rw [act_eval]
    have hse : (env.length : Nat) = env0.length := ha.1
    have hds : ∀ d, o.dst = some d → d < (act ds env).tmps.size ∧ zOf p = false := fun d hod => by
      have e : (act ds env).tmps.size = env0.length := by simp only [act, List.size_toArray, List.length_map]; exact hse
      rw [hod] at hd0
      simp only [Bool.and_eq_true, decide_eq_true_eq, Bool.not_eq_true'] at hd0
      exact ⟨by rw [e]; exact hd0.1, hd0.2⟩
    have hdn : o.dst = none → zOf p = true := fun hod => by rw [hod] at hd0; exact hd0
    have hids : ∀ k ∈ ids, k ∈ dgX P0 n := fun k hk => by
      unfold dgX; rw [hplx, hidx]; cases p <;> simp [hk]
    have hGI : ∀ {x : GW} {w' : World}, GI H x → x.2.heap.size ≤ w'.heap.size → GI H (x.1, w') := fun hx hw => ⟨fun k b hk => ⟨(hx.1 k b hk).1, Nat.lt_of_lt_of_le (hx.1 k b hk).2 hw⟩, hx.2⟩
    have plain : ∀ {x : GW} {w' : World}, hotX P0 n = false → (hotK P0 n = true → x.1.2 = true) → cgX H Sp w0 x → sgX Sp Sc P0 n x.2 w' → NewOnly H x.2 w' → StX P H (sgX Sp Sc P0 n) N1f P0 n x (x.1, w') := fun hh hk hx hs hn =>
      ⟨by rw [hh]; rfl, fun h => by rw [hh] at h; simp at h, hk, hs, hn.1, hGI hx.2.2 hn.1, fun _ _ h => h, fun _ _ => rfl, fun k b hk _ => hn.2 b (hx.2.2.1 k b hk).1 (hx.2.2.1 k b hk).2, fun _ _ _ _ h => .inl h⟩
    simp only [evX] at h
    split at h
    case h_2 => exact h.elim
    rename_i hgd
    rw [List.length_cons, List.range'_succ]
    unfold SVX SVatX
    simp only [hon]
    rw [if_pos (by simp [Region.wanted, hgd])]
    -- operations that bear a fact
    have loud : ∀ {pl : OpP} {r : Rs} {G : r.T → World → Prop} {Sx : World → World → Prop} {mk : (World → Prop) → RF} {gh : GW → (Nat → Option Nat) × Bool}, (∀ v φ, TgX P G0 P0 n (sx (act ds env).eval o) v φ ↔ ∃ x : r.T, (isZ r = true ∨ v = r.emb x) ∧ φ = (mk (G x)).toX n) → (∀ x : GW, cgX H Sp w0 x → (∀ k ∈ dgX P0 n, fgX (iniX P Nf N1f P0) rs k x) → ∀ w', Sx x.2 w' → NewOnly H x.2 w' → StX P H (sgX Sp Sc P0 n) N1f P0 n x (gh x, w')) → (∀ x : GW, (∀ k ∈ dgX P0 n, fgX (iniX P Nf N1f P0) rs k x) → ∀ w' (φ : World → Prop), φ w' → (mk φ).toX n (gh x, w')) → zOf p = isZ r → (∀ φ, rfOk p (mk φ)) →
        (∀ x : GW, cgX H Sp w0 x → (∀ k ∈ dgX P0 n, fgX (iniX P Nf N1f P0) rs k x) → hypF (rs.map RF.wd) x.2 (evOp P pl o env x.2 (fun v w' => GK r (Sb H Sx) x.2 G (vz r v) w') Qp) ids) →
        (∀ x : r.T, evX P H Sp Sc Sh Nf N1f w0 Qp gids K gs ps os (put env o.dst (.v (r.emb x))) (rs ++ [mk (G x)])) →
        (∀ g, cgX H Sp w0 g → (∀ k ∈ dgX P0 n, fgX (iniX P Nf N1f P0) rs k g) → ResP P ((execOp (act ds env).eval o).run P g.2) (fun v w' => ∃ (x : GW) (φ : GW → Prop), x.2 = w' ∧ TgX P G0 P0 n (sx (act ds env).eval o) v φ ∧ StX P H (sgX Sp Sc P0 n) N1f P0 n g x ∧ φ x) Qp) ∧
        (∃ v φ, TgX P G0 P0 n (sx (act ds env).eval o) v φ) ∧ ∀ v φ, TgX P G0 P0 n (sx (act ds env).eval o) v φ →
          SVX P ops (fun i => StX P H (sgX Sp Sc P0 i) N1f P0 i) (cgX H Sp w0) (dgX P0) (TgX P G0 P0) Qp (fun a g => ∃ env', K env' g.2 ∧ Ag S env0 env' ∧ a = act ds env') (List.range' (n + 1) os.length) ((act ds env).put o.dst v) (updX (fgX (iniX P Nf N1f P0) rs) n φ) := by
      intro pl r G Sx mk gh hT hSx hmk hzr hrf hc hK
      refine ⟨fun x hx hf => ?_, ⟨r.emb r.dflt, _, (hT _ _).2 ⟨r.dflt, .inr rfl, rfl⟩⟩, fun u φ hu => ?_⟩
      · have hev := hypF_out (hc x hx hf) (fun k hk => fX_get (hf k (hids k hk)))
        have fin : ∀ v w', (isZ r = true ∨ True) → GK r (Sb H Sx) x.2 G v w' → (isZ r = true ∨ ∀ y, v = r.emb y → True) → ∃ (y : GW) (φ : GW → Prop), y.2 = w' ∧ (∃ z : r.T, v = r.emb z ∧ φ = (mk (G z)).toX n) ∧ StX P H (sgX Sp Sc P0 n) N1f P0 n x y ∧ φ y := by
          rintro v w' _ ⟨z, hz, hs, hG⟩ _
          exact ⟨(gh x, w'), _, rfl, ⟨z, hz, rfl⟩, hSx x hx hf w' hs.1 hs.2, hmk x hf w' _ hG⟩
        cases hod : o.dst with
        | none =>
          have hz : isZ r = true := by rw [← hzr]; exact hdn hod
          have hwp := evOp_sound (ds := ds) (next := fun a' w' => a' = act ds env ∧ GK r (Sb H Sx) x.2 G (vz r u0) w') (Q' := pX Qp) hev (fun v w' hk => ⟨by rw [hod]; rfl, by cases r <;> first | exact hk | simp [isZ] at hz⟩) (fun _ _ hf => hf)
          refine ResP.mono (resP_none hod hwp) fun v w' hk => ?_
          obtain ⟨y, φ, h1, ⟨z, hz1, hz2⟩, h3, h4⟩ := fin _ w' (.inl hz) hk (.inl hz)
          exact ⟨y, φ, h1, (hT _ _).2 ⟨z, .inl hz, hz2⟩, h3, h4⟩
        | some d =>
          obtain ⟨hd1, hd2⟩ := hds d hod
          have hz : isZ r = false := by rw [← hzr]; exact hd2
          have hwp := evOp_sound (ds := ds) (next := fun a' w' => ∃ v, a' = (act ds env).put o.dst v ∧ GK r (Sb H Sx) x.2 G v w') (Q' := pX Qp) hev (fun v w' hk => ⟨v.val, (act_put ds env o.dst v).symm, by rw [vz_of hz] at hk; exact hk⟩) (fun _ _ hf => hf)
          refine ResP.mono (resP_of_wp hod hd1 hwp) fun v w' hk => ?_
          obtain ⟨y, φ, h1, ⟨z, hz1, hz2⟩, h3, h4⟩ := fin v w' (.inr trivial) hk (.inr fun _ _ => trivial)
          exact ⟨y, φ, h1, (hT _ _).2 ⟨z, .inr hz1, hz2⟩, h3, h4⟩
      · obtain ⟨x, hz | rfl, rfl⟩ := (hT _ _).1 hu
        · have h1 := rec' (.v (r.emb x)) (mk (G x)) (hrf _) (hK x)
          have hod : o.dst = none := by
            cases hod : o.dst with
            | none => rfl
            | some d => have := (hds d hod).2; rw [hzr, hz] at this; simp at this
          rw [hod] at h1 ⊢
          exact h1
        · exact rec' (.v (r.emb x)) (mk (G x)) (hrf _) (hK x)
    cases p with
    | q =>
      simp only [stepX] at h
      have hT : ∀ u φ, TgX P G0 P0 n (sx (act ds env).eval o) u φ ↔ (∀ w, (execOp (rho env) o).run P w = .ok (.value u) w) ∧ φ = xT := by
        intro u φ; unfold TgX; rw [hplx]; simp only [sx, he]
      obtain ⟨v, hr, hk⟩ := evQo_val h
      refine ⟨fun x hx _ => ?_, ⟨v.val, xT, (hT _ _).2 ⟨hr, rfl⟩⟩, fun u φ hu => ?_⟩
      · rw [he, hr x.2]
        refine ⟨x, xT, rfl, (hT _ _).2 ⟨hr, rfl⟩, plain (by unfold hotX; rw [hplx]; rfl) (fun h => by unfold hotK at h; rw [hplx] at h; simp [isKX] at h) hx ?_ ⟨Nat.le_refl _, fun _ _ _ => rfl⟩, trivial⟩
        unfold sgX
        cases hotX P0 n || hotK P0 n with
        | true => exact hrefl _
        | false => exact hreflc _
      · obtain ⟨hu1, rfl⟩ := (hT _ _).1 hu
        have := (hu1 w0).symm.trans (hr w0)
        simp only [Result.ok.injEq, Next.value.injEq, and_true] at this
        subst this
        exact rec' v .n trivial hk
    | g r0 pl =>
      obtain ⟨r, G, hgr, hzr⟩ := hfit.1
      subst hgr
      simp only [stepX] at h
      have e1 : hotX P0 n = false := by unfold hotX; rw [hplx]; rfl
      have e2 : hotK P0 n = false := by unfold hotK; rw [hplx]; rfl
      refine loud (pl := pl) (r := r) (G := G) (Sx := Sc) (mk := .w) (gh := fun x => x.1) (fun v φ => by unfold TgX; rw [hplx, hgn]) (fun x hx _ w' hs hn => plain e1 (fun h => by rw [e2] at h; simp at h) hx (by unfold sgX; rw [e1, e2]; exact hs) hn) (fun _ _ _ _ h => h) (hzr rfl) (fun _ => trivial) (fun x hx _ => h.1 x.2 hx.1) h.2
    | h r0 pl =>
      obtain ⟨r, G, hgr, hzr⟩ := hfit.1
      subst hgr
      simp only [stepX] at h
      have e1 : hotX P0 n = true := by unfold hotX; rw [hplx]; rfl
      have e2 : hotK P0 n = false := by unfold hotK; rw [hplx]; rfl
      have own : ∀ x : GW, (∀ k ∈ dgX P0 n, fgX (iniX P Nf N1f P0) rs k x) → Nf x.2 ∧ x.1.2 = false := by
        intro x hf
        have h1 := hf n (by unfold dgX; rw [hplx]; simp)
        rw [← hl] at h1
        have h2 := fX_own h1
        rw [hl] at h2
        unfold iniX at h2; rw [hplx] at h2
        exact h2
      have fl0 : ∀ x : GW, (∀ k ∈ dgX P0 n, fgX (iniX P Nf N1f P0) rs k x) → x.1.2 = false := fun x hf => (own x hf).2
      refine loud (pl := pl) (r := r) (G := G) (Sx := Sh) (mk := .h) (gh := fun x => (x.1.1, true)) (fun v φ => by unfold TgX; rw [hplx, hgn]) (fun x hx hf w' hs hn => ⟨by rw [e1]; rfl, fun _ => ⟨hsh2 _ _ hs, fl0 x hf⟩, fun h => by rw [e2] at h; simp at h, by unfold sgX; rw [e1]; exact hsh1 _ _ hs, hn.1, hGI hx.2.2 hn.1, fun _ _ h => h, fun _ _ => rfl, fun k b hk _ => hn.2 b (hx.2.2.1 k b hk).1 (hx.2.2.1 k b hk).2, fun _ _ _ _ h => .inl h⟩) (fun _ _ _ _ h => ⟨h, rfl⟩) (hzr rfl) (fun _ => trivial) (fun x hx hf => h.1 x.2 hx.1 (own x hf).1) h.2
    | k r0 pl =>
      obtain ⟨r, G, hgr, hzr⟩ := hfit.1
      subst hgr
      simp only [stepX] at h
      have e1 : hotX P0 n = false := by unfold hotX; rw [hplx]; rfl
      have e2 : hotK P0 n = true := by unfold hotK; rw [hplx]; rfl
      obtain ⟨hf1, hf2⟩ := hkf n e2
      have flag : ∀ x : GW, (∀ k ∈ dgX P0 n, fgX (iniX P Nf N1f P0) rs k x) → x.1.2 = true := by
        intro x hf
        have h1 := hf (fstH 0 P0) (by unfold dgX; rw [hplx]; simp)
        obtain ⟨q, hq⟩ : ∃ q, rs[fstH 0 P0]? = some q := ⟨rs[fstH 0 P0]'(by omega), List.getElem?_eq_getElem _⟩
        have hm := hrec _ _ hq
        unfold hotX at hf1
        cases hpl : plX P0 (fstH 0 P0) with
        | h r1 p1 =>
          rw [hpl] at hm
          obtain ⟨φ, rfl⟩ := rfOk_h hm
          unfold fgX at h1
          rw [hq] at h1
          exact h1.2
        | _ => rw [hpl] at hf1; simp [isHX] at hf1
      refine loud (pl := pl) (r := r) (G := G) (Sx := Sp) (mk := .h) (gh := fun x => x.1) (fun v φ => by unfold TgX; rw [hplx, hgn]) (fun x hx hf w' hs hn => plain e1 (fun _ => flag x hf) hx (by unfold sgX; rw [e1, e2]; exact hs) hn) (fun x hf _ _ h => ⟨h, flag x hf⟩) (hzr rfl) (fun _ => trivial) (fun x hx hf => h.1 x.2 hx.1 ?_) h.2
      have h1 := hf n (by unfold dgX; rw [hplx]; simp)
      rw [← hl] at h1
      have h2 := fX_own h1
      rw [hl] at h2
      unfold iniX at h2; rw [hplx] at h2
      exact h2 (flag x hf)
    | a t =>
      simp only [stepX] at h
      have e1 : hotX P0 n = false := by unfold hotX; rw [hplx]; rfl
      have e2 : hotK P0 n = false := by unfold hotK; rw [hplx]; rfl
      have hT : ∀ u φ, TgX P G0 P0 n (sx (act ds env).eval o) u φ ↔ ∃ b, u = .pointer (some ⟨b, 0, none⟩) ∧ φ = (RF.a b).toX n := by
        intro u φ; unfold TgX; rw [hplx]
      refine ⟨fun x hx hf => ?_, ⟨_, _, (hT _ _).2 ⟨0, rfl, rfl⟩⟩, fun u φ hu => ?_⟩
      · have hown : x.1.1 n = none := by
          have h1 := hf n (by unfold dgX; rw [hplx]; simp)
          rw [← hl] at h1
          have h2 := fX_own h1
          rw [hl] at h2
          unfold iniX at h2; rw [hplx] at h2
          exact h2
        have hev := h.1 x.2 hx.1
        have fin : ∀ v w', AXp H t (zc P t) Sc x.2 v w' → ∃ (y : GW) (φ : GW → Prop), y.2 = w' ∧ TgX P G0 P0 n (sx (act ds env).eval o) v φ ∧ StX P H (sgX Sp Sc P0 n) N1f P0 n x y ∧ φ y := by
          rintro v w' ⟨rfl, ⟨hs, hn⟩, hlt, hc⟩
          have hx1 := hx.2.2
          refine ⟨((fun k => if k = n then some x.2.heap.size else x.1.1 k, x.1.2), w'), _, rfl, (hT _ _).2 ⟨_, rfl, rfl⟩, ⟨by rw [e1]; rfl, fun h => by rw [e1] at h; simp at h, fun h => by rw [e2] at h; simp at h, by unfold sgX; rw [e1, e2]; exact hs, hn.1, ⟨fun k b hk => ?_, fun k l b hk hl' => ?_⟩, fun k b hk => ?_, fun k hk => if_neg hk, fun k b hk _ => hn.2 b (hx1.1 k b hk).1 (hx1.1 k b hk).2, fun k b t' hp' hk => ?_⟩, if_pos rfl⟩
          · simp only at hk
            split at hk
            · simp only [Option.some.injEq] at hk; subst hk; exact ⟨hx.2.1, hlt⟩
            · exact ⟨(hx1.1 k b hk).1, Nat.lt_of_lt_of_le (hx1.1 k b hk).2 hn.1⟩
          · simp only at hk hl'
            split at hk <;> split at hl'
            · rename_i e1 e2; rw [e1, e2]
            · simp only [Option.some.injEq] at hk; subst hk; have := (hx1.1 l _ hl').2; omega
            · simp only [Option.some.injEq] at hl'; subst hl'; have := (hx1.1 k _ hk).2; omega
            · exact hx1.2 k l b hk hl'
          · simp only
            split
            · rename_i e; rw [e, hown] at hk; simp at hk
            · exact hk
          · simp only at hk
            split at hk
            · rename_i e
              simp only [Option.some.injEq] at hk; subst hk
              rw [e, hplx] at hp'
              simp only [GB.a.injEq] at hp'
              subst hp'
              exact .inr hc
            · exact .inl hk
        cases hod : o.dst with
        | none => have := hdn hod; simp [zOf] at this
        | some d =>
          obtain ⟨hd1, hd2⟩ := hds d hod
          have hwp := evOp_sound (ds := ds) (next := fun a' w' => ∃ v, a' = (act ds env).put o.dst v ∧ AXp H t (zc P t) Sc x.2 v w') (Q' := pX Qp) hev (fun v w' hk => ⟨v.val, (act_put ds env o.dst v).symm, hk⟩) (fun _ _ hf => hf)
          exact ResP.mono (resP_of_wp hod hd1 hwp) fun v w' hk => fin v w' hk
      · obtain ⟨b, rfl, rfl⟩ := (hT _ _).1 hu
        exact rec' (.v (.pointer (some ⟨b, 0, none⟩))) (.a b) trivial (h.2 b)
    | s j t r0 pl =>
      have e1 : hotX P0 n = false := by unfold hotX; rw [hplx]; rfl
      have e2 : hotK P0 n = false := by unfold hotK; rw [hplx]; rfl
      obtain ⟨r, G, hgr, _⟩ := hfit.1
      subst hgr
      simp only [stepX] at h
      split at h
      case h_2 => exact h.elim
      rename_i b hb
      have hT : ∀ u φ, TgX P G0 P0 n (sx (act ds env).eval o) u φ ↔ ∃ y : r.T, stA (rho env) o = r.emb y ∧ φ = (RF.s j (G y) (r.emb y).cells t).toX n := by
        intro u φ; unfold TgX; rw [hplx, hgn]; simp only [sx, act_eval]
      have hod : o.dst = none := by
        cases hod : o.dst with
        | none => rfl
        | some d => have := (hds d hod).2; simp [zOf] at this
      obtain ⟨y0, hy0⟩ := h.2.1
      refine ⟨fun x hx hf => ?_, ⟨undef, _, (hT _ _).2 ⟨y0, hy0, rfl⟩⟩, fun u φ hu => ?_⟩
      · have hj : x.1.1 j = some b := by
          have h1 := hf j (by unfold dgX; rw [hplx]; simp)
          unfold fgX at h1; rw [hb] at h1; exact h1
        have hown : x.2.heap[b]? = some (.cells (zc P t) t (0, 0)) := by
          have h1 := hf n (by unfold dgX; rw [hplx]; simp)
          rw [← hl] at h1
          have h2 := fX_own h1
          rw [hl] at h2
          unfold iniX at h2; rw [hplx] at h2
          exact h2 b hj
        have hev := hypF_out (h.1 x.2 hx.1) (fun k hk => fX_get (hf k (hids k hk))) (hx.2.2.1 j b hj).1 hown
        have hwp := evOp_sound (ds := ds) (next := fun a' w' => a' = act ds env ∧ GS r Sc x.2 G b t (stA (rho env) o) w') (Q' := pX Qp) hev (fun v w' hk => ⟨by rw [hod]; rfl, hk⟩) (fun _ _ hf => hf)
        refine ResP.mono (resP_none hod hwp) fun v w' hk => ?_
        obtain ⟨y, hy, hs, ⟨h1, h2, h3⟩, hG⟩ := hk
        refine ⟨(x.1, w'), _, rfl, (hT _ _).2 ⟨y, hy, rfl⟩, ⟨by rw [e1]; rfl, fun h => by rw [e1] at h; simp at h, fun h => by rw [e2] at h; simp at h, by unfold sgX; rw [e1, e2]; exact hs, h1, hGI hx.2.2 h1, fun _ _ h => h, fun _ _ => rfl, fun k b' hk' hne => ?_, fun _ _ _ _ h => .inl h⟩, hG, b, hj, h3⟩
        refine h2 b' (hx.2.2.1 k b' hk').2 fun e => hne ?_
        subst e
        unfold tgX; rw [hplx]
        rw [hx.2.2.2 _ _ _ hj hk']
      · obtain ⟨y, hy, rfl⟩ := (hT _ _).1 hu
        have h1 := rec' u0 (.s j (G y) (r.emb y).cells t) rfl (h.2.2 y hy)
        rw [hod] at h1 ⊢
        exact h1
theorem exX_out {Sq : World → World → Prop} {kq : Bool} : ∀ (ps : List GB) {k : List GF → Prop}, exX Sp Sq kq ps k → ∃ gs, k gs ∧ (∀ ps' : List (GB × List Nat), ps'.map (·.1) = ps → fitsX gs ps') ∧ ∀ (i : Nat) p r G, ps[i]? = some p → gs[i]? = some (.f r G) → (lastG kq p = true → Kept Sq G) ∧ (lastG kq p = false → Kept Sp G) := by
  have quiet : ∀ {p : GB} {r : List GB} {k : List GF → Prop}, isGX p = false → (∃ gs, k (.n :: gs) ∧ (∀ ps' : List (GB × List Nat), ps'.map (·.1) = r → fitsX gs ps') ∧ ∀ (i : Nat) p r' G, r[i]? = some p → gs[i]? = some (.f r' G) → (lastG kq p = true → Kept Sq G) ∧ (lastG kq p = false → Kept Sp G)) →
      ∃ gs, k gs ∧ (∀ ps' : List (GB × List Nat), ps'.map (·.1) = p :: r → fitsX gs ps') ∧ ∀ (i : Nat) pq r' G, (p :: r)[i]? = some pq → gs[i]? = some (.f r' G) → (lastG kq pq = true → Kept Sq G) ∧ (lastG kq pq = false → Kept Sp G) := by
    rintro p r k hp ⟨gs, h1, h2, h3⟩
    refine ⟨.n :: gs, h1, fun ps' hps => ?_, fun i pq r' G hq hi => ?_⟩
    · rcases ps' with _ | ⟨q, ps'⟩
      · simp at hps
      · simp only [List.map_cons, List.cons.injEq] at hps
        refine ⟨?_, h2 _ hps.2⟩
        rw [hps.1, hp]
    · cases i with
      | zero => simp at hi
      | succ i => exact h3 i pq r' G (by simpa using hq) (by simpa using hi)
  have loud : ∀ {p : GB} {r : List GB} {k : List GF → Prop} {τ : Rs} {G0 : τ.T → World → Prop}, isGX p = true → (isSX p = false → zOf p = isZ τ) → (lastG kq p = true → Kept Sq G0) ∧ (lastG kq p = false → Kept Sp G0) → (∃ gs, k (.f τ G0 :: gs) ∧ (∀ ps' : List (GB × List Nat), ps'.map (·.1) = r → fitsX gs ps') ∧ ∀ (i : Nat) p r' G, r[i]? = some p → gs[i]? = some (.f r' G) → (lastG kq p = true → Kept Sq G) ∧ (lastG kq p = false → Kept Sp G)) →
      ∃ gs, k gs ∧ (∀ ps' : List (GB × List Nat), ps'.map (·.1) = p :: r → fitsX gs ps') ∧ ∀ (i : Nat) pq r' G, (p :: r)[i]? = some pq → gs[i]? = some (.f r' G) → (lastG kq pq = true → Kept Sq G) ∧ (lastG kq pq = false → Kept Sp G) := by
    rintro p r k τ G0 hp hz hk ⟨gs, h1, h2, h3⟩
    refine ⟨.f τ G0 :: gs, h1, fun ps' hps => ?_, fun i pq r' G hq hi => ?_⟩
    · rcases ps' with _ | ⟨q, ps'⟩
      · simp at hps
      · simp only [List.map_cons, List.cons.injEq] at hps
        refine ⟨?_, h2 _ hps.2⟩
        rw [hps.1, hp]
        exact ⟨τ, G0, rfl, hz⟩
    · cases i with
      | zero =>
        simp only [List.getElem?_cons_zero, Option.some.injEq, GF.f.injEq] at hi hq
        obtain ⟨rfl, hi⟩ := hi
        subst hq
        rw [← eq_of_heq hi]; exact hk
      | succ i => exact h3 i pq r' G (by simpa using hq) (by simpa using hi)
  intro ps
  induction ps with
  | nil => exact fun h => ⟨[], h, fun ps' hp => by simp at hp; subst hp; trivial, by simp⟩
  | cons p r ih =>
    intro k h
    cases p with
    | q => exact quiet rfl (ih h)
    | a t => exact quiet rfl (ih h)
    | g τ pl => obtain ⟨G0, hk, h⟩ := h; exact loud rfl (fun _ => rfl) ⟨fun h => by simp [lastG] at h, fun _ => hk⟩ (ih h)
    | h τ pl =>
      cases kq with
      | true => obtain ⟨G0, hk, h⟩ := h; exact loud rfl (fun _ => rfl) ⟨fun h => by simp [lastG] at h, fun _ => hk⟩ (ih h)
      | false => obtain ⟨G0, hk, h⟩ := h; exact loud rfl (fun _ => rfl) ⟨fun _ => hk, fun h => by simp [lastG] at h⟩ (ih h)
    | k τ pl => obtain ⟨G0, hk, h⟩ := h; exact loud rfl (fun _ => rfl) ⟨fun _ => hk, fun h => by simp [lastG] at h⟩ (ih h)
    | s j t τ pl => obtain ⟨G0, hk, h⟩ := h; exact loud rfl (fun hne => by simp [isSX] at hne) ⟨fun h => by simp [lastG] at h, fun _ => hk⟩ (ih h)
def hotBX : List (GB × List Nat) → Bool
  | [] => false
  | p :: ps => match isHX p.1 with | true => true | false => hotBX ps
def gidsX (ps : List (GB × List Nat)) : List Nat := (List.range ps.length).filter fun i => match ps[i]? with | some p => isGX p.1 | none => false
def hasKX : List (GB × List Nat) → Bool
  | [] => false
  | p :: ps => match isKX p.1 with | true => true | false => hasKX ps
def evXR (P : Program) (ops : Array Oper) (ps : List (GB × List Nat)) (tl : List OpP) (K : Exit → Env → World → Prop) (env : Env) (w : World) : Prop :=
  match hasKX ps with
  | true => ∃ Sp : World → World → Prop, SpOk Sp w ∧ ∃ Sq : World → World → Prop, QOk Sp Sq ∧ ∃ N : World → Prop, NOk N w ∧ KeptN Sq N ∧ ∃ N1 : World → Prop, KeptN Sq N1 ∧ exX Sp Sq true (ps.map (·.1)) fun gs =>
    evX P w.heap.size Sp Sq (Sn Sp N1) N N1 w (fun ch w' => ∀ env' : Env, K (.panic ch) env' w') (gidsX ps) (fun env' w' => evL P ops K tl (ops.toList.drop ps.length) env' w') gs ps (ops.toList.take ps.length) env []
  | false => match hotBX ps with
    | false => ∃ Sp : World → World → Prop, SpOk Sp w ∧ exX Sp Sp false (ps.map (·.1)) fun gs =>
      evX P w.heap.size Sp Sp Sp fT fT w (fun ch w' => ∀ env' : Env, K (.panic ch) env' w') (gidsX ps) (fun env' w' => evL P ops K tl (ops.toList.drop ps.length) env' w') gs ps (ops.toList.take ps.length) env []
    | true => ∃ Sp : World → World → Prop, SpOk Sp w ∧ ∃ Sq : World → World → Prop, QOk Sp Sq ∧ ∃ N : World → Prop, NOk N w ∧ KeptN Sq N ∧ exX Sp Sq false (ps.map (·.1)) fun gs =>
      evX P w.heap.size Sp Sq Sp N fT w (fun ch w' => ∀ env' : Env, K (.panic ch) env' w') (gidsX ps) (fun env' w' => evL P ops K tl (ops.toList.drop ps.length) env' w') gs ps (ops.toList.take ps.length) env []
def oneX (ps : List (GB × List Nat)) : Bool :=
  (List.range ps.length).all fun i => (List.range ps.length).all fun j => decide (i = j) || (!(hotX ps i && hotX ps j) && !(hotK ps i && hotK ps j))
/-- The second has a first before it. -/
def twoX (ps : List (GB × List Nat)) : Bool := (List.range ps.length).all fun i => !hotK ps i || (hotX ps (fstH 0 ps) && decide (fstH 0 ps < i))
theorem hotK_lt {ps : List (GB × List Nat)} {k : Nat} (h : hotK ps k = true) : k < ps.length := by
  unfold hotK plX at h
  split at h
  · rename_i p hp; exact (List.getElem?_eq_some_iff.1 hp).1
  · simp [isKX] at h
theorem hasKX_of : ∀ {ps : List (GB × List Nat)} {j : Nat}, hotK ps j = true → hasKX ps = true
  | [], j, h => by simp [hotK, plX, isKX] at h
  | p :: ps, 0, h => by
    have h' : isKX p.1 = true := by simpa [hotK, plX] using h
    simp only [hasKX, h']
  | p :: ps, j + 1, h => by
    have h' : hotK ps j = true := by simpa [hotK, plX] using h
    have := hasKX_of h'
    simp only [hasKX]
    split
    · rfl
    · exact this
theorem twoX_spec {ps : List (GB × List Nat)} (h : twoX ps = true) (i : Nat) (hi : hotK ps i = true) : hotX ps (fstH 0 ps) = true ∧ fstH 0 ps < i := by
  have h1 := List.all_eq_true.1 h i (List.mem_range.2 (hotK_lt hi))
  rw [hi] at h1
  simpa using h1
theorem hotX_lt {ps : List (GB × List Nat)} {k : Nat} (h : hotX ps k = true) : k < ps.length := by
  unfold hotX plX at h
  split at h
  · rename_i p hp; exact (List.getElem?_eq_some_iff.1 hp).1
  · simp [isHX] at h
theorem oneX_spec {ps : List (GB × List Nat)} (h : oneX ps = true) (k j : Nat) (hk : hotX ps k = true) (hj : hotX ps j = true) : k = j := by
  have h1 := List.all_eq_true.1 h k (List.mem_range.2 (hotX_lt hk))
  have h2 := List.all_eq_true.1 h1 j (List.mem_range.2 (hotX_lt hj))
  rw [hk, hj] at h2
  simp only [Bool.and_self, Bool.not_true, Bool.false_and, Bool.or_false, decide_eq_true_eq] at h2
  exact h2
theorem oneK_spec {ps : List (GB × List Nat)} (h : oneX ps = true) (k j : Nat) (hk : hotK ps k = true) (hj : hotK ps j = true) : k = j := by
  have h1 := List.all_eq_true.1 h k (List.mem_range.2 (hotK_lt hk))
  have h2 := List.all_eq_true.1 h1 j (List.mem_range.2 (hotK_lt hj))
  rw [hk, hj] at h2
  simp only [Bool.and_self, Bool.not_true, Bool.and_false, Bool.or_false, decide_eq_true_eq] at h2
  exact h2
/-- What is filled has been made, each once. -/
def tgOk (ps : List (GB × List Nat)) : Bool := decide (tgP ps).Nodup && ps.all fun p => match p.1 with
  | .s j t _ _ => (match plX ps j with | .a t' => decide (t' = t) | _ => false)
  | _ => true
def okX (P : Program) (ops : Array Oper) (ps : List (GB × List Nat)) (n : Nat) : Bool :=
  P.follows .mixedOrders && (oneX ps && (twoX ps && (tgOk ps && (depsOk ops ps.length (dgX ps) && (tailOk ops ps.length && (decide (ps.length ≤ ops.size) && dstX n ps (ops.toList.take ps.length)))))))
theorem tgP_mem : ∀ {ps : List (GB × List Nat)} {i j : Nat}, tgX ps i = some j → j ∈ tgP ps
  | [], i, j, h => by simp [tgX, plX] at h
  | (p, ids) :: ps, 0, j, h => by
    cases p <;> simp [tgX, plX] at h
    subst h; simp [tgP]
  | (p, ids) :: ps, i + 1, j, h => by
    have h' : tgX ps i = some j := by simpa [tgX, plX] using h
    rw [tgP_cons]
    exact List.mem_append_right _ (tgP_mem h')
theorem tgP_inj : ∀ {ps : List (GB × List Nat)} {i k j : Nat}, (tgP ps).Nodup → tgX ps i = some j → tgX ps k = some j → i = k
  | [], i, k, j, _, h, _ => by simp [tgX, plX] at h
  | (p, ids) :: ps, i, k, j, hn, h1, h2 => by
    have up : ∀ i, tgX ((p, ids) :: ps) (i + 1) = tgX ps i := fun i => by simp [tgX, plX]
    have z : tgX ((p, ids) :: ps) 0 = some j → ∀ i, tgX ps i = some j → False := by
      intro h0 i hi
      have hm := tgP_mem hi
      cases p <;> simp [tgX, plX] at h0
      subst h0
      simp only [tgP, List.nodup_cons] at hn
      exact hn.1 hm
    cases i with
    | zero =>
      cases k with
      | zero => rfl
      | succ k => rw [up] at h2; exact (z h1 k h2).elim
    | succ i =>
      rw [up] at h1
      cases k with
      | zero => exact (z h2 i h1).elim
      | succ k =>
        rw [up] at h2
        have hn' : (tgP ps).Nodup := by rw [tgP_cons] at hn; exact (List.nodup_append.1 hn).2.1
        rw [tgP_inj hn' h1 h2]
theorem evXR_sound {id : Nat} {ps : List (GB × List Nat)} {tl : List OpP} {S : List Nat} {env : Env} {w : World} {K : Exit → Env → World → Prop} {Q' : Exit → Act → World → Prop} (hok : okX P ops ps env.length = true) (hS : ∀ o ∈ ops.toList, ∀ d, o.dst = some d → d ∈ S)
    (hK : ∀ e env' w', K e env' w' → Ag S env env' → Q' e (act ds env') w') (h : evXR P ops ps tl K env w) : (Code.region id ops true).wp P Q' (act ds env) w := by
  simp only [okX, Bool.and_eq_true, decide_eq_true_eq, tgOk] at hok
  obtain ⟨hm, hone, htwo, ⟨htg, htgs⟩, hD, hTl, hlen, hdst⟩ := hok
  have honeK := oneK_spec hone
  have hone := oneX_spec hone
  have hkf := twoX_spec htwo
  have htyp : ∀ i j t r pl, plX ps i = .s j t r pl → plX ps j = .a t := by
    intro i j t r pl hi
    unfold plX at hi
    split at hi
    · rename_i p hp
      have := List.all_eq_true.1 htgs p (List.mem_of_getElem? hp)
      rw [hi] at this
      simp only at this
      split at this
      · rename_i t' ht'; simp only [decide_eq_true_eq] at this; rw [ht', this]
      · simp at this
    · simp at hi
  obtain ⟨Sp, Sc, Sh, Nf, N1, kq, ⟨h1, h2, h3⟩, hc1, hc2, hsh1, hsh2, hN, hcN, hcN1, hkq, h4⟩ : ∃ (Sp Sc Sh : World → World → Prop) (N N1 : World → Prop) (kq : Bool), SpOk Sp w ∧ (∀ a, Sc a a) ∧ (∀ a b, Sc a b → Sp a b) ∧ (∀ a b, Sh a b → Sp a b) ∧ (∀ a b, Sh a b → N1 b) ∧ N { w with drawn := w.drawn + 1 } ∧ (∀ a b, N a → Sc a b → N b) ∧ (∀ a b, N1 a → Sc a b → N1 b) ∧ kq = hasKX ps ∧ exX Sp Sc kq (ps.map (·.1)) fun gs =>
      evX P w.heap.size Sp Sc Sh N N1 w (fun ch w' => ∀ env' : Env, K (.panic ch) env' w') (gidsX ps) (fun env' w' => evL P ops K tl (ops.toList.drop ps.length) env' w') gs ps (ops.toList.take ps.length) env [] := by
    unfold evXR at h
    split at h
    · rename_i hk
      obtain ⟨Sp, h1, Sq, hq, N, hN, hN2, N1, hN1, h2⟩ := h
      exact ⟨Sp, Sq, Sn Sp N1, N, N1, true, h1, hq.1, hq.2, fun _ _ h => h.1, fun _ _ h => h.2, hN, hN2, hN1, hk.symm, h2⟩
    · rename_i hk
      split at h
      · obtain ⟨Sp, h1, h2⟩ := h
        exact ⟨Sp, Sp, Sp, fT, fT, false, h1, h1.1, fun _ _ h => h, fun _ _ h => h, fun _ _ _ => trivial, trivial, fun _ _ _ _ => trivial, fun _ _ _ _ => trivial, hk.symm, h2⟩
      · obtain ⟨Sp, h1, Sq, hq, N, hN, hN2, h2⟩ := h
        exact ⟨Sp, Sq, Sp, N, fT, false, h1, hq.1, hq.2, fun _ _ h => h, fun _ _ _ => trivial, hN, hN2, fun _ _ _ _ => trivial, hk.symm, h2⟩
  obtain ⟨gs, h5, h6, h7'⟩ := exX_out _ h4
  have hpl : ∀ i : Nat, i < ps.length → (ps.map (·.1))[i]? = some (plX ps i) := fun i hi => by
    unfold plX
    rw [List.getElem?_map, List.getElem?_eq_getElem hi]; rfl
  have hplt : ∀ i : Nat, isGX (plX ps i) = true → i < ps.length := fun i hi => by
    unfold plX at hi
    split at hi
    · rename_i p hp; exact (List.getElem?_eq_some_iff.1 hp).1
    · simp [isGX] at hi
  have h7 : ∀ (i : Nat) r G, isGX (plX ps i) = true → lastG kq (plX ps i) = false → gs[i]? = some (.f r G) → Kept Sp G := fun i r G hp hl hg => (h7' i _ r G (hpl i (hplt i hp)) hg).2 hl
  have h7l : ∀ (i : Nat) r G, isGX (plX ps i) = true → gs[i]? = some (.f r G) → Kept Sc G := fun i r G hp hg => by
    cases hl : lastG kq (plX ps i) with
    | true => exact (h7' i _ r G (hpl i (hplt i hp)) hg).1 hl
    | false => exact fun x a b hx hab => (h7' i _ r G (hpl i (hplt i hp)) hg).2 hl x a b hx (hc2 _ _ hab)
  have hsub : ∀ i a b, sgX Sp Sc ps i a b → Sp a b := fun i a b h => by
    unfold sgX at h
    cases hh : hotX ps i || hotK ps i with
    | true => rw [hh] at h; exact h
    | false => rw [hh] at h; exact hc2 _ _ h
  have hSV := evX_SV (ds := ds) (N := ps.length) (S := S) (env0 := env) (G0 := gs) (P0 := ps) (Nf := Nf) (N1f := N1) h1 hc1 hsh1 hsh2 htg hkf gs ps (ops.toList.take ps.length) env [] 0 rfl rfl rfl rfl (by simp) (by simp [tgs]) (h6 ps rfl) hdst (fun o ho => hS o (List.mem_of_mem_take ho)) (Ag.refl _ _) h5
  refine wp_region_any hm ?_
  have hleft : left ps.length (Array.replicate ops.size false) = List.range ps.length := by
    unfold left
    rw [List.filter_eq_self]
    intro i hi
    have := List.mem_range.1 hi
    simp only [Array.getD_eq_getD_getElem?]
    rw [Array.getElem?_replicate, if_pos (by omega)]; rfl
  have htake : (ops.toList.take ps.length).length = ps.length := by have e : ops.toList.length = ops.size := Array.length_toList; rw [List.length_take]; omega
  have := wpAny_of_SVX (P := P) (St := fun i => StX P w.heap.size (sgX Sp Sc ps i) N1 ps i) (C := cgX w.heap.size Sp w) (D := dgX ps) (T := TgX P gs ps) (m := (ops.toList.drop ps.length).length) (Q' := Q') (Qp := fun ch w' => ∀ env' : Env, K (.panic ch) env' w') (A := fun a => ∃ env', a = act ds env' ∧ Ag S env env') hlen hD hTl ?_ (fun j x y hx hxy => ⟨h2 _ _ _ hx.1 (hsub _ _ _ hxy.sp), Nat.le_trans hx.2.1 hxy.size, hxy.gi⟩) (fun i o hi ho a v ⟨env', ha, hag⟩ => ⟨put env' o.dst (.v v), by rw [ha]; exact act_put ds env' o.dst (.v v), hag.trans (Ag.put env' o.dst (.v v) (hS o (by rw [← Array.getElem?_toList] at ho; exact List.mem_of_getElem? ho)))⟩) (fun ch a w' ⟨env', ha, hag⟩ hq => by rw [ha]; exact hK _ _ _ (hq env') hag) (Q := fun a g => ∃ env', evL P ops K tl (ops.toList.drop ps.length) env' g.2 ∧ Ag S env env' ∧ a = act ds env') ?_ ps.length (Array.replicate ops.size false) (act ds env) ((fun _ => none, false), { w with drawn := w.drawn + 1 }) (fgX (iniX P Nf N1 ps) []) ⟨env, rfl, Ag.refl _ _⟩ (by simp) (fun k h1 h2 => by
      simp only [Array.getD_eq_getD_getElem?]; rw [Array.getElem?_replicate, if_pos h2]; rfl) (fun j o hj h => by
        have hj' := (Array.getElem?_eq_some_iff.1 hj).1
        simp only [Array.getD_eq_getD_getElem?] at h; rw [Array.getElem?_replicate, if_pos hj'] at h; simp at h) (by rw [hleft]; simp) ?_ ⟨h3, Nat.le_refl _, fun k b hk => by simp at hk, fun k l b hk => by simp at hk⟩ ?_ ?_
  · have e : ps.length + (ops.toList.drop ps.length).length = ops.size := by have e : ops.toList.length = ops.size := Array.length_toList; rw [List.length_drop]; omega
    rw [e] at this
    exact this
  · intro i s v φ ht j x y hji hx hxy
    unfold TgX at ht
    have quiet : hotX ps j = false → hotK ps j = false → Sc x.2 y.2 := fun e1 e2 => by
      have hs := hxy.sp
      unfold sgX at hs
      rw [e1, e2] at hs
      exact hs
    split at ht
    · rw [ht.2]; trivial
    · obtain ⟨b, _, rfl⟩ := ht
      exact hxy.more _ _ hx
    · rename_i j' t r pl hpl
      split at ht
      · rename_i r' G hi
        obtain ⟨z, _, rfl⟩ := ht
        obtain ⟨hG, b, hb, hc⟩ := hx
        refine ⟨h7 i r' G (by rw [hpl]; rfl) (by rw [hpl]; rfl) hi z _ _ hG (hsub _ _ _ hxy.sp), b, hxy.more _ _ hb, ?_⟩
        rw [hxy.keep _ _ hb fun e => hji (tgP_inj htg e (by unfold tgX; rw [hpl]))]
        exact hc
      · exact ht.elim
    · rename_i r pl hpl
      split at ht
      · rename_i r' G hi
        obtain ⟨z, _, rfl⟩ := ht
        refine ⟨?_, by rw [hxy.fl, hx.2]; simp⟩
        cases hl : lastG kq (plX ps i) with
        | false => exact h7 i r' G (by rw [hpl]; rfl) hl hi z _ _ hx.1 (hsub _ _ _ hxy.sp)
        | true =>
          cases hj : hotX ps j with
          | true => exact absurd (hone i j (by unfold hotX; rw [hpl]; rfl) hj).symm hji
          | false =>
            cases hj2 : hotK ps j with
            | true =>
              rw [hpl] at hl
              simp only [lastG, Bool.not_eq_true'] at hl
              rw [hkq] at hl
              have : hasKX ps = true := hasKX_of hj2
              rw [this] at hl; simp at hl
            | false => exact h7l i r' G (by rw [hpl]; rfl) hi z _ _ hx.1 (quiet hj hj2)
      · exact ht.elim
    · rename_i r pl hpl
      split at ht
      · rename_i r' G hi
        obtain ⟨z, _, rfl⟩ := ht
        refine ⟨?_, by rw [hxy.fl, hx.2]; simp⟩
        cases hj : hotX ps j with
        | true => have := (hxy.fh hj).2; rw [hx.2] at this; simp at this
        | false =>
          cases hj2 : hotK ps j with
          | true => exact absurd (honeK i j (by unfold hotK; rw [hpl]; rfl) hj2).symm hji
          | false => exact h7l i r' G (by rw [hpl]; rfl) hi z _ _ hx.1 (quiet hj hj2)
      · exact ht.elim
    · rename_i hn1 hn2 hn3 hn4 hn5
      split at ht
      · rename_i r' G hi
        obtain ⟨z, _, rfl⟩ := ht
        cases hpl : plX ps i with
        | g r pl => exact h7 i r' G (by rw [hpl]; rfl) (by rw [hpl]; rfl) hi z _ _ hx (hsub _ _ _ hxy.sp)
        | q => exact absurd hpl hn1
        | a t => exact absurd hpl (hn2 t)
        | s j t r p => exact absurd hpl (hn3 j t r p)
        | h r p => exact absurd hpl (hn4 r p)
        | k r p => exact absurd hpl (hn5 r p)
      · exact ht.elim
  · rintro a w' listed hsz ht hf ⟨env', hk, hag, rfl⟩
    exact wpAny_tail hD hTl hK tl (ops.toList.drop ps.length) ps.length listed env' w'.2 (Nat.le_refl _) rfl hsz (fun k h1 _ => ht k h1) hf (fun o ho => hS o (List.mem_of_mem_drop ho)) hag hk
  · rw [hleft, List.range_eq_range']
    rw [htake] at hSV
    exact hSV
  · intro k
    show iniX P Nf N1 ps k _
    unfold iniX
    cases plX ps k with
    | h r pl => exact ⟨hN, rfl⟩
    | k r pl => intro h; simp at h
    | a t => rfl
    | s j t r pl => intro b hb; simp at hb
    | _ => trivial
  · intro k j x y hjk hx hxy
    have hx : iniX P Nf N1 ps k x := hx
    show iniX P Nf N1 ps k y
    unfold iniX at hx ⊢
    have quiet : hotX ps j = false → hotK ps j = false → Sc x.2 y.2 := fun e1 e2 => by
      have hs := hxy.sp
      unfold sgX at hs
      rw [e1, e2] at hs
      exact hs
    cases hpk : plX ps k with
    | h r pl =>
      rw [hpk] at hx
      cases hj : hotX ps j with
      | true => exact absurd (hone k j (by unfold hotX; rw [hpk]; rfl) hj).symm hjk
      | false =>
        have hfl := hxy.fl
        rw [hj, Bool.false_or] at hfl
        cases hj2 : hotK ps j with
        | true => have := hxy.fk hj2; rw [hx.2] at this; simp at this
        | false => exact ⟨hcN _ _ hx.1 (quiet hj hj2), by rw [hfl]; exact hx.2⟩
    | k r pl =>
      rw [hpk] at hx
      intro hy
      cases hj : hotX ps j with
      | true => exact (hxy.fh hj).1
      | false =>
        have hfl := hxy.fl
        rw [hj, Bool.false_or] at hfl
        cases hj2 : hotK ps j with
        | true => exact absurd (honeK k j (by unfold hotK; rw [hpk]; rfl) hj2).symm hjk
        | false => exact hcN1 _ _ (hx (by rw [← hfl]; exact hy)) (quiet hj hj2)
    | a t =>
      rw [hpk] at hx
      show y.1.1 k = none
      rw [hxy.oth k (fun e => hjk e.symm)]; exact hx
    | s j' t r pl =>
      rw [hpk] at hx
      intro b hb
      rcases hxy.new j' b t (htyp _ _ _ _ _ hpk) hb with h | h
      · rw [hxy.keep _ _ h fun e => hjk (tgP_inj htg e (by unfold tgX; rw [hpk]))]
        exact hx b h
      · exact h
    | _ => trivial
end
end Go.Proofs.YtihllippchgkgaaGreat.V

/- The verification-condition generator: statements, joins, loops, calls. -/
namespace Go.Proofs.YtihllippchgkgaaGreat.V
open Go Go.RowKit

def writes : Code → List Nat
  | .region _ ops _ => ops.toList.filterMap (·.dst)
  | .seq a b => writes a ++ writes b
  | .cond _ a b => writes a ++ writes b
  | .block _ a => writes a
  | .loop a => writes a
  | _ => []
abbrev Ss' := List (Nat × Lf)
@[reducible] def TS : Ss' → Type
  | [] => Unit
  | s :: r => s.2.T × TS r
@[reducible] def Fn (R : Type) : Ss' → Type
  | [] => R
  | s :: r => s.2.T → Fn R r
def ap {R : Type} : (ss : Ss') → Fn R ss → TS ss → R
  | [], f, _ => f
  | _ :: r, f, t => ap r (f t.1) t.2
def All : (ss : Ss') → (TS ss → Prop) → Prop
  | [], p => p ()
  | s :: r, p => ∀ x : s.2.T, All r fun t => p (x, t)
theorem All.out : ∀ {ss : Ss'} {p : TS ss → Prop}, All ss p → ∀ t, p t
  | [], _, h, () => h
  | _ :: _, _, h, (x, t) => All.out (h x) t
def unS : (ss : Ss') → Env → Option (TS ss)
  | [], _ => some ()
  | s :: r, env => match s.2.un (env.getD s.1 u0).val, unS r env with
    | some x, some t => some (x, t)
    | _, _ => none
def slotVal : (ss : Ss') → TS ss → Nat → Option Value
  | [], _, _ => none
  | s :: r, t, i => match i == s.1 with
    | true => some (s.2.emb t.1)
    | false => slotVal r t.2 i
def reb (W : List Nat) (look : Nat → Option Value) (g : Nat → Value) : Nat → Env → Env
  | _, [] => []
  | i, e :: es => (match look i with
    | some v => .v v
    | none => match W.contains i with
      | true => .v (g i)
      | false => e) :: reb W look g (i + 1) es
theorem reb_length (W : List Nat) (look : Nat → Option Value) (g : Nat → Value) : ∀ (env : Env) (i : Nat), (reb W look g i env).length = env.length
  | [], _ => rfl
  | _ :: es, i => by simp [reb, reb_length W look g es (i + 1)]
theorem reb_get (W : List Nat) (look : Nat → Option Value) (g : Nat → Value) : ∀ (env : Env) (i j : Nat), j < env.length →
    ((reb W look g i env).getD j u0).val = match look (i + j) with
      | some v => v
      | none => match W.contains (i + j) with
        | true => g (i + j)
        | false => (env.getD j u0).val
  | [], _, _, h => by simp at h
  | e :: es, i, 0, _ => by
    simp only [reb, List.getD_cons_zero, Nat.add_zero]
    cases look i with
    | some v => rfl
    | none => cases W.contains i <;> rfl
  | e :: es, i, j + 1, h => by
    have := reb_get W look g es (i + 1) j (by simpa using h)
    simp only [reb, List.getD_cons_succ, this]
    rw [show i + 1 + j = i + (j + 1) by omega]
theorem slotVal_un : ∀ {ss : Ss'} {env : Env} {t : TS ss}, unS ss env = some t → ∀ i v, slotVal ss t i = some v → v = (env.getD i u0).val
  | [], _, _, _, _, _, h => by simp [slotVal] at h
  | s :: r, env, t, h, i, v, hv => by
    simp only [unS] at h
    split at h
    · rename_i x t' h1 h2
      simp only [Option.some.injEq] at h
      subst h
      simp only [slotVal] at hv
      split at hv
      · rename_i hi
        simp only [Option.some.injEq] at hv
        simp only [beq_iff_eq] at hi
        subst hi hv
        exact (Lf.un_emb h1).symm
      · exact slotVal_un h2 i v hv
    · simp at h
theorem getD_len {a b : Env} (hl : a.length = b.length) (i : Nat) (h : ¬ i < a.length) : (a.getD i u0).val = (b.getD i u0).val := by
  have h1 : a[i]? = none := List.getElem?_eq_none (by omega)
  have h2 : b[i]? = none := List.getElem?_eq_none (by omega)
  rw [List.getD_eq_getElem?_getD, List.getD_eq_getElem?_getD, h1, h2]
/-- What stands behind a piece of code is what 'reb' makes of what stood ahead of it. -/
theorem reb_act {ds : List Deferred} {W : List Nat} {ss : Ss'} {env env' : Env} {t : TS ss} (ha : Ag W env env') (hu : unS ss env' = some t) :
    act ds (reb W (slotVal ss t) (fun i => (env'.getD i u0).val) 0 env) = act ds env' := by
  refine act_congr (by rw [reb_length, ha.1]) (fun i => ?_)
  by_cases hi : i < env.length
  · rw [reb_get _ _ _ _ _ _ hi]
    simp only [Nat.zero_add]
    split
    · rename_i v hv; exact slotVal_un hu i v hv
    · split
      · rfl
      · rename_i hc
        have : i ∉ W := by simpa using hc
        exact (ha.2 i this).symm
  · exact getD_len (by rw [reb_length, ha.1]) i (by rw [reb_length]; omega)
theorem reb_ag {W : List Nat} {look : Nat → Option Value} {g : Nat → Value} {env : Env} (hl : ∀ i v, look i = some v → i ∈ W) : Ag W env (reb W look g 0 env) := by
  refine ⟨reb_length _ _ _ _ _, fun i hi => ?_⟩
  by_cases h : i < env.length
  · rw [reb_get _ _ _ _ _ _ h]
    simp only [Nat.zero_add]
    split
    · rename_i v hv; exact absurd (hl i v hv) hi
    · split
      · rename_i hc; exact absurd (by simpa using hc) hi
      · rfl
  · exact getD_len (reb_length _ _ _ _ _) i (by rw [reb_length]; omega)
def slotsIn (W : List Nat) : Ss' → Bool
  | [] => true
  | s :: r => W.contains s.1 && slotsIn W r
theorem slotsIn_spec {W : List Nat} : ∀ {ss : Ss'}, slotsIn W ss = true → ∀ (t : TS ss) i v, slotVal ss t i = some v → i ∈ W
  | [], _, _, _, _, h => by simp [slotVal] at h
  | s :: r, hs, t, i, v, h => by
    simp only [slotsIn, Bool.and_eq_true] at hs
    simp only [slotVal] at h
    split at h
    · rename_i hi
      simp only [beq_iff_eq] at hi
      subst hi
      simpa using hs.1
    · exact slotsIn_spec hs.2 _ i v h

def ev (P : Program) : Pl → Code → (Exit → Env → World → Prop) → Env → World → Prop
  | .z, c, K, env, w => match c with
    | .skip => K .normal env w
    | .label _ => K .normal env w
    | .exit id => K (.exit id) env w
    | .ret => K .ret env w
    | _ => False
  | .r ps, c, K, env, w => match c with
    | .region _ ops draw => match draw with
      | false => evL P ops K ps ops.toList env w
      | true => match P.follows .mixedOrders && Region.lexB .any ops with
        | true => evQ P ops (fun w' => Below w.heap.size w w') (fun env' => ∀ w', Below w.heap.size w w' → K .normal env' w') ps ops.toList env
        | false => False
    | _ => False
  | .g ps tl, c, K, env, w => match c with
    | .region _ ops draw => match draw with
      | true => match okR P ops ps env.length with
        | true => evR P ops ps tl K env w
        | false => False
      | false => False
    | _ => False
  | .x ps tl, c, K, env, w => match c with
    | .region _ ops draw => match draw with
      | true => match okX P ops ps env.length with
        | true => evXR P ops ps tl K env w
        | false => False
      | false => False
    | _ => False
  | .s pa pb, c, K, env, w => match c with
    | .seq a b => ev P pa a (fun e env' w' => match e with
      | .normal => ev P pb b K env' w'
      | .exit id => K (.exit id) env' w'
      | .goto l => K (.goto l) env' w'
      | .ret => K .ret env' w'
      | .panic ch => K (.panic ch) env' w'
      | .outgrown => K .outgrown env' w') env w
    | _ => False
  | .j ss pa pb, c, K, env, w => match c with
    | .seq a b => ∃ J : Fn (World → Prop) ss,
      ev P pa a (fun e env' w' => match e with
        | .normal => (match unS ss env' with
          | some xs => ap ss J xs w'
          | none => False)
        | .exit id => K (.exit id) env' w'
        | .goto l => K (.goto l) env' w'
        | .ret => K .ret env' w'
        | .panic ch => K (.panic ch) env' w'
        | .outgrown => K .outgrown env' w') env w ∧
      All ss fun xs => ∀ w', ap ss J xs w' → ∀ g : Nat → Value, ev P pb b K (reb (writes a) (slotVal ss xs) g 0 env) w'
    | _ => False
  | .c pa pb, c, K, env, w => match c with
    | .cond x a b => match evO env x with
      | .b t => match t with
        | true => ev P pa a K env w
        | false => ev P pb b K env w
      | .v (.bool t) => (t = true → ev P pa a K env w) ∧ (t = false → ev P pb b K env w)
      | .v _ => False
    | _ => False
  | .b p, c, K, env, w => match c with
    | .block id a => ev P p a (fun e env' w' => match e with
      | .exit id' => (match id' == id with
        | true => K .normal env' w'
        | false => K (.exit id') env' w')
      | .normal => K .normal env' w'
      | .goto l => K (.goto l) env' w'
      | .ret => K .ret env' w'
      | .panic ch => K (.panic ch) env' w'
      | .outgrown => K .outgrown env' w') env w
    | _ => False
  | .l ss p, c, K, env, w => match c with
    | .loop a => match slotsIn (writes a) ss with
      | true => ∃ (I : Fn (World → Prop) ss) (μ : Fn (World → Nat) ss),
        (match unS ss env with
          | some xs => ap ss I xs w
          | none => False) ∧
        All ss fun xs => ∀ w', ap ss I xs w' → ∀ g : Nat → Value, ev P p a (fun e env' w'' => match e with
          | .normal => (match unS ss env' with
            | some ys => ap ss I ys w'' ∧ ap ss μ ys w'' < ap ss μ xs w'
            | none => False)
          | .exit id => K (.exit id) env' w''
          | .goto l => K (.goto l) env' w''
          | .ret => K .ret env' w''
          | .panic ch => K (.panic ch) env' w''
          | .outgrown => K .outgrown env' w'') (reb (writes a) (slotVal ss xs) g 0 env) w'
      | false => False
    | _ => False

theorem wp_loop_typed {P : Program} {Q : Exit → Act → World → Prop} {c : Code} {σ : Type} (F : σ → Act) (I : σ → World → Prop) (μ : σ → World → Nat)
    (round : ∀ s w, I s w → c.wp P (Exit.then (fun a' w' => ∃ s', a' = F s' ∧ I s' w' ∧ μ s' w' < μ s w) Q) (F s) w) (s : σ) (w : World) (h : I s w) : (Code.loop c).wp P Q (F s) w := by
  intro b k cs
  have key : ∀ n s w, μ s w = n → I s w → ∃ e a' w', Q e a' w' ∧ Arrives P (lone (b.at (F s) (.code c :: .inLoop c :: k)) cs w) b k cs e a' w' := by
    intro n
    induction n using Nat.strongRecOn with
    | _ n ih =>
      intro s w hn hI
      obtain ⟨e, a₁, w₁, hq, harr⟩ := round s w hI b (.inLoop c :: k) cs
      cases e with
      | normal =>
        obtain ⟨s', rfl, hI₁, hlt⟩ := hq
        obtain ⟨e₂, a₂, w₂, hq₂, harr₂⟩ := ih (μ s' w₁) (hn ▸ hlt) s' w₁ rfl hI₁
        exact ⟨e₂, a₂, w₂, hq₂, .of_steps (Steps.trans harr (.one step_inLoop)) harr₂⟩
      | exit id => exact ⟨_, a₁, w₁, hq, .pass (x := .inLoop c) rfl (fun _ _ => .inl (by simp)) harr⟩
      | goto l => exact ⟨_, a₁, w₁, hq, .pass (x := .inLoop c) rfl (fun _ _ => .inl (by simp)) harr⟩
      | ret => exact ⟨_, a₁, w₁, hq, .pass (x := .inLoop c) rfl (fun _ _ => .inl (by simp)) harr⟩
      | panic ch => exact ⟨_, a₁, w₁, hq, .pass (x := .inLoop c) rfl (fun _ _ => .inl (by simp)) harr⟩
      | outgrown => exact ⟨_, a₁, w₁, hq, .pass (x := .inLoop c) rfl (fun _ _ => .inl (by simp)) harr⟩
  obtain ⟨e, a', w', hq, harr⟩ := key _ s w rfl h
  exact ⟨e, a', w', hq, .of_steps (.one step_loop) harr⟩

section
variable {P : Program} {ds : List Deferred}
theorem ev_sound : ∀ (p : Pl) (c : Code) (K : Exit → Env → World → Prop) (Q : Exit → Act → World → Prop) (env : Env) (w : World),
    (∀ e env' w', K e env' w' → Ag (writes c) env env' → Q e (act ds env') w') → ev P p c K env w → c.wp P Q (act ds env) w
  | .z, c, K, Q, env, w, hK, h => by
    cases c with
    | skip => exact wp_skip (hK _ _ _ h (Ag.refl _ _))
    | label l => exact wp_label (hK _ _ _ h (Ag.refl _ _))
    | exit id => exact wp_exit (hK _ _ _ h (Ag.refl _ _))
    | ret => exact wp_ret (hK _ _ _ h (Ag.refl _ _))
    | _ => exact h.elim
  | .r ps, c, K, Q, env, w, hK, h => by
    cases c with
    | region id ops draw =>
      have hS : ∀ o ∈ ops.toList, ∀ d, o.dst = some d → d ∈ writes (.region id ops draw) := fun o ho d hd => List.mem_filterMap.2 ⟨o, ho, hd⟩
      cases draw with
      | false =>
        refine wp_region_list (evL_sound (S := writes (.region id ops false)) (env0 := env) hK ps ops.toList env w ?_ (Ag.refl _ _) h)
        exact hS
      | true =>
        simp only [ev] at h
        split at h
        · rename_i hb
          simp only [Bool.and_eq_true] at hb
          refine wp_region_quiet (C := fun w' => Below w.heap.size w w') hb.1 hb.2 (Below.drew (Below.refl _ _)) ?_
          exact evQ_sound (S := writes (.region id ops true)) (env0 := env) (fun env' hk hag w' hw' => hK _ _ _ (hk w' hw') hag) ps ops.toList env hS (Ag.refl _ _) h
        · exact h.elim
    | _ => exact h.elim
  | .g ps tl, c, K, Q, env, w, hK, h => by
    cases c with
    | region id ops draw =>
      have hS : ∀ o ∈ ops.toList, ∀ d, o.dst = some d → d ∈ writes (.region id ops draw) := fun o ho d hd => List.mem_filterMap.2 ⟨o, ho, hd⟩
      cases draw with
      | false => exact h.elim
      | true =>
        simp only [ev] at h
        split at h
        · rename_i hb
          exact evR_sound (S := writes (.region id ops true)) hb hS hK h
        · exact h.elim
    | _ => exact h.elim
  | .x ps tl, c, K, Q, env, w, hK, h => by
    cases c with
    | region id ops draw =>
      have hS : ∀ o ∈ ops.toList, ∀ d, o.dst = some d → d ∈ writes (.region id ops draw) := fun o ho d hd => List.mem_filterMap.2 ⟨o, ho, hd⟩
      cases draw with
      | false => exact h.elim
      | true =>
        simp only [ev] at h
        split at h
        · rename_i hb
          exact evXR_sound (S := writes (.region id ops true)) hb hS hK h
        · exact h.elim
    | _ => exact h.elim
  | .s pa pb, c, K, Q, env, w, hK, h => by
    cases c with
    | seq a b =>
      refine wp_seq (ev_sound pa a _ _ env w ?_ h)
      intro e env' w' hk hag
      have hag' : Ag (writes (.seq a b)) env env' := hag.mono fun i hi => List.mem_append_left _ hi
      cases e with
      | normal =>
        exact ev_sound pb b K Q env' w' (fun e env2 w2 h2 hag2 => hK _ _ _ h2 (hag'.trans (hag2.mono fun i hi => List.mem_append_right _ hi))) hk
      | exit id => exact hK _ _ _ hk hag'
      | goto l => exact hK _ _ _ hk hag'
      | ret => exact hK _ _ _ hk hag'
      | panic ch => exact hK _ _ _ hk hag'
      | outgrown => exact hK _ _ _ hk hag'
    | _ => exact h.elim
  | .j ss pa pb, c, K, Q, env, w, hK, h => by
    cases c with
    | seq a b =>
      obtain ⟨J, h1, h2⟩ := h
      refine wp_seq (ev_sound pa a _ _ env w ?_ h1)
      intro e env' w' hk hag
      have hag' : Ag (writes (.seq a b)) env env' := hag.mono fun i hi => List.mem_append_left _ hi
      cases e with
      | normal =>
        simp only at hk
        split at hk
        · rename_i xs hu
          have h3 := h2.out xs w' hk (fun i => (env'.getD i u0).val)
          have he := reb_act (ds := ds) hag hu
          have := ev_sound pb b K Q _ w' (fun e env2 w2 h4 hag2 => hK _ _ _ h4 ?_) h3
          · rw [he] at this; exact this
          · refine Ag.trans (b := reb (writes a) (slotVal ss xs) (fun i => (env'.getD i u0).val) 0 env) ?_ (hag2.mono fun i hi => List.mem_append_right _ hi)
            refine ⟨reb_length _ _ _ _ _, fun i hi => ?_⟩
            by_cases hl : i < env.length
            · rw [reb_get _ _ _ _ _ _ hl]
              simp only [Nat.zero_add]
              split
              · rename_i v hv; rw [slotVal_un hu i v hv]; exact hag'.2 i hi
              · split
                · exact hag'.2 i hi
                · rfl
            · exact getD_len (reb_length _ _ _ _ _) i (by rw [reb_length]; omega)
        · exact hk.elim
      | exit id => exact hK _ _ _ hk hag'
      | goto l => exact hK _ _ _ hk hag'
      | ret => exact hK _ _ _ hk hag'
      | panic ch => exact hK _ _ _ hk hag'
      | outgrown => exact hK _ _ _ hk hag'
    | _ => exact h.elim
  | .c pa pb, c, K, Q, env, w, hK, h => by
    cases c with
    | cond x a b =>
      have hl : ∀ e env' w', K e env' w' → Ag (writes a) env env' → Q e (act ds env') w' := fun e env' w' hk hag => hK _ _ _ hk (hag.mono fun i hi => List.mem_append_left _ hi)
      have hr : ∀ e env' w', K e env' w' → Ag (writes b) env env' → Q e (act ds env') w' := fun e env' w' hk hag => hK _ _ _ hk (hag.mono fun i hi => List.mem_append_right _ hi)
      simp only [ev] at h
      split at h
      · rename_i t hx
        have hc : (act ds env).eval x = .bool t := by rw [act_eval, rho, hx]; rfl
        split at h
        · exact wp_cond hc (ev_sound pa a K Q env w hl h)
        · exact wp_cond hc (ev_sound pb b K Q env w hr h)
      · rename_i t hx
        have hc : (act ds env).eval x = .bool t := by rw [act_eval, rho, hx]; rfl
        exact wp_cond_split hc (fun ht => ev_sound pa a K Q env w hl (h.1 ht)) (fun ht => ev_sound pb b K Q env w hr (h.2 ht))
      · exact h.elim
    | _ => exact h.elim
  | .b p, c, K, Q, env, w, hK, h => by
    cases c with
    | block id a =>
      refine wp_block (ev_sound p a _ _ env w ?_ h)
      intro e env' w' hk hag
      cases e with
      | exit id' =>
        simp only at hk
        simp only [Exit.inBlock]
        split at hk
        · rename_i hh; rw [if_pos (by simpa using hh)]; exact hK _ _ _ hk hag
        · rename_i hh; rw [if_neg (by simpa using hh)]; exact hK _ _ _ hk hag
      | normal => exact hK _ _ _ hk hag
      | goto l => exact hK _ _ _ hk hag
      | ret => exact hK _ _ _ hk hag
      | panic ch => exact hK _ _ _ hk hag
      | outgrown => exact hK _ _ _ hk hag
    | _ => exact h.elim
  | .l ss p, c, K, Q, env, w, hK, h => by
    cases c with
    | loop a =>
      simp only [ev] at h
      split at h
      · rename_i hin
        obtain ⟨I, μ, h0, h1⟩ := h
        split at h0
        · rename_i xs0 hu0
          have e0 : act ds env = act ds (reb (writes a) (slotVal ss xs0) (fun i => (env.getD i u0).val) 0 env) := (reb_act (Ag.refl _ _) hu0).symm
          rw [e0]
          refine wp_loop_typed (σ := TS ss × (Nat → Value)) (fun s => act ds (reb (writes a) (slotVal ss s.1) s.2 0 env)) (fun s w => ap ss I s.1 w) (fun s w => ap ss μ s.1 w) ?_ (xs0, fun i => (env.getD i u0).val) w h0
          rintro ⟨xs, g⟩ w' hI
          have hag0 : Ag (writes a) env (reb (writes a) (slotVal ss xs) g 0 env) := reb_ag (slotsIn_spec hin xs)
          refine ev_sound p a _ _ _ w' ?_ (h1.out xs w' hI g)
          intro e env' w2 hk hag
          have hag' : Ag (writes a) env env' := hag0.trans hag
          cases e with
          | normal =>
            simp only at hk
            split at hk
            · rename_i ys hu
              exact ⟨(ys, fun i => (env'.getD i u0).val), (reb_act hag' hu).symm, hk.1, hk.2⟩
            · exact hk.elim
          | exit id => exact hK _ _ _ hk hag'
          | goto l => exact hK _ _ _ hk hag'
          | ret => exact hK _ _ _ hk hag'
          | panic ch => exact hK _ _ _ hk hag'
          | outgrown => exact hK _ _ _ hk hag'
        · exact h0.elim
      · exact h.elim
    | _ => exact h.elim
end

/-- What a function hands back. -/
def resK (P : Program) : List ResultVar → (τs : List Ty) → Env → World → (Tys τs → Prop) → Prop
  | [], [], _, _, k => k ()
  | .tmp t :: rs, τ :: τs, env, w, k => match τ.un (env.getD t u0).val with
    | some x => resK P rs τs env w fun xs => k (x, xs)
    | none => False
  | .cell a ty :: rs, τ :: τs, env, w, k => match (env.getD a u0).val with
    | .pointer (some ad) => match τ with
      | .lf l => if aggT P ty = some false then Ld l ad w fun x _ => resK P rs τs env w fun xs => k (x, xs) else False
      | .ag ls => if aggT P ty = some true && szOf P ty = some ls.length then LdA ls ad w fun x _ => resK P rs τs env w fun xs => k (x, xs) else False
    | _ => False
  | _, _, _, _, _ => False
@[reducible] def Rs.tys : Rs → List Ty
  | .z => []
  | .o τ => [τ]
  | .n τs => τs
def Rs.of : (r : Rs) → Tys r.tys → r.T
  | .z, _ => ()
  | .o _, t => t.1
  | .n _, t => t
def Rs.fine : Rs → Bool
  | .n [_] => false
  | _ => true
def top (P : Program) (rs : List ResultVar) (r : Rs) (K : r.T → World → Prop) (Kp : List PanicEntry → World → Prop) : Exit → Env → World → Prop
  | .normal, env, w => resK P rs r.tys env w fun t => K (r.of t) w
  | .ret, env, w => resK P rs r.tys env w fun t => K (r.of t) w
  | .panic ch, _, w => Kp ch w
  | _, _, _ => False
def code (fn : Func) : Code := fn.body.getD .skip
theorem cells_length : ∀ (ls : List Lf) (x : Tup ls), (Tup.cells ls x).length = ls.length
  | [], _ => rfl
  | l :: ls, x => by simp [Tup.cells, cells_length ls]
def resF (tmps : Array Value) : ResultVar → Sem Value
  | .tmp t => pure (tmps.getD t undef)
  | .cell a t => do loadVar t (← asAddr (tmps.getD a undef))
theorem results_eq (fn : Func) (tmps : Array Value) : results fn tmps = (do
    let vs ← fn.results.mapM (resF tmps)
    pure (if h : vs.size = 1 then vs[0] else .tuple vs)) := by
  unfold results
  congr 1
theorem resK_run {P : Program} {ds : List Deferred} {env : Env} {w : World} : ∀ {rs : List ResultVar} {τs : List Ty} {k : Tys τs → Prop}, resK P rs τs env w k →
    ∃ t, k t ∧ (rs.mapM (resF (act ds env).tmps)).run P w = .ok (Tys.vals τs t) w
  | [], [], _, h => ⟨(), h, by simp [Tys.vals]⟩
  | [], _ :: _, _, h => h.elim
  | .tmp t :: rs, [], _, h => h.elim
  | .cell a ty :: rs, [], _, h => h.elim
  | .tmp t :: rs, τ :: τs, k, h => by
    simp only [resK] at h
    split at h
    · rename_i x hx
      obtain ⟨t', hk, hr⟩ := resK_run (ds := ds) h
      refine ⟨(x, t'), hk, ?_⟩
      have : (act ds env).tmps.getD t undef = τ.emb x := by
        rw [← Ty.un_emb hx]
        exact congrFun (act_eval ds env) (.tmp t)
      simp only [List.mapM_cons, Sem.run_bind, resF, Sem.run_pure, Result.andThen_ok, this, hr, Tys.vals]
    · exact h.elim
  | .cell a ty :: rs, τ :: τs, k, h => by
    simp only [resK] at h
    split at h
    · rename_i ad ha
      have hta : (asAddr ((act ds env).tmps.getD a undef)).run P w = .ok ad w := by
        have : (act ds env).tmps.getD a undef = .pointer (some ad) := by
          rw [← ha]
          exact congrFun (act_eval ds env) (.tmp a)
        rw [this]; rfl
      cases τ with
      | lf l =>
        simp only at h
        split at h
        · rename_i hag
          obtain ⟨x, hx, h⟩ := h
          obtain ⟨t', hk, hr⟩ := resK_run (ds := ds) h
          refine ⟨(x, t'), hk, ?_⟩
          simp only [List.mapM_cons, Sem.run_bind, resF, hta, Sem.run_pure, Result.andThen_ok, run_loadLf hag hx, hr, Tys.vals, Ty.emb]
        · exact h.elim
      | ag ls =>
        simp only at h
        split at h
        · rename_i hag
          simp only [Bool.and_eq_true, decide_eq_true_eq] at hag
          obtain ⟨x, hx, h⟩ := h
          obtain ⟨t', hk, hr⟩ := resK_run (ds := ds) h
          refine ⟨(x, t'), hk, ?_⟩
          simp only [List.mapM_cons, Sem.run_bind, resF, hta, Sem.run_pure, Result.andThen_ok, run_loadAg hag.1 ((cells_length ls x) ▸ hag.2) hx, hr, Tys.vals, Ty.emb]
        · exact h.elim
    · exact h.elim
theorem vals_length : ∀ (τs : List Ty) (t : Tys τs), (Tys.vals τs t).length = τs.length
  | [], _ => rfl
  | τ :: τs, t => by simp [Tys.vals, vals_length τs]
theorem results_run {P : Program} {ds : List Deferred} {env : Env} {w : World} {fn : Func} {r : Rs} (hr : r.fine = true) {k : r.T → World → Prop}
    (h : resK P fn.results.toList r.tys env w fun t => k (r.of t) w) : ∃ x, k x w ∧ (results fn (act ds env).tmps).run P w = .ok (r.emb x) w := by
  obtain ⟨t, hk, hrun⟩ := resK_run (ds := ds) h
  refine ⟨r.of t, hk, ?_⟩
  rw [results_eq]
  have hm : fn.results.mapM (resF (act ds env).tmps) = List.toArray <$> fn.results.toList.mapM (resF (act ds env).tmps) := by
    conv => lhs; rw [← Array.toArray_toList (xs := fn.results)]
    rw [List.mapM_toArray]
  rw [hm]
  simp only [Sem.run_bind, Sem.run_map, hrun]
  simp only [Result.andThen_ok, Sem.run_pure, List.size_toArray, vals_length]
  cases r with
  | z => simp [Rs.tys, Rs.emb, Tys.vals]
  | o τ => simp [Rs.tys, Rs.emb, Rs.of, Tys.vals]
  | n τs =>
    have hn : τs.length ≠ 1 := by
      match τs, hr with
      | [], _ => simp
      | _ :: _ :: _, _ => simp
    simp [Rs.tys, hn, Rs.emb, Rs.of]

/-- The verification condition of a call. -/
@[irreducible] def VC (P : Program) (fn : Func) (pl : Pl) (r : Rs) (args : List Value) (w : World) (K : r.T → World → Prop) (Kp : List PanicEntry → World → Prop) : Prop :=
  ev P pl (code fn) (top P fn.results.toList r K Kp) (args.map EV.v ++ List.replicate (fn.ntmps - args.length) u0) w
theorem callP_of {P : Program} {f : FuncId} {fn : Func} (hf : P.funcs[f]? = some fn) (hb : fn.body.isSome = true) {pl : Pl} {r : Rs} (hr : r.fine = true) {args : List Value} {w : World} {K : r.T → World → Prop} {Kp : List PanicEntry → World → Prop}
    (h : VC P fn pl r args w K Kp) : CallP r P f args w K Kp := by
  obtain ⟨c, hc⟩ := Option.isSome_iff_exists.1 hb
  have hcode : code fn = c := by simp [code, hc]
  unfold VC at h
  rw [hcode] at h
  refine calls_of_wp hf hc ?_
  have he : act [] (args.map EV.v ++ List.replicate (fn.ntmps - args.length) u0) = { tmps := args.toArray ++ Array.replicate (fn.ntmps - args.toArray.size) undef, defers := [] } := by
    simp only [act, Act.mk.injEq, and_true]
    rw [← Array.toList_inj]
    have e2 : (EV.val ∘ EV.v) = id := rfl
    simp [u0, EV.val, e2]
  rw [← he]
  refine ev_sound pl c _ _ _ w ?_ h
  intro e env' w' hk _
  cases e with
  | normal =>
    obtain ⟨x, hx, hr⟩ := results_run (ds := []) hr hk
    exact ⟨rfl, _, hr, .inl ⟨x, rfl, hx⟩⟩
  | ret =>
    obtain ⟨x, hx, hr⟩ := results_run (ds := []) hr hk
    exact ⟨rfl, _, hr, .inl ⟨x, rfl, hx⟩⟩
  | panic ch => exact ⟨rfl, .inr ⟨ch, rfl, hk⟩⟩
  | exit id => exact hk.elim
  | goto l => exact hk.elim
  | outgrown => exact hk.elim
def noP : List PanicEntry → World → Prop := fun _ _ => False
theorem call_of {P : Program} {f : FuncId} {fn : Func} (hf : P.funcs[f]? = some fn) (hb : fn.body.isSome = true) {pl : Pl} {r : Rs} (hr : r.fine = true) {args : List Value} {w : World} {K : r.T → World → Prop}
    (h : VC P fn pl r args w K noP) : CallT r P f args w K :=
  (callP_of hf hb hr h).mono fun _ _ => fun
    | .inl h => h
    | .inr ⟨_, _, h⟩ => h.elim
theorem CallT.mono {P : Program} {f : FuncId} {r : Rs} {args : List Value} {w : World} {K K' : r.T → World → Prop} (h : CallT r P f args w K) (hk : ∀ x w', K x w' → K' x w') : CallT r P f args w K' :=
  Calls.mono h fun _ _ ⟨x, he, hx⟩ => ⟨x, he, hk _ _ hx⟩
end Go.Proofs.YtihllippchgkgaaGreat.V
