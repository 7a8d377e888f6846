/- A verification-condition generator over the model's code: 'ev' is a Lean function; 'sound' proves that what it asks suffices for a call. -/
import Derived.WalkKit
import Derived.KernelRfl
namespace Go.Proofs.Ytdgnojjemlfhdaa.V
open Go Go.RowKit

inductive Lf where
  | i (k : IntKind) | b | s | sl | p | ad | m | any | fn (f n : Nat) | yl
structure Sl where
  a : Option Addr
  n : Nat
  c : Nat
/-- The boxes that a function value has captured. -/
@[reducible] def AdT : Nat → Type
  | 0 => Unit
  | n + 1 => Addr × AdT n
def AdT.vals : (n : Nat) → AdT n → List Value
  | 0, _ => []
  | n + 1, t => .pointer (some t.1) :: AdT.vals n t.2
def AdT.un : (n : Nat) → List Value → Option (AdT n)
  | 0, [] => some ()
  | n + 1, .pointer (some a) :: vs => match AdT.un n vs with
    | some t => some (a, t)
    | none => none
  | _, _ => none
theorem AdT.un_vals : ∀ {n : Nat} {vs : List Value} {t : AdT n}, AdT.un n vs = some t → vs = AdT.vals n t
  | 0, [], _, _ => rfl
  | 0, _ :: _, _, h => by simp [AdT.un] at h
  | n + 1, [], _, h => by simp [AdT.un] at h
  | n + 1, v :: vs, t, h => by
    cases v with
    | pointer a =>
      cases a with
      | none => simp [AdT.un] at h
      | some a =>
        simp only [AdT.un] at h
        split at h
        · rename_i u hu
          simp only [Option.some.injEq] at h
          subst h
          rw [AdT.vals, ← AdT.un_vals hu]
        · simp at h
    | _ => simp [AdT.un] at h
@[reducible] def Lf.T : Lf → Type
  | .i _ => Int | .b => Bool | .s => ByteArray | .sl => Sl | .p => Option Addr | .ad => Addr | .m => Option Nat | .any => Value | .fn _ n => AdT n | .yl => Nat
def Lf.emb : (l : Lf) → l.T → Value
  | .i k, n => .int k n
  | .b, x => .bool x
  | .s, x => .string x
  | .sl, x => .slice x.a x.n x.c
  | .p, a => .pointer a
  | .ad, a => .pointer (some a)
  | .m, r => .map r
  | .any, v => v
  | .fn f n, t => .func (.func f) #[] (AdT.vals n t).toArray
  | .yl, l => .func (.yield l) #[] #[]
def Lf.un : (l : Lf) → Value → Option l.T
  | .i k, .int k' n => if k = k' then some n else none
  | .b, .bool x => some x
  | .s, .string x => some x
  | .sl, .slice a n c => some ⟨a, n, c⟩
  | .p, .pointer a => some a
  | .ad, .pointer (some a) => some a
  | .m, .map r => some r
  | .any, v => some v
  | .fn f n, .func (.func g) ⟨[]⟩ c => if f = g then AdT.un n c.toList else none
  | .yl, .func (.yield l) ⟨[]⟩ ⟨[]⟩ => some l
  | _, _ => none
theorem Lf.un_emb {l : Lf} {v : Value} {x : l.T} (h : l.un v = some x) : v = l.emb x := by
  cases l with
  | i k =>
    cases v <;> simp only [Lf.un] at h <;> first | (split at h <;> simp_all [Lf.emb]) | simp at h
  | b => cases v <;> simp_all [Lf.un, Lf.emb]
  | s => cases v <;> simp_all [Lf.un, Lf.emb]
  | sl =>
    cases v <;> simp only [Lf.un, Option.some.injEq, reduceCtorEq] at h
    subst h; rfl
  | p => cases v <;> simp_all [Lf.un, Lf.emb]
  | ad =>
    cases v with
    | pointer a => cases a <;> simp_all [Lf.un, Lf.emb]
    | _ => simp [Lf.un] at h
  | m => cases v <;> simp_all [Lf.un, Lf.emb]
  | any => simp_all [Lf.un, Lf.emb]
  | fn f n =>
    cases v with
    | func g fs c =>
      obtain ⟨fs⟩ := fs
      cases g <;> cases fs <;> simp only [Lf.un] at h <;> try (simp at h)
      obtain ⟨hf, h⟩ := h
      subst hf; rw [Lf.emb, ← AdT.un_vals h]
    | _ => simp [Lf.un] at h
  | yl =>
    cases v with
    | func g fs c =>
      obtain ⟨fs⟩ := fs
      obtain ⟨c⟩ := c
      cases g <;> cases fs <;> cases c <;> simp only [Lf.un] at h <;> try (simp at h)
      subst h; rfl
    | _ => simp [Lf.un] at h

@[reducible] def Tup : List Lf → Type
  | [] => Unit
  | l :: ls => l.T × Tup ls
def Tup.cells : (ls : List Lf) → Tup ls → List Value
  | [], _ => []
  | l :: ls, t => l.emb t.1 :: Tup.cells ls t.2
def Tup.un : (ls : List Lf) → List Value → Option (Tup ls)
  | [], [] => some ()
  | l :: ls, v :: vs => match l.un v, Tup.un ls vs with
    | some x, some xs => some (x, xs)
    | _, _ => none
  | _, _ => none
theorem Tup.un_cells : ∀ {ls : List Lf} {vs : List Value} {t : Tup ls}, Tup.un ls vs = some t → vs = Tup.cells ls t
  | [], [], _, _ => rfl
  | [], _ :: _, _, h => by simp [Tup.un] at h
  | _ :: _, [], _, h => by simp [Tup.un] at h
  | l :: ls, v :: vs, t, h => by
    simp only [Tup.un] at h
    split at h
    · rename_i x xs h1 h2
      simp only [Option.some.injEq] at h
      subst h
      rw [Tup.cells, ← Lf.un_emb h1, ← Tup.un_cells h2]
    · simp at h

inductive Ty where
  | lf (l : Lf) | ag (ls : List Lf)
@[reducible] def Ty.T : Ty → Type
  | .lf l => l.T
  | .ag ls => Tup ls
def Ty.emb : (τ : Ty) → τ.T → Value
  | .lf l, x => l.emb x
  | .ag ls, x => .agg (Tup.cells ls x).toArray
def Ty.un : (τ : Ty) → Value → Option τ.T
  | .lf l, v => l.un v
  | .ag ls, .agg cs => Tup.un ls cs.toList
  | .ag _, _ => none
theorem Ty.un_emb {τ : Ty} {v : Value} {x : τ.T} (h : τ.un v = some x) : v = τ.emb x := by
  cases τ with
  | lf l => exact Lf.un_emb h
  | ag ls =>
    cases v <;> simp only [Ty.un] at h <;> try (simp at h)
    rename_i cs
    rw [Ty.emb, ← Tup.un_cells h]

@[reducible] def Tys : List Ty → Type
  | [] => Unit
  | τ :: τs => τ.T × Tys τs
def Tys.vals : (τs : List Ty) → Tys τs → List Value
  | [], _ => []
  | τ :: τs, t => τ.emb t.1 :: Tys.vals τs t.2
def Tys.un : (τs : List Ty) → List Value → Option (Tys τs)
  | [], [] => some ()
  | τ :: τs, v :: vs => match τ.un v, Tys.un τs vs with
    | some x, some xs => some (x, xs)
    | _, _ => none
  | _, _ => none
theorem Tys.un_vals : ∀ {τs : List Ty} {vs : List Value} {t : Tys τs}, Tys.un τs vs = some t → vs = Tys.vals τs t
  | [], [], _, _ => rfl
  | [], _ :: _, _, h => by simp [Tys.un] at h
  | _ :: _, [], _, h => by simp [Tys.un] at h
  | τ :: τs, v :: vs, t, h => by
    simp only [Tys.un] at h
    split at h
    · rename_i x xs h1 h2
      simp only [Option.some.injEq] at h
      subst h
      rw [Tys.vals, ← Ty.un_emb h1, ← Tys.un_vals h2]
    · simp at h
/-- What a call hands back: nothing, one value, or several. -/
inductive Rs where
  | z | o (τ : Ty) | n (τs : List Ty)
@[reducible] def Rs.T : Rs → Type
  | .z => Unit
  | .o τ => τ.T
  | .n τs => Tys τs
def Rs.emb : (r : Rs) → r.T → Value
  | .z, _ => .tuple #[]
  | .o τ, x => τ.emb x
  | .n τs, x => .tuple (Tys.vals τs x).toArray
def Rs.unL : (r : Rs) → List Value → Option r.T
  | .z, [] => some ()
  | .o τ, [v] => τ.un v
  | .n τs, vs => Tys.un τs vs
  | _, _ => none

def CallT (r : Rs) (P : Program) (f : FuncId) (args : List Value) (w : World) (K : r.T → World → Prop) : Prop :=
  Calls P f args.toArray w (fun e w' => ∃ x, e = .returned (r.emb x) ∧ K x w')
def CallP (r : Rs) (P : Program) (f : FuncId) (args : List Value) (w : World) (K : r.T → World → Prop) (Kp : List PanicEntry → World → Prop) : Prop :=
  Calls P f args.toArray w (fun e w' => (∃ x, e = .returned (r.emb x) ∧ K x w') ∨ ∃ ch, e = .panicked ch ∧ Kp ch w')
def RunT (r : Rs) (P : Program) (s : Sem Value) (w : World) (K : r.T → World → Prop) : Prop := ∃ x w', s.run P w = .ok (r.emb x) w' ∧ K x w'
def RunU (P : Program) (s : Sem Unit) (w : World) (K : World → Prop) : Prop := ∃ w', s.run P w = .ok () w' ∧ K w'

/-- A slot's value; 'b': a bool that is known. -/
inductive EV where
  | v (x : Value) | b (t : Bool)
def EV.val : EV → Value
  | .v x => x
  | .b t => .bool t
abbrev Env := List EV
def u0 : EV := .v undef
def evO (env : Env) : Operand → EV
  | .tmp t => env.getD t u0
  | .const (.bool t) => .b t
  | .const v => .v v
  | .global g => .v (.pointer (some ⟨g, 0, none⟩))
  | .func f => .v (.func (.func f) #[] #[])
def rho (env : Env) (x : Operand) : Value := (evO env x).val
def act (ds : List Deferred) (env : Env) : Act := { tmps := (env.map EV.val).toArray, defers := ds }
theorem act_eval (ds : List Deferred) (env : Env) : (act ds env).eval = rho env := by
  funext x
  cases x with
  | tmp t =>
    simp only [Act.eval, act, rho, evO, u0]
    simp only [Array.getD_eq_getD_getElem?, List.getElem?_toArray, List.getElem?_map, List.getD_eq_getElem?_getD]
    cases env[t]? <;> simp [EV.val]
  | const v => cases v <;> rfl
  | global g => rfl
  | func f => rfl
def put (env : Env) (d : Option Tmp) (v : EV) : Env :=
  match d with
  | some d => env.set d v
  | none => env
theorem act_put (ds : List Deferred) (env : Env) (d : Option Tmp) (v : EV) : (act ds env).put d v.val = act ds (put env d v) := by
  cases d <;> simp [act, Act.put, put, List.map_set]

/-- A Bool's value under a test that 'ev' splits. -/
def Nw (cs : Array Value) (t : TypeId) (w : World) (K : Addr → World → Prop) : Prop := K ⟨w.heap.size, 0, none⟩ (w.alloc (.cells cs t))
def Ld (l : Lf) (a : Addr) (w : World) (K : l.T → World → Prop) : Prop := ∃ x : l.T, w.cell? a = some (l.emb x) ∧ K x w
def LdA (ls : List Lf) (a : Addr) (w : World) (K : Tup ls → World → Prop) : Prop :=
  ∃ x : Tup ls, (∀ j v, (Tup.cells ls x)[j]? = some v → w.cell? (a.add j) = some v) ∧ K x w
def St (a : Addr) (v : Value) (w : World) (K : World → Prop) : Prop :=
  v.oneCell' = true ∧ (∃ old, w.cell? a = some old) ∧ w.frozen? a = false ∧ K (w.setCell a v)
def Ix (s : Option Addr) (n : Nat) (i : Int) (sz : Nat) (w : World) (K : Addr → World → Prop) : Prop :=
  ∃ a, s = some a ∧ 0 ≤ i ∧ i < n ∧ K (a.add (i.toNat * sz)) w
def Sx (s : ByteArray) (i : Int) (w : World) (K : Int → World → Prop) : Prop :=
  0 ≤ i ∧ ∃ b, s[i.toNat]? = some b ∧ K (b.toNat : Int) w
def Nc (p : Option Addr) (w : World) (K : Addr → World → Prop) : Prop := ∃ a, p = some a ∧ K a w
def StA (P : Program) (a : Addr) (vs : List Value) (w : World) (K : World → Prop) : Prop := RunU P (storeCells a vs) w K
def Sc (P : Program) (t : TypeId) (s : Sl) (lo hi mx : Option Int) (w : World) (K : Sl → World → Prop) : Prop :=
  RunT (.o (.lf .sl)) P (Instr.slice t (.slice s.a s.n s.c) (lo.map (.int .i64)) (hi.map (.int .i64)) (mx.map (.int .i64))) w K
def Ss (P : Program) (t : TypeId) (s : ByteArray) (lo hi : Option Int) (w : World) (K : ByteArray → World → Prop) : Prop :=
  RunT (.o (.lf .s)) P (Instr.slice t (.string s) (lo.map (.int .i64)) (hi.map (.int .i64)) none) w K

inductive OpP where
  | d | t (r : Rs) | u | l (τ : Ty) | c (r : Rs) | cp (r : Rs) | n | sp (p : OpP) | y
/-- The plan for an operation of a region that draws its order, where results may lie in new memory: what needs no memory (sq: a bool that is split), and what bears a fact; h: the one that changes what the others leave alone. -/
inductive GP where
  | q | sq | g (r : Rs) (p : OpP) | sg (p : OpP) | h (r : Rs) (p : OpP)
/-- The plan that goes beside the code. -/
inductive Pl where
  | g (ops : List (GP × List Nat)) (tail : List OpP)
  | r (ops : List OpP) | s (a b : Pl) | j (slots : List (Nat × Lf)) (a b : Pl) | c (a b : Pl) | b (a : Pl) | l (slots : List (Nat × Lf)) (a : Pl) | z

def szOf (P : Program) (t : TypeId) : Option Nat := (P.info? t).map (·.size)
def aggT (P : Program) (t : TypeId) : Option Bool :=
  match P.underlying t with
  | some (.struct _) | some (.array _ _) => some true
  | some _ => some false
  | none => none
def zc (P : Program) (t : TypeId) : Array Value :=
  match P.info? t with
  | some i => match i.zero with
    | some v => v.cells
    | none => #[]
  | none => #[]
def zok (P : Program) (t : TypeId) : Bool :=
  match P.info? t with
  | some i => i.zero.isSome
  | none => false
/-- The cells of a literal: zeros, overwritten by its parts. -/
def over (cells : List Value) (off : Nat) : List Value → List Value
  | [] => cells
  | v :: vs => over (cells.set off v) (off + 1) vs
def fillL (place : Nat → Option (Nat × Nat)) (cells : List Value) : List (Nat × Value) → Option (List Value)
  | [] => some cells
  | (i, v) :: rest =>
    match place i with
    | none => none
    | some (off, size) =>
      if v.cells.toList.length ≠ size || off + v.cells.toList.length > cells.length then none
      else fillL place (over cells off v.cells.toList) rest
def rep (zero : List Value) : Nat → List Value
  | 0 => []
  | n + 1 => zero ++ rep zero n
def fieldsOf (P : Program) (t : TypeId) : Option (List Field) :=
  match P.underlying t with
  | some (.struct fs) => some fs.toList
  | _ => none
def placesOf (P : Program) : List Field → Option (List (Nat × Nat))
  | [] => some []
  | f :: fs => match szOf P f.type, placesOf P fs with
    | some n, some r => some ((f.offset, n) :: r)
    | _, _ => none
def elemOf (P : Program) (t : TypeId) : Option TypeId :=
  match P.underlying t with
  | some (.slice e) => some e
  | _ => none
end Go.Proofs.Ytdgnojjemlfhdaa.V
