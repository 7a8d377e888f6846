/- Ops and programs of the flow, as plain data. -/
import Derived.Test.YtdgnojjemlfhdaaVL
namespace Go.Proofs.Ytdgnojjemlfhdaa.V
open Go Go.RowKit

structure Ins where
  op : Int
  dst : Int
  src : Int
  off : Int
  imm : Int
  size : Int
  deriving DecidableEq, Inhabited
def kIns : Kd Ins := ⟨List.replicate 6 (.i .i64), fun x => (x.op, x.dst, x.src, x.off, x.imm, x.size, ())⟩
@[reducible] def Ins.t (x : Ins) : Tup (List.replicate 6 (.i .i64)) := (x.op, x.dst, x.src, x.off, x.imm, x.size, ())
def Ins.cs (x : Ins) : Array Value := #[.int .i64 x.op, .int .i64 x.dst, .int .i64 x.src, .int .i64 x.off, .int .i64 x.imm, .int .i64 x.size]
theorem nwIns {x : Ins} {t : TypeId} {w : World} {K : Addr → World → Prop}
    (hk : ∀ w', Below w.heap.size w w' → w'.heap.size = w.heap.size + 1 → w'.heap[w.heap.size]? = some (.cells x.cs t (0, 0)) → K ⟨w.heap.size, 0, none⟩ w') : Nw (Tup.cells (List.replicate 6 (.i .i64)) x.t).toArray t w K := nw hk
def szP (n : Int) : Prop := n = 1 ∨ n = 2 ∨ n = 4
def BareP (x : Ins) : Prop :=
  (1 ≤ x.op ∧ x.op ≤ 11 ∧ x.off = 0 ∧ x.size = 0 ∧ (x.src < 0 ∨ x.imm = 0)) ∨ (12 ≤ x.op ∧ x.op ≤ 15 ∧ x.size = 0 ∧ (x.src < 0 ∨ x.imm = 0)) ∨
  (x.op = 16 ∧ x.dst = 0 ∧ x.src = -1 ∧ x.imm = 0 ∧ x.size = 0) ∨ (x.op = 17 ∧ 0 ≤ x.src ∧ x.imm = 0 ∧ szP x.size) ∨ (x.op = 18 ∧ (x.src < 0 ∨ x.imm = 0) ∧ szP x.size) ∨
  (x.op = 19 ∧ x.dst = 0 ∧ x.src = -1 ∧ x.off = 0 ∧ x.size = 0 ∧ 1 ≤ x.imm ∧ x.imm ≤ 6) ∨ (x.op = 20 ∧ x.dst = 0 ∧ x.src = -1 ∧ x.off = 0 ∧ x.imm = 0 ∧ x.size = 0)
def InsP (x : Ins) : Prop := (0 ≤ x.dst ∧ x.dst ≤ 10) ∧ (-1 ≤ x.src ∧ x.src ≤ 10) ∧ (-128 ≤ x.off ∧ x.off ≤ 127) ∧ (0 ≤ x.imm ∧ x.imm ≤ 4294967295) ∧ BareP x
instance (n : Int) : Decidable (szP n) := by unfold szP; infer_instance
instance (x : Ins) : Decidable (BareP x) := by unfold BareP; infer_instance
instance (x : Ins) : Decidable (InsP x) := by unfold InsP; infer_instance
def goesP (x : Ins) : Prop := 12 ≤ x.op ∧ x.op ≤ 16
instance (x : Ins) : Decidable (goesP x) := by unfold goesP; infer_instance
/-- Where an op goes on. -/
def tgt (i : Int) (x : Ins) : Int := i + 1 + x.off
def endP (l : List Ins) : Int :=
  if 48 < l.length then 3 else match l.getLast? with
    | none => 4
    | some x => if x.op ≠ 20 ∧ x.op ≠ 16 then 4 else 0
def formGo (l : List Ins) : Nat → List Ins → Int
  | _, [] => endP l
  | i, x :: xs => if ¬ InsP x then 1 else if goesP x ∧ ¬ (0 ≤ tgt i x ∧ tgt i x ≤ (l.length : Int) - 1) then 2 else formGo l (i + 1) xs
/-- Why a program cannot be. -/
def formP (l : List Ins) : Int := formGo l 0 l
theorem kof {α : Type} {K : α → World → Prop} {x y : α} {w : World} (hk : K x w) (e : x = y) : K y w := e ▸ hk
theorem dec_eq {p : Prop} [Decidable p] {b : Bool} (h : p ↔ b = true) : decide p = b := by
  cases b <;> simp_all
end Go.Proofs.Ytdgnojjemlfhdaa.V
