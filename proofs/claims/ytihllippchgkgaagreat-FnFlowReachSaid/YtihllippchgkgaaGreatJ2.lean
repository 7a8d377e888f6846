/- Texts of one proof, put together in build order by pack.py (the last one states what is proved). -/
import Derived.WalkKit
import Derived.Test.YtihllippchgkgaaGreatProg
import Derived.Shelf.Small.Bits
import Derived.Shelf.Small.Wraps
import Derived.Shelf.Strconv.Itoa0
import Derived.Shelf.Sort.Plain
import Derived.Shelf.Bits.Mul64
import Derived.Shelf.Slices.Turned
import Derived.Ground.Names2Prog
import Derived.Shelf.Slices.Clone
import Derived.Shelf.Slices.CompactI
import Derived.Shelf.Slices.SearchI
import Derived.Shelf.Slices.Cells
import Derived.Shelf.Slices.In.SortNone
import Derived.ProofKit
import Derived.OpenShut
import Derived.ShutString
import Derived.ChangeOld
import Derived.Below
import Derived.SizedLaws
import Derived.Deep.Slices
import Derived.Laws.MakeOwn
import Derived.Laws.StructEq
import Derived.Lib.ItoaNum
import Derived.TacticsInMore
import Derived.RangeFuncIn
import Derived.RangeFuncLeaves
import Derived.RangeFuncSeq
import Derived.RangeFuncWrites
import Derived.Test.YtihllippchgkgaaGreatJ1
/- Words for memory: what a slice reads as, what a call owns, and how the printed conditions are met. -/
namespace Go.Proofs.YtihllippchgkgaaGreat.V
open Go Go.RowKit

theorem add_mk (b o n : Nat) : Addr.add ⟨b, o, none⟩ n = ⟨b, o + n, none⟩ := by
  unfold Addr.add
  split
  · rename_i h; subst h; rfl
  · rfl
theorem i64_in {n : Int} (h0 : -9223372036854775808 ≤ n) (h1 : n ≤ 9223372036854775807) : IntKind.wrap .i64 n = n := by
  have := IntWalk.i64_in n (by omega)
  exact this

/-- A kind of element: its cells. -/
structure Kd (α : Type) where
  ls : List Lf
  t : α → Tup ls
def Kd.cells {α : Type} (k : Kd α) (x : α) : List Value := Tup.cells k.ls (k.t x)
theorem Kd.cells_length {α : Type} (k : Kd α) (x : α) : (k.cells x).length = k.ls.length := V.cells_length _ _
def kI : Kd Int := ⟨[.i .i64], fun x => (x, ())⟩
def kU8 : Kd Int := ⟨[.i .u8], fun x => (x, ())⟩
def kB : Kd Bool := ⟨[.b], fun x => (x, ())⟩
def kS : Kd ByteArray := ⟨[.s], fun x => (x, ())⟩
def kSl : Kd Sl := ⟨[.sl], fun x => (x, ())⟩

def At (w : World) (b o : Nat) (vs : List Value) : Prop := ∀ m v, vs[m]? = some v → w.cell? ⟨b, o + m, none⟩ = some v
theorem At.below {w w' : World} {b o : Nat} {vs : List Value} (h : At w b o vs) (hb : Below w.heap.size w w') : At w' b o vs := fun m v hv => by
  have h1 := h m v hv
  rw [hb.cell (World.block_lt_of_cell? w _ h1)]
  exact h1
/-- The slice reads as a list. -/
def SlR {α : Type} (k : Kd α) (w : World) (s : Sl) (xs : List α) : Prop :=
  s.n = xs.length ∧ s.n ≤ s.c ∧ s.c ≤ maxLen ∧ (xs = [] ∨ ∃ b o, s.a = some ⟨b, o, none⟩ ∧ ∀ i x, xs[i]? = some x → At w b (o + i * k.ls.length) (k.cells x))
theorem SlR.below {α : Type} {k : Kd α} {w w' : World} {s : Sl} {xs : List α} (h : SlR k w s xs) (hb : Below w.heap.size w w') : SlR k w' s xs := by
  refine ⟨h.1, h.2.1, h.2.2.1, ?_⟩
  rcases h.2.2.2 with h | ⟨b, o, ha, hx⟩
  · exact .inl h
  · exact .inr ⟨b, o, ha, fun i x hi => (hx i x hi).below hb⟩
theorem SlR.at {α : Type} {k : Kd α} {w : World} {s : Sl} {xs : List α} (h : SlR k w s xs) {i : Nat} {x : α} (hx : xs[i]? = some x) :
    ∃ b o, s.a = some ⟨b, o, none⟩ ∧ At w b (o + i * k.ls.length) (k.cells x) := by
  rcases h.2.2.2 with h | ⟨b, o, ha, hh⟩
  · subst h; simp at hx
  · exact ⟨b, o, ha, hh i x hx⟩
theorem SlR.nil {α : Type} (k : Kd α) (w : World) : SlR k w ⟨none, 0, 0⟩ [] := ⟨rfl, Nat.le_refl _, by simp [maxLen], .inl rfl⟩
theorem SlR.len {α : Type} {k : Kd α} {w : World} {s : Sl} {xs : List α} (h : SlR k w s xs) : s.n = xs.length := h.1
theorem SlR.max {α : Type} {k : Kd α} {w : World} {s : Sl} {xs : List α} (h : SlR k w s xs) : xs.length ≤ 9223372036854775807 := by
  have h1 := h.1; have h2 := h.2.1; have h3 := h.2.2.1
  simp only [maxLen] at h3
  omega

section
variable {α : Type} {k : Kd α} {w : World} {s : Sl} {xs : List α} {i : Int} {x : α} {sz : Nat}
theorem ixR (h : SlR k w s xs) (hi : 0 ≤ i) (hx : xs[i.toNat]? = some x) (hsz : sz = k.ls.length) {K : Addr → World → Prop}
    (hk : ∀ b o, At w b o (k.cells x) → K ⟨b, o, none⟩ w) : Ix s.a s.n i sz w K := by
  obtain ⟨b, o, ha, hA⟩ := h.at hx
  have hl : i.toNat < xs.length := by
    rcases Nat.lt_or_ge i.toNat xs.length with h | h
    · exact h
    · simp [List.getElem?_eq_none h] at hx
  refine ⟨⟨b, o, none⟩, ha, hi, by rw [h.1]; omega, ?_⟩
  rw [add_mk, hsz]
  exact hk _ _ hA
theorem ixA (h : SlR k w s xs) (hi : 0 ≤ i) (hx : xs[i.toNat]? = some x) (hsz : sz = k.ls.length) {K : Tup k.ls → World → Prop}
    (hk : K (k.t x) w) : Ix s.a s.n i sz w (fun a w' => LdA k.ls a w' K) :=
  ixR h hi hx hsz fun b o hA => ⟨k.t x, fun j v hv => by rw [add_mk]; exact hA j v hv, hk⟩
theorem ixF (h : SlR k w s xs) (hi : 0 ≤ i) (hx : xs[i.toNat]? = some x) (hsz : sz = k.ls.length) {l : Lf} {v : l.T} {j : Nat} (hv : (k.cells x)[j]? = some (l.emb v)) {K : l.T → World → Prop}
    (hk : K v w) : Ix s.a s.n i sz w (fun a w' => Ld l (Addr.add a j) w' K) :=
  ixR h hi hx hsz fun b o hA => ⟨v, by rw [add_mk]; exact hA j _ hv, hk⟩
theorem ixL (h : SlR k w s xs) (hi : 0 ≤ i) (hx : xs[i.toNat]? = some x) (hsz : sz = k.ls.length) {l : Lf} {v : l.T} (hv : (k.cells x)[0]? = some (l.emb v)) {K : l.T → World → Prop}
    (hk : K v w) : Ix s.a s.n i sz w (fun a w' => Ld l a w' K) :=
  ixR h hi hx hsz fun b o hA => ⟨v, by have := hA 0 _ hv; simpa using this, hk⟩
variable {C : World → Prop}
theorem qix (h : SlR k w s xs) (hi : 0 ≤ i) (hx : xs[i.toNat]? = some x) (hsz : sz = k.ls.length) {K : Addr → Prop}
    (hk : ∀ b o, At w b o (k.cells x) → K ⟨b, o, none⟩) : QIx s.a s.n i sz K := by
  obtain ⟨b, o, ha, hA⟩ := h.at hx
  have hl : i.toNat < xs.length := by
    rcases Nat.lt_or_ge i.toNat xs.length with h | h
    · exact h
    · simp [List.getElem?_eq_none h] at hx
  refine ⟨⟨b, o, none⟩, ha, hi, by rw [h.1]; omega, ?_⟩
  rw [add_mk, hsz]
  exact hk _ _ hA
theorem qixA (h : SlR k w s xs) (hi : 0 ≤ i) (hx : xs[i.toNat]? = some x) (hsz : sz = k.ls.length) {K : Tup k.ls → Prop}
    (hk : K (k.t x)) : QIx s.a s.n i sz (fun a => QLdA k.ls a (fun w' => Below w.heap.size w w') K) :=
  qix h hi hx hsz fun b o hA => ⟨k.t x, fun w' hw' j v hv => by rw [add_mk]; exact (hA.below hw') j v hv, hk⟩
theorem qixL (h : SlR k w s xs) (hi : 0 ≤ i) (hx : xs[i.toNat]? = some x) (hsz : sz = k.ls.length) {l : Lf} {v : l.T} (hv : (k.cells x)[0]? = some (l.emb v)) {K : l.T → Prop}
    (hk : K v) : QIx s.a s.n i sz (fun a => QLd l a (fun w' => Below w.heap.size w w') K) :=
  qix h hi hx hsz fun b o hA => ⟨v, fun w' hw' => by have := (hA.below hw') 0 _ hv; simpa using this, hk⟩
theorem qixF (h : SlR k w s xs) (hi : 0 ≤ i) (hx : xs[i.toNat]? = some x) (hsz : sz = k.ls.length) {l : Lf} {v : l.T} {j : Nat} (hv : (k.cells x)[j]? = some (l.emb v)) {K : l.T → Prop}
    (hk : K v) : QIx s.a s.n i sz (fun a => QLd l (Addr.add a j) (fun w' => Below w.heap.size w w') K) :=
  qix h hi hx hsz fun b o hA => ⟨v, fun w' hw' => by rw [add_mk]; exact (hA.below hw') j _ hv, hk⟩
end

/-- A new block: known whole. -/
theorem nw {cs : Array Value} {t : TypeId} {w : World} {K : Addr → World → Prop}
    (hk : ∀ w', Below w.heap.size w w' → w'.heap.size = w.heap.size + 1 → w'.heap[w.heap.size]? = some (.cells cs t (0, 0)) → K ⟨w.heap.size, 0, none⟩ w') : Nw cs t w K :=
  hk _ ((Below.refl _ _).alloc (Nat.le_refl _) _) (by simp) (heap_alloc_new w _)
theorem cell_of {w : World} {b : Nat} {cs : Array Value} {t : TypeId} {f : Nat × Nat} (h : w.heap[b]? = some (.cells cs t f)) (j : Nat) : w.cell? ⟨b, j, none⟩ = cs[j]? := by
  simp [World.cell?, h]
theorem ldB {w : World} {b : Nat} {cs : Array Value} {t : TypeId} {f : Nat × Nat} (h : w.heap[b]? = some (.cells cs t f)) {j : Nat} {l : Lf} {x : l.T} (hx : cs[j]? = some (l.emb x)) {K : l.T → World → Prop} (hk : K x w) :
    Ld l (Addr.add ⟨b, 0, none⟩ j) w K := ⟨x, by rw [add_mk, cell_of h, Nat.zero_add]; exact hx, hk⟩
theorem ldB0 {w : World} {b : Nat} {cs : Array Value} {t : TypeId} {f : Nat × Nat} (h : w.heap[b]? = some (.cells cs t f)) {l : Lf} {x : l.T} (hx : cs[0]? = some (l.emb x)) {K : l.T → World → Prop} (hk : K x w) :
    Ld l ⟨b, 0, none⟩ w K := ⟨x, by rw [cell_of h]; exact hx, hk⟩
theorem ldAB {w : World} {b : Nat} {cs : Array Value} {t : TypeId} {f : Nat × Nat} (h : w.heap[b]? = some (.cells cs t f)) {ls : List Lf} {x : Tup ls} (hx : cs.toList = Tup.cells ls x) {K : Tup ls → World → Prop} (hk : K x w) :
    LdA ls ⟨b, 0, none⟩ w K := ⟨x, fun j v hv => by rw [add_mk, cell_of h, Nat.zero_add, ← Array.getElem?_toList, hx]; exact hv, hk⟩
theorem qldB {w : World} {b : Nat} {cs : Array Value} {t : TypeId} {f : Nat × Nat} (h : w.heap[b]? = some (.cells cs t f)) {j : Nat} {l : Lf} {x : l.T} (hx : cs[j]? = some (l.emb x)) {K : l.T → Prop} (hk : K x) :
    QLd l (Addr.add ⟨b, 0, none⟩ j) (fun w' => Below w.heap.size w w') K := ⟨x, fun w' hw' => by
      have hb : b < w.heap.size := (Array.getElem?_eq_some_iff.1 h).1
      rw [add_mk, cell_of ((hw'.block b hb).trans h), Nat.zero_add]; exact hx, hk⟩
theorem setCell_heap {w : World} {b j : Nat} {cs : Array Value} {t : TypeId} {f : Nat × Nat} (h : w.heap[b]? = some (.cells cs t f)) (v : Value) :
    (w.setCell ⟨b, j, none⟩ v).heap[b]? = some (.cells (cs.setIfInBounds j v) t f) := by
  simp [World.setCell, Array.getElem?_modify, h]
theorem grown_setCell (w : World) (b j : Nat) (v : Value) : w.grownBy (w.setCell ⟨b, j, none⟩ v) (some b) :=
  ⟨rfl, rfl, rfl, by simp, fun k hk hne => Below.heap_setCell _ _ _ _ (by simp at hne; simpa using hne)⟩
theorem stB {w : World} {b : Nat} {cs : Array Value} {t : TypeId} (h : w.heap[b]? = some (.cells cs t (0, 0))) {j : Nat} {v : Value} (hv : v.oneCell' = true) (hj : j < cs.size) {K : World → Prop}
    (hk : ∀ w', w.grownBy w' (some b) → w'.heap.size = w.heap.size → w'.heap[b]? = some (.cells (cs.setIfInBounds j v) t (0, 0)) → K w') : St (Addr.add ⟨b, 0, none⟩ j) v w K := by
  refine ⟨hv, ⟨cs[j], ?_⟩, ?_, ?_⟩
  · rw [add_mk, cell_of h]; simp [hj]
  · simp [add_mk, World.frozen?, h]
  · rw [add_mk, Nat.zero_add]
    exact hk _ (grown_setCell w b j v) (by simp) (setCell_heap h v)
theorem stB0 {w : World} {b : Nat} {cs : Array Value} {t : TypeId} (h : w.heap[b]? = some (.cells cs t (0, 0))) {v : Value} (hv : v.oneCell' = true) (hj : 0 < cs.size) {K : World → Prop}
    (hk : ∀ w', w.grownBy w' (some b) → w'.heap.size = w.heap.size → w'.heap[b]? = some (.cells (cs.setIfInBounds 0 v) t (0, 0)) → K w') : St ⟨b, 0, none⟩ v w K := by
  have := stB h hv hj hk
  rwa [add_mk] at this
theorem run_storeCells_at' (P : Program) {b : Nat} {t : TypeId} : ∀ (vs : List Value) (i : Nat) (pre post : List Value) (w : World), (∀ v ∈ vs, v.oneCell' = true) → i = pre.length → post.length = vs.length →
    w.heap[b]? = some (.cells (pre ++ post).toArray t (0, 0)) → ∃ w', (storeCells ⟨b, 0, none⟩ vs i).run P w = .ok () w' ∧ w.grownBy w' (some b) ∧ w'.heap.size = w.heap.size ∧ w'.heap[b]? = some (.cells (pre ++ vs).toArray t (0, 0))
  | [], i, pre, post, w, _, _, hl, h => by
    have : post = [] := List.eq_nil_of_length_eq_zero (by simpa using hl)
    subst this
    exact ⟨w, by simp [storeCells], ⟨rfl, rfl, rfl, Nat.le_refl _, fun _ _ _ => rfl⟩, rfl, h⟩
  | v :: vs, i, pre, post, w, h1, hi, hl, h => by
    match post, hl with
    | p :: post, hl =>
      have hv := h1 v List.mem_cons_self
      have hc : w.cell? ⟨b, i, none⟩ = some p := by rw [cell_of h]; simp [hi]
      have hfz : w.frozen? ⟨b, i, none⟩ = false := by simp [World.frozen?, h]
      have hs : (store ⟨b, i, none⟩ v).run P w = .ok () (w.setCell ⟨b, i, none⟩ v) := by simp [run_store P w _ v .plain hv, hc, hfz]
      have hset : (w.setCell ⟨b, i, none⟩ v).heap[b]? = some (.cells (pre ++ [v] ++ post).toArray t (0, 0)) := by
        rw [setCell_heap h v]
        simp [hi]
      obtain ⟨w', hr, hg, hsz, hh⟩ := run_storeCells_at' P vs (i + 1) (pre ++ [v]) post (w.setCell ⟨b, i, none⟩ v) (fun u hu => h1 u (List.mem_cons_of_mem _ hu)) (by simp [hi]) (by simpa using hl) (by simpa using hset)
      refine ⟨w', ?_, ?_, ?_, by simpa using hh⟩
      · simp only [storeCells, Sem.run_bind, add_mk, Nat.zero_add, hs, Result.andThen_ok, hr]
      · have g0 := grown_setCell w b i v
        exact ⟨hg.os.trans g0.os, hg.tape.trans g0.tape, hg.output.trans g0.output, Nat.le_trans g0.size hg.size, fun k hk hne => (hg.block k (by simpa using hk) hne).trans (g0.block k hk hne)⟩
      · rw [hsz]; simp
theorem oneCell_emb : ∀ (l : Lf) (x : l.T), (l = .any → False) → (l.emb x).oneCell' = true
  | .i _, _, _ => rfl
  | .b, _, _ => rfl
  | .s, _, _ => rfl
  | .sl, _, _ => rfl
  | .p, _, _ => rfl
  | .ad, _, _ => rfl
  | .m, _, _ => rfl
  | .any, _, h => (h rfl).elim
  | .fn _ _, _, _ => rfl
  | .yl, _, _ => rfl
/-- A struct is copied into a new variable. -/
theorem nwSt {cs vs : List Value} {z : Array Value} {t : TypeId} {w : World} {P : Program} {K : Addr → World → Prop} (hz : z.toList.length = vs.length) (h1 : ∀ v ∈ vs, v.oneCell' = true)
    (hk : ∀ w', Below w.heap.size w w' → w'.heap.size = w.heap.size + 1 → w'.heap[w.heap.size]? = some (.cells vs.toArray t (0, 0)) → K ⟨w.heap.size, 0, none⟩ w') (_ : cs = vs := by rfl) :
    Nw z t w (fun a w' => StA P a vs w' (K a)) := by
  refine nw fun w1 hb hs hc => ?_
  obtain ⟨w', hr, hg, hsz, hh⟩ := run_storeCells_at' P (b := w.heap.size) (t := t) vs 0 [] z.toList w1 h1 rfl hz (by simpa using hc)
  refine ⟨w', hr, hk w' (hb.grown hg (by omega) (fun k hk => by simp only [Option.some.injEq] at hk; omega)) (by omega) (by simpa using hh)⟩

/-- What the call itself owns, as a list. -/
def OwnS {α : Type} (k : Kd α) (t : TypeId) (B : Nat) (w : World) (s : Sl) (xs : List α) : Prop :=
  s.n = xs.length ∧ w.ownsRow B t k.ls.length (.slice s.a s.n s.c) s.n (xs.flatMap k.cells)
theorem flat_get {α : Type} (k : Kd α) : ∀ (xs : List α) (i : Nat) (x : α), xs[i]? = some x → ∀ j v, (k.cells x)[j]? = some v → (xs.flatMap k.cells)[i * k.ls.length + j]? = some v
  | [], i, x, h, _, _, _ => by simp at h
  | y :: ys, 0, x, h, j, v, hv => by
    simp only [List.getElem?_cons_zero, Option.some.injEq] at h
    subst h
    have hj : j < (k.cells y).length := by
      rcases Nat.lt_or_ge j (k.cells y).length with h | h
      · exact h
      · simp [List.getElem?_eq_none h] at hv
    simp [List.getElem?_append_left hj, hv]
  | y :: ys, i + 1, x, h, j, v, hv => by
    have := flat_get k ys i x (by simpa using h) j v hv
    have hl := k.cells_length y
    rw [List.flatMap_cons, List.getElem?_append_right (by rw [hl, Nat.succ_mul]; omega), hl]
    rw [show (i + 1) * k.ls.length + j - k.ls.length = i * k.ls.length + j by rw [Nat.succ_mul]; omega]
    exact this
theorem flat_length {α : Type} (k : Kd α) : ∀ xs : List α, (xs.flatMap k.cells).length = xs.length * k.ls.length
  | [] => by simp
  | x :: xs => by simp [flat_length k xs, k.cells_length, Nat.succ_mul, Nat.add_comm]
section
variable {α : Type} {k : Kd α} {t : TypeId} {B : Nat} {w : World} {s : Sl} {xs : List α}
theorem OwnS.len (h : OwnS k t B w s xs) : s.n = xs.length := h.1
theorem OwnS.cap (h : OwnS k t B w s xs) : s.n ≤ s.c ∧ s.c ≤ maxLen := by
  rcases h.2.2 with ⟨hv, hn⟩ | ⟨g, cap, cur, hv, _, _, hnc, hcm, _⟩
  · simp only [Value.slice.injEq] at hv; rw [hv.2.1, hv.2.2]; simp
  · simp only [Value.slice.injEq] at hv; rw [hv.2.2]; exact ⟨hnc, hcm⟩
theorem OwnS.read (h : OwnS k t B w s xs) : SlR k w s xs := by
  refine ⟨h.1, h.cap.1, h.cap.2, ?_⟩
  rcases h.2.2 with ⟨hv, hn⟩ | ⟨g, cap, cur, hv, _⟩
  · simp only [Value.slice.injEq] at hv
    left
    exact List.eq_nil_of_length_eq_zero (by rw [← h.1]; exact hn)
  · simp only [Value.slice.injEq] at hv
    right
    refine ⟨g, 0, hv.1, fun i x hi j v hj => ?_⟩
    have := h.2.cells (g := g) (by rw [hv.1]; rfl) _ _ (flat_get k xs i x hi j v hj)
    rw [add_mk, ← Nat.add_assoc] at this
    exact this
theorem OwnS.kept {w' : World} {row : Option Nat} (h : OwnS k t B w s xs) (hg : w.grownBy w' row) (hne : ∀ b, row = some b → (Value.slice s.a s.n s.c).ownBlock ≠ some b) : OwnS k t B w' s xs :=
  ⟨h.1, h.2.kept hg (by
    cases row with
    | none => cases (Value.slice s.a s.n s.c).ownBlock <;> simp
    | some b => exact .inr (hne b rfl))⟩
theorem grown_of_below {w w' : World} (h : Below w.heap.size w w') : w.grownBy w' none := ⟨h.os, h.tape, h.output, h.size, fun k hk _ => h.block k hk⟩
theorem OwnS.below {w' : World} (h : OwnS k t B w s xs) (hb : Below w.heap.size w w') : OwnS k t B w' s xs := h.kept (grown_of_below hb) (by simp)
theorem OwnS.low {B' : Nat} (h : OwnS k t B w s xs) (hB : B' ≤ B) : OwnS k t B' w s xs := by
  refine ⟨h.1, h.2.1, ?_⟩
  rcases h.2.2 with h1 | ⟨g, cap, cur, hv, hb, r⟩
  · exact .inl h1
  · exact .inr ⟨g, cap, cur, hv, Nat.le_trans hB hb, r⟩
theorem OwnS.nil (k : Kd α) (t : TypeId) (B : Nat) (w : World) : OwnS k t B w ⟨none, 0, 0⟩ [] := ⟨rfl, World.ownsRow_nil _ _ _ _⟩
/-- A slice literal of so many elements. -/
theorem OwnS.lit {w' : World} {cs : Array Value} {n : Nat} (hB : B ≤ w.heap.size) (hh : w'.heap[w.heap.size]? = some (.cells cs t (0, 0))) (hn : n = xs.length) (hc : cs.toList = xs.flatMap k.cells) (hm : n ≤ maxLen) :
    OwnS k t B w' ⟨some ⟨w.heap.size, 0, none⟩, n, n⟩ xs := by
  have hs : cs.size = n * k.ls.length := by rw [← Array.length_toList, hc, flat_length, hn]
  refine ⟨hn, by rw [flat_length, hn], .inr ⟨w.heap.size, n, cs, rfl, hB, hh, Nat.le_refl _, hm, hs, ?_⟩⟩
  rw [← hc, List.take_of_length_le (by rw [Array.length_toList, hs]; exact Nat.le_refl _)]
theorem OwnS.blk (h : OwnS k t B w s xs) {b : Nat} (hb : (Value.slice s.a s.n s.c).ownBlock = some b) : B ≤ b ∧ b < w.heap.size := h.2.lt b hb

theorem oneCell_cells (k : Kd α) (hk : ∀ l ∈ k.ls, l ≠ .any) (x : α) : ∀ v ∈ k.cells x, v.oneCell' = true := by
  unfold Kd.cells
  generalize k.t x = t
  revert hk t
  generalize k.ls = ls
  intro hk t
  induction ls with
  | nil => intro v hv; simp [Tup.cells] at hv
  | cons l ls ih =>
    intro v hv
    simp only [Tup.cells, List.mem_cons] at hv
    rcases hv with rfl | hv
    · exact oneCell_emb l t.1 (fun e => hk l List.mem_cons_self e)
    · exact ih (fun l' hl' => hk l' (List.mem_cons_of_mem _ hl')) t.2 v hv
/-- An element type's row of the table. -/
structure El (P : Program) (tS t : TypeId) (k : Kd α) (bytes : Nat) : Prop where
  elem : P.underlying tS = some (.slice t)
  info : ∃ i z, P.info? t = some i ∧ i.zero = some z ∧ i.size = k.ls.length ∧ i.bytes = bytes ∧ z.cells.size = k.ls.length
  pos : 0 < k.ls.length
  one : ∀ l ∈ k.ls, l ≠ .any
/-- Where the appended row lies: where the old one lay, or in new memory. -/
theorem append_blk {P : Program} {w : World} {base : Nat} {tS tR e : TypeId} {i : TypeInfo} {z : Value} {size bytes : Nat} (ht : P.underlying tS = some (.slice e)) (hi : P.info? e = some i) (hz : i.zero = some z) (hsize : i.size = size) (hby : i.bytes = bytes)
    {v : Value} {n : Nat} {xs : List Value} (hown : w.ownsRow base e size v n xs) {a : Addr} {m c : Nat} {news : List Value} (hl : news.length = m * size) (hnews : ∀ j u, news[j]? = some u → w.cell? (a.add j) = some u) (h1 : ∀ u ∈ news, u.oneCell' = true)
    (h63 : n + m ≤ maxLen) (hbytes : (n + m) * bytes ≤ 140737488355328) (h0 : 0 < m) {v' : Value} {w' : World} (hr : (Builtin.append_ #[tS, tS] tR #[v, .slice (some a) m c]).run P w = .ok v' w') :
    v'.ownBlock = v.ownBlock ∨ v'.ownBlock = some w.heap.size := by
  subst hsize hby
  have hsmall : n + m ≤ 9223372036854775807 := by simp only [maxLen] at h63; omega
  rcases hown.2 with ⟨rfl, rfl⟩ | ⟨g, cap, cur, rfl, hbg, hg, hnc, hcm, hcs, htake⟩
  · have := run_append_nil (P := P) w tS tR e i z ht hi hz a m c news hl hnews h0 (by omega) (by have hb := hbytes; simp only [Nat.zero_add] at hb; omega)
    rw [this] at hr
    simp only [Result.ok.injEq] at hr
    right; rw [← hr.1]; rfl
  · by_cases hroom : n + m ≤ cap
    · have hfit : n * i.size + news.length ≤ cur.size := by rw [hl, hcs, ← Nat.add_mul]; exact Nat.mul_le_mul_right _ hroom
      have := run_append_room (P := P) w tS tR e i ht hi g n cap cur hg a m c news hl hnews h1 hroom hfit
      rw [this] at hr
      simp only [Result.ok.injEq] at hr
      left; rw [← hr.1]; rfl
    · have holds : ∀ j u, xs[j]? = some u → w.cell? ((⟨g, 0, none⟩ : Addr).add j) = some u := hown.cells (g := g) rfl
      have := run_append_grow (P := P) w tS tR e i z ht hi hz ⟨g, 0, none⟩ n cap xs hown.1 holds a m c news hl hnews (by omega) (by omega) (growslice_fits (by omega) hbytes)
      rw [this] at hr
      simp only [Result.ok.injEq] at hr
      right; rw [← hr.1]; rfl
/-- append of a slice that can be read onto one that the call owns. -/
theorem apS {P : Program} {tS tR : TypeId} {bytes : Nat} (hE : El P tS t k bytes) (h : OwnS k t B w s xs) {x : Sl} {ys : List α} (hx : SlR k w x ys) (hb : (xs.length + ys.length) * bytes ≤ 140737488355328) (hm : xs.length + ys.length ≤ 140737488355328) (hB : B ≤ w.heap.size) {K : Sl → World → Prop}
    (hk : ∀ s' w', OwnS k t B w' s' (xs ++ ys) → w.grownBy w' (Value.slice s.a s.n s.c).ownBlock → (s'.a = none → xs = [] ∧ ys = []) → (∀ b, (Value.slice s'.a s'.n s'.c).ownBlock = some b → (Value.slice s.a s.n s.c).ownBlock = some b ∨ w.heap.size ≤ b) → K s' w') :
    RunT (.o (.lf .sl)) P (Builtin.append_ #[tS, tS] tR #[.slice s.a s.n s.c, .slice x.a x.n x.c]) w K := by
  obtain ⟨i, z, hi, hz, hsz, hby, hzs⟩ := hE.info
  have hself : w.grownBy w (Value.slice s.a s.n s.c).ownBlock := ⟨rfl, rfl, rfl, Nat.le_refl _, fun _ _ _ => rfl⟩
  by_cases hne : ys = []
  · subst hne
    have hxn : x.n = 0 := by rw [hx.1]; rfl
    have hr : (Builtin.append_ #[tS, tS] tR #[.slice s.a s.n s.c, .slice x.a x.n x.c]).run P w = .ok (.slice s.a s.n s.c) w := by
      rw [hxn]
      have hc := h.cap
      cases hxa : x.a <;> cases hsa : s.a <;> simp [Builtin.append_, run_underlying hE.elem, sizeOf, typeInfo, hi, Builtin.lenOf, Builtin.firstCells, hc.1, storeCells, loadCells, loadCellsFrom]
    refine ⟨s, w, hr, hk s w (by simpa using h) hself ?_ (fun b hb => .inl hb)⟩
    intro ha
    refine ⟨?_, rfl⟩
    rcases h.2.2 with ⟨_, hn⟩ | ⟨g, cap, cur, hv, _⟩
    · exact List.eq_nil_of_length_eq_zero (by rw [← h.1]; exact hn)
    · simp only [Value.slice.injEq] at hv; rw [ha] at hv; simp at hv
  · rcases hx.2.2.2 with h0 | ⟨b, o, ha, hat⟩
    · exact absurd h0 hne
    · have hnews : ∀ j u, (ys.flatMap k.cells)[j]? = some u → w.cell? ((⟨b, o, none⟩ : Addr).add j) = some u := by
        intro j u hu
        have hjl : j < ys.length * k.ls.length := by
          rcases Nat.lt_or_ge j (ys.length * k.ls.length) with h | h
          · exact h
          · rw [List.getElem?_eq_none (by rw [flat_length]; exact h)] at hu; simp at hu
        have hq : j / k.ls.length < ys.length := Nat.div_lt_of_lt_mul (by rw [Nat.mul_comm]; exact hjl)
        have hr : j % k.ls.length < k.ls.length := Nat.mod_lt _ hE.pos
        have hy : ys[j / k.ls.length]? = some ys[j / k.ls.length] := List.getElem?_eq_getElem hq
        have hv : (k.cells ys[j / k.ls.length])[j % k.ls.length]? = some ((k.cells ys[j / k.ls.length])[j % k.ls.length]'(by rw [k.cells_length]; exact hr)) := List.getElem?_eq_getElem _
        have h1 := flat_get k ys _ _ hy _ _ hv
        have hj : j / k.ls.length * k.ls.length + j % k.ls.length = j := by rw [Nat.mul_comm]; exact Nat.div_add_mod _ _
        rw [hj, hu] at h1
        simp only [Option.some.injEq] at h1
        have h2 := hat _ _ hy _ _ hv
        rw [← h1, Nat.add_assoc, hj] at h2
        rw [add_mk]
        exact h2
      have h1 : ∀ u ∈ ys.flatMap k.cells, u.oneCell' = true := by
        intro u hu
        obtain ⟨y, _, hy⟩ := List.mem_flatMap.1 hu
        exact oneCell_cells k hE.one y u hy
      obtain ⟨v', w', hr, hown, hg, hnil⟩ := run_append_own (P := P) w B tS tR t i z k.ls.length bytes hE.elem hi hz hsz hby hzs hE.pos (.slice s.a s.n s.c) s.n (xs.flatMap k.cells) h.2
        ⟨b, o, none⟩ x.n x.c (ys.flatMap k.cells) (by rw [flat_length, hx.1]) hnews h1 (by rw [h.1, hx.1]; simp only [maxLen]; omega) (by rw [h.1, hx.1]; exact hb) hB
      have hshape : ∃ a c, v' = .slice a (s.n + x.n) c := by
        rcases hown.2 with ⟨hv, hn⟩ | ⟨g, cap, cur, hv, _⟩
        · exact ⟨none, 0, by rw [hv, hn]⟩
        · exact ⟨_, _, hv⟩
      obtain ⟨a', c', rfl⟩ := hshape
      have ha' : x.a = some ⟨b, o, none⟩ := ha
      refine ⟨⟨a', s.n + x.n, c'⟩, w', ?_, hk _ _ ⟨by simp [h.1, hx.1], by simpa [List.flatMap_append] using hown⟩ hg ?_ ?_⟩
      · rw [ha']; exact hr
      · intro hn
        exfalso
        simp only at hn
        subst hn
        rcases hown.2 with ⟨hv, hz'⟩ | ⟨g, cap, cur, hv, _⟩
        · have : x.n = 0 := by omega
          exact hne (List.eq_nil_of_length_eq_zero (by rw [← hx.1]; exact this))
        · simp at hv
      · intro b' hb'
        have hxn : 0 < x.n := by
          rw [hx.1]; exact List.length_pos_iff.2 hne
        rcases append_blk (P := P) hE.elem hi hz hsz hby h.2 (by rw [flat_length, hx.1]) hnews h1 (by rw [h.1, hx.1]; simp only [maxLen]; omega) (by rw [h.1, hx.1]; exact hb) hxn hr with e | e
        · left; rw [← e]; exact hb'
        · right; rw [e] at hb'; simp only [Option.some.injEq] at hb'; omega
/-- append(out, x): of one element, by way of a new row of one. -/
theorem ap1 {P : Program} {tS tR : TypeId} {bytes : Nat} (hE : El P tS t k bytes) (h : OwnS k t B w s xs) (x : α) {cs : Array Value} (hcs : cs.toList = k.cells x) (hb : (xs.length + 1) * bytes ≤ 140737488355328) (hm : xs.length + 1 ≤ 140737488355328) (hB : B ≤ w.heap.size) {K : Sl → World → Prop}
    (hk : ∀ s' w', OwnS k t B w' s' (xs ++ [x]) → w.grownBy w' (Value.slice s.a s.n s.c).ownBlock → (∀ b, (Value.slice s'.a s'.n s'.c).ownBlock = some b → (Value.slice s.a s.n s.c).ownBlock = some b ∨ w.heap.size ≤ b) → K s' w') :
    Nw cs t w fun a w1 => RunT (.o (.lf .sl)) P (Builtin.append_ #[tS, tS] tR #[.slice s.a s.n s.c, .slice (some a) 1 1]) w1 K := by
  refine nw fun w1 hb1 hs1 hc1 => ?_
  have hl : OwnS k t w.heap.size w1 ⟨some ⟨w.heap.size, 0, none⟩, 1, 1⟩ [x] := OwnS.lit (Nat.le_refl _) hc1 rfl (by simp [hcs]) (by simp [maxLen])
  have hg1 := grown_of_below hb1
  refine apS (x := ⟨some ⟨w.heap.size, 0, none⟩, 1, 1⟩) hE (h.below hb1) hl.read (by simpa using hb) (by simpa using hm) (by omega) fun s' w' ho hg _ hbk => hk s' w' ho ?_ (fun b hb => (hbk b hb).imp id (by omega))
  exact ⟨hg.os.trans hg1.os, hg.tape.trans hg1.tape, hg.output.trans hg1.output, Nat.le_trans hg1.size hg.size, fun k hk hne => (hg.block k (by omega) hne).trans (hg1.block k hk (by simp))⟩
end
/-- The world below B, behind a step that may have written one row from B on. -/
theorem below_grown {w0 w w' : World} {row : Option Nat} (h : Below w0.heap.size w0 w) (hg : w.grownBy w' row) (hr : ∀ b, row = some b → w0.heap.size ≤ b) : Below w0.heap.size w0 w' :=
  h.grown hg h.size hr
theorem CallT.imp {P : Program} {f : FuncId} {r : Rs} {args : List Value} {w : World} {K K' : r.T → World → Prop} (h : CallT r P f args w K) (hk : ∀ x w', K x w' → K' x w') : CallT r P f args w K' := h.mono hk
/-- A call in a region that draws. -/
theorem qcl {r : Rs} {P : Program} {f : FuncId} {args : List Value} {C : World → Prop} {K : r.T → Prop} (x : r.T) (h : ∀ w, C w → CallT r P f args w fun y w' => y = x ∧ C w') (hk : K x) : QCl r P f args C K := ⟨x, h, hk⟩
end Go.Proofs.YtihllippchgkgaaGreat.V

/- The seat's program, and short words for the printed conditions. -/
namespace Go.Proofs.YtihllippchgkgaaGreat.V
open Go Go.RowKit
noncomputable abbrev P0 : Program := Tryz.prog
def D (n : Nat) : List OpP := List.replicate n .d
def R (n : Nat) (l : Lf) : List Lf := List.replicate n l
def Sl.v (s : Sl) : Value := .slice s.a s.n s.c
def iAnd (k : IntKind) (x y : Int) : Int := k.wrap ((BitVec.ofInt k.bits x &&& BitVec.ofInt k.bits y).toNat : Int)
def iOr (k : IntKind) (x y : Int) : Int := k.wrap ((BitVec.ofInt k.bits x ||| BitVec.ofInt k.bits y).toNat : Int)
def iXor (k : IntKind) (x y : Int) : Int := k.wrap ((BitVec.ofInt k.bits x ^^^ BitVec.ofInt k.bits y).toNat : Int)
def iAndNot (k : IntKind) (x y : Int) : Int := k.wrap ((BitVec.ofInt k.bits x &&& ~~~(BitVec.ofInt k.bits y)).toNat : Int)
end Go.Proofs.YtihllippchgkgaaGreat.V

/- Verification conditions, printed by this session's own program (wip/vc.py) and checked by the kernel. -/
namespace Go.Proofs.YtihllippchgkgaaGreat.V
open Go Go.RowKit
set_option linter.unusedVariables false
/- impl.within -/
def impl.within.pl : Pl := (.s (.r (D 1)) (.s (.r [.d, .d, .d, (.sp .d), .d, .d, .d, .d, .d]) .z))
def impl.within.vc (n : Int) (low : Int) (high : Int) (w : World) (K : Bool → World → Prop) : Prop :=
((decide ((n : Int) ≥ low)) = true → K (decide ((n : Int) ≤ high)) w) ∧
((decide ((n : Int) ≥ low)) = false → K false w)
theorem impl.within.ok {n : Int} {low : Int} {high : Int} {w : World} {K : Bool → World → Prop} (h : impl.within.vc n low high w K) : CallT (.o (.lf .b)) P0 26 [(.int .i64 n), (.int .i64 low), (.int .i64 high)] w K :=
  call_of Tryz.func26 rfl rfl (pl := impl.within.pl) (show VC P0 Tryz.f26 impl.within.pl (.o (.lf .b)) [(.int .i64 n), (.int .i64 low), (.int .i64 high)] w K noP from Eq.mp (by kernel_rfl) h)
/- impl.numOk -/
def impl.numOk.pl : Pl := (.s (.r (D 1)) (.s (.r [.d, (.c (.o (.lf .b))), .d]) .z))
def impl.numOk.vc (n : Int) (w : World) (K : Bool → World → Prop) : Prop :=
CallT (.o (.lf .b)) P0 26 [(.int .i64 n), (.int .i64 0), (.int .i64 4294967295)] w fun (t4 : Bool) w_ =>
K t4 w_
theorem impl.numOk.ok {n : Int} {w : World} {K : Bool → World → Prop} (h : impl.numOk.vc n w K) : CallT (.o (.lf .b)) P0 77 [(.int .i64 n)] w K :=
  call_of Tryz.func77 rfl rfl (pl := impl.numOk.pl) (show VC P0 Tryz.f77 impl.numOk.pl (.o (.lf .b)) [(.int .i64 n)] w K noP from Eq.mp (by kernel_rfl) h)
/- impl.regOk -/
def impl.regOk.pl : Pl := (.s (.r (D 1)) (.s (.r [.d, (.c (.o (.lf .b))), .d]) .z))
def impl.regOk.vc (n : Int) (w : World) (K : Bool → World → Prop) : Prop :=
CallT (.o (.lf .b)) P0 26 [(.int .i64 n), (.int .i64 0), (.int .i64 10)] w fun (t4 : Bool) w_ =>
K t4 w_
theorem impl.regOk.ok {n : Int} {w : World} {K : Bool → World → Prop} (h : impl.regOk.vc n w K) : CallT (.o (.lf .b)) P0 85 [(.int .i64 n)] w K :=
  call_of Tryz.func85 rfl rfl (pl := impl.regOk.pl) (show VC P0 Tryz.f85 impl.regOk.pl (.o (.lf .b)) [(.int .i64 n)] w K noP from Eq.mp (by kernel_rfl) h)
/- impl.sizeOk -/
def impl.sizeOk.pl : Pl := (.s (.r (D 1)) (.s (.r [.d, .d, (.sp .d), .d, .d, .d, (.sp .d), .d, .d, .d, .d]) .z))
def impl.sizeOk.vc (n : Int) (w : World) (K : Bool → World → Prop) : Prop :=
(((n : Int) == 1) = true → K true w) ∧
(((n : Int) == 1) = false → (((n : Int) == 2) = true → K true w) ∧
(((n : Int) == 2) = false → K ((n : Int) == 4) w))
theorem impl.sizeOk.ok {n : Int} {w : World} {K : Bool → World → Prop} (h : impl.sizeOk.vc n w K) : CallT (.o (.lf .b)) P0 87 [(.int .i64 n)] w K :=
  call_of Tryz.func87 rfl rfl (pl := impl.sizeOk.pl) (show VC P0 Tryz.f87 impl.sizeOk.pl (.o (.lf .b)) [(.int .i64 n)] w K noP from Eq.mp (by kernel_rfl) h)
/- (impl.Ins).either -/
def impl.Ins.either.pl : Pl := (.s (.r (D 2)) (.s (.r [.d, (.l (.lf (.i .i64))), (.c (.o (.lf .b))), (.sp .d), .d, (.l (.lf (.i .i64))), .d, .d, (.sp .d), .d, (.l (.lf (.i .i64))), .d, (.sp .d), .d, (.l (.lf (.i .i64))), (.c (.o (.lf .b))), .d, .d, .d]) .z))
def impl.Ins.either.vc (x : Tup (R 6 (.i .i64))) (w : World) (K : Bool → World → Prop) : Prop :=
Nw (Tup.cells (R 6 (.i .i64)) x).toArray 82 w fun a_x w_ =>
Ld (.i .i64) (Addr.add a_x 2) w_ fun (t4 : Int) w__1 =>
CallT (.o (.lf .b)) P0 85 [(.int .i64 t4)] w__1 fun (t5 : Bool) w__2 =>
(t5 = true → Ld (.i .i64) (Addr.add a_x 4) w__2 fun (t8 : Int) w__3 =>
(((t8 : Int) == 0) = true → K true w__3) ∧
(((t8 : Int) == 0) = false → Ld (.i .i64) (Addr.add a_x 2) w__3 fun (t13 : Int) w__4 =>
(((t13 : Int) == (-1)) = true → Ld (.i .i64) (Addr.add a_x 4) w__4 fun (t17 : Int) w__5 =>
CallT (.o (.lf .b)) P0 77 [(.int .i64 t17)] w__5 fun (t18 : Bool) w__6 =>
K t18 w__6) ∧
(((t13 : Int) == (-1)) = false → K false w__4))) ∧
(t5 = false → Ld (.i .i64) (Addr.add a_x 2) w__2 fun (t13_1 : Int) w__7 =>
(((t13_1 : Int) == (-1)) = true → Ld (.i .i64) (Addr.add a_x 4) w__7 fun (t17_1 : Int) w__8 =>
CallT (.o (.lf .b)) P0 77 [(.int .i64 t17_1)] w__8 fun (t18_1 : Bool) w__9 =>
K t18_1 w__9) ∧
(((t13_1 : Int) == (-1)) = false → K false w__7))
theorem impl.Ins.either.ok {x : Tup (R 6 (.i .i64))} {w : World} {K : Bool → World → Prop} (h : impl.Ins.either.vc x w K) : CallT (.o (.lf .b)) P0 86 [(.agg (Tup.cells (R 6 (.i .i64)) x).toArray)] w K :=
  call_of Tryz.func86 rfl rfl (pl := impl.Ins.either.pl) (show VC P0 Tryz.f86 impl.Ins.either.pl (.o (.lf .b)) [(.agg (Tup.cells (R 6 (.i .i64)) x).toArray)] w K noP from Eq.mp (by kernel_rfl) h)
/- (impl.kind).reckons -/
def impl.kind.reckons.pl : Pl := (.s (.r (D 1)) (.s (.r [.d, (.c (.o (.lf .b))), .d]) .z))
def impl.kind.reckons.vc (k : Int) (w : World) (K : Bool → World → Prop) : Prop :=
CallT (.o (.lf .b)) P0 26 [(.int .i64 k), (.int .i64 1), (.int .i64 11)] w fun (t4 : Bool) w_ =>
K t4 w_
theorem impl.kind.reckons.ok {k : Int} {w : World} {K : Bool → World → Prop} (h : impl.kind.reckons.vc k w K) : CallT (.o (.lf .b)) P0 84 [(.int .i64 k)] w K :=
  call_of Tryz.func84 rfl rfl (pl := impl.kind.reckons.pl) (show VC P0 Tryz.f84 impl.kind.reckons.pl (.o (.lf .b)) [(.int .i64 k)] w K noP from Eq.mp (by kernel_rfl) h)
/- (impl.kind).asks -/
def impl.kind.asks.pl : Pl := (.s (.r (D 1)) (.s (.r [.d, (.c (.o (.lf .b))), .d]) .z))
def impl.kind.asks.vc (k : Int) (w : World) (K : Bool → World → Prop) : Prop :=
CallT (.o (.lf .b)) P0 26 [(.int .i64 k), (.int .i64 12), (.int .i64 15)] w fun (t4 : Bool) w_ =>
K t4 w_
theorem impl.kind.asks.ok {k : Int} {w : World} {K : Bool → World → Prop} (h : impl.kind.asks.vc k w K) : CallT (.o (.lf .b)) P0 49 [(.int .i64 k)] w K :=
  call_of Tryz.func49 rfl rfl (pl := impl.kind.asks.pl) (show VC P0 Tryz.f49 impl.kind.asks.pl (.o (.lf .b)) [(.int .i64 k)] w K noP from Eq.mp (by kernel_rfl) h)
/- (impl.kind).goes -/
def impl.kind.goes.pl : Pl := (.s (.r (D 1)) (.s (.r [.d, (.c (.o (.lf .b))), .d]) .z))
def impl.kind.goes.vc (k : Int) (w : World) (K : Bool → World → Prop) : Prop :=
CallT (.o (.lf .b)) P0 26 [(.int .i64 k), (.int .i64 12), (.int .i64 16)] w fun (t4 : Bool) w_ =>
K t4 w_
theorem impl.kind.goes.ok {k : Int} {w : World} {K : Bool → World → Prop} (h : impl.kind.goes.vc k w K) : CallT (.o (.lf .b)) P0 44 [(.int .i64 k)] w K :=
  call_of Tryz.func44 rfl rfl (pl := impl.kind.goes.pl) (show VC P0 Tryz.f44 impl.kind.goes.pl (.o (.lf .b)) [(.int .i64 k)] w K noP from Eq.mp (by kernel_rfl) h)
/- impl.InsOk -/
def impl.InsOk.pl : Pl := (.s (.r (D 2)) (.s (.r [.d, (.l (.lf (.i .i64))), (.c (.o (.lf .b))), .d]) (.s (.r [.d, (.l (.lf (.i .i64))), .d]) (.s (.b (.s (.r [.d, (.c (.o (.lf .b))), .d]) (.c (.s (.r [.d, (.l (.lf (.i .i64))), (.c (.o (.lf .b))), (.sp .d), (.l (.ag (R 6 (.i .i64)))), (.c (.o (.lf .b))), .d, (.sp .d), .d, (.l (.lf (.i .i64))), .d, .d, (.sp .d), .d, (.l (.lf (.i .i64))), .d, .d, .d]) .z) (.s (.r [.d, (.c (.o (.lf .b))), .d]) (.c (.s (.r [.d, (.l (.lf (.i .i64))), (.c (.o (.lf .b))), (.sp .d), (.l (.ag (R 6 (.i .i64)))), (.c (.o (.lf .b))), .d, (.sp .d), .d, .d, (.sp .d), .d, (.l (.lf (.i .i64))), .d, .d, .d]) .z) (.s (.r [.d, (.l (.lf (.i .i64))), .d, .d]) (.c (.s (.r [.d, (.sp .d), (.l (.ag (R 6 (.i .i64)))), .d, (.l (.lf (.i .i64))), .d, (.t (.o (.lf .b))), .d, .d]) .z) (.s (.r [.d, (.l (.lf (.i .i64))), .d, .d]) (.c (.s (.r [.d, (.l (.lf (.i .i64))), (.c (.o (.lf .b))), (.sp .d), .d, (.l (.lf (.i .i64))), (.c (.o (.lf .b))), .d, (.sp .d), .d, (.l (.lf (.i .i64))), .d, .d, (.sp .d), .d, .d, (.sp .d), .d, (.l (.lf (.i .i64))), (.c (.o (.lf .b))), .d, .d]) .z) (.s (.r [.d, (.l (.lf (.i .i64))), .d, .d]) (.c (.s (.r [.d, (.l (.lf (.i .i64))), (.c (.o (.lf .b))), (.sp .d), (.l (.ag (R 6 (.i .i64)))), (.c (.o (.lf .b))), .d, (.sp .d), .d, .d, (.sp .d), .d, (.l (.lf (.i .i64))), (.c (.o (.lf .b))), .d, .d]) .z) (.s (.r [.d, (.l (.lf (.i .i64))), .d, .d]) (.c (.s (.r [.d, (.l (.lf (.i .i64))), (.c (.o (.lf .b))), (.sp .d), (.l (.ag (R 6 (.i .i64)))), .d, (.l (.lf (.i .i64))), .d, (.t (.o (.lf .b))), .d, .d]) .z) .z))))))))))))) (.s (.r [(.l (.ag (R 6 (.i .i64)))), .d, (.t (.o (.lf .b))), .d]) .z)))))
def impl.InsOk.vc (x : Tup (R 6 (.i .i64))) (w : World) (K : Bool → World → Prop) : Prop :=
Nw (Tup.cells (R 6 (.i .i64)) x).toArray 82 w fun a_x w_ =>
Ld (.i .i64) (Addr.add a_x 3) w_ fun (t6 : Int) w__1 =>
CallT (.o (.lf .b)) P0 26 [(.int .i64 t6), (.int .i64 (-128)), (.int .i64 127)] w__1 fun (t7 : Bool) w__2 =>
Ld (.i .i64) (Addr.add a_x 0) w__2 fun (t9 : Int) w__3 =>
CallT (.o (.lf .b)) P0 84 [(.int .i64 t9)] w__3 fun (t12 : Bool) w__4 =>
(t12 = true → Ld (.i .i64) (Addr.add a_x 1) w__4 fun (t14 : Int) w__5 =>
CallT (.o (.lf .b)) P0 85 [(.int .i64 t14)] w__5 fun (t15 : Bool) w__6 =>
(t15 = true → LdA (R 6 (.i .i64)) a_x w__6 fun (t17 : Tup (R 6 (.i .i64))) w__7 =>
CallT (.o (.lf .b)) P0 86 [(.agg (Tup.cells (R 6 (.i .i64)) t17).toArray)] w__7 fun (t18 : Bool) w__8 =>
(t18 = true → Ld (.i .i64) (Addr.add a_x 3) w__8 fun (t22 : Int) w__9 =>
(((t22 : Int) == 0) = true → Ld (.i .i64) (Addr.add a_x 5) w__9 fun (t27 : Int) w__10 =>
K ((t27 : Int) == 0) w__10) ∧
(((t22 : Int) == 0) = false → K false w__9)) ∧
(t18 = false → K false w__8)) ∧
(t15 = false → K false w__6)) ∧
(t12 = false → CallT (.o (.lf .b)) P0 49 [(.int .i64 t9)] w__4 fun (t32 : Bool) w__11 =>
(t32 = true → Ld (.i .i64) (Addr.add a_x 1) w__11 fun (t34 : Int) w__12 =>
CallT (.o (.lf .b)) P0 85 [(.int .i64 t34)] w__12 fun (t35 : Bool) w__13 =>
(t35 = true → LdA (R 6 (.i .i64)) a_x w__13 fun (t37 : Tup (R 6 (.i .i64))) w__14 =>
CallT (.o (.lf .b)) P0 86 [(.agg (Tup.cells (R 6 (.i .i64)) t37).toArray)] w__14 fun (t38 : Bool) w__15 =>
(t38 = true → (t7 = true → Ld (.i .i64) (Addr.add a_x 5) w__15 fun (t45 : Int) w__16 =>
K ((t45 : Int) == 0) w__16) ∧
(t7 = false → K false w__15)) ∧
(t38 = false → K false w__15)) ∧
(t35 = false → K false w__13)) ∧
(t32 = false → Ld (.i .i64) (Addr.add a_x 0) w__11 fun (t50 : Int) w__17 =>
(((t50 : Int) == 16) = true → (t7 = true → LdA (R 6 (.i .i64)) a_x w__17 fun (t54 : Tup (R 6 (.i .i64))) w__18 =>
Ld (.i .i64) (Addr.add a_x 3) w__18 fun (t56 : Int) w__19 =>
RunT (.o (.lf .b)) P0 (do eqGuard .eql 82 (.tmp 54) (.tmp 57) (.agg (Tup.cells (R 6 (.i .i64)) t54).toArray) (.agg #[(.int .i64 16), (.int .i64 0), (.int .i64 (-1)), (.int .i64 t56), (.int .i64 0), (.int .i64 0)]); binOp .eql 82 (.agg (Tup.cells (R 6 (.i .i64)) t54).toArray) (.agg #[(.int .i64 16), (.int .i64 0), (.int .i64 (-1)), (.int .i64 t56), (.int .i64 0), (.int .i64 0)])) w__19 fun (t58 : Bool) w__20 =>
K t58 w__20) ∧
(t7 = false → K false w__17)) ∧
(((t50 : Int) == 16) = false → Ld (.i .i64) (Addr.add a_x 0) w__17 fun (t62 : Int) w__21 =>
(((t62 : Int) == 17) = true → Ld (.i .i64) (Addr.add a_x 1) w__21 fun (t65 : Int) w__22 =>
CallT (.o (.lf .b)) P0 85 [(.int .i64 t65)] w__22 fun (t66 : Bool) w__23 =>
(t66 = true → Ld (.i .i64) (Addr.add a_x 2) w__23 fun (t69 : Int) w__24 =>
CallT (.o (.lf .b)) P0 85 [(.int .i64 t69)] w__24 fun (t70 : Bool) w__25 =>
(t70 = true → Ld (.i .i64) (Addr.add a_x 4) w__25 fun (t74 : Int) w__26 =>
(((t74 : Int) == 0) = true → (t7 = true → Ld (.i .i64) (Addr.add a_x 5) w__26 fun (t82 : Int) w__27 =>
CallT (.o (.lf .b)) P0 87 [(.int .i64 t82)] w__27 fun (t83 : Bool) w__28 =>
K t83 w__28) ∧
(t7 = false → K false w__26)) ∧
(((t74 : Int) == 0) = false → K false w__26)) ∧
(t70 = false → K false w__25)) ∧
(t66 = false → K false w__23)) ∧
(((t62 : Int) == 17) = false → Ld (.i .i64) (Addr.add a_x 0) w__21 fun (t87 : Int) w__29 =>
(((t87 : Int) == 18) = true → Ld (.i .i64) (Addr.add a_x 1) w__29 fun (t90 : Int) w__30 =>
CallT (.o (.lf .b)) P0 85 [(.int .i64 t90)] w__30 fun (t91 : Bool) w__31 =>
(t91 = true → LdA (R 6 (.i .i64)) a_x w__31 fun (t93 : Tup (R 6 (.i .i64))) w__32 =>
CallT (.o (.lf .b)) P0 86 [(.agg (Tup.cells (R 6 (.i .i64)) t93).toArray)] w__32 fun (t94 : Bool) w__33 =>
(t94 = true → (t7 = true → Ld (.i .i64) (Addr.add a_x 5) w__33 fun (t101 : Int) w__34 =>
CallT (.o (.lf .b)) P0 87 [(.int .i64 t101)] w__34 fun (t102 : Bool) w__35 =>
K t102 w__35) ∧
(t7 = false → K false w__33)) ∧
(t94 = false → K false w__33)) ∧
(t91 = false → K false w__31)) ∧
(((t87 : Int) == 18) = false → Ld (.i .i64) (Addr.add a_x 0) w__29 fun (t106 : Int) w__36 =>
(((t106 : Int) == 19) = true → Ld (.i .i64) (Addr.add a_x 4) w__36 fun (t109 : Int) w__37 =>
CallT (.o (.lf .b)) P0 26 [(.int .i64 t109), (.int .i64 1), (.int .i64 6)] w__37 fun (t110 : Bool) w__38 =>
(t110 = true → LdA (R 6 (.i .i64)) a_x w__38 fun (t112 : Tup (R 6 (.i .i64))) w__39 =>
Ld (.i .i64) (Addr.add a_x 4) w__39 fun (t114 : Int) w__40 =>
RunT (.o (.lf .b)) P0 (do eqGuard .eql 82 (.tmp 112) (.tmp 115) (.agg (Tup.cells (R 6 (.i .i64)) t112).toArray) (.agg #[(.int .i64 19), (.int .i64 0), (.int .i64 (-1)), (.int .i64 0), (.int .i64 t114), (.int .i64 0)]); binOp .eql 82 (.agg (Tup.cells (R 6 (.i .i64)) t112).toArray) (.agg #[(.int .i64 19), (.int .i64 0), (.int .i64 (-1)), (.int .i64 0), (.int .i64 t114), (.int .i64 0)])) w__40 fun (t116 : Bool) w__41 =>
K t116 w__41) ∧
(t110 = false → K false w__38)) ∧
(((t106 : Int) == 19) = false → LdA (R 6 (.i .i64)) a_x w__36 fun (t118 : Tup (R 6 (.i .i64))) w__42 =>
RunT (.o (.lf .b)) P0 (do eqGuard .eql 82 (.tmp 118) (.tmp 119) (.agg (Tup.cells (R 6 (.i .i64)) t118).toArray) (.agg #[(.int .i64 20), (.int .i64 0), (.int .i64 (-1)), (.int .i64 0), (.int .i64 0), (.int .i64 0)]); binOp .eql 82 (.agg (Tup.cells (R 6 (.i .i64)) t118).toArray) (.agg #[(.int .i64 20), (.int .i64 0), (.int .i64 (-1)), (.int .i64 0), (.int .i64 0), (.int .i64 0)])) w__42 fun (t120 : Bool) w__43 =>
K t120 w__43))))))
theorem impl.InsOk.ok {x : Tup (R 6 (.i .i64))} {w : World} {K : Bool → World → Prop} (h : impl.InsOk.vc x w K) : CallT (.o (.lf .b)) P0 43 [(.agg (Tup.cells (R 6 (.i .i64)) x).toArray)] w K :=
  call_of Tryz.func43 rfl rfl (pl := impl.InsOk.pl) (show VC P0 Tryz.f43 impl.InsOk.pl (.o (.lf .b)) [(.agg (Tup.cells (R 6 (.i .i64)) x).toArray)] w K noP from Eq.mp (by kernel_rfl) h)
/- impl.target -/
def impl.target.pl : Pl := (.s (.r (D 1)) (.s (.r [.d, .d, .d, .d, .d, .d, (.l (.lf (.i .i64))), .d, .d]) .z))
def impl.target.vc (list : Sl) (i : Int) (w : World) (K : Int → World → Prop) : Prop :=
Ix list.a list.n i 6 w fun a_t9 w_ =>
Ld (.i .i64) (Addr.add a_t9 3) w_ fun (t11 : Int) w__1 =>
K (IntKind.wrap .i64 ((IntKind.wrap .i64 (i + 1)) + t11)) w__1
theorem impl.target.ok {list : Sl} {i : Int} {w : World} {K : Int → World → Prop} (h : impl.target.vc list i w K) : CallT (.o (.lf (.i .i64))) P0 45 [list.v, (.int .i64 i)] w K :=
  call_of Tryz.func45 rfl rfl (pl := impl.target.pl) (show VC P0 Tryz.f45 impl.target.pl (.o (.lf (.i .i64))) [list.v, (.int .i64 i)] w K noP from Eq.mp (by kernel_rfl) h)
/- impl.ProgForm -/
def impl.ProgForm.pl : Pl := (.s (.r (D 1)) (.s (.s (.r (D 3)) (.b (.l [(7, (.i .i64))] (.s (.r (D 1)) (.s (.c .z .z) (.s (.b (.s (.r [.d, .d, (.l (.ag (R 6 (.i .i64)))), .d, .d, .d]) (.s (.s (.r [(.l (.ag (R 6 (.i .i64)))), (.c (.o (.lf .b))), .d]) (.c (.s (.r (D 1)) .z) .z)) (.s (.r [.d, (.l (.lf (.i .i64))), (.c (.o (.lf .b))), (.sp .d), .d, .d, (.c (.o (.lf (.i .i64)))), .d, .d, .d, (.c (.o (.lf .b))), .d, .d]) (.c (.s (.r (D 1)) .z) .z))))) (.r (D 2)))))))) (.s (.b (.s (.r (D 4)) (.c (.s (.r (D 1)) .z) (.s (.s (.r (D 4)) (.c .z (.r [.d, .d, .d, .d, .d, .d, (.l (.lf (.i .i64))), .d, (.sp .d), .d, .d, .d, .d, .d, .d, (.l (.lf (.i .i64))), .d, .d, .d]))) (.c (.s (.r (D 1)) .z) .z))))) (.s (.r (D 1)) .z))))
def impl.ProgForm.vc (list : Sl) (w : World) (K : Int → World → Prop) : Prop :=
∃ (I : Int → World → Prop) (M : Int → World → Nat),
I 0 w ∧
(∀ (t7 : Int) w_, I t7 w_ → ∀ _ : Nat → Value,
((decide ((t7 : Int) < ((list.n : Nat) : Int))) = true → Ix list.a list.n t7 6 w_ fun a_t10 w__1 =>
LdA (R 6 (.i .i64)) a_t10 w__1 fun (t11 : Tup (R 6 (.i .i64))) w__2 =>
Nw (zc P0 82) 82 w__2 fun a_x w__3 =>
StA P0 a_x (Tup.cells (R 6 (.i .i64)) t11) w__3 fun w__4 =>
LdA (R 6 (.i .i64)) a_x w__4 fun (t12 : Tup (R 6 (.i .i64))) w__5 =>
CallT (.o (.lf .b)) P0 43 [(.agg (Tup.cells (R 6 (.i .i64)) t12).toArray)] w__5 fun (t13 : Bool) w__6 =>
((!t13) = true → K 1 w__6) ∧
((!t13) = false → Ld (.i .i64) (Addr.add a_x 0) w__6 fun (t16 : Int) w__7 =>
CallT (.o (.lf .b)) P0 44 [(.int .i64 t16)] w__7 fun (t17 : Bool) w__8 =>
(t17 = true → CallT (.o (.lf (.i .i64))) P0 45 [list.v, (.int .i64 t7)] w__8 fun (t21 : Int) w__9 =>
CallT (.o (.lf .b)) P0 26 [(.int .i64 t21), (.int .i64 0), (.int .i64 (IntKind.wrap .i64 (((list.n : Nat) : Int) - 1)))] w__9 fun (t25 : Bool) w__10 =>
((!t25) = true → K 2 w__10) ∧
((!t25) = false → (I (IntKind.wrap .i64 (t7 + 1)) w__10 ∧ M (IntKind.wrap .i64 (t7 + 1)) w__10 < M t7 w_))) ∧
(t17 = false → (I (IntKind.wrap .i64 (t7 + 1)) w__8 ∧ M (IntKind.wrap .i64 (t7 + 1)) w__8 < M t7 w_)))) ∧
((decide ((t7 : Int) < ((list.n : Nat) : Int))) = false → ((decide ((((list.n : Nat) : Int) : Int) > 48)) = true → K 3 w_) ∧
((decide ((((list.n : Nat) : Int) : Int) > 48)) = false → (((((list.n : Nat) : Int) : Int) == 0) = true → (((((list.n : Nat) : Int) : Int) == 0) = true → K 4 w_) ∧
(((((list.n : Nat) : Int) : Int) == 0) = false → K 0 w_)) ∧
(((((list.n : Nat) : Int) : Int) == 0) = false → Ix list.a list.n (IntKind.wrap .i64 (((list.n : Nat) : Int) - 1)) 6 w_ fun a_t41 w__11 =>
Ld (.i .i64) (Addr.add a_t41 0) w__11 fun (t43 : Int) w__12 =>
(((t43 : Int) != 20) = true → Ix list.a list.n (IntKind.wrap .i64 (((list.n : Nat) : Int) - 1)) 6 w__12 fun a_t50 w__13 =>
Ld (.i .i64) (Addr.add a_t50 0) w__13 fun (t52 : Int) w__14 =>
(((t52 : Int) != 16) = true → K 4 w__14) ∧
(((t52 : Int) != 16) = false → K 0 w__14)) ∧
(((t43 : Int) != 20) = false → K 0 w__12)))))
theorem impl.ProgForm.ok {list : Sl} {w : World} {K : Int → World → Prop} (h : impl.ProgForm.vc list w K) : CallT (.o (.lf (.i .i64))) P0 21 [list.v] w K :=
  call_of Tryz.func21 rfl rfl (pl := impl.ProgForm.pl) (show VC P0 Tryz.f21 impl.ProgForm.pl (.o (.lf (.i .i64))) [list.v] w K noP from Eq.mp (by kernel_rfl) h)
/- spec.l1In -/
def spec.l1In.pl : Pl := (.s (.r (D 1)) (.s (.r [.d, .d, .d, (.sp .d), .d, .d, .d, .d, .d]) .z))
def spec.l1In.vc (n : Int) (low : Int) (high : Int) (w : World) (K : Bool → World → Prop) : Prop :=
((decide ((n : Int) ≥ low)) = true → K (decide ((n : Int) ≤ high)) w) ∧
((decide ((n : Int) ≥ low)) = false → K false w)
theorem spec.l1In.ok {n : Int} {low : Int} {high : Int} {w : World} {K : Bool → World → Prop} (h : spec.l1In.vc n low high w K) : CallT (.o (.lf .b)) P0 60 [(.int .i64 n), (.int .i64 low), (.int .i64 high)] w K :=
  call_of Tryz.func60 rfl rfl (pl := spec.l1In.pl) (show VC P0 Tryz.f60 spec.l1In.pl (.o (.lf .b)) [(.int .i64 n), (.int .i64 low), (.int .i64 high)] w K noP from Eq.mp (by kernel_rfl) h)
/- spec.l1Alu -/
def spec.l1Alu.pl : Pl := (.s (.r (D 1)) (.s (.r [.d, (.c (.o (.lf .b))), .d]) .z))
def spec.l1Alu.vc (op : Int) (w : World) (K : Bool → World → Prop) : Prop :=
CallT (.o (.lf .b)) P0 60 [(.int .i64 op), (.int .i64 1), (.int .i64 11)] w fun (t4 : Bool) w_ =>
K t4 w_
theorem spec.l1Alu.ok {op : Int} {w : World} {K : Bool → World → Prop} (h : spec.l1Alu.vc op w K) : CallT (.o (.lf .b)) P0 63 [(.int .i64 op)] w K :=
  call_of Tryz.func63 rfl rfl (pl := spec.l1Alu.pl) (show VC P0 Tryz.f63 spec.l1Alu.pl (.o (.lf .b)) [(.int .i64 op)] w K noP from Eq.mp (by kernel_rfl) h)
/- spec.l1Jump -/
def spec.l1Jump.pl : Pl := (.s (.r (D 1)) (.s (.r [.d, (.c (.o (.lf .b))), .d]) .z))
def spec.l1Jump.vc (op : Int) (w : World) (K : Bool → World → Prop) : Prop :=
CallT (.o (.lf .b)) P0 60 [(.int .i64 op), (.int .i64 12), (.int .i64 15)] w fun (t4 : Bool) w_ =>
K t4 w_
theorem spec.l1Jump.ok {op : Int} {w : World} {K : Bool → World → Prop} (h : spec.l1Jump.vc op w K) : CallT (.o (.lf .b)) P0 65 [(.int .i64 op)] w K :=
  call_of Tryz.func65 rfl rfl (pl := spec.l1Jump.pl) (show VC P0 Tryz.f65 spec.l1Jump.pl (.o (.lf .b)) [(.int .i64 op)] w K noP from Eq.mp (by kernel_rfl) h)
/- spec.l1Bare -/
def spec.l1Bare.pl : Pl := (.s (.r (D 2)) (.s (.b (.s (.r [.d, (.l (.lf (.i .i64))), (.c (.o (.lf .b))), .d]) (.c (.s (.r [.d, (.l (.lf (.i .i64))), .d, (.sp .d), .d, (.l (.lf (.i .i64))), .d, .d, (.sp .d), .d, (.l (.lf (.i .i64))), .d, (.sp .d), .d, (.l (.lf (.i .i64))), .d, .d, .d, .d]) .z) (.s (.r [.d, (.l (.lf (.i .i64))), (.c (.o (.lf .b))), .d]) (.c (.s (.r [.d, (.l (.lf (.i .i64))), .d, (.sp .d), .d, (.l (.lf (.i .i64))), .d, (.sp .d), .d, (.l (.lf (.i .i64))), .d, .d, .d, .d]) .z) (.s (.r [.d, (.l (.lf (.i .i64))), .d, .d]) (.c (.s (.r [.d, (.l (.lf (.i .i64))), .d, (.sp .d), .d, (.l (.lf (.i .i64))), .d, .d, (.sp .d), .d, (.l (.lf (.i .i64))), .d, .d, (.sp .d), .d, (.l (.lf (.i .i64))), .d, .d, .d]) .z) (.s (.r [.d, (.l (.lf (.i .i64))), .d, .d]) (.c (.s (.r [.d, (.l (.lf (.i .i64))), .d, (.sp .d), .d, (.l (.lf (.i .i64))), .d, .d, (.sp .d), .d, (.l (.lf (.i .i64))), .d, (.sp .d), .d, (.l (.lf (.i .i64))), .d, .d, (.sp .d), .d, (.l (.lf (.i .i64))), .d, .d, .d, .d]) .z) (.s (.r [.d, (.l (.lf (.i .i64))), .d, .d]) (.c (.s (.r [.d, (.l (.lf (.i .i64))), .d, (.sp .d), .d, (.l (.lf (.i .i64))), .d, .d, (.sp .d), .d, (.l (.lf (.i .i64))), .d, (.sp .d), .d, (.l (.lf (.i .i64))), .d, .d, (.sp .d), .d, (.l (.lf (.i .i64))), .d, .d, .d, .d]) .z) (.s (.r [.d, (.l (.lf (.i .i64))), .d, .d]) (.c (.s (.r [.d, (.l (.lf (.i .i64))), .d, (.sp .d), .d, (.l (.lf (.i .i64))), .d, .d, (.sp .d), .d, (.l (.lf (.i .i64))), .d, .d, (.sp .d), .d, (.l (.lf (.i .i64))), .d, .d, (.sp .d), .d, (.l (.lf (.i .i64))), (.c (.o (.lf .b))), .d, .d]) .z) (.s (.r [.d, (.l (.lf (.i .i64))), .d, .d]) (.c (.s (.r [(.l (.ag (R 6 (.i .i64)))), .d, (.t (.o (.lf .b))), .d]) .z) .z))))))))))))))) (.s (.r (D 1)) .z)))
def spec.l1Bare.vc (x : Tup (R 6 (.i .i64))) (w : World) (K : Bool → World → Prop) : Prop :=
Nw (Tup.cells (R 6 (.i .i64)) x).toArray 82 w fun a_x w_ =>
Ld (.i .i64) (Addr.add a_x 0) w_ fun (t5 : Int) w__1 =>
CallT (.o (.lf .b)) P0 63 [(.int .i64 t5)] w__1 fun (t6 : Bool) w__2 =>
(t6 = true → Ld (.i .i64) (Addr.add a_x 3) w__2 fun (t8 : Int) w__3 =>
(((t8 : Int) == 0) = true → Ld (.i .i64) (Addr.add a_x 5) w__3 fun (t12 : Int) w__4 =>
(((t12 : Int) == 0) = true → Ld (.i .i64) (Addr.add a_x 2) w__4 fun (t17 : Int) w__5 =>
((decide ((t17 : Int) < 0)) = true → K true w__5) ∧
((decide ((t17 : Int) < 0)) = false → Ld (.i .i64) (Addr.add a_x 4) w__5 fun (t21 : Int) w__6 =>
K ((t21 : Int) == 0) w__6)) ∧
(((t12 : Int) == 0) = false → K false w__4)) ∧
(((t8 : Int) == 0) = false → K false w__3)) ∧
(t6 = false → Ld (.i .i64) (Addr.add a_x 0) w__2 fun (t27 : Int) w__7 =>
CallT (.o (.lf .b)) P0 65 [(.int .i64 t27)] w__7 fun (t28 : Bool) w__8 =>
(t28 = true → Ld (.i .i64) (Addr.add a_x 5) w__8 fun (t30 : Int) w__9 =>
(((t30 : Int) == 0) = true → Ld (.i .i64) (Addr.add a_x 2) w__9 fun (t34 : Int) w__10 =>
((decide ((t34 : Int) < 0)) = true → K true w__10) ∧
((decide ((t34 : Int) < 0)) = false → Ld (.i .i64) (Addr.add a_x 4) w__10 fun (t38 : Int) w__11 =>
K ((t38 : Int) == 0) w__11)) ∧
(((t30 : Int) == 0) = false → K false w__9)) ∧
(t28 = false → Ld (.i .i64) (Addr.add a_x 0) w__8 fun (t44 : Int) w__12 =>
(((t44 : Int) == 16) = true → Ld (.i .i64) (Addr.add a_x 1) w__12 fun (t47 : Int) w__13 =>
(((t47 : Int) == 0) = true → Ld (.i .i64) (Addr.add a_x 2) w__13 fun (t51 : Int) w__14 =>
(((t51 : Int) == (-1)) = true → Ld (.i .i64) (Addr.add a_x 4) w__14 fun (t56 : Int) w__15 =>
(((t56 : Int) == 0) = true → Ld (.i .i64) (Addr.add a_x 5) w__15 fun (t61 : Int) w__16 =>
K ((t61 : Int) == 0) w__16) ∧
(((t56 : Int) == 0) = false → K false w__15)) ∧
(((t51 : Int) == (-1)) = false → K false w__14)) ∧
(((t47 : Int) == 0) = false → K false w__13)) ∧
(((t44 : Int) == 16) = false → Ld (.i .i64) (Addr.add a_x 0) w__12 fun (t66 : Int) w__17 =>
(((t66 : Int) == 17) = true → Ld (.i .i64) (Addr.add a_x 2) w__17 fun (t69 : Int) w__18 =>
((decide ((t69 : Int) ≥ 0)) = true → Ld (.i .i64) (Addr.add a_x 4) w__18 fun (t73 : Int) w__19 =>
(((t73 : Int) == 0) = true → Ld (.i .i64) (Addr.add a_x 5) w__19 fun (t78 : Int) w__20 =>
(((t78 : Int) == 1) = true → K true w__20) ∧
(((t78 : Int) == 1) = false → Ld (.i .i64) (Addr.add a_x 5) w__20 fun (t82 : Int) w__21 =>
(((t82 : Int) == 2) = true → K true w__21) ∧
(((t82 : Int) == 2) = false → Ld (.i .i64) (Addr.add a_x 5) w__21 fun (t87 : Int) w__22 =>
K ((t87 : Int) == 4) w__22))) ∧
(((t73 : Int) == 0) = false → K false w__19)) ∧
((decide ((t69 : Int) ≥ 0)) = false → K false w__18)) ∧
(((t66 : Int) == 17) = false → Ld (.i .i64) (Addr.add a_x 0) w__17 fun (t93 : Int) w__23 =>
(((t93 : Int) == 18) = true → Ld (.i .i64) (Addr.add a_x 2) w__23 fun (t96 : Int) w__24 =>
((decide ((t96 : Int) < 0)) = true → Ld (.i .i64) (Addr.add a_x 5) w__24 fun (t105 : Int) w__25 =>
(((t105 : Int) == 1) = true → K true w__25) ∧
(((t105 : Int) == 1) = false → Ld (.i .i64) (Addr.add a_x 5) w__25 fun (t109 : Int) w__26 =>
(((t109 : Int) == 2) = true → K true w__26) ∧
(((t109 : Int) == 2) = false → Ld (.i .i64) (Addr.add a_x 5) w__26 fun (t114 : Int) w__27 =>
K ((t114 : Int) == 4) w__27))) ∧
((decide ((t96 : Int) < 0)) = false → Ld (.i .i64) (Addr.add a_x 4) w__24 fun (t100 : Int) w__28 =>
(((t100 : Int) == 0) = true → Ld (.i .i64) (Addr.add a_x 5) w__28 fun (t105_1 : Int) w__29 =>
(((t105_1 : Int) == 1) = true → K true w__29) ∧
(((t105_1 : Int) == 1) = false → Ld (.i .i64) (Addr.add a_x 5) w__29 fun (t109_1 : Int) w__30 =>
(((t109_1 : Int) == 2) = true → K true w__30) ∧
(((t109_1 : Int) == 2) = false → Ld (.i .i64) (Addr.add a_x 5) w__30 fun (t114_1 : Int) w__31 =>
K ((t114_1 : Int) == 4) w__31))) ∧
(((t100 : Int) == 0) = false → K false w__28))) ∧
(((t93 : Int) == 18) = false → Ld (.i .i64) (Addr.add a_x 0) w__23 fun (t120 : Int) w__32 =>
(((t120 : Int) == 19) = true → Ld (.i .i64) (Addr.add a_x 1) w__32 fun (t123 : Int) w__33 =>
(((t123 : Int) == 0) = true → Ld (.i .i64) (Addr.add a_x 2) w__33 fun (t127 : Int) w__34 =>
(((t127 : Int) == (-1)) = true → Ld (.i .i64) (Addr.add a_x 3) w__34 fun (t132 : Int) w__35 =>
(((t132 : Int) == 0) = true → Ld (.i .i64) (Addr.add a_x 5) w__35 fun (t137 : Int) w__36 =>
(((t137 : Int) == 0) = true → Ld (.i .i64) (Addr.add a_x 4) w__36 fun (t142 : Int) w__37 =>
CallT (.o (.lf .b)) P0 60 [(.int .i64 t142), (.int .i64 1), (.int .i64 6)] w__37 fun (t143 : Bool) w__38 =>
K t143 w__38) ∧
(((t137 : Int) == 0) = false → K false w__36)) ∧
(((t132 : Int) == 0) = false → K false w__35)) ∧
(((t127 : Int) == (-1)) = false → K false w__34)) ∧
(((t123 : Int) == 0) = false → K false w__33)) ∧
(((t120 : Int) == 19) = false → Ld (.i .i64) (Addr.add a_x 0) w__32 fun (t147 : Int) w__39 =>
(((t147 : Int) == 20) = true → LdA (R 6 (.i .i64)) a_x w__39 fun (t149 : Tup (R 6 (.i .i64))) w__40 =>
RunT (.o (.lf .b)) P0 (do eqGuard .eql 82 (.tmp 149) (.tmp 150) (.agg (Tup.cells (R 6 (.i .i64)) t149).toArray) (.agg #[(.int .i64 20), (.int .i64 0), (.int .i64 (-1)), (.int .i64 0), (.int .i64 0), (.int .i64 0)]); binOp .eql 82 (.agg (Tup.cells (R 6 (.i .i64)) t149).toArray) (.agg #[(.int .i64 20), (.int .i64 0), (.int .i64 (-1)), (.int .i64 0), (.int .i64 0), (.int .i64 0)])) w__40 fun (t151 : Bool) w__41 =>
K t151 w__41) ∧
(((t147 : Int) == 20) = false → K false w__39)))))))
theorem spec.l1Bare.ok {x : Tup (R 6 (.i .i64))} {w : World} {K : Bool → World → Prop} (h : spec.l1Bare.vc x w K) : CallT (.o (.lf .b)) P0 139 [(.agg (Tup.cells (R 6 (.i .i64)) x).toArray)] w K :=
  call_of Tryz.func139 rfl rfl (pl := spec.l1Bare.pl) (show VC P0 Tryz.f139 spec.l1Bare.pl (.o (.lf .b)) [(.agg (Tup.cells (R 6 (.i .i64)) x).toArray)] w K noP from Eq.mp (by kernel_rfl) h)
/- spec.l1InsOk -/
def spec.l1InsOk.pl : Pl := (.s (.r (D 2)) (.s (.r [.d, (.l (.lf (.i .i64))), (.c (.o (.lf .b))), (.sp .d), .d, (.l (.lf (.i .i64))), (.c (.o (.lf .b))), .d, (.sp .d), .d, (.l (.lf (.i .i64))), (.c (.o (.lf .b))), .d, (.sp .d), .d, (.l (.lf (.i .i64))), (.c (.o (.lf .b))), .d, (.sp .d), (.l (.ag (R 6 (.i .i64)))), (.c (.o (.lf .b))), .d, .d]) .z))
def spec.l1InsOk.vc (x : Tup (R 6 (.i .i64))) (w : World) (K : Bool → World → Prop) : Prop :=
Nw (Tup.cells (R 6 (.i .i64)) x).toArray 82 w fun a_x w_ =>
Ld (.i .i64) (Addr.add a_x 1) w_ fun (t4 : Int) w__1 =>
CallT (.o (.lf .b)) P0 60 [(.int .i64 t4), (.int .i64 0), (.int .i64 10)] w__1 fun (t5 : Bool) w__2 =>
(t5 = true → Ld (.i .i64) (Addr.add a_x 2) w__2 fun (t8 : Int) w__3 =>
CallT (.o (.lf .b)) P0 60 [(.int .i64 t8), (.int .i64 (-1)), (.int .i64 10)] w__3 fun (t9 : Bool) w__4 =>
(t9 = true → Ld (.i .i64) (Addr.add a_x 3) w__4 fun (t13 : Int) w__5 =>
CallT (.o (.lf .b)) P0 60 [(.int .i64 t13), (.int .i64 (-128)), (.int .i64 127)] w__5 fun (t14 : Bool) w__6 =>
(t14 = true → Ld (.i .i64) (Addr.add a_x 4) w__6 fun (t18 : Int) w__7 =>
CallT (.o (.lf .b)) P0 60 [(.int .i64 t18), (.int .i64 0), (.int .i64 4294967295)] w__7 fun (t19 : Bool) w__8 =>
(t19 = true → LdA (R 6 (.i .i64)) a_x w__8 fun (t22 : Tup (R 6 (.i .i64))) w__9 =>
CallT (.o (.lf .b)) P0 139 [(.agg (Tup.cells (R 6 (.i .i64)) t22).toArray)] w__9 fun (t23 : Bool) w__10 =>
K t23 w__10) ∧
(t19 = false → K false w__8)) ∧
(t14 = false → K false w__6)) ∧
(t9 = false → K false w__4)) ∧
(t5 = false → K false w__2)
theorem spec.l1InsOk.ok {x : Tup (R 6 (.i .i64))} {w : World} {K : Bool → World → Prop} (h : spec.l1InsOk.vc x w K) : CallT (.o (.lf .b)) P0 90 [(.agg (Tup.cells (R 6 (.i .i64)) x).toArray)] w K :=
  call_of Tryz.func90 rfl rfl (pl := spec.l1InsOk.pl) (show VC P0 Tryz.f90 spec.l1InsOk.pl (.o (.lf .b)) [(.agg (Tup.cells (R 6 (.i .i64)) x).toArray)] w K noP from Eq.mp (by kernel_rfl) h)
/- spec.l1Form -/
def spec.l1Form.pl : Pl := (.s (.r (D 1)) (.s (.s (.r (D 1)) (.b (.l [(3, (.i .i64))] (.s (.s (.r (D 4)) (.c .z .z)) (.s (.b (.s (.s (.r [.d, .d, .d, (.l (.ag (R 6 (.i .i64)))), (.c (.o (.lf .b))), .d]) (.c (.s (.r (D 1)) .z) .z)) (.j [(30, .b)] (.r [.d, .d, .d, .d, (.l (.lf (.i .i64))), (.c (.o (.lf .b))), (.sp .d), .d, .d, .d, .d, (.l (.lf (.i .i64))), .d, .d]) (.c (.s (.r [.d, .d, .d, .d, .d, .d, (.l (.lf (.i .i64))), .d, .d, .d, .d, (.c (.o (.lf .b))), .d]) (.c (.s (.r (D 1)) .z) .z)) .z)))) (.r (D 3))))))) (.s (.r (D 3)) (.s (.s (.r (D 2)) (.c (.s (.r (D 1)) .z) .z)) (.s (.s (.r [.d, .d, (.sp .d), .d, .d, .d, .d, .d, (.l (.lf (.i .i64))), .d, (.sp .d), .d, .d, .d, .d, .d, (.l (.lf (.i .i64))), .d, .d, .d]) (.c (.s (.r (D 1)) .z) .z)) (.s (.r (D 1)) .z))))))
def spec.l1Form.vc (list : Sl) (w : World) (K : Int → World → Prop) : Prop :=
∃ (I : Int → World → Prop) (M : Int → World → Nat),
I 0 w ∧
(∀ (i : Int) w_, I i w_ → ∀ _ : Nat → Value,
((decide ((i : Int) < ((list.n : Nat) : Int))) = true → Ix list.a list.n i 6 w_ fun a_t13 w__1 =>
LdA (R 6 (.i .i64)) a_t13 w__1 fun (t14 : Tup (R 6 (.i .i64))) w__2 =>
CallT (.o (.lf .b)) P0 90 [(.agg (Tup.cells (R 6 (.i .i64)) t14).toArray)] w__2 fun (t15 : Bool) w__3 =>
((!t15) = true → K 1 w__3) ∧
((!t15) = false → ∃ J : Bool → World → Prop,
(Ix list.a list.n i 6 w__3 fun a_t19 w__4 =>
Ld (.i .i64) (Addr.add a_t19 0) w__4 fun (t21 : Int) w__5 =>
CallT (.o (.lf .b)) P0 65 [(.int .i64 t21)] w__5 fun (t22 : Bool) w__6 =>
(t22 = true → J true w__6) ∧
(t22 = false → Ix list.a list.n i 6 w__6 fun a_t26 w__7 =>
Ld (.i .i64) (Addr.add a_t26 0) w__7 fun (t28 : Int) w__8 =>
J ((t28 : Int) == 16) w__8)) ∧
(∀ (t30 : Bool) w__9, J t30 w__9 → ∀ _ : Nat → Value,
(t30 = true → Ix list.a list.n i 6 w__9 fun a_t35 w__10 =>
Ld (.i .i64) (Addr.add a_t35 3) w__10 fun (t37 : Int) w__11 =>
CallT (.o (.lf .b)) P0 60 [(.int .i64 (IntKind.wrap .i64 ((IntKind.wrap .i64 (i + 1)) + t37))), (.int .i64 0), (.int .i64 (IntKind.wrap .i64 (((list.n : Nat) : Int) - 1)))] w__11 fun (t42 : Bool) w__12 =>
((!t42) = true → K 2 w__12) ∧
((!t42) = false → (I (IntKind.wrap .i64 (i + 1)) w__12 ∧ M (IntKind.wrap .i64 (i + 1)) w__12 < M i w_))) ∧
(t30 = false → (I (IntKind.wrap .i64 (i + 1)) w__9 ∧ M (IntKind.wrap .i64 (i + 1)) w__9 < M i w_))))) ∧
((decide ((i : Int) < ((list.n : Nat) : Int))) = false → ((decide ((((list.n : Nat) : Int) : Int) > 48)) = true → K 3 w_) ∧
((decide ((((list.n : Nat) : Int) : Int) > 48)) = false → (((((list.n : Nat) : Int) : Int) == 0) = true → K 4 w_) ∧
(((((list.n : Nat) : Int) : Int) == 0) = false → Ix list.a list.n (IntKind.wrap .i64 (((list.n : Nat) : Int) - 1)) 6 w_ fun a_t54 w__13 =>
Ld (.i .i64) (Addr.add a_t54 0) w__13 fun (t56 : Int) w__14 =>
(((t56 : Int) != 20) = true → Ix list.a list.n (IntKind.wrap .i64 (((list.n : Nat) : Int) - 1)) 6 w__14 fun a_t62 w__15 =>
Ld (.i .i64) (Addr.add a_t62 0) w__15 fun (t64 : Int) w__16 =>
(((t64 : Int) != 16) = true → K 4 w__16) ∧
(((t64 : Int) != 16) = false → K 0 w__16)) ∧
(((t56 : Int) != 20) = false → K 0 w__14)))))
theorem spec.l1Form.ok {list : Sl} {w : World} {K : Int → World → Prop} (h : spec.l1Form.vc list w K) : CallT (.o (.lf (.i .i64))) P0 47 [list.v] w K :=
  call_of Tryz.func47 rfl rfl (pl := spec.l1Form.pl) (show VC P0 Tryz.f47 spec.l1Form.pl (.o (.lf (.i .i64))) [list.v] w K noP from Eq.mp (by kernel_rfl) h)
/- spec.l12Fine -/
def spec.l12Fine.pl : Pl := (.s (.r (D 1)) (.s (.r [.d, (.c (.o (.lf (.i .i64)))), .d, .d]) .z))
def spec.l12Fine.vc (list : Sl) (w : World) (K : Bool → World → Prop) : Prop :=
CallT (.o (.lf (.i .i64))) P0 47 [list.v] w fun (t4 : Int) w_ =>
K ((t4 : Int) == 0) w_
theorem spec.l12Fine.ok {list : Sl} {w : World} {K : Bool → World → Prop} (h : spec.l12Fine.vc list w K) : CallT (.o (.lf .b)) P0 24 [list.v] w K :=
  call_of Tryz.func24 rfl rfl (pl := spec.l12Fine.pl) (show VC P0 Tryz.f24 spec.l12Fine.pl (.o (.lf .b)) [list.v] w K noP from Eq.mp (by kernel_rfl) h)
/- spec.l12Next -/
def spec.l12Next.pl : Pl := (.s (.r (D 1)) (.s (.r [.d, .d, .d, (.l (.ag (R 6 (.i .i64)))), .d, .d]) (.s (.b (.s (.r [.d, (.l (.lf (.i .i64))), .d, .d]) (.c (.s (.r (D 2)) .z) (.s (.r [.d, (.l (.lf (.i .i64))), .d, .d]) (.c (.s (.r [.d, .d, .d, (.l (.lf (.i .i64))), .d, .d, .d]) .z) (.j [(25, .b)] (.r [.d, (.l (.lf (.i .i64))), (.c (.o (.lf .b))), .d, (.sp .d), .d, (.l (.lf (.i .i64))), .d, .d, .d]) (.c (.s (.r (D 4)) .z) (.s (.r [.d, (.l (.lf (.i .i64))), .d, .d]) (.c (.s (.r [.d, .d, .d, (.l (.lf (.i .i64))), .d, .d, .d, .d, .d]) .z) .z))))))))) (.s (.r [.d, .d, .d, .d, .d, (.l (.lf (.i .i64))), .d, .d, .d]) .z))))
def spec.l12Next.vc (list : Sl) (at_ : Int) (w : World) (K : Sl → World → Prop) : Prop :=
Ix list.a list.n at_ 6 w fun a_t8 w_ =>
LdA (R 6 (.i .i64)) a_t8 w_ fun (t9 : Tup (R 6 (.i .i64))) w__1 =>
Nw (zc P0 82) 82 w__1 fun a_x w__2 =>
StA P0 a_x (Tup.cells (R 6 (.i .i64)) t9) w__2 fun w__3 =>
Ld (.i .i64) (Addr.add a_x 0) w__3 fun (t12 : Int) w__4 =>
(((t12 : Int) == 20) = true → Nw #[] 3 w__4 fun a_t14 w__5 =>
K ⟨(some a_t14), 0, 0⟩ w__5) ∧
(((t12 : Int) == 20) = false → Ld (.i .i64) (Addr.add a_x 0) w__4 fun (t17 : Int) w__6 =>
(((t17 : Int) == 16) = true → Ld (.i .i64) (Addr.add a_x 3) w__6 fun (t22 : Int) w__7 =>
Nw #[(.int .i64 (IntKind.wrap .i64 ((IntKind.wrap .i64 (at_ + 1)) + t22)))] 3 w__7 fun a_t24 w__8 =>
K ⟨(some a_t24), 1, 1⟩ w__8) ∧
(((t17 : Int) == 16) = false → ∃ J : Bool → World → Prop,
(Ld (.i .i64) (Addr.add a_x 0) w__6 fun (t27 : Int) w__9 =>
CallT (.o (.lf .b)) P0 65 [(.int .i64 t27)] w__9 fun (t28 : Bool) w__10 =>
((!t28) = true → J true w__10) ∧
((!t28) = false → Ld (.i .i64) (Addr.add a_x 3) w__10 fun (t32 : Int) w__11 =>
J ((t32 : Int) == 0) w__11)) ∧
(∀ (t25 : Bool) w__12, J t25 w__12 → ∀ _ : Nat → Value,
(t25 = true → Nw #[(.int .i64 (IntKind.wrap .i64 (at_ + 1)))] 3 w__12 fun a_t37 w__13 =>
K ⟨(some a_t37), 1, 1⟩ w__13) ∧
(t25 = false → Ld (.i .i64) (Addr.add a_x 3) w__12 fun (t40 : Int) w__14 =>
((decide ((t40 : Int) < 0)) = true → Ld (.i .i64) (Addr.add a_x 3) w__14 fun (t45 : Int) w__15 =>
Nw #[(.int .i64 (IntKind.wrap .i64 ((IntKind.wrap .i64 (at_ + 1)) + t45))), (.int .i64 (IntKind.wrap .i64 (at_ + 1)))] 3 w__15 fun a_t49 w__16 =>
K ⟨(some a_t49), 2, 2⟩ w__16) ∧
((decide ((t40 : Int) < 0)) = false → Ld (.i .i64) (Addr.add a_x 3) w__14 fun (t55 : Int) w__17 =>
Nw #[(.int .i64 (IntKind.wrap .i64 (at_ + 1))), (.int .i64 (IntKind.wrap .i64 ((IntKind.wrap .i64 (at_ + 1)) + t55)))] 3 w__17 fun a_t57 w__18 =>
K ⟨(some a_t57), 2, 2⟩ w__18)))))
theorem spec.l12Next.ok {list : Sl} {at_ : Int} {w : World} {K : Sl → World → Prop} (h : spec.l12Next.vc list at_ w K) : CallT (.o (.lf .sl)) P0 48 [list.v, (.int .i64 at_)] w K :=
  call_of Tryz.func48 rfl rfl (pl := spec.l12Next.pl) (show VC P0 Tryz.f48 spec.l12Next.pl (.o (.lf .sl)) [list.v, (.int .i64 at_)] w K noP from Eq.mp (by kernel_rfl) h)
/- impl.ahead -/
def impl.ahead.pl : Pl := (.s (.r (D 1)) (.s (.r [.d, .d, .d, (.l (.ag (R 6 (.i .i64)))), .d, .d]) (.s (.b (.s (.r [.d, (.l (.lf (.i .i64))), .d, .d]) (.c (.s (.r (D 1)) .z) (.s (.r [.d, (.l (.lf (.i .i64))), .d, .d]) (.c (.s (.r [.d, .d, (.c (.o (.lf (.i .i64)))), .d, .d]) .z) (.s (.r [.d, (.l (.lf (.i .i64))), (.c (.o (.lf .b))), .d]) (.c (.s (.r [.d, .d, .d, .d, (.c (.o (.lf (.i .i64)))), .d, .d]) (.s (.r [.d, (.c .z)]) (.s (.r [.d, (.c (.o (.lf .sl))), (.c (.o (.lf .sl))), .d]) .z))) .z))))))) (.s (.r (D 4)) .z))))
def impl.ahead.vc (list : Sl) (at_ : Int) (w : World) (K : Sl → World → Prop) : Prop :=
Ix list.a list.n at_ 6 w fun a_t9 w_ =>
LdA (R 6 (.i .i64)) a_t9 w_ fun (t10 : Tup (R 6 (.i .i64))) w__1 =>
Nw (zc P0 82) 82 w__1 fun a_x w__2 =>
StA P0 a_x (Tup.cells (R 6 (.i .i64)) t10) w__2 fun w__3 =>
Ld (.i .i64) (Addr.add a_x 0) w__3 fun (t13 : Int) w__4 =>
(((t13 : Int) == 20) = true → K ⟨none, 0, 0⟩ w__4) ∧
(((t13 : Int) == 20) = false → Ld (.i .i64) (Addr.add a_x 0) w__4 fun (t17 : Int) w__5 =>
(((t17 : Int) == 16) = true → CallT (.o (.lf (.i .i64))) P0 45 [list.v, (.int .i64 at_)] w__5 fun (t21 : Int) w__6 =>
Nw #[(.int .i64 t21)] 3 w__6 fun a_t22 w__7 =>
K ⟨(some a_t22), 1, 1⟩ w__7) ∧
(((t17 : Int) == 16) = false → Ld (.i .i64) (Addr.add a_x 0) w__5 fun (t25 : Int) w__8 =>
CallT (.o (.lf .b)) P0 49 [(.int .i64 t25)] w__8 fun (t26 : Bool) w__9 =>
(t26 = true → CallT (.o (.lf (.i .i64))) P0 45 [list.v, (.int .i64 at_)] w__9 fun (t31 : Int) w__10 =>
Nw #[(.int .i64 (IntKind.wrap .i64 (at_ + 1))), (.int .i64 t31)] 3 w__10 fun a_t32 w__11 =>
CallT .z P0 46 [(.slice (some a_t32) 2 2)] w__11 fun (u : Unit) w__12 =>
CallT (.o (.lf .sl)) P0 50 [(.slice (some a_t32) 2 2)] w__12 fun (t36 : Sl) w__13 =>
CallT (.o (.lf .sl)) P0 34 [t36.v] w__13 fun (t37 : Sl) w__14 =>
K t37 w__14) ∧
(t26 = false → Nw #[(.int .i64 (IntKind.wrap .i64 (at_ + 1)))] 3 w__9 fun a_t40 w__15 =>
K ⟨(some a_t40), 1, 1⟩ w__15)))
theorem impl.ahead.ok {list : Sl} {at_ : Int} {w : World} {K : Sl → World → Prop} (h : impl.ahead.vc list at_ w K) : CallT (.o (.lf .sl)) P0 27 [list.v, (.int .i64 at_)] w K :=
  call_of Tryz.func27 rfl rfl (pl := impl.ahead.pl) (show VC P0 Tryz.f27 impl.ahead.pl (.o (.lf .sl)) [list.v, (.int .i64 at_)] w K noP from Eq.mp (by kernel_rfl) h)
/- impl.FlowNext -/
def impl.FlowNext.pl : Pl := (.s (.r (D 1)) (.s (.s (.r [.d, (.c (.o (.lf (.i .i64)))), .d, (.sp .d), .d, .d, .d, .d, (.c (.o (.lf .b))), .d, .d]) (.c (.s (.r (D 1)) .z) .z)) (.s (.r [.d, .d, (.c (.o (.lf .sl))), .d]) .z)))
def impl.FlowNext.vc (list : Sl) (at_ : Int) (w : World) (K : Sl → World → Prop) : Prop :=
CallT (.o (.lf (.i .i64))) P0 21 [list.v] w fun (t6 : Int) w_ =>
(((t6 : Int) != 0) = true → K ⟨none, 0, 0⟩ w_) ∧
(((t6 : Int) != 0) = false → CallT (.o (.lf .b)) P0 26 [(.int .i64 at_), (.int .i64 0), (.int .i64 (IntKind.wrap .i64 (((list.n : Nat) : Int) - 1)))] w_ fun (t13 : Bool) w__1 =>
((!t13) = true → K ⟨none, 0, 0⟩ w__1) ∧
((!t13) = false → CallT (.o (.lf .sl)) P0 27 [list.v, (.int .i64 at_)] w__1 fun (t18 : Sl) w__2 =>
K t18 w__2))
theorem impl.FlowNext.ok {list : Sl} {at_ : Int} {w : World} {K : Sl → World → Prop} (h : impl.FlowNext.vc list at_ w K) : CallT (.o (.lf .sl)) P0 11 [list.v, (.int .i64 at_)] w K :=
  call_of Tryz.func11 rfl rfl (pl := impl.FlowNext.pl) (show VC P0 Tryz.f11 impl.FlowNext.pl (.o (.lf .sl)) [list.v, (.int .i64 at_)] w K noP from Eq.mp (by kernel_rfl) h)
/- slices.Clip[[]int,int] -/
def slices.Clip_int.pl : Pl := (.s (.r (D 1)) (.s (.r [.d, .d, .d, .d, .d, (.t (.o (.lf .sl))), .d]) .z))
def slices.Clip_int.vc (s : Sl) (w : World) (K : Sl → World → Prop) : Prop :=
RunT (.o (.lf .sl)) P0 (Instr.sliceAt 25 s.v none (some (.int .i64 ((s.n : Nat) : Int))) (some (.int .i64 ((s.n : Nat) : Int)))) w fun (t8 : Sl) w_ =>
K t8 w_
theorem slices.Clip_int.ok {s : Sl} {w : World} {K : Sl → World → Prop} (h : slices.Clip_int.vc s w K) : CallT (.o (.lf .sl)) P0 34 [s.v] w K :=
  call_of Tryz.func34 rfl rfl (pl := slices.Clip_int.pl) (show VC P0 Tryz.f34 slices.Clip_int.pl (.o (.lf .sl)) [s.v] w K noP from Eq.mp (by kernel_rfl) h)
end Go.Proofs.YtihllippchgkgaaGreat.V

/-
  DERIVED: THE SHELF's CONTRACTS AT THIS DUMP, IN PLAIN WORDS (tools/lay-plain.mjs out of 'TryzShelf.lean', which tools/lay-shelf.mjs wrote): THE SAME DECLARATIONS UNDER THE SAME NAMES: 'import', 'namespace', 'open', 'def', 'theorem' AND NOTHING ELSE: no command of the shelf's: FOR A HAND-IN. Each laying: the table of numbers ('.._ren') and one theorem, a field a fact of the dump's own or the kernel's comparison; each contract: ONE APPLICATION.
-/
namespace Go.Proofs
open Go.Shelf
def Tryz.lays128_ren : Go.Shelf.Ren := ⟨fun | 128 => 137 | n => n, fun | 51 => 168 | 3 => 3 | 4 => 4 | 46 => 132 | 5 => 5 | 9 => 9 | n => n, fun | n => n⟩
theorem Tryz.lays128 : Go.Proofs.Lays.n128 Tryz.prog Tryz.lays128_ren := {
  mixed := by kernel_rfl
  f128 := Tryz.func137.trans (congrArg some (by kernel_rfl))
  t3 := Tryz.underlying3
  a3 := Tryz.isAgg3
  z3 := Tryz.sizeOf3
  v3 := Tryz.zeroValue3
  t4 := Tryz.underlying4
  a4 := Tryz.isAgg4
  z4 := Tryz.sizeOf4
  v4 := Tryz.zeroValue4
  t5 := Tryz.underlying5
  a5 := Tryz.isAgg5
  z5 := Tryz.sizeOf5
  v5 := Tryz.zeroValue5
  t9 := Tryz.underlying9
  a9 := Tryz.isAgg9
  z9 := Tryz.sizeOf9
  v9 := Tryz.zeroValue9
  t46 := Tryz.underlying132
  a46 := Tryz.isAgg132
  z46 := Tryz.sizeOf132
  v46 := Tryz.zeroValue132
  t51 := Tryz.underlying168
  a51 := Tryz.isAgg168
  z51 := Tryz.sizeOf168
  v51 := Tryz.zeroValue168 }
/-- bits.Len32: "Len32 returns the minimum number of bits required to represent x; the result is 0 for x == 0.": IT RETURNS 'Lib.bitLen x'; the world is as it was. ('h0', 'h1': x is a uint32.) (LAID: no walk: one application.) -/
theorem Tryz.bits_Len32 (x : Int) (w : World) (h0 : 0 ≤ x) (h1 : x ≤ 4294967295) :
    Calls Tryz.prog 137 #[.int .u32 x] w fun e w' => e = .returned (.int .i64 (Lib.bitLen x.toNat)) ∧ w' = w := Any.bits_Len32 Tryz.lays128 x w h0 h1
def Tryz.lays125_ren : Go.Shelf.Ren := ⟨fun | 125 => 89 | 128 => 137 | 129 => 138 | n => n, fun | 46 => 132 | 3 => 3 | 51 => 168 | 53 => 170 | 4 => 4 | 5 => 5 | 9 => 9 | n => n, fun | n => n⟩
theorem Tryz.lays125 : Go.Proofs.Lays.n125 Tryz.prog Tryz.lays125_ren := {
  mixed := by kernel_rfl
  f125 := Tryz.func89.trans (congrArg some (by kernel_rfl))
  f128 := Tryz.func137.trans (congrArg some (by kernel_rfl))
  f129 := Tryz.func138.trans (congrArg some (by kernel_rfl))
  t3 := Tryz.underlying3
  a3 := Tryz.isAgg3
  z3 := Tryz.sizeOf3
  v3 := Tryz.zeroValue3
  t4 := Tryz.underlying4
  a4 := Tryz.isAgg4
  z4 := Tryz.sizeOf4
  v4 := Tryz.zeroValue4
  t5 := Tryz.underlying5
  a5 := Tryz.isAgg5
  z5 := Tryz.sizeOf5
  v5 := Tryz.zeroValue5
  t9 := Tryz.underlying9
  a9 := Tryz.isAgg9
  z9 := Tryz.sizeOf9
  v9 := Tryz.zeroValue9
  t46 := Tryz.underlying132
  a46 := Tryz.isAgg132
  z46 := Tryz.sizeOf132
  v46 := Tryz.zeroValue132
  t51 := Tryz.underlying168
  a51 := Tryz.isAgg168
  z51 := Tryz.sizeOf168
  v51 := Tryz.zeroValue168
  t53 := Tryz.underlying170
  a53 := Tryz.isAgg170
  z53 := Tryz.sizeOf170
  v53 := Tryz.zeroValue170 }
/-- bits.Len: "Len returns the minimum number of bits required to represent x; the result is 0 for x == 0.": IT RETURNS 'Lib.bitLen x'; the world is as it was. (A uint has 64 bits in the model.) ITS CALLEE bits.Len64 IS MET BY ITS OWN CONTRACT OFF THE SHELF (lay that first). (LAID: no walk: one application.) -/
theorem Tryz.bits_Len (x : Int) (w : World) (h0 : 0 ≤ x) (h1 : x ≤ 18446744073709551615) :
    Calls Tryz.prog 89 #[.int .u64 x] w fun e w' => e = .returned (.int .i64 (Lib.bitLen x.toNat)) ∧ w' = w := Any.bits_Len Tryz.lays125 x w h0 h1
def Tryz.lays215_ren : Go.Shelf.Ren := ⟨fun | 215 => 171 | n => n, fun | 3 => 3 | 4 => 4 | n => n, fun | n => n⟩
theorem Tryz.lays215 : Go.Proofs.Lays.n215 Tryz.prog Tryz.lays215_ren := {
  mixed := by kernel_rfl
  f215 := Tryz.func171.trans (congrArg some (by kernel_rfl))
  t3 := Tryz.underlying3
  a3 := Tryz.isAgg3
  z3 := Tryz.sizeOf3
  v3 := Tryz.zeroValue3
  t4 := Tryz.underlying4
  a4 := Tryz.isAgg4
  z4 := Tryz.sizeOf4
  v4 := Tryz.zeroValue4 }
open Go.RowKit in
/-- cmp.isNaN at int: 'x != x': false. (LAID: no walk: one application.) -/
theorem Tryz.cmp_isNaN_int (x : Int) (w : World) :
    Calls Tryz.prog 171 #[.int .i64 x] w fun e w' => e = .returned (.bool false) ∧ w' = w := Any.cmp_isNaN_int Tryz.lays215 x w
def Tryz.lays129_ren : Go.Shelf.Ren := ⟨fun | 129 => 138 | n => n, fun | 53 => 170 | 3 => 3 | 4 => 4 | 46 => 132 | 5 => 5 | 9 => 9 | n => n, fun | n => n⟩
theorem Tryz.lays129 : Go.Proofs.Lays.n129 Tryz.prog Tryz.lays129_ren := {
  mixed := by kernel_rfl
  f129 := Tryz.func138.trans (congrArg some (by kernel_rfl))
  t3 := Tryz.underlying3
  a3 := Tryz.isAgg3
  z3 := Tryz.sizeOf3
  v3 := Tryz.zeroValue3
  t4 := Tryz.underlying4
  a4 := Tryz.isAgg4
  z4 := Tryz.sizeOf4
  v4 := Tryz.zeroValue4
  t5 := Tryz.underlying5
  a5 := Tryz.isAgg5
  z5 := Tryz.sizeOf5
  v5 := Tryz.zeroValue5
  t9 := Tryz.underlying9
  a9 := Tryz.isAgg9
  z9 := Tryz.sizeOf9
  v9 := Tryz.zeroValue9
  t46 := Tryz.underlying132
  a46 := Tryz.isAgg132
  z46 := Tryz.sizeOf132
  v46 := Tryz.zeroValue132
  t53 := Tryz.underlying170
  a53 := Tryz.isAgg170
  z53 := Tryz.sizeOf170
  v53 := Tryz.zeroValue170 }
/-- bits.Len64: "Len64 returns the minimum number of bits required to represent x; the result is 0 for x == 0.": IT RETURNS 'Lib.bitLen x'; the world is as it was. ('h0', 'h1': x is a uint64.) (LAID: no walk: one application.) -/
theorem Tryz.bits_Len64 (x : Int) (w : World) (h0 : 0 ≤ x) (h1 : x ≤ 18446744073709551615) :
    Calls Tryz.prog 138 #[.int .u64 x] w fun e w' => e = .returned (.int .i64 (Lib.bitLen x.toNat)) ∧ w' = w := Any.bits_Len64 Tryz.lays129 x w h0 h1
def Tryz.lays189_ren : Go.Shelf.Ren := ⟨fun | 189 => 46 | 125 => 89 | 257 => 88 | 128 => 137 | 129 => 138 | 294 => 128 | 295 => 129 | 296 => 130 | 297 => 131 | 298 => 132 | 299 => 133 | 216 => 134 | 300 => 135 | 301 => 136 | 328 => 166 | 329 => 167 | 330 => 168 | 331 => 169 | 332 => 170 | 215 => 171 | 343 => 191 | n => n, fun | 28 => 25 | 3 => 3 | 46 => 132 | 0 => 0 | 51 => 168 | 53 => 170 | 4 => 4 | 183 => 160 | 182 => 159 | 131 => 165 | 5 => 5 | 9 => 9 | 218 => 194 | 222 => 198 | 228 => 213 | 229 => 210 | n => n, fun | n => n⟩
theorem Tryz.lays189 : Go.Proofs.Lays.n189 Tryz.prog Tryz.lays189_ren := {
  mixed := by kernel_rfl
  f125 := Tryz.func89.trans (congrArg some (by kernel_rfl))
  f128 := Tryz.func137.trans (congrArg some (by kernel_rfl))
  f129 := Tryz.func138.trans (congrArg some (by kernel_rfl))
  f189 := Tryz.func46.trans (congrArg some (by kernel_rfl))
  f215 := Tryz.func171.trans (congrArg some (by kernel_rfl))
  f216 := Tryz.func134.trans (congrArg some (by kernel_rfl))
  f257 := Tryz.func88.trans (congrArg some (by kernel_rfl))
  f294 := Tryz.func128.trans (congrArg some (by kernel_rfl))
  f295 := Tryz.func129.trans (congrArg some (by kernel_rfl))
  f296 := Tryz.func130.trans (congrArg some (by kernel_rfl))
  f297 := Tryz.func131.trans (congrArg some (by kernel_rfl))
  f298 := Tryz.func132.trans (congrArg some (by kernel_rfl))
  f299 := Tryz.func133.trans (congrArg some (by kernel_rfl))
  f300 := Tryz.func135.trans (congrArg some (by kernel_rfl))
  f301 := Tryz.func136.trans (congrArg some (by kernel_rfl))
  f328 := Tryz.func166.trans (congrArg some (by kernel_rfl))
  f329 := Tryz.func167.trans (congrArg some (by kernel_rfl))
  f330 := Tryz.func168.trans (congrArg some (by kernel_rfl))
  f331 := Tryz.func169.trans (congrArg some (by kernel_rfl))
  f332 := Tryz.func170.trans (congrArg some (by kernel_rfl))
  f343 := Tryz.func191.trans (congrArg some (by kernel_rfl))
  t0 := Tryz.underlying0
  a0 := Tryz.isAgg0
  z0 := Tryz.sizeOf0
  v0 := Tryz.zeroValue0
  t3 := Tryz.underlying3
  a3 := Tryz.isAgg3
  z3 := Tryz.sizeOf3
  v3 := Tryz.zeroValue3
  t4 := Tryz.underlying4
  a4 := Tryz.isAgg4
  z4 := Tryz.sizeOf4
  v4 := Tryz.zeroValue4
  t5 := Tryz.underlying5
  a5 := Tryz.isAgg5
  z5 := Tryz.sizeOf5
  v5 := Tryz.zeroValue5
  t9 := Tryz.underlying9
  a9 := Tryz.isAgg9
  z9 := Tryz.sizeOf9
  v9 := Tryz.zeroValue9
  t28 := Tryz.underlying25
  a28 := Tryz.isAgg25
  z28 := Tryz.sizeOf25
  v28 := Tryz.zeroValue25
  t46 := Tryz.underlying132
  a46 := Tryz.isAgg132
  z46 := Tryz.sizeOf132
  v46 := Tryz.zeroValue132
  t51 := Tryz.underlying168
  a51 := Tryz.isAgg168
  z51 := Tryz.sizeOf168
  v51 := Tryz.zeroValue168
  t53 := Tryz.underlying170
  a53 := Tryz.isAgg170
  z53 := Tryz.sizeOf170
  v53 := Tryz.zeroValue170
  t131 := Tryz.underlying165
  a131 := Tryz.isAgg165
  z131 := Tryz.sizeOf165
  v131 := Tryz.zeroValue165
  t182 := Tryz.underlying159
  a182 := Tryz.isAgg159
  z182 := Tryz.sizeOf159
  v182 := Tryz.zeroValue159
  t183 := Tryz.underlying160
  a183 := Tryz.isAgg160
  z183 := Tryz.sizeOf160
  v183 := Tryz.zeroValue160
  t218 := Tryz.underlying194
  a218 := Tryz.isAgg194
  z218 := Tryz.sizeOf194
  v218 := Tryz.zeroValue194
  t222 := Tryz.underlying198
  a222 := Tryz.isAgg198
  z222 := Tryz.sizeOf198
  v222 := Tryz.zeroValue198
  t228 := Tryz.underlying213
  a228 := Tryz.isAgg213
  z228 := Tryz.sizeOf213
  v228 := Tryz.zeroValue213
  t229 := Tryz.underlying210
  a229 := Tryz.isAgg210
  z229 := Tryz.sizeOf210
  v229 := Tryz.zeroValue210 }
open Go.Sort Go.RowKit in
theorem Tryz.slices_Sort_int (blk off cap : Nat) (zs : List Int) (w : World) (hH : Holds (Value.int .i64) w blk off zs.toArray) (hblk : blk < w.heap.size) (hsz : zs.length < 4611686018427387904) :
    Calls Tryz.prog 46 #[.slice (some ⟨blk, off, none⟩) zs.length cap] w fun e w' =>
      e = .returned (.tuple #[]) ∧ ∃ n os, w' = grow (putRow (Value.int .i64) (Sort.ahead w n) blk off (zs.mergeSort fun x y => decide (x ≤ y)).toArray) os := Any.slices_Sort_int Tryz.lays189 blk off cap zs w hH hblk hsz
def Tryz.lays264_ren : Go.Shelf.Ren := ⟨fun | 264 => 221 | n => n, fun | 53 => 170 | 46 => 132 | n => n, fun | n => n⟩
theorem Tryz.lays264 : Go.Proofs.Lays.n264 Tryz.prog Tryz.lays264_ren := {
  mixed := by kernel_rfl
  f264 := Tryz.func221.trans (congrArg some (by kernel_rfl))
  t46 := Tryz.underlying132
  a46 := Tryz.isAgg132
  z46 := Tryz.sizeOf132
  v46 := Tryz.zeroValue132
  t53 := Tryz.underlying170
  a53 := Tryz.isAgg170
  z53 := Tryz.sizeOf170
  v53 := Tryz.zeroValue170 }
open Go.RowKit Go.Lib in
theorem Tryz.bits_Mul64 (x y : Nat) (hx : x < 18446744073709551616) (hy : y < 18446744073709551616) (w : World) :
    Calls Tryz.prog 221 #[.int .u64 x, .int .u64 y] w fun e w' => e = .returned (.tuple #[.int .u64 ((x * y / 18446744073709551616 : Nat) : Int), .int .u64 ((x * y % 18446744073709551616 : Nat) : Int)]) ∧ w' = w := Any.bits_Mul64 Tryz.lays264 x y hx hy w
def Tryz.lays108_ren : Go.Shelf.Ren := ⟨fun | 108 => 162 | n => n, fun | 28 => 25 | 3 => 3 | 0 => 0 | 4 => 4 | n => n, fun | n => n⟩
theorem Tryz.lays108 : Go.Proofs.Lays.n108 Tryz.prog Tryz.lays108_ren := {
  mixed := by kernel_rfl
  f108 := Tryz.func162.trans (congrArg some (by kernel_rfl))
  t0 := Tryz.underlying0
  a0 := Tryz.isAgg0
  z0 := Tryz.sizeOf0
  v0 := Tryz.zeroValue0
  t3 := Tryz.underlying3
  a3 := Tryz.isAgg3
  z3 := Tryz.sizeOf3
  v3 := Tryz.zeroValue3
  t4 := Tryz.underlying4
  a4 := Tryz.isAgg4
  z4 := Tryz.sizeOf4
  v4 := Tryz.zeroValue4
  t28 := Tryz.underlying25
  a28 := Tryz.isAgg25
  z28 := Tryz.sizeOf25
  v28 := Tryz.zeroValue25 }
open Go.Lib in
/-- slices.Index at []int: "Index returns the index of the first occurrence of v in s, or -1 if not present.": IT RETURNS 'Lib.idxOf (the elements) v'; the world is as it was. 'zs': what the cells behind the slice's address hold (its spare capacity too, if you have it); 'zs.take n': its elements. (LAID: no walk: one application.) -/
theorem Tryz.slices_Index_int (b off n c : Nat) (zs : List Int) (x : Int) (w : World) (hz : n ≤ zs.length) (hbig : n ≤ 9223372036854775807) (hc : ∀ j, j < zs.length → w.cell? ⟨b, off + j, none⟩ = some (.int .i64 (zs.getD j 0))) :
    Calls Tryz.prog 162 #[.slice (some ⟨b, off, none⟩) n c, .int .i64 x] w fun e w' => e = .returned (.int .i64 (Lib.idxOf (zs.take n) x)) ∧ w' = w := Any.slices_Index_int Tryz.lays108 b off n c zs x w hz hbig hc
open Go.Lib in
/-- The same at a slice of length 0, a nil one too: no cell is known, none is asked for. (LAID: no walk: one application.) -/
theorem Tryz.slices_Index_int_empty (a : Option Addr) (c : Nat) (x : Int) (w : World) :
    Calls Tryz.prog 162 #[.slice a 0 c, .int .i64 x] w fun e w' => e = .returned (.int .i64 (Lib.idxOf [] x)) ∧ w' = w := Any.slices_Index_int_empty Tryz.lays108 a c x w
def Tryz.lays107_ren : Go.Shelf.Ren := ⟨fun | 107 => 160 | 108 => 162 | n => n, fun | 28 => 25 | 3 => 3 | 4 => 4 | 0 => 0 | n => n, fun | n => n⟩
theorem Tryz.lays107 : Go.Proofs.Lays.n107 Tryz.prog Tryz.lays107_ren := {
  mixed := by kernel_rfl
  f107 := Tryz.func160.trans (congrArg some (by kernel_rfl))
  f108 := Tryz.func162.trans (congrArg some (by kernel_rfl))
  t0 := Tryz.underlying0
  a0 := Tryz.isAgg0
  z0 := Tryz.sizeOf0
  v0 := Tryz.zeroValue0
  t3 := Tryz.underlying3
  a3 := Tryz.isAgg3
  z3 := Tryz.sizeOf3
  v3 := Tryz.zeroValue3
  t4 := Tryz.underlying4
  a4 := Tryz.isAgg4
  z4 := Tryz.sizeOf4
  v4 := Tryz.zeroValue4
  t28 := Tryz.underlying25
  a28 := Tryz.isAgg25
  z28 := Tryz.sizeOf25
  v28 := Tryz.zeroValue25 }
open Go.Lib in
/-- slices.Contains at []int: "Contains reports whether v is present in s.": IT RETURNS 'elements.contains v'; the world is as it was. ITS CALLEE slices.Index IS MET BY ITS OWN CONTRACT OFF THE SHELF (lay that first): no loop is walked here. (LAID: no walk: one application.) -/
theorem Tryz.slices_Contains_int (b off n c : Nat) (zs : List Int) (x : Int) (w : World) (hz : n ≤ zs.length) (hbig : n ≤ 9223372036854775807) (hc : ∀ j, j < zs.length → w.cell? ⟨b, off + j, none⟩ = some (.int .i64 (zs.getD j 0))) :
    Calls Tryz.prog 160 #[.slice (some ⟨b, off, none⟩) n c, .int .i64 x] w fun e w' => e = .returned (.bool ((zs.take n).contains x)) ∧ w' = w := Any.slices_Contains_int Tryz.lays107 b off n c zs x w hz hbig hc
open Go.Lib in
/-- The same at a slice of length 0, a nil one too. (LAID: no walk: one application.) -/
theorem Tryz.slices_Contains_int_empty (a : Option Addr) (c : Nat) (x : Int) (w : World) :
    Calls Tryz.prog 160 #[.slice a 0 c, .int .i64 x] w fun e w' => e = .returned (.bool false) ∧ w' = w := Any.slices_Contains_int_empty Tryz.lays107 a c x w
def Tryz.laysNm215_ren : Go.Shelf.Ren := ⟨fun | 15 => 146 | n => n, fun | 22 => 25 | 3 => 3 | 4 => 4 | n => n, fun | n => n⟩
theorem Tryz.laysNm215 : Go.Proofs.Lays2.n15 Tryz.prog Tryz.laysNm215_ren := {
  mixed := by kernel_rfl
  f15 := Tryz.func146.trans (congrArg some (by kernel_rfl))
  t3 := Tryz.underlying3
  a3 := Tryz.isAgg3
  z3 := Tryz.sizeOf3
  v3 := Tryz.zeroValue3
  t4 := Tryz.underlying4
  a4 := Tryz.isAgg4
  z4 := Tryz.sizeOf4
  v4 := Tryz.zeroValue4
  t22 := Tryz.underlying25
  a22 := Tryz.isAgg25
  z22 := Tryz.sizeOf25
  v22 := Tryz.zeroValue25
  i3 := by kernel_rfl }
open Go.RowKit Go.Lib in
/-- slices.Clone at []int: "Clone returns a copy of the slice. The elements are copied using assignment, so this is a shallow clone. The result may have additional unused capacity. The result preserves the nilness of s.": OF A SLICE THAT IS NOT nil IT RETURNS A SLICE THAT IS NOT nil, OF THE SAME ELEMENTS, IN MEMORY OF THE CALL's OWN: in the how-to's words (6f): 'w'.ownsRow B e 1 v' n cells': v' begins at the head of a row among the blocks from B on (B: the heap's size at the call), not frozen, whose first cells are the elements · 'Below B w w'': below B all is as it was. The capacity is whatever the run-time gives. 'zs': what the cells behind the slice's address hold; 'zs.take n': its elements. (LAID: no walk: one application.) -/
theorem Tryz.slices_Clone_int (b off n c : Nat) (zs : List Int) (w : World) (hz : n ≤ zs.length) (hbig : n * 8 ≤ 140737488355328) (hc : ∀ j, j < zs.length → w.cell? ⟨b, off + j, none⟩ = some (.int .i64 (zs.getD j 0))) :
    Calls Tryz.prog 146 #[.slice (some ⟨b, off, none⟩) n c] w fun e w' => ∃ v', e = .returned v' ∧ w'.ownsRow w.heap.size 3 1 v' n ((zs.take n).map (Value.int .i64)) ∧ v' ≠ .slice none 0 0 ∧ Below w.heap.size w w' := Any.slices_Clone_int Tryz.laysNm215 b off n c zs w hz hbig hc
open Go.RowKit Go.Lib in
/-- The same at nil: nil comes back; the world is as it was. (LAID: no walk: one application.) -/
theorem Tryz.slices_Clone_int_nil (n c : Nat) (w : World) :
    Calls Tryz.prog 146 #[.slice none n c] w fun e w' => e = .returned (.slice none 0 0) ∧ w' = w := Any.slices_Clone_int_nil Tryz.laysNm215 n c w
def Tryz.laysNm216_ren : Go.Shelf.Ren := ⟨fun | 16 => 148 | n => n, fun | 24 => 98 | 9 => 9 | 4 => 4 | n => n, fun | n => n⟩
theorem Tryz.laysNm216 : Go.Proofs.Lays2.n16 Tryz.prog Tryz.laysNm216_ren := {
  mixed := by kernel_rfl
  f16 := Tryz.func148.trans (congrArg some (by kernel_rfl))
  t4 := Tryz.underlying4
  a4 := Tryz.isAgg4
  z4 := Tryz.sizeOf4
  v4 := Tryz.zeroValue4
  t9 := Tryz.underlying9
  a9 := Tryz.isAgg9
  z9 := Tryz.sizeOf9
  v9 := Tryz.zeroValue9
  t24 := Tryz.underlying98
  a24 := Tryz.isAgg98
  z24 := Tryz.sizeOf98
  v24 := Tryz.zeroValue98
  i9 := by kernel_rfl }
open Go.RowKit Go.Lib in
/-- slices.Clone at []string: "Clone returns a copy of the slice. The elements are copied using assignment, so this is a shallow clone. The result may have additional unused capacity. The result preserves the nilness of s.": OF A SLICE THAT IS NOT nil IT RETURNS A SLICE THAT IS NOT nil, OF THE SAME ELEMENTS, IN MEMORY OF THE CALL's OWN: in the how-to's words (6f): 'w'.ownsRow B e 1 v' n cells': v' begins at the head of a row among the blocks from B on (B: the heap's size at the call), not frozen, whose first cells are the elements · 'Below B w w'': below B all is as it was. The capacity is whatever the run-time gives. 'zs': what the cells behind the slice's address hold; 'zs.take n': its elements. (LAID: no walk: one application.) -/
theorem Tryz.slices_Clone_string (b off n c : Nat) (zs : List ByteArray) (w : World) (hz : n ≤ zs.length) (hbig : n * 16 ≤ 140737488355328) (hc : ∀ j, j < zs.length → w.cell? ⟨b, off + j, none⟩ = some (.string (zs.getD j ByteArray.empty))) :
    Calls Tryz.prog 148 #[.slice (some ⟨b, off, none⟩) n c] w fun e w' => ∃ v', e = .returned v' ∧ w'.ownsRow w.heap.size 9 1 v' n ((zs.take n).map (Value.string)) ∧ v' ≠ .slice none 0 0 ∧ Below w.heap.size w w' := Any.slices_Clone_string Tryz.laysNm216 b off n c zs w hz hbig hc
open Go.RowKit Go.Lib in
/-- The same at nil: nil comes back; the world is as it was. (LAID: no walk: one application.) -/
theorem Tryz.slices_Clone_string_nil (n c : Nat) (w : World) :
    Calls Tryz.prog 148 #[.slice none n c] w fun e w' => e = .returned (.slice none 0 0) ∧ w' = w := Any.slices_Clone_string_nil Tryz.laysNm216 n c w
open Go.RowKit Go.Lib in
/-- The same at a slice of length 0 that is not nil, WHATEVER ITS ADDRESS (no cell is asked for): a slice that is not nil and owns nothing comes back. (LAID: no walk: one application.) -/
theorem Tryz.slices_Clone_int_zero (a : Addr) (c : Nat) (w : World) :
    Calls Tryz.prog 146 #[.slice (some a) 0 c] w fun e w' => ∃ v', e = .returned v' ∧ w'.ownsRow w.heap.size 3 1 v' 0 [] ∧ v' ≠ .slice none 0 0 ∧ Below w.heap.size w w' := Any.slices_Clone_int_zero Tryz.laysNm215 a c w
open Go.RowKit Go.Lib in
/-- The same at a slice of length 0 that is not nil, WHATEVER ITS ADDRESS (no cell is asked for): a slice that is not nil and owns nothing comes back. (LAID: no walk: one application.) -/
theorem Tryz.slices_Clone_string_zero (a : Addr) (c : Nat) (w : World) :
    Calls Tryz.prog 148 #[.slice (some a) 0 c] w fun e w' => ∃ v', e = .returned v' ∧ w'.ownsRow w.heap.size 9 1 v' 0 [] ∧ v' ≠ .slice none 0 0 ∧ Below w.heap.size w w' := Any.slices_Clone_string_zero Tryz.laysNm216 a c w
def Tryz.laysNm220_ren : Go.Shelf.Ren := ⟨fun | 20 => 50 | n => n, fun | 22 => 25 | 3 => 3 | 4 => 4 | 0 => 0 | n => n, fun | n => n⟩
theorem Tryz.laysNm220 : Go.Proofs.Lays2.n20 Tryz.prog Tryz.laysNm220_ren := {
  mixed := by kernel_rfl
  f20 := Tryz.func50.trans (congrArg some (by kernel_rfl))
  t0 := Tryz.underlying0
  a0 := Tryz.isAgg0
  z0 := Tryz.sizeOf0
  v0 := Tryz.zeroValue0
  t3 := Tryz.underlying3
  a3 := Tryz.isAgg3
  z3 := Tryz.sizeOf3
  v3 := Tryz.zeroValue3
  t4 := Tryz.underlying4
  a4 := Tryz.isAgg4
  z4 := Tryz.sizeOf4
  v4 := Tryz.zeroValue4
  t22 := Tryz.underlying25
  a22 := Tryz.isAgg25
  z22 := Tryz.sizeOf25
  v22 := Tryz.zeroValue25
  i3 := by kernel_rfl }
open Go.RowKit Go.Lib Go.Sort in
/-- slices.Compact at []int, over an array: the library's two loops are walked. (LAID: no walk: one application.) -/
theorem Tryz.slices_Compact_int_arr (blk off cap : Nat) (d : Array Int) (w : World) (hH : Holds encI w blk off d) (hsz : d.size ≤ 9223372036854775807) (hcap : d.size ≤ cap) :
    Calls Tryz.prog 50 #[.slice (some ⟨blk, off, none⟩) d.size cap] w fun e w' => e = .returned (.slice (some ⟨blk, off, none⟩) (compactUpTo d d.size).length cap) ∧ ∃ q, w' = putRow encI (Sort.ahead w q) blk off (compactUpTo d d.size ++ List.replicate (d.size - (compactUpTo d d.size).length) 0).toArray := Any.slices_Compact_int_arr Tryz.laysNm220 blk off cap d w hH hsz hcap
open Go.RowKit Go.Lib Go.Sort in
/-- slices.Compact at []int: "Compact replaces consecutive runs of equal elements with a single copy. This is like the uniq command found on Unix. Compact modifies the contents of the slice s and returns the modified slice, which may have a smaller length. Compact zeroes the elements between the new length and the original length. The result preserves the nilness of s.": IT RETURNS THE SLICE CUT TO 'Lib.compact zs'; ITS CELLS HOLD 'Lib.compact zs', THEN ZERO VALUES up to the old length; all else is as it was, but for the count of draws. IN THE WORDS OF slices.Sort's CONTRACT ('Holds', 'putRow'): so the everyday 'slices.Sort(xs); xs = slices.Compact(xs)' goes from the one contract to the other. It asks 'zs.length ≤ cap' (every slice's: the reslicing 's[:k]' looks at it). Length 0, nil: '.._empty'. (LAID: no walk: one application.) -/
theorem Tryz.slices_Compact_int (blk off cap : Nat) (zs : List Int) (w : World) (hH : Holds (Value.int .i64) w blk off zs.toArray) (hsz : zs.length ≤ 9223372036854775807) (hcap : zs.length ≤ cap) :
    Calls Tryz.prog 50 #[.slice (some ⟨blk, off, none⟩) zs.length cap] w fun e w' => e = .returned (.slice (some ⟨blk, off, none⟩) (Lib.compact zs).length cap) ∧ ∃ q, w' = putRow (Value.int .i64) (Sort.ahead w q) blk off (Lib.compact zs ++ List.replicate (zs.length - (Lib.compact zs).length) 0).toArray := Any.slices_Compact_int Tryz.laysNm220 blk off cap zs w hH hsz hcap
open Go.RowKit Go.Lib Go.Sort in
/-- The same at a slice of length 0, a nil one too: it comes back as it is. (LAID: no walk: one application.) -/
theorem Tryz.slices_Compact_int_empty (a : Option Addr) (cap : Nat) (w : World) :
    Calls Tryz.prog 50 #[.slice a 0 cap] w fun e w' => e = .returned (.slice a 0 cap) ∧ w' = w := Any.slices_Compact_int_empty Tryz.laysNm220 a cap w
def Tryz.laysNm237_ren : Go.Shelf.Ren := ⟨fun | 37 => 171 | n => n, fun | 3 => 3 | 4 => 4 | n => n, fun | n => n⟩
theorem Tryz.laysNm237 : Go.Proofs.Lays2.n37 Tryz.prog Tryz.laysNm237_ren := {
  mixed := by kernel_rfl
  f37 := Tryz.func171.trans (congrArg some (by kernel_rfl))
  t3 := Tryz.underlying3
  a3 := Tryz.isAgg3
  z3 := Tryz.sizeOf3
  v3 := Tryz.zeroValue3
  t4 := Tryz.underlying4
  a4 := Tryz.isAgg4
  z4 := Tryz.sizeOf4
  v4 := Tryz.zeroValue4 }
open Go.RowKit Go.Lib in
/-- cmp.isNaN[int]: 'x != x': false. (LAID: no walk: one application.) -/
theorem Tryz.cmp_isNaN_int2 (x : Int) (w : World) :
    Calls Tryz.prog 171 #[.int .i64 x] w fun e w' => e = .returned (.bool false) ∧ w' = w := Any.cmp_isNaN_int2 Tryz.laysNm237 x w
def Tryz.laysNm231_ren : Go.Shelf.Ren := ⟨fun | 31 => 134 | 37 => 171 | n => n, fun | 3 => 3 | 4 => 4 | n => n, fun | n => n⟩
theorem Tryz.laysNm231 : Go.Proofs.Lays2.n31 Tryz.prog Tryz.laysNm231_ren := {
  mixed := by kernel_rfl
  f31 := Tryz.func134.trans (congrArg some (by kernel_rfl))
  f37 := Tryz.func171.trans (congrArg some (by kernel_rfl))
  t3 := Tryz.underlying3
  a3 := Tryz.isAgg3
  z3 := Tryz.sizeOf3
  v3 := Tryz.zeroValue3
  t4 := Tryz.underlying4
  a4 := Tryz.isAgg4
  z4 := Tryz.sizeOf4
  v4 := Tryz.zeroValue4 }
open Go.RowKit Go.Lib in
/-- cmp.Less[int]: "Less reports whether x is less than y.": 'x < y'; the world is as it was. (LAID: no walk: one application.) -/
theorem Tryz.cmp_Less_int2 (x y : Int) (w : World) :
    Calls Tryz.prog 134 #[.int .i64 x, .int .i64 y] w fun e w' => e = .returned (.bool (decide (x < y))) ∧ w' = w := Any.cmp_Less_int2 Tryz.laysNm231 x y w
open Go.RowKit Go.Lib Go.Sort in
/-- slices.Compact at []int, of an argument: the slice cut to 'Lib.compact (elements)'; the n cells hold that, then zeros. (LAID: no walk: one application.) -/
theorem Tryz.slices_Compact_int_cells (b off n c : Nat) (zs : List Int) (w : World) (hz : n ≤ zs.length) (hbig : n ≤ 9223372036854775807) (hcap : n ≤ c) (hc : ∀ j, j < zs.length → w.cell? ⟨b, off + j, none⟩ = some (.int .i64 (zs.getD j 0))) (hf : ∀ j, j < n → w.frozen? ⟨b, off + j, none⟩ = false) :
    Calls Tryz.prog 50 #[.slice (some ⟨b, off, none⟩) n c] w fun e w' => e = .returned (.slice (some ⟨b, off, none⟩) (Lib.compact (zs.take n)).length c) ∧ ∃ q, w' = (w.drewN q).setCells b off ((Lib.compact (zs.take n) ++ List.replicate (n - (Lib.compact (zs.take n)).length) 0).map (Value.int .i64)) := Any.slices_Compact_int_cells Tryz.laysNm220 b off n c zs w hz hbig hcap hc hf
open Go.RowKit Go.Sort in
/-- .. and plain. (LAID: no walk: one application.) -/
theorem Tryz.slices_Sort_int_none (p : Option Addr) (cap : Nat) (w : World) :
    Calls Tryz.prog 46 #[.slice p 0 cap] w fun e w' => e = .returned (.tuple #[]) ∧ w' = w := Any.slices_Sort_int_none Tryz.lays189 p cap w
end Go.Proofs

/- The library's sort, its like, over what the call owns. -/
namespace Go.Proofs.YtihllippchgkgaaGreat.V
open Go Go.RowKit Go.Sort

theorem kI_flat : ∀ xs : List Int, xs.flatMap kI.cells = xs.map (.int .i64)
  | [] => rfl
  | x :: xs => by rw [List.flatMap_cons, kI_flat xs]; rfl
theorem putCells_take {enc : Int → Value} {d : Array Int} {c : Array Value} (h : d.size ≤ c.size) : (putCells enc 0 d c).toList.take d.size = d.toList.map enc := by
  apply List.ext_getElem?
  intro i
  rw [List.getElem?_take]
  split
  · rename_i hi
    have hc : i < c.size := by omega
    simp [putCells, hc, hi]
  · rename_i hi
    rw [List.getElem?_eq_none (by simp; omega)]
theorem heap_putRow {w : World} {b : Nat} {cs : Array Value} {t : TypeId} {f : Nat × Nat} (h : w.heap[b]? = some (.cells cs t f)) (enc : Int → Value) (d : Array Int) : (putRow enc w b 0 d).heap[b]? = some (.cells (putCells enc 0 d cs) t f) := by
  simp [putRow, mapBlock, Array.getElem?_modify, h, onCells]
theorem heap_putRow_ne {w : World} {b k : Nat} (h : k ≠ b) (enc : Int → Value) (d : Array Int) : (putRow enc w b 0 d).heap[k]? = w.heap[k]? := by
  simp only [putRow, mapBlock, Array.getElem?_modify]
  rw [if_neg (by omega)]
theorem holds_of {w : World} {b : Nat} {cs : Array Value} {t : TypeId} {xs : List Int} (h : w.heap[b]? = some (.cells cs t (0, 0))) (hx : cs.toList.take xs.length = xs.map (.int .i64)) : Holds (Value.int .i64) w b 0 xs.toArray := by
  intro j hj
  simp only [List.size_toArray] at hj
  refine ⟨?_, by simp [World.frozen?, h]⟩
  rw [Nat.zero_add, cell_of h, getElem!_pos _ _ (by simpa using hj)]
  have := congrArg (·[j]?) hx
  simp only [List.getElem?_take, hj, if_true] at this
  simpa [hj] using this
theorem own_putRow {B : Nat} {w w' : World} {s : Sl} {xs ys : List Int} {t : TypeId} (h : OwnS kI t B w s xs) {b : Nat} (hb : s.a = some ⟨b, 0, none⟩) (hl : ys.length = xs.length) {n : Nat} {os : Array Obj}
    (hw : w' = grow (putRow (Value.int .i64) (Sort.ahead w n) b 0 ys.toArray) os) : OwnS kI t B w' s ys ∧ w.grownBy w' (some b) := by
  rcases h.2.2 with ⟨hv, _⟩ | ⟨g, cap, cur, hv, hB, hg, hnc, hcm, hcs, ht⟩
  · simp only [Value.slice.injEq] at hv; rw [hb] at hv; simp at hv
  · simp only [Value.slice.injEq] at hv
    obtain ⟨ha, _, hcap⟩ := hv
    rw [hb] at ha
    simp only [Option.some.injEq, Addr.mk.injEq, and_true] at ha
    subst ha
    have hbl : b < w.heap.size := (Array.getElem?_eq_some_iff.1 hg).1
    have hheap : w'.heap[b]? = some (.cells (putCells (Value.int .i64) 0 ys.toArray cur) t (0, 0)) := by
      rw [hw, heap_grow_old _ _ (by simpa using hbl)]
      exact heap_putRow (w := Sort.ahead w n) hg _ _
    have hys : ys.toArray.size ≤ cur.size := by
      rw [hcs, List.size_toArray, hl, ← h.1]
      simpa [kI] using hnc
    have hsz : (putCells (Value.int .i64) 0 ys.toArray cur).size = cur.size := by simp [putCells]
    refine ⟨⟨by rw [h.1, hl], ?_, .inr ⟨b, cap, _, by rw [hb, hcap], hB, hheap, hnc, hcm, by rw [hsz]; exact hcs, ?_⟩⟩, ?_⟩
    · rw [flat_length, h.1, hl]
    · rw [kI_flat]
      have := putCells_take (enc := Value.int .i64) hys
      simp only [List.size_toArray] at this
      rw [show s.n * kI.ls.length = ys.length by simp [kI, h.1, hl]]
      exact this
    · subst hw
      exact ⟨rfl, rfl, rfl, by simp, fun k hk hne => by
        rw [heap_grow_old _ _ (by simpa using hk), heap_putRow_ne (by simp at hne; exact hne)]; rfl⟩
def sorted (xs : List Int) : List Int := xs.mergeSort fun x y => decide (x ≤ y)
theorem own_cases {α : Type} {k : Kd α} {B : Nat} {w : World} {s : Sl} {xs : List α} {t : TypeId} (h : OwnS k t B w s xs) : (s = ⟨none, 0, 0⟩ ∧ xs = []) ∨ ∃ b cur, s.a = some ⟨b, 0, none⟩ ∧ w.heap[b]? = some (.cells cur t (0, 0)) ∧ cur.toList.take (xs.length * k.ls.length) = xs.flatMap k.cells := by
  obtain ⟨a, n, c⟩ := s
  rcases h.2.2 with ⟨hv, hn⟩ | ⟨g, cap, cur, hv, hB, hg, hnc, hcm, hcs, ht⟩
  · simp only [Value.slice.injEq] at hv
    obtain ⟨rfl, rfl, rfl⟩ := hv
    exact .inl ⟨rfl, List.eq_nil_of_length_eq_zero (by rw [← h.1])⟩
  · simp only [Value.slice.injEq] at hv
    exact .inr ⟨g, cur, hv.1, hg, by rw [← h.1]; exact ht⟩
theorem sort_own {B : Nat} {w : World} {s : Sl} {xs : List Int} {t : TypeId} (h : OwnS kI t B w s xs) (hl : xs.length < 4611686018427387904) {K : Unit → World → Prop}
    (hk : ∀ w', OwnS kI t B w' s (sorted xs) → w.grownBy w' (Value.slice s.a s.n s.c).ownBlock → K () w') : CallT .z P0 46 [.slice s.a s.n s.c] w K := by
  rcases own_cases h with ⟨rfl, rfl⟩ | ⟨b, cur, ha, hg, ht⟩
  · refine (Tryz.slices_Sort_int_none none 0 w).mono ?_
    intro e w' he
    obtain ⟨rfl, hw⟩ := he
    subst hw
    exact ⟨(), rfl, hk _ (by simpa [sorted] using h) ⟨rfl, rfl, rfl, Nat.le_refl _, fun _ _ _ => rfl⟩⟩
  · have hb : b < w.heap.size := (Array.getElem?_eq_some_iff.1 hg).1
    have hH := holds_of (xs := xs) hg (by rw [kI_flat] at ht; simpa [kI] using ht)
    have hc := Tryz.slices_Sort_int b 0 s.c xs w hH hb hl
    rw [← h.1, ← ha] at hc
    refine hc.mono ?_
    rintro e w' ⟨rfl, n, os, hw⟩
    obtain ⟨h1, h2⟩ := own_putRow (ys := sorted xs) h ha (by simp [sorted]) hw
    exact ⟨(), rfl, hk _ h1 (by rw [ha]; exact h2)⟩
end Go.Proofs.YtihllippchgkgaaGreat.V

/- Results in new memory: read, written; Compact, Clip. -/
namespace Go.Proofs.YtihllippchgkgaaGreat.V
open Go Go.RowKit Go.Sort
set_option linter.unusedSimpArgs false

/-- A slice over new memory (from block B on): it reads as a list, and may be written. -/
def WrS {α : Type} (k : Kd α) (t : TypeId) (B : Nat) (w : World) (s : Sl) (xs : List α) : Prop :=
  s.n = xs.length ∧ s.n ≤ s.c ∧ s.c ≤ maxLen ∧ ((s.a = none ∧ xs = []) ∨ ∃ b o cur, s.a = some ⟨b, o, none⟩ ∧ B ≤ b ∧ w.heap[b]? = some (.cells cur t (0, 0)) ∧ ∀ i x, xs[i]? = some x → ∀ j v, (k.cells x)[j]? = some v → cur[o + i * k.ls.length + j]? = some v)
def Sl.bk (s : Sl) : Option Nat := s.a.map (·.block)
section
variable {α : Type} {k : Kd α} {t : TypeId} {B : Nat} {w : World} {s : Sl} {xs : List α}
theorem OwnS.wr (h : OwnS k t B w s xs) : WrS k t B w s xs := by
  refine ⟨h.1, h.cap.1, h.cap.2, ?_⟩
  rcases h.2.2 with ⟨hv, hn⟩ | ⟨g, cap, cur, hv, hB, hg, hnc, hcm, hcs, ht⟩
  · simp only [Value.slice.injEq] at hv
    exact .inl ⟨hv.1, List.eq_nil_of_length_eq_zero (by rw [← h.1]; exact hn)⟩
  · simp only [Value.slice.injEq] at hv
    refine .inr ⟨g, 0, cur, hv.1, hB, hg, fun i x hi j v hm => ?_⟩
    have hm := flat_get k xs i x hi j v hm
    rw [← ht, List.getElem?_take] at hm
    split at hm
    · simpa using hm
    · simp at hm
theorem WrS.read (h : WrS k t B w s xs) : SlR k w s xs := by
  refine ⟨h.1, h.2.1, h.2.2.1, ?_⟩
  rcases h.2.2.2 with h0 | ⟨b, o, cur, ha, hB, hg, hc⟩
  · exact .inl h0.2
  · refine .inr ⟨b, o, ha, fun i x hi j v hj => ?_⟩
    rw [cell_of hg]
    exact hc i x hi j v hj
theorem WrS.len (h : WrS k t B w s xs) : s.n = xs.length := h.1
theorem WrS.blk (h : WrS k t B w s xs) {b : Nat} (hb : s.bk = some b) : B ≤ b ∧ b < w.heap.size := by
  rcases h.2.2.2 with h0 | ⟨b', o, cur, ha, hB, hg, hc⟩
  · simp [Sl.bk, h0.1] at hb
  · simp only [Sl.bk, ha, Option.map_some, Option.some.injEq] at hb
    subst hb
    exact ⟨hB, (Array.getElem?_eq_some_iff.1 hg).1⟩
theorem WrS.kept {w' : World} {row : Option Nat} (h : WrS k t B w s xs) (hg : w.grownBy w' row) (hne : ∀ b, row = some b → s.bk ≠ some b) : WrS k t B w' s xs := by
  refine ⟨h.1, h.2.1, h.2.2.1, ?_⟩
  rcases h.2.2.2 with h0 | ⟨b, o, cur, ha, hB, hgb, hc⟩
  · exact .inl h0
  · exact .inr ⟨b, o, cur, ha, hB, by rw [hg.block b (Array.getElem?_eq_some_iff.1 hgb).1 (fun e => by have := hne b e.symm; simp [Sl.bk, ha] at this)]; exact hgb, hc⟩
theorem WrS.below {w' : World} (h : WrS k t B w s xs) (hb : Below w.heap.size w w') : WrS k t B w' s xs := h.kept (grown_of_below hb) (by simp)
theorem WrS.low {B' : Nat} (h : WrS k t B w s xs) (hB : B' ≤ B) : WrS k t B' w s xs := by
  refine ⟨h.1, h.2.1, h.2.2.1, ?_⟩
  rcases h.2.2.2 with h0 | ⟨b, o, cur, ha, hb, r⟩
  · exact .inl h0
  · exact .inr ⟨b, o, cur, ha, Nat.le_trans hB hb, r⟩
theorem WrS.nil (k : Kd α) (t : TypeId) (B : Nat) (w : World) : WrS k t B w ⟨none, 0, 0⟩ [] := (OwnS.nil k t B w).wr
theorem ob_bk (s : Sl) : (Value.slice s.a s.n s.c).ownBlock = s.bk := by cases h : s.a <;> simp [Value.ownBlock, Sl.bk, h]
/-- A readable slice stays readable behind a write elsewhere. -/
theorem SlR.kept2 {w' : World} {row : Option Nat} (h : SlR k w s xs) (hg : w.grownBy w' row) (hb : ∀ b o, s.a = some ⟨b, o, none⟩ → row ≠ some b) : SlR k w' s xs := by
  refine ⟨h.1, h.2.1, h.2.2.1, ?_⟩
  rcases h.2.2.2 with h0 | ⟨b', o, ha, hx⟩
  · exact .inl h0
  · refine .inr ⟨b', o, ha, fun i x hi m v hv => ?_⟩
    have hc := hx i x hi m v hv
    have hlt := World.block_lt_of_cell? w _ hc
    have := hg.block b' hlt (fun e => hb b' o ha e.symm)
    unfold World.cell? at hc ⊢
    simp only at hc ⊢
    rw [this]; exact hc
theorem run_clip {P : Program} {tS e : TypeId} (hu : P.underlying tS = some (.slice e)) {sz : Nat} (hs : szOf P e = some sz) (hc : s.n ≤ s.c) :
    (Instr.sliceAt tS s.v none (some (.int .i64 (s.n : Int))) (some (.int .i64 (s.n : Int)))).run P w = .ok (.slice s.a s.n s.n) w := by
  have hmap : s.a.map (fun x => x.add 0) = s.a := by cases s.a <;> simp [Addr.add]
  have h1 : ((s.n : Int) ≤ (s.c : Int)) := by omega
  simp [Instr.sliceAt, Instr.slice, Sl.v, underlying, hu, Instr.sliceBounds, Instr.sliceBound, asIntOf, run_sizeOf hs, h1, hc, hmap]
end
theorem own_cut {B : Nat} {w : World} {s : Sl} {xs ys : List Int} {t : TypeId} (h : OwnS kI t B w s (xs ++ ys)) {b : Nat} (hb : s.a = some ⟨b, 0, none⟩) : OwnS kI t B w ⟨s.a, xs.length, s.c⟩ xs := by
  refine ⟨rfl, by rw [flat_length], ?_⟩
  rcases h.2.2 with ⟨hv, _⟩ | ⟨g, cap, cur, hv, hB, hg, hnc, hcm, hcs, ht⟩
  · simp only [Value.slice.injEq] at hv; rw [hb] at hv; simp at hv
  · simp only [Value.slice.injEq] at hv
    have hle : xs.length ≤ s.n := by rw [h.1]; simp
    refine .inr ⟨g, cap, cur, by rw [hv.1, hv.2.2], hB, hg, Nat.le_trans hle hnc, hcm, hcs, ?_⟩
    have := congrArg (List.take (xs.length * kI.ls.length)) ht
    rw [List.take_take, Nat.min_eq_left (Nat.mul_le_mul_right _ hle), List.flatMap_append, List.take_append_of_le_length (by rw [flat_length]; exact Nat.le_refl _)] at this
    show List.take (xs.length * kI.ls.length) _ = _
    rw [this, List.take_of_length_le (by rw [flat_length]; exact Nat.le_refl _)]
theorem compact_le (xs : List Int) : (Lib.compact xs).length ≤ xs.length := by
  unfold Lib.compact Lib.compactUpTo
  rw [List.length_map]
  exact Nat.le_trans (List.length_filter_le _ _) (by simp)
theorem grow0 (w : World) : Sort.grow w #[] = w := by cases w; simp [Sort.grow]
theorem compact_own {B : Nat} {w : World} {s : Sl} {xs : List Int} {t : TypeId} (h : OwnS kI t B w s xs) {K : Sl → World → Prop}
    (hk : ∀ s' w', OwnS kI t B w' s' (Lib.compact xs) → w.grownBy w' (Value.slice s.a s.n s.c).ownBlock → K s' w') : CallT (.o (.lf .sl)) P0 50 [.slice s.a s.n s.c] w K := by
  rcases own_cases h with ⟨rfl, rfl⟩ | ⟨b, cur, ha, hg, ht⟩
  · refine (Tryz.slices_Compact_int_empty none 0 w).mono ?_
    rintro e w' ⟨rfl, rfl⟩
    exact ⟨⟨none, 0, 0⟩, rfl, hk _ _ (by simpa [Lib.compact, Lib.compactUpTo] using h) ⟨rfl, rfl, rfl, Nat.le_refl _, fun _ _ _ => rfl⟩⟩
  · have hH := holds_of (xs := xs) hg (by rw [kI_flat] at ht; simpa [kI] using ht)
    have hcap := h.cap
    have hc := Tryz.slices_Compact_int b 0 s.c xs w hH (by have := hcap.1; have := hcap.2; have := h.1; simp only [maxLen] at *; omega) (by rw [← h.1]; exact hcap.1)
    rw [← h.1, ← ha] at hc
    refine hc.mono ?_
    rintro e w' ⟨rfl, n, hw⟩
    have hlen : (Lib.compact xs ++ List.replicate (xs.length - (Lib.compact xs).length) 0).length = xs.length := by
      have := compact_le xs; simp; omega
    obtain ⟨h1, h2⟩ := own_putRow (ys := Lib.compact xs ++ List.replicate (xs.length - (Lib.compact xs).length) 0) (os := #[]) (n := n) (w' := w') h ha hlen (by rw [hw, h.1, grow0])
    exact ⟨⟨s.a, (Lib.compact xs).length, s.c⟩, rfl, hk _ _ (own_cut h1 ha) (by rw [ha]; exact h2)⟩
theorem elI : El P0 25 3 kI 8 := ⟨by kernel_rfl, ⟨_, _, Option.eq_some_of_isSome (by kernel_rfl), Option.eq_some_of_isSome (by kernel_rfl), by kernel_rfl, by kernel_rfl, by kernel_rfl⟩, by decide, by intro l hl; simp [kI] at hl; simp [hl]⟩
theorem slices.Clip.c {w : World} {s : Sl} (hc : s.n ≤ s.c) {K : Sl → World → Prop} (hk : K ⟨s.a, s.n, s.n⟩ w) : CallT (.o (.lf .sl)) P0 34 [s.v] w K :=
  slices.Clip_int.ok ⟨⟨s.a, s.n, s.n⟩, w, run_clip (e := 3) (sz := 1) (by kernel_rfl) (by kernel_rfl) hc, hk⟩
theorem WrS.clip {B : Nat} {w : World} {s : Sl} {xs : List Int} {t : TypeId} (h : WrS kI t B w s xs) : WrS kI t B w ⟨s.a, s.n, s.n⟩ xs :=
  ⟨h.1, Nat.le_refl _, by have := h.2.1; have := h.2.2.1; simp only; omega, h.2.2.2⟩
end Go.Proofs.YtihllippchgkgaaGreat.V

/- Words for rows: what an input's memory says of its lists. -/
namespace Go.Proofs.YtihllippchgkgaaGreat.V
open Go Go.RowKit Go.ChangeShapes Go.WideShapes Go.ChangeAt Go.Deep
set_option linter.unusedVariables false

theorem own : ownKnob P0.godebug = none := by kernel_rfl
theorem laidOut : laidOutB P0 = true := by kernel_rfl
def intFields (P : Program) (fs : Array Field) (n : Nat) : Bool :=
  (List.range n).all fun i => match fs[i]? with
    | some f => f.offset == i && P.cellsOf f.type == 1 && (match P.underlying f.type with | some (.int .i64) => true | _ => false)
    | none => false
section
variable {H : Type} {enc : TypeId × Value → H} {P : Program} {w : World} {base : Nat} {spare : Nat → Bool} {held : Bool}
theorem trod_intFields {t : TypeId} {fs : Array Field} {n fuel : Nat} {cs : List Value} {x : DataW H × List MemPlace} (ht : P.underlying t = some (.struct fs)) (hn : P.cellsOf t = n) (hf : intFields P fs n = true)
    (h : DataW.trod enc P w base spare held fuel t cs = some x) : ∃ zs : List Int, zs.length = n ∧ cs = zs.map (.int .i64) := by
  obtain ⟨xs, m, _, rfl, hl, hlen, hg⟩ := DataW.trod_struct ht h
  have each : ∀ i, i < n → ∃ z : Int, cs[i]? = some (.int .i64 z) := by
    intro i hi
    have h1 := List.all_eq_true.1 hf i (List.mem_range.2 hi)
    split at h1
    · rename_i f hfi
      simp only [Bool.and_eq_true, beq_iff_eq] at h1
      obtain ⟨⟨ho, hc⟩, hu⟩ := h1
      have h2 := hg i f hfi
      rw [ho, hc] at h2
      have hi' : i < xs.length := by rw [hlen]; exact (Array.getElem?_eq_some_iff.1 hfi).1
      rw [List.getElem?_eq_getElem hi'] at h2
      split at hu
      · rename_i hu'
        obtain ⟨z, hz, _, _⟩ := DataW.trod_int hu' h2
        refine ⟨z, ?_⟩
        have h3 := congrArg (·[0]?) hz
        simpa [List.getElem?_take] using h3
      · simp at hu
    · simp at h1
  have hl' : cs.length = n := by rw [hl, hn]
  refine ⟨cs.map fun v => match v with | .int _ z => z | _ => 0, by simpa using hl', ?_⟩
  refine List.ext_getElem? fun i => ?_
  simp only [List.getElem?_map]
  rcases Nat.lt_or_ge i n with hi | hi
  · obtain ⟨z, hz⟩ := each i hi
    simp [hz]
  · rw [List.getElem?_eq_none (by omega)]; rfl
theorem choose_list {α : Type} {p : Nat → α → Prop} : ∀ (n : Nat), (∀ i, i < n → ∃ x, p i x) → ∃ l : List α, l.length = n ∧ ∀ i x, l[i]? = some x → p i x
  | 0, _ => ⟨[], rfl, by simp⟩
  | n + 1, h => by
    obtain ⟨l, hl, hx⟩ := choose_list n fun i hi => h i (by omega)
    obtain ⟨y, hy⟩ := h n (by omega)
    refine ⟨l ++ [y], by simp [hl], fun i x hi => ?_⟩
    rcases Nat.lt_or_ge i n with h1 | h1
    · rw [List.getElem?_append_left (by omega)] at hi
      exact hx i x hi
    · have hlt : i < (l ++ [y]).length := (List.getElem?_eq_some_iff.1 hi).1
      simp [hl] at hlt
      have : i = n := by omega
      subst this
      rw [List.getElem?_append_right (by omega), hl] at hi
      simp at hi
      exact hi ▸ hy
/-- A list of structs of whole numbers, as an input brings it. -/
theorem open_list {α : Type} (k : Kd α) {t e : TypeId} {n fuel : Nat} {a : Option Addr} {len cap : Nat} {x : DataW H × List MemPlace} (ht : P.underlying t = some (.slice e)) (hn : P.cellsOf e = n) (hk : k.ls.length = n) (hp : 0 < n)
    (each : ∀ (fuel : Nat) (cs : List Value) (y : DataW H × List MemPlace), DataW.trod enc P w base spare held fuel e cs = some y → ∃ x : α, cs = k.cells x)
    (h : DataW.trod enc P w base spare held fuel t [.slice a len cap] = some x) : ∃ l : List α, SlR k w ⟨a, len, cap⟩ l := by
  rcases open_slice ht h with ⟨hcs, _⟩ | ⟨b, l, c, m, q, D, Pl, hcs, _, hl, hm, hmm, _, hx⟩
  · simp only [List.cons.injEq, Value.slice.injEq, and_true] at hcs
    obtain ⟨rfl, rfl, rfl⟩ := hcs
    exact ⟨[], SlR.nil k w⟩
  · simp only [List.cons.injEq, Value.slice.injEq, and_true] at hcs
    obtain ⟨rfl, rfl, rfl⟩ := hcs
    have hle : len ≤ m := by rw [hmm]; split <;> omega
    obtain ⟨L, hL, hE⟩ := choose_list (α := α) (p := fun i x => w.cells? base (b.add (i * n)) n = some (k.cells x)) len (fun i hi => by
      obtain ⟨cs', h1, h2⟩ := hx i (by omega)
      rw [hn] at h1
      obtain ⟨x, rfl⟩ := each _ _ _ h2
      exact ⟨x, h1⟩)
    refine ⟨L, hL.symm, hl, hm, ?_⟩
    rcases L with _ | ⟨x0, L⟩
    · exact .inl rfl
    · have h0 := (World.cells?_some (hE 0 x0 rfl)).2.2 0 hp
      have hc0 : (k.cells x0)[0]? ≠ none := by
        have := k.cells_length x0
        simp only [ne_eq, List.getElem?_eq_none_iff]; omega
      obtain ⟨v, hv⟩ := Option.ne_none_iff_exists'.1 hc0
      rw [hv] at h0
      have hs : b.spot = none := by simpa [Addr.add] using World.cell?_spot h0
      obtain ⟨bb, bo, bs⟩ := b
      simp only at hs; subst hs
      refine .inr ⟨bb, bo, rfl, fun i x hi j v hj => ?_⟩
      have h1 := (World.cells?_some (hE i x hi)).2.2 j (by have := (List.getElem?_eq_some_iff.1 hj).1; rw [k.cells_length] at this; omega)
      rw [add_mk, add_mk, hj] at h1
      rw [hk]
      exact h1
/-- A list of numbers, as an input brings it. -/
theorem open_nums {t e : TypeId} {k : IntKind} {fuel : Nat} {a : Option Addr} {len cap : Nat} {x : DataW H × List MemPlace} (ht : P.underlying t = some (.slice e)) (he : P.underlying e = some (.int k)) (hc : P.cellsOf e = 1)
    (h : DataW.trod enc P w base spare held fuel t [.slice a len cap] = some x) : ∃ l : List Int, SlR ⟨[.i k], fun x => (x, ())⟩ w ⟨a, len, cap⟩ l ∧ ∀ x ∈ l, (Lit.int k x).wf = true := by
  rcases open_ints ht he hc h with ⟨hcs, _⟩ | ⟨b, l, c, zs, hcs, _, hl, hm, hz, _, hget, hwf⟩
  · simp only [List.cons.injEq, Value.slice.injEq, and_true] at hcs
    obtain ⟨rfl, rfl, rfl⟩ := hcs
    exact ⟨[], SlR.nil _ w, by simp⟩
  · simp only [List.cons.injEq, Value.slice.injEq, and_true] at hcs
    obtain ⟨rfl, rfl, rfl⟩ := hcs
    have hle : len ≤ zs.length := by rw [hz]; split <;> omega
    have hlen : (zs.take len).length = len := by rw [List.length_take]; omega
    refine ⟨zs.take len, ⟨hlen.symm, hl, hm, ?_⟩, fun x hx => hwf x (List.mem_of_mem_take hx)⟩
    by_cases h0 : zs.take len = []
    · exact .inl h0
    · have hpos : 0 < zs.length := by
        rcases Nat.eq_zero_or_pos zs.length with h1 | h1
        · exact absurd (by rw [List.eq_nil_of_length_eq_zero h1]; simp) h0
        · exact h1
      have hs : b.spot = none := by simpa [Addr.add] using World.cell?_spot (hget 0 hpos)
      obtain ⟨bb, bo, bs⟩ := b
      simp only at hs; subst hs
      refine .inr ⟨bb, bo, rfl, fun i x hi j v hj => ?_⟩
      have hil := (List.getElem?_eq_some_iff.1 hi).1
      rw [List.getElem?_take] at hi
      split at hi
      · have h1 := hget i (by omega)
        rw [add_mk] at h1
        have hj0 : j = 0 := by
          have := (List.getElem?_eq_some_iff.1 hj).1
          rw [Kd.cells_length] at this; simpa using this
        subst hj0
        have hv : v = .int k x := by simpa [Kd.cells, Tup.cells, Lf.emb] using hj.symm
        have hx : zs.getD i 0 = x := by rw [List.getD_eq_getElem?_getD, hi]; rfl
        rw [hx] at h1
        rw [hv]; simpa using h1
      · simp at hi
end
end Go.Proofs.YtihllippchgkgaaGreat.V

/- Writes into new memory: make, an element, a field. -/
namespace Go.Proofs.YtihllippchgkgaaGreat.V
open Go Go.RowKit Go.Sort
set_option linter.unusedSimpArgs false
set_option linter.unusedVariables false

theorem lt_of_get {α : Type} {l : List α} {i : Nat} {x : α} (h : l[i]? = some x) : i < l.length := (List.getElem?_eq_some_iff.1 h).1
theorem idx_apart {i i' n j : Nat} (h : i' < i) (hj : j < n) : i' * n + j < i * n := by
  have : (i' + 1) * n ≤ i * n := Nat.mul_le_mul_right n h
  rw [Nat.succ_mul] at this; omega
/-- storeCells anywhere in a block. -/
theorem run_storeCells_in (P : Program) {b : Nat} {t : TypeId} (o : Nat) : ∀ (vs : List Value) (i : Nat) (cur : Array Value) (w : World), (∀ v ∈ vs, v.oneCell' = true) → o + i + vs.length ≤ cur.size →
    w.heap[b]? = some (.cells cur t (0, 0)) → ∃ w' cur', (storeCells ⟨b, o, none⟩ vs i).run P w = .ok () w' ∧ w.grownBy w' (some b) ∧ w'.heap.size = w.heap.size ∧ w'.heap[b]? = some (.cells cur' t (0, 0)) ∧
      (∀ j v, vs[j]? = some v → cur'[o + i + j]? = some v) ∧ (∀ p, (p < o + i ∨ o + i + vs.length ≤ p) → cur'[p]? = cur[p]?)
  | [], i, cur, w, _, _, h => ⟨w, cur, by simp [storeCells], ⟨rfl, rfl, rfl, Nat.le_refl _, fun _ _ _ => rfl⟩, rfl, h, by simp, fun _ _ => rfl⟩
  | v :: vs, i, cur, w, h1, hs, h => by
    have hv := h1 v List.mem_cons_self
    simp only [List.length_cons] at hs
    have hi : o + i < cur.size := by omega
    have hc : w.cell? ⟨b, o + i, none⟩ = some cur[o + i] := by rw [cell_of h]; simp [hi]
    have hfz : w.frozen? ⟨b, o + i, none⟩ = false := by simp [World.frozen?, h]
    have hst : (store ⟨b, o + i, none⟩ v).run P w = .ok () (w.setCell ⟨b, o + i, none⟩ v) := by simp [run_store P w _ v .plain hv, hc, hfz]
    obtain ⟨w', cur', hr, hg, hsz, hh, hin, hout⟩ := run_storeCells_in P o vs (i + 1) (cur.setIfInBounds (o + i) v) (w.setCell ⟨b, o + i, none⟩ v) (fun u hu => h1 u (List.mem_cons_of_mem _ hu)) (by simp; omega) (setCell_heap h v)
    have g0 := grown_setCell w b (o + i) v
    refine ⟨w', cur', ?_, ⟨hg.os.trans g0.os, hg.tape.trans g0.tape, hg.output.trans g0.output, Nat.le_trans g0.size hg.size, fun k hk hne => (hg.block k (by simpa using hk) hne).trans (g0.block k hk hne)⟩, by rw [hsz]; simp, hh, ?_, ?_⟩
    · simp only [storeCells, Sem.run_bind, add_mk, hst, Result.andThen_ok, hr]
    · intro j u hj
      cases j with
      | zero =>
        simp only [List.getElem?_cons_zero, Option.some.injEq] at hj
        subst hj
        rw [Nat.add_zero, hout _ (.inl (by omega)), Array.getElem?_setIfInBounds_self_of_lt hi]
      | succ j =>
        have := hin j u (by simpa using hj)
        rw [show o + i + (j + 1) = o + (i + 1) + j by omega]; exact this
    · intro p hp
      simp only [List.length_cons] at hp
      rw [hout p (by omega), Array.getElem?_setIfInBounds_ne (by omega)]
section
variable {α : Type} {k : Kd α} {t : TypeId} {B : Nat} {w : World} {s : Sl} {xs : List α} {i : Int} {sz : Nat}
theorem upd {cur cur' : Array Value} {o i : Nat} {y : α} (h : ∀ i x, xs[i]? = some x → ∀ j v, (k.cells x)[j]? = some v → cur[o + i * k.ls.length + j]? = some v)
    (hin : ∀ j v, (k.cells y)[j]? = some v → cur'[o + i * k.ls.length + j]? = some v) (hout : ∀ p, (p < o + i * k.ls.length ∨ o + i * k.ls.length + k.ls.length ≤ p) → cur'[p]? = cur[p]?) :
    ∀ i' x, (xs.set i y)[i']? = some x → ∀ j v, (k.cells x)[j]? = some v → cur'[o + i' * k.ls.length + j]? = some v := by
  intro i' x hx j v hj
  have hjl := lt_of_get hj
  rw [k.cells_length] at hjl
  rcases Nat.lt_trichotomy i' i with hlt | rfl | hlt
  · rw [List.getElem?_set_ne (by omega)] at hx
    have := idx_apart hlt hjl
    rw [hout _ (.inl (by omega))]
    exact h _ _ hx _ _ hj
  · have hl := lt_of_get hx
    rw [List.getElem?_set_self (by simpa using hl)] at hx
    simp only [Option.some.injEq] at hx
    subst hx
    exact hin _ _ hj
  · rw [List.getElem?_set_ne (by omega)] at hx
    have : (i + 1) * k.ls.length ≤ i' * k.ls.length := Nat.mul_le_mul_right _ hlt
    rw [Nat.succ_mul] at this
    rw [hout _ (.inr (by omega))]
    exact h _ _ hx _ _ hj
theorem WrS.at (h : WrS k t B w s xs) {i : Nat} {x : α} (hx : xs[i]? = some x) (hp : 0 < k.ls.length) : ∃ b o cur, s.a = some ⟨b, o, none⟩ ∧ B ≤ b ∧ w.heap[b]? = some (.cells cur t (0, 0)) ∧
    (∀ i x, xs[i]? = some x → ∀ j v, (k.cells x)[j]? = some v → cur[o + i * k.ls.length + j]? = some v) ∧ o + i * k.ls.length + k.ls.length ≤ cur.size := by
  rcases h.2.2.2 with h0 | ⟨b, o, cur, ha, hB, hg, hc⟩
  · rw [h0.2] at hx; simp at hx
  · refine ⟨b, o, cur, ha, hB, hg, hc, ?_⟩
    have hl := k.cells_length x
    have hj : (k.cells x)[k.ls.length - 1]? = some ((k.cells x)[k.ls.length - 1]'(by omega)) := List.getElem?_eq_getElem _
    have := (Array.getElem?_eq_some_iff.1 (hc i x hx _ _ hj)).1
    omega
/-- Write an element. -/
theorem ixStA {P : Program} (h : WrS k t B w s xs) (hi : 0 ≤ i) {x : α} (hx : xs[i.toNat]? = some x) (hsz : sz = k.ls.length) (hp : 0 < k.ls.length) (h1 : ∀ l ∈ k.ls, l ≠ .any) (y : α) {vs : List Value} (hvs : vs = k.cells y) {K : World → Prop}
    (hK : ∀ w', WrS k t B w' s (xs.set i.toNat y) → w.grownBy w' s.bk → w'.heap.size = w.heap.size → K w') : Ix s.a s.n i sz w (fun a w1 => StA P a vs w1 K) := by
  obtain ⟨b, o, cur, ha, hB, hg, hc, hcs⟩ := h.at hx hp
  have hl := lt_of_get hx
  subst hsz hvs
  obtain ⟨w', cur', hr, hgr, hss, hh, hin, hout⟩ := run_storeCells_in P (o + i.toNat * k.ls.length) (k.cells y) 0 cur w (oneCell_cells k h1 y) (by rw [k.cells_length]; omega) hg
  refine ⟨_, ha, hi, by rw [h.1]; omega, w', by rw [add_mk]; exact hr, hK w' ⟨by simpa using h.1, h.2.1, h.2.2.1, .inr ⟨b, o, cur', ha, hB, hh, upd hc hin (fun p hp => hout p (by rw [k.cells_length]; exact hp))⟩⟩ (by simpa [Sl.bk, ha] using hgr) hss⟩
/-- Write a field of an element. -/
theorem ixStF (h : WrS k t B w s xs) (hi : 0 ≤ i) {x : α} (hx : xs[i.toNat]? = some x) (hsz : sz = k.ls.length) {j : Nat} (hj : j < k.ls.length) {v : Value} (hv : v.oneCell' = true) (y : α) (hy : k.cells y = (k.cells x).set j v) {K : World → Prop}
    (hK : ∀ w', WrS k t B w' s (xs.set i.toNat y) → w.grownBy w' s.bk → w'.heap.size = w.heap.size → K w') : Ix s.a s.n i sz w (fun a w1 => St (Addr.add a j) v w1 K) := by
  obtain ⟨b, o, cur, ha, hB, hg, hc, hcs⟩ := h.at hx (by omega)
  have hl := lt_of_get hx
  subst hsz
  refine ⟨_, ha, hi, by rw [h.1]; omega, hv, ⟨cur[o + i.toNat * k.ls.length + j]'(by omega), ?_⟩, ?_, ?_⟩
  · rw [add_mk, add_mk, cell_of hg]; exact Array.getElem?_eq_getElem _
  · simp [add_mk, World.frozen?, hg]
  · rw [add_mk, add_mk]
    refine hK _ ⟨by simpa using h.1, h.2.1, h.2.2.1, .inr ⟨b, o, _, ha, hB, setCell_heap hg v, upd hc ?_ ?_⟩⟩ (by simpa [Sl.bk, ha] using grown_setCell w b _ v) (by simp)
    · intro j' u hu
      rw [hy] at hu
      by_cases he : j' = j
      · subst he
        rw [List.getElem?_set_self (by rw [k.cells_length]; exact hj)] at hu
        rw [Array.getElem?_setIfInBounds_self_of_lt (by omega)]; exact hu
      · rw [List.getElem?_set_ne (by omega)] at hu
        rw [Array.getElem?_setIfInBounds_ne (by omega)]
        exact hc _ _ hx _ _ hu
    · intro p hp
      exact Array.getElem?_setIfInBounds_ne (by omega)
theorem ixStL (h : WrS k t B w s xs) (hi : 0 ≤ i) {x : α} (hx : xs[i.toNat]? = some x) (hsz : sz = k.ls.length) (hl : k.ls.length = 1) {v : Value} (hv : v.oneCell' = true) (y : α) (hy : k.cells y = [v]) {K : World → Prop}
    (hK : ∀ w', WrS k t B w' s (xs.set i.toNat y) → w.grownBy w' s.bk → w'.heap.size = w.heap.size → K w') : Ix s.a s.n i sz w (fun a w1 => St a v w1 K) := by
  have := ixStF (j := 0) h hi hx hsz (by omega) hv y (by
    have := k.cells_length x
    match hh : k.cells x, this with
    | [u], _ => simp [hy]
    | [], h => simp [hl] at h
    | _ :: _ :: _, h => simp [hl] at h) hK
  simpa [Addr.add] using this
/-- An element type, for make. -/
structure Mk (P : Program) (tS t : TypeId) (k : Kd α) (bytes : Nat) (z0 : α) : Prop where
  elem : P.underlying tS = some (.slice t)
  info : ∃ i z, P.info? t = some i ∧ i.zero = some z ∧ i.size = k.ls.length ∧ i.bytes = bytes ∧ z.cells.toList = k.cells z0
theorem mkS {P : Program} {tS : TypeId} {bytes : Nat} {z0 : α} (hM : Mk P tS t k bytes z0) {n : Nat} (hb : n * bytes ≤ 281474976710656) (hm : n ≤ maxLen) {K : Sl → World → Prop}
    (hK : ∀ s w', Below w.heap.size w w' → WrS k t w.heap.size w' s (List.replicate n z0) → K s w') :
    RunT (.o (.lf .sl)) P (Instr.makeSlice tS (.int .i64 (n : Int)) (.int .i64 (n : Int))) w K := by
  obtain ⟨i, z, hi, hz, hsz, hbs, hzc⟩ := hM.info
  have hm' : (n : Int) ≤ 9223372036854775807 := by simp only [maxLen] at hm; omega
  have hbb : (i.bytes : Int) * (n : Int) ≤ 281474976710656 := by
    have h : ((n * bytes : Nat) : Int) ≤ 281474976710656 := by omega
    rw [Int.natCast_mul] at h
    rw [hbs, Int.mul_comm]; exact h
  have hr := run_make (P := P) w tS t i z hM.elem hi hz .i64 .i64 n n (by omega) (Int.le_refl _) hbb hm'
  refine ⟨⟨some ⟨w.heap.size, 0, none⟩, n, n⟩, _, hr, hK _ _ ((Below.refl _ _).alloc (Nat.le_refl _) _) ⟨by rw [List.length_replicate], Nat.le_refl _, hm, .inr ⟨w.heap.size, 0, _, rfl, Nat.le_refl _, heap_alloc_new w _, ?_⟩⟩⟩
  intro i' x hx j v hj
  have hjl := lt_of_get hj
  rw [k.cells_length] at hjl
  have hil := lt_of_get hx
  simp only [List.length_replicate] at hil
  rw [List.getElem?_replicate_of_lt hil] at hx
  simp only [Option.some.injEq] at hx
  subst hx
  have hlt : i' * k.ls.length + j < n * k.ls.length := idx_apart hil hjl
  have hzs : z.cells.size = k.ls.length := by rw [← Array.length_toList, hzc, k.cells_length]
  have hmod : (i' * k.ls.length + j) % k.ls.length = j := by rw [Nat.add_comm, Nat.add_mul_mod_self_right, Nat.mod_eq_of_lt hjl]
  simp only [madeCells, Nat.zero_add, Int.toNat_natCast, hsz, hzs]
  rw [Array.getElem?_map, Array.getElem?_range, if_pos hlt]
  simp only [Option.map_some, hmod]
  rw [getElem!_pos z.cells j (by omega)]
  rw [← hzc, Array.getElem?_toList, Array.getElem?_eq_getElem (by omega)] at hj
  exact hj
theorem set_next {l zs : List α} {n : Nat} {x : α} (hx : l[n]? = some x) (hz : zs.length = l.length - n) : (l.take n ++ zs).set n x = l.take (n + 1) ++ zs.tail := by
  have hl := lt_of_get hx
  match zs, hz with
  | [], hz => simp at hz; omega
  | z :: zs, _ =>
    rw [List.set_append_right _ _ (by simp; omega)]
    simp only [List.length_take, Nat.min_eq_left (Nat.le_of_lt hl), Nat.sub_self, List.set_cons_zero, List.tail_cons]
    rw [List.take_add_one, hx]
    simp
theorem grown_refl (w : World) (row : Option Nat) : w.grownBy w row := ⟨rfl, rfl, rfl, Nat.le_refl _, fun _ _ _ => rfl⟩
theorem grown_trans {w w1 w2 : World} {row : Option Nat} (h : w.grownBy w1 row) (h2 : w1.grownBy w2 row) : w.grownBy w2 row :=
  ⟨h2.os.trans h.os, h2.tape.trans h.tape, h2.output.trans h.output, Nat.le_trans h.size h2.size, fun k hk hne => (h2.block k (Nat.lt_of_lt_of_le hk h.size) hne).trans (h.block k hk hne)⟩
end
end Go.Proofs.YtihllippchgkgaaGreat.V

/- Words for what is known: a box of registers, bools and a slice; frames that leave all but some blocks alone. -/
namespace Go.Proofs.YtihllippchgkgaaGreat.V
open Go Go.RowKit
set_option linter.unusedVariables false
set_option linter.unusedSimpArgs false
/-- All blocks but some stay as they were. -/
structure Chg (X : Nat → Prop) (w w' : World) : Prop where
  os : w'.os = w.os
  tape : w'.tape = w.tape
  output : w'.output = w.output
  size : w.heap.size ≤ w'.heap.size
  block : ∀ j, j < w.heap.size → ¬ X j → w'.heap[j]? = w.heap[j]?
section
variable {X Y : Nat → Prop} {w w1 w2 w' : World}
theorem Chg.refl (X : Nat → Prop) (w : World) : Chg X w w := ⟨rfl, rfl, rfl, Nat.le_refl _, fun _ _ _ => rfl⟩
theorem Chg.mono (h : Chg X w w') (hX : ∀ j, j < w.heap.size → X j → Y j) : Chg Y w w' :=
  ⟨h.os, h.tape, h.output, h.size, fun j hj hn => h.block j hj fun hx => hn (hX j hj hx)⟩
theorem Chg.trans (h1 : Chg X w w1) (h2 : Chg Y w1 w2) (hY : ∀ j, j < w.heap.size → Y j → X j) : Chg X w w2 :=
  ⟨h2.os.trans h1.os, h2.tape.trans h1.tape, h2.output.trans h1.output, Nat.le_trans h1.size h2.size, fun j hj hn => (h2.block j (Nat.lt_of_lt_of_le hj h1.size) fun hy => hn (hY j hj hy)).trans (h1.block j hj hn)⟩
theorem Chg.of_below (h : Below w.heap.size w w') : Chg X w w' := ⟨h.os, h.tape, h.output, h.size, fun j hj _ => h.block j hj⟩
theorem Chg.of_grown {b : Nat} (h : w.grownBy w' (some b)) (hb : X b) : Chg X w w' :=
  ⟨h.os, h.tape, h.output, h.size, fun j hj hn => h.block j hj fun e => hn (by simp only [Option.some.injEq] at e; rw [e]; exact hb)⟩
theorem Chg.of_grown' {r : Option Nat} (h : w.grownBy w' r) : Chg (fun j => r = some j) w w' :=
  ⟨h.os, h.tape, h.output, h.size, fun j hj hn => h.block j hj fun e => hn e.symm⟩
theorem Chg.below {n : Nat} (h : Chg X w w') (hX : ∀ j, X j → n ≤ j) (hn : n ≤ w.heap.size) : Below n w w' :=
  ⟨h.os, h.tape, h.output, h.size, fun j hj => h.block j (Nat.lt_of_lt_of_le hj hn) fun hx => by have := hX j hx; omega⟩
theorem Chg.all (h : Chg (fun _ => False) w w') : Below w.heap.size w w' := ⟨h.os, h.tape, h.output, h.size, fun j hj => h.block j hj fun hx => hx⟩
theorem Chg.blk (h : Chg X w w') {b : Nat} {o : Obj} (hb : w.heap[b]? = some o) (hn : ¬ X b) : w'.heap[b]? = some o :=
  (h.block b (Array.getElem?_eq_some_iff.1 hb).1 hn).trans hb
theorem OwnS.chg {α : Type} {k : Kd α} {t : TypeId} {B : Nat} {s : Sl} {xs : List α} (h : OwnS k t B w s xs) (hc : Chg X w w') (hn : ∀ b, s.bk = some b → ¬ X b) : OwnS k t B w' s xs := by
  refine ⟨h.1, h.2.1, ?_⟩
  rcases h.2.2 with h0 | ⟨g, cap, cur, hv, hB, hg, r⟩
  · exact .inl h0
  · refine .inr ⟨g, cap, cur, hv, hB, hc.blk hg (hn g ?_), r⟩
    simp only [Value.slice.injEq] at hv
    simp [Sl.bk, hv.1]
theorem SlR.chg {α : Type} {k : Kd α} {n : Nat} {s : Sl} {xs : List α} (h : SlR k w s xs) (hc : Chg X w w') (hX : ∀ j, X j → n ≤ j) (hb : ∀ b, s.bk = some b → b < n) : SlR k w' s xs := by
  refine ⟨h.1, h.2.1, h.2.2.1, ?_⟩
  rcases h.2.2.2 with h0 | ⟨b, o, ha, hx⟩
  · exact .inl h0
  · refine .inr ⟨b, o, ha, fun i x hi m v hv => ?_⟩
    have h1 := hx i x hi m v hv
    have hlt := World.block_lt_of_cell? w _ h1
    have hbn := hb b (by simp [Sl.bk, ha])
    have := hc.block b hlt fun hq => by have := hX b hq; omega
    rw [← h1]
    exact World.cell?_of_block this
end
/-- What is known of a register: nine numbers. -/
abbrev T9 := Tup (R 9 (.i .i64))
def kT9 : Kd T9 := ⟨R 9 (.i .i64), fun x => x⟩
@[reducible] def KL : List Lf := R 99 (.i .i64) ++ R 16 .b ++ [.sl]
structure Kn where
  regs : List T9
  set : List Bool
  sk : Sl
def Kn.ok (k : Kn) : Prop := k.regs.length = 11 ∧ k.set.length = 16
def Kn.cells (k : Kn) : List Value := k.regs.flatMap kT9.cells ++ (k.set.map Value.bool ++ [k.sk.v])
def tupN (l : Lf) : (n : Nat) → (Nat → l.T) → Tup (List.replicate n l)
  | 0, _ => ()
  | n + 1, f => (f 0, tupN l n fun i => f (i + 1))
theorem tupN_cells (l : Lf) : ∀ (n : Nat) (f : Nat → l.T), Tup.cells (List.replicate n l) (tupN l n f) = (List.range n).map fun i => l.emb (f i)
  | 0, _ => rfl
  | n + 1, f => by
    rw [List.range_succ_eq_map, List.map_cons, List.map_map]
    show l.emb (f 0) :: Tup.cells (List.replicate n l) (tupN l n fun i => f (i + 1)) = _
    rw [tupN_cells l n]
    rfl
def tupR (l : Lf) (n : Nat) (f : Nat → l.T) : Tup (R n l) := tupN l n f
theorem tupR_cells (l : Lf) (n : Nat) (f : Nat → l.T) : Tup.cells (R n l) (tupR l n f) = (List.range n).map fun i => l.emb (f i) := tupN_cells l n f
def tupA : (a b : List Lf) → Tup a → Tup b → Tup (a ++ b)
  | [], _, _, y => y
  | _ :: a, b, x, y => (x.1, tupA a b x.2 y)
theorem tupA_cells : ∀ (a b : List Lf) (x : Tup a) (y : Tup b), Tup.cells (a ++ b) (tupA a b x y) = Tup.cells a x ++ Tup.cells b y
  | [], _, _, _ => rfl
  | l :: a, b, x, y => by
    show l.emb x.1 :: Tup.cells (a ++ b) (tupA a b x.2 y) = _
    rw [tupA_cells a b]
    rfl
def T9.get (x : T9) : Nat → Int
  | 0 => x.1 | 1 => x.2.1 | 2 => x.2.2.1 | 3 => x.2.2.2.1 | 4 => x.2.2.2.2.1 | 5 => x.2.2.2.2.2.1 | 6 => x.2.2.2.2.2.2.1 | 7 => x.2.2.2.2.2.2.2.1 | _ => x.2.2.2.2.2.2.2.2.1
def z9 : T9 := (0, 0, 0, 0, 0, 0, 0, 0, 0, ())
def Kn.t (k : Kn) : Tup KL := tupA (R 99 (.i .i64) ++ R 16 .b) [.sl] (tupA (R 99 (.i .i64)) (R 16 .b) (tupR (.i .i64) 99 fun i => T9.get (k.regs.getD (i / 9) z9) (i % 9)) (tupR .b 16 fun i => k.set.getD i false)) (k.sk, ())
theorem len11 {α : Type} {l : List α} (h : l.length = 11) : ∃ a b c d e f g i j k m, l = [a, b, c, d, e, f, g, i, j, k, m] := by
  match l, h with
  | [a, b, c, d, e, f, g, i, j, k, m], _ => exact ⟨a, b, c, d, e, f, g, i, j, k, m, rfl⟩
theorem map_get {α β : Type} (f : α → β) (d : α) (l : List α) (n : Nat) (h : l.length = n) : ((List.range n).map fun i => f (l.getD i d)) = l.map f := by
  subst h
  apply List.ext_getElem?
  intro i
  by_cases hi : i < l.length
  · simp [hi]
  · simp [hi]
theorem Kn.t_cells {k : Kn} (h : k.ok) : Tup.cells KL k.t = k.cells := by
  obtain ⟨regs, set, sk⟩ := k
  obtain ⟨h1, h2⟩ := h
  unfold Kn.t
  rw [tupA_cells, tupA_cells]
  have e2 : Tup.cells (R 16 .b) (tupR .b 16 fun i => set.getD i false) = set.map Value.bool := (tupR_cells .b 16 _).trans (map_get Value.bool false set 16 h2)
  have e1 : Tup.cells (R 99 (.i .i64)) (tupR (.i .i64) 99 fun i => T9.get (regs.getD (i / 9) z9) (i % 9)) = regs.flatMap kT9.cells := by
    obtain ⟨a, b, c, d, e, f, g, i, j, k, m, rfl⟩ := len11 h1
    refine (tupR_cells (.i .i64) 99 _).trans ?_
    with_unfolding_all rfl
  show (Tup.cells (R 99 (.i .i64)) _ ++ Tup.cells (R 16 .b) _) ++ Tup.cells [.sl] (sk, ()) = _
  rw [e1, e2, List.append_assoc]
  rfl
theorem Kn.len {k : Kn} (h : k.ok) : k.cells.length = 116 := by
  rw [← Kn.t_cells h, V.cells_length]; rfl
theorem Kn.get {k : Kn} {r : Nat} {v : T9} (hr : k.regs[r]? = some v) {j : Nat} {u : Value} (hu : (Tup.cells (R 9 (.i .i64)) v)[j]? = some u) : k.cells[9 * r + j]? = some u := by
  have h := flat_get kT9 k.regs r v hr j u hu
  have e : r * kT9.ls.length + j = 9 * r + j := by show r * 9 + j = _; omega
  rw [e] at h
  unfold Kn.cells
  rw [List.getElem?_append_left (List.getElem?_eq_some_iff.1 h).1]
  exact h
theorem Kn.getS {k : Kn} (hk : k.ok) {i : Nat} {b : Bool} (hb : k.set[i]? = some b) : k.cells[99 + i]? = some (.bool b) := by
  have e : (k.regs.flatMap kT9.cells).length = 99 := by rw [flat_length, hk.1]; rfl
  unfold Kn.cells
  rw [List.getElem?_append_right (by omega), e, show 99 + i - 99 = i by omega, List.getElem?_append_left (by simpa using (List.getElem?_eq_some_iff.1 hb).1)]
  simp [hb]
theorem Kn.getK {k : Kn} (hk : k.ok) : k.cells[115]? = some k.sk.v := by
  have e : (k.regs.flatMap kT9.cells).length = 99 := by rw [flat_length, hk.1]; rfl
  unfold Kn.cells
  rw [List.getElem?_append_right (by omega), e, List.getElem?_append_right (by simp [hk.2])]
  simp [hk.2]
/-- Writing a register's numbers. -/
theorem Kn.put {k : Kn} (hk : k.ok) {r : Nat} (hr : r < 11) (v : T9) {cur : Array Value} (hin : ∀ j u, (Tup.cells (R 9 (.i .i64)) v)[j]? = some u → cur[9 * r + j]? = some u) (hout : ∀ p, (p < 9 * r ∨ 9 * r + 9 ≤ p) → cur[p]? = k.cells.toArray[p]?) :
    cur = (Kn.cells ⟨k.regs.set r v, k.set, k.sk⟩).toArray := by
  have hk' : Kn.ok ⟨k.regs.set r v, k.set, k.sk⟩ := ⟨by simpa using hk.1, hk.2⟩
  apply Array.ext_getElem?
  intro p
  have hl9 : (Tup.cells (R 9 (.i .i64)) v).length = 9 := V.cells_length _ _
  by_cases hp : 9 * r ≤ p ∧ p < 9 * r + 9
  · obtain ⟨j, rfl⟩ : ∃ j, p = 9 * r + j := ⟨p - 9 * r, by omega⟩
    have hj : j < (Tup.cells (R 9 (.i .i64)) v).length := by omega
    have hu := List.getElem?_eq_getElem hj
    rw [hin j _ hu, List.getElem?_toArray]
    exact (Kn.get (k := ⟨k.regs.set r v, k.set, k.sk⟩) (r := r) (v := v) (by show (k.regs.set r v)[r]? = _; rw [List.getElem?_set_self (by rw [hk.1]; exact hr)]) hu).symm
  · rw [hout p (by omega), List.getElem?_toArray, List.getElem?_toArray]
    by_cases h99 : p < 99
    · have hq : p / 9 < 11 := by omega
      have hne : p / 9 ≠ r := by omega
      obtain ⟨v', hv'⟩ : ∃ v', k.regs[p / 9]? = some v' := ⟨k.regs[p / 9]'(by rw [hk.1]; exact hq), List.getElem?_eq_getElem _⟩
      have hj : p % 9 < (Tup.cells (R 9 (.i .i64)) v').length := by rw [V.cells_length]; exact Nat.mod_lt _ (by decide)
      have e := Nat.div_add_mod p 9
      have h1 := Kn.get (k := k) hv' (List.getElem?_eq_getElem hj)
      have h2 := Kn.get (k := ⟨k.regs.set r v, k.set, k.sk⟩) (r := p / 9) (v := v') (by show (k.regs.set r v)[p / 9]? = _; rw [List.getElem?_set_ne (by omega)]; exact hv') (List.getElem?_eq_getElem hj)
      rw [e] at h1 h2
      rw [h1, h2]
    · have e1 : (k.regs.flatMap kT9.cells).length = 99 := by rw [flat_length, hk.1]; rfl
      have e2 : ((k.regs.set r v).flatMap kT9.cells).length = 99 := by rw [flat_length, List.length_set, hk.1]; rfl
      have q1 : k.cells[p]? = (k.set.map Value.bool ++ [k.sk.v])[p - 99]? := by
        unfold Kn.cells
        rw [List.getElem?_append_right (by omega), e1]
      have q2 : (Kn.cells ⟨k.regs.set r v, k.set, k.sk⟩)[p]? = (k.set.map Value.bool ++ [k.sk.v])[p - 99]? := by
        show ((k.regs.set r v).flatMap kT9.cells ++ (k.set.map Value.bool ++ [k.sk.v]))[p]? = _
        rw [List.getElem?_append_right (by omega), e2]
      exact q1.trans q2.symm
theorem Kn.putS {k : Kn} (hk : k.ok) {i : Nat} (hi : i < 16) (b : Bool) : k.cells.toArray.setIfInBounds (99 + i) (.bool b) = (Kn.cells ⟨k.regs, k.set.set i b, k.sk⟩).toArray := by
  have e1 : (k.regs.flatMap kT9.cells).length = 99 := by rw [flat_length, hk.1]; rfl
  have e3 : (k.set.map Value.bool).length = 16 := by rw [List.length_map]; exact hk.2
  rw [List.setIfInBounds_toArray]
  congr 1
  unfold Kn.cells
  rw [List.set_append_right _ _ (by omega), e1, show 99 + i - 99 = i by omega, List.set_append_left _ _ (by omega)]
  simp [List.map_set]
theorem Kn.putK {k : Kn} (hk : k.ok) (s : Sl) : k.cells.toArray.setIfInBounds 115 s.v = (Kn.cells ⟨k.regs, k.set, s⟩).toArray := by
  have e1 : (k.regs.flatMap kT9.cells).length = 99 := by rw [flat_length, hk.1]; rfl
  have e3 : (k.set.map Value.bool).length = 16 := by rw [List.length_map]; exact hk.2
  rw [List.setIfInBounds_toArray]
  congr 1
  unfold Kn.cells
  rw [List.set_append_right _ _ (by omega), e1, List.set_append_right _ _ (by omega), e3]
  rfl
/-- What is known stands in a box. -/
def KAt (t : TypeId) (w : World) (b : Nat) (k : Kn) : Prop := w.heap[b]? = some (.cells k.cells.toArray t (0, 0)) ∧ k.ok
section
variable {P : Program} {t tA e : TypeId} {w : World} {b : Nat} {k : Kn}
theorem run_indexArr {n sz : Nat} {a : Addr} {kk : IntKind} {i : Int} (hu : P.underlying tA = some (.array n e)) (hs : szOf P e = some sz) (h0 : 0 ≤ i) (h1 : i < n) :
    (Instr.indexAt tA (.pointer (some a)) (.int kk i)).run P w = .ok (.pointer (some (a.add (i.toNat * sz)))) w := by
  simp [Instr.indexAt, asIntOf, underlying, hu, Instr.sureAddr, h0, h1, run_sizeOf hs]
theorem ixArr {n sz : Nat} {a : Addr} {i : Int} {K : Addr → World → Prop} (hu : P.underlying tA = some (.array n e)) (hs : szOf P e = some sz) (h0 : 0 ≤ i) (h1 : i < n) (hk : K (a.add (i.toNat * sz)) w) :
    RunT (.o (.lf .ad)) P (Instr.indexAt tA (.pointer (some a)) (.int .i64 i)) w K :=
  ⟨a.add (i.toNat * sz), w, run_indexArr hu hs h0 h1, hk⟩
theorem KAt.ld (h : KAt t w b k) {l : Lf} {x : l.T} {j : Nat} (hx : k.cells[j]? = some (l.emb x)) {K : l.T → World → Prop} (hk : K x w) : Ld l ⟨b, j, none⟩ w K :=
  ⟨x, by rw [cell_of h.1]; simpa using hx, hk⟩
theorem KAt.lt (h : KAt t w b k) : b < w.heap.size := (Array.getElem?_eq_some_iff.1 h.1).1
theorem KAt.chg {X : Nat → Prop} {w' : World} (h : KAt t w b k) (hc : Chg X w w') (hn : ¬ X b) : KAt t w' b k := ⟨hc.blk h.1 hn, h.2⟩
theorem KAt.below {w' : World} (h : KAt t w b k) (hb : Below w.heap.size w w') : KAt t w' b k := h.chg (X := fun _ => False) (.of_below hb) (fun h => h)
theorem KAt.ldK (h : KAt t w b k) {K : Tup KL → World → Prop} (hk : K k.t w) : LdA KL ⟨b, 0, none⟩ w K :=
  ldAB h.1 (by rw [Kn.t_cells h.2]) hk
theorem KAt.ldR (h : KAt t w b k) {r : Nat} {v : T9} (hr : k.regs[r]? = some v) {K : T9 → World → Prop} (hk : K v w) : LdA (R 9 (.i .i64)) ⟨b, 9 * r, none⟩ w K :=
  ⟨v, fun j u hu => by rw [add_mk, cell_of h.1]; simpa using Kn.get hr hu, hk⟩
theorem oneCell9 (y : T9) : ∀ v ∈ Tup.cells (R 9 (.i .i64)) y, v.oneCell' = true := oneCell_cells kT9 (by intro l hl; have := List.eq_of_mem_replicate hl; subst this; intro h; cases h) y
theorem KAt.stR (h : KAt t w b k) {r : Nat} (hr : r < 11) {v : T9} {vs : List Value} (hvs : vs = Tup.cells (R 9 (.i .i64)) v) {K : World → Prop}
    (hk : ∀ w', w.grownBy w' (some b) → w'.heap.size = w.heap.size → KAt t w' b ⟨k.regs.set r v, k.set, k.sk⟩ → K w') : StA P ⟨b, 9 * r, none⟩ vs w K := by
  subst hvs
  have hl9 : (Tup.cells (R 9 (.i .i64)) v).length = 9 := V.cells_length _ _
  obtain ⟨w', cur, hrun, hg, hsz, hh, hin, hout⟩ := run_storeCells_in P (b := b) (t := t) (9 * r) (Tup.cells (R 9 (.i .i64)) v) 0 k.cells.toArray w (oneCell9 v) (by rw [hl9, List.size_toArray, Kn.len h.2]; omega) h.1
  refine ⟨w', hrun, hk w' hg hsz ⟨?_, by simpa using h.2.1, h.2.2⟩⟩
  rw [hh, Kn.put h.2 hr v (cur := cur) (fun j u hu => by simpa using hin j u hu) (fun p hp => hout p (by omega))]
end
end Go.Proofs.YtihllippchgkgaaGreat.V

/- Ops and programs of the flow, as plain data. -/
namespace Go.Proofs.YtihllippchgkgaaGreat.V
open Go Go.RowKit

structure Ins where
  op : Int
  dst : Int
  src : Int
  off : Int
  imm : Int
  size : Int
  deriving DecidableEq, Inhabited
def kIns : Kd Ins := ⟨List.replicate 6 (.i .i64), fun x => (x.op, x.dst, x.src, x.off, x.imm, x.size, ())⟩
@[reducible] def Ins.t (x : Ins) : Tup (List.replicate 6 (.i .i64)) := (x.op, x.dst, x.src, x.off, x.imm, x.size, ())
def Ins.cs (x : Ins) : Array Value := #[.int .i64 x.op, .int .i64 x.dst, .int .i64 x.src, .int .i64 x.off, .int .i64 x.imm, .int .i64 x.size]
theorem nwIns {x : Ins} {t : TypeId} {w : World} {K : Addr → World → Prop}
    (hk : ∀ w', Below w.heap.size w w' → w'.heap.size = w.heap.size + 1 → w'.heap[w.heap.size]? = some (.cells x.cs t (0, 0)) → K ⟨w.heap.size, 0, none⟩ w') : Nw (Tup.cells (List.replicate 6 (.i .i64)) x.t).toArray t w K := nw hk
def szP (n : Int) : Prop := n = 1 ∨ n = 2 ∨ n = 4
def BareP (x : Ins) : Prop :=
  (1 ≤ x.op ∧ x.op ≤ 11 ∧ x.off = 0 ∧ x.size = 0 ∧ (x.src < 0 ∨ x.imm = 0)) ∨ (12 ≤ x.op ∧ x.op ≤ 15 ∧ x.size = 0 ∧ (x.src < 0 ∨ x.imm = 0)) ∨
  (x.op = 16 ∧ x.dst = 0 ∧ x.src = -1 ∧ x.imm = 0 ∧ x.size = 0) ∨ (x.op = 17 ∧ 0 ≤ x.src ∧ x.imm = 0 ∧ szP x.size) ∨ (x.op = 18 ∧ (x.src < 0 ∨ x.imm = 0) ∧ szP x.size) ∨
  (x.op = 19 ∧ x.dst = 0 ∧ x.src = -1 ∧ x.off = 0 ∧ x.size = 0 ∧ 1 ≤ x.imm ∧ x.imm ≤ 6) ∨ (x.op = 20 ∧ x.dst = 0 ∧ x.src = -1 ∧ x.off = 0 ∧ x.imm = 0 ∧ x.size = 0)
def InsP (x : Ins) : Prop := (0 ≤ x.dst ∧ x.dst ≤ 10) ∧ (-1 ≤ x.src ∧ x.src ≤ 10) ∧ (-128 ≤ x.off ∧ x.off ≤ 127) ∧ (0 ≤ x.imm ∧ x.imm ≤ 4294967295) ∧ BareP x
instance (n : Int) : Decidable (szP n) := by unfold szP; infer_instance
instance (x : Ins) : Decidable (BareP x) := by unfold BareP; infer_instance
instance (x : Ins) : Decidable (InsP x) := by unfold InsP; infer_instance
def goesP (x : Ins) : Prop := 12 ≤ x.op ∧ x.op ≤ 16
instance (x : Ins) : Decidable (goesP x) := by unfold goesP; infer_instance
/-- Where an op goes on. -/
def tgt (i : Int) (x : Ins) : Int := i + 1 + x.off
def endP (l : List Ins) : Int :=
  if 48 < l.length then 3 else match l.getLast? with
    | none => 4
    | some x => if x.op ≠ 20 ∧ x.op ≠ 16 then 4 else 0
def formGo (l : List Ins) : Nat → List Ins → Int
  | _, [] => endP l
  | i, x :: xs => if ¬ InsP x then 1 else if goesP x ∧ ¬ (0 ≤ tgt i x ∧ tgt i x ≤ (l.length : Int) - 1) then 2 else formGo l (i + 1) xs
/-- Why a program cannot be. -/
def formP (l : List Ins) : Int := formGo l 0 l
theorem kof {α : Type} {K : α → World → Prop} {x y : α} {w : World} (hk : K x w) (e : x = y) : K y w := e ▸ hk
theorem dec_eq {p : Prop} [Decidable p] {b : Bool} (h : p ↔ b = true) : decide p = b := by
  cases b <;> simp_all
end Go.Proofs.YtihllippchgkgaaGreat.V

/- Contracts: ops and the form of programs. -/
namespace Go.Proofs.YtihllippchgkgaaGreat.V
open Go Go.RowKit
set_option linter.unusedVariables false
set_option linter.unusedSimpArgs false

section
variable {w : World} {K : Bool → World → Prop}
theorem impl.within.c {n lo hi : Int} (hk : K (decide (lo ≤ n ∧ n ≤ hi)) w) : CallT (.o (.lf .b)) P0 26 [.int .i64 n, .int .i64 lo, .int .i64 hi] w K :=
  impl.within.ok ⟨fun h => kof hk (dec_eq (by simp at h ⊢; omega)), fun h => kof hk (dec_eq (by simp at h ⊢; omega))⟩
theorem spec.l1In.c {n lo hi : Int} (hk : K (decide (lo ≤ n ∧ n ≤ hi)) w) : CallT (.o (.lf .b)) P0 60 [.int .i64 n, .int .i64 lo, .int .i64 hi] w K :=
  spec.l1In.ok ⟨fun h => kof hk (dec_eq (by simp at h ⊢; omega)), fun h => kof hk (dec_eq (by simp at h ⊢; omega))⟩
theorem impl.numOk.c {n : Int} (hk : K (decide (0 ≤ n ∧ n ≤ 4294967295)) w) : CallT (.o (.lf .b)) P0 77 [.int .i64 n] w K := impl.numOk.ok (impl.within.c hk)
theorem impl.regOk.c {n : Int} (hk : K (decide (0 ≤ n ∧ n ≤ 10)) w) : CallT (.o (.lf .b)) P0 85 [.int .i64 n] w K := impl.regOk.ok (impl.within.c hk)
theorem impl.kind.reckons.c {n : Int} (hk : K (decide (1 ≤ n ∧ n ≤ 11)) w) : CallT (.o (.lf .b)) P0 84 [.int .i64 n] w K := impl.kind.reckons.ok (impl.within.c hk)
theorem impl.kind.asks.c {n : Int} (hk : K (decide (12 ≤ n ∧ n ≤ 15)) w) : CallT (.o (.lf .b)) P0 49 [.int .i64 n] w K := impl.kind.asks.ok (impl.within.c hk)
theorem impl.kind.goes.c {n : Int} (hk : K (decide (12 ≤ n ∧ n ≤ 16)) w) : CallT (.o (.lf .b)) P0 44 [.int .i64 n] w K := impl.kind.goes.ok (impl.within.c hk)
theorem spec.l1Alu.c {n : Int} (hk : K (decide (1 ≤ n ∧ n ≤ 11)) w) : CallT (.o (.lf .b)) P0 63 [.int .i64 n] w K := spec.l1Alu.ok (spec.l1In.c hk)
theorem spec.l1Jump.c {n : Int} (hk : K (decide (12 ≤ n ∧ n ≤ 15)) w) : CallT (.o (.lf .b)) P0 65 [.int .i64 n] w K := spec.l1Jump.ok (spec.l1In.c hk)
theorem impl.sizeOk.c {n : Int} (hk : K (decide (szP n)) w) : CallT (.o (.lf .b)) P0 87 [.int .i64 n] w K := by
  refine impl.sizeOk.ok ?_
  unfold impl.sizeOk.vc
  (repeat' (first | refine And.intro (fun _ => ?_) (fun _ => ?_)))
  all_goals exact kof hk (dec_eq (by simp only [InsP, BareP, szP, decide_eq_true_eq, decide_eq_false_iff_not, beq_iff_eq, beq_eq_false_iff_ne, bne_iff_ne, bne_eq_false_iff_eq, ne_eq, Bool.not_eq_true', Bool.not_eq_false', Bool.false_eq_true, iff_true, iff_false, true_and] at *; omega))
theorem impl.Ins.either.c {x : Ins} (hk : ∀ w', Below w.heap.size w w' → K (decide ((0 ≤ x.src ∧ x.src ≤ 10 ∧ x.imm = 0) ∨ (x.src = -1 ∧ 0 ≤ x.imm ∧ x.imm ≤ 4294967295))) w') : CallT (.o (.lf .b)) P0 86 [.agg (Tup.cells (R 6 (.i .i64)) x.t).toArray] w K := by
  refine impl.Ins.either.ok (nwIns fun w1 hb hs hc => ?_)
  have hk := hk w1 hb
  (repeat' (first | refine ldB hc rfl ?_ | refine impl.regOk.c ?_ | refine impl.numOk.c ?_ | refine And.intro (fun _ => ?_) (fun _ => ?_)))
  all_goals exact kof hk (dec_eq (by simp only [InsP, BareP, szP, decide_eq_true_eq, decide_eq_false_iff_not, beq_iff_eq, beq_eq_false_iff_ne, bne_iff_ne, bne_eq_false_iff_eq, ne_eq, Bool.not_eq_true', Bool.not_eq_false', Bool.false_eq_true, iff_true, iff_false, true_and] at *; omega))

theorem eqlIns {xo yo : Operand} {a0 a1 a2 a3 a4 a5 b0 b1 b2 b3 b4 b5 : Int} {cs : Array Value} (hcs : cs = #[.int .i64 a0, .int .i64 a1, .int .i64 a2, .int .i64 a3, .int .i64 a4, .int .i64 a5])
    (hk : K (decide (a0 = b0 ∧ a1 = b1 ∧ a2 = b2 ∧ a3 = b3 ∧ a4 = b4 ∧ a5 = b5)) w) :
    RunT (.o (.lf .b)) P0 (do eqGuard .eql 82 xo yo (.agg cs) (.agg #[.int .i64 b0, .int .i64 b1, .int .i64 b2, .int .i64 b3, .int .i64 b4, .int .i64 b5]); binOp .eql 82 (.agg cs) (.agg #[.int .i64 b0, .int .i64 b1, .int .i64 b2, .int .i64 b3, .int .i64 b4, .int .i64 b5])) w K := by
  subst hcs
  refine ⟨_, w, ?_, hk⟩
  have hg := run_eqGuard_agg (P := P0) w .eql 82 xo yo #[.int .i64 a0, .int .i64 a1, .int .i64 a2, .int .i64 a3, .int .i64 a4, .int .i64 a5] #[.int .i64 b0, .int .i64 b1, .int .i64 b2, .int .i64 b3, .int .i64 b4, .int .i64 b5] (by kernel_rfl)
  have ht : P0.underlying 82 = some (.struct (P0.fieldsOf 82)) := by kernel_rfl
  have hf : (P0.fieldsOf 82).toList = [Field.mk "Op" 3 0 false "" "" 0, Field.mk "Dst" 3 1 false "" "" 8, Field.mk "Src" 3 2 false "" "" 16, Field.mk "Off" 3 3 false "" "" 24, Field.mk "Imm" 3 4 false "" "" 32, Field.mk "Size" 3 5 false "" "" 40] := by kernel_rfl
  have hi : P0.underlying 3 = some (.int .i64) := by kernel_rfl
  have hag : aggT P0 3 = some false := by kernel_rfl
  have hp : ∀ (cs : Array Value) (j : Nat) (h : j < cs.size), (part 3 cs j).run P0 w = .ok cs[j] w := fun cs j h => by simp [part, run_isAgg hag, Array.getElem?_eq_getElem h]
  simp only [Sem.run_bind, hg, Result.andThen_ok, run_eql_struct, run_equalIn_agg (P := P0) w 9999 82 _ _ ht (by kernel_rfl), hf]
  by_cases e0 : a0 = b0 <;> by_cases e1 : a1 = b1 <;> by_cases e2 : a2 = b2 <;> by_cases e3 : a3 = b3 <;> by_cases e4 : a4 = b4 <;> by_cases e5 : a5 = b5 <;>
    simp [Op.eqFields, hp, run_equalIn_int (P := P0) w 9998 3 .i64 .i64 _ _ hi, e0, e1, e2, e3, e4, e5, Rs.emb, Ty.emb, Lf.emb]
set_option maxHeartbeats 2000000 in
theorem impl.InsOk.c {x : Ins} (hk : ∀ w', Below w.heap.size w w' → K (decide (InsP x)) w') : CallT (.o (.lf .b)) P0 43 [.agg (Tup.cells (R 6 (.i .i64)) x.t).toArray] w K := by
  refine impl.InsOk.ok (nwIns fun w1 hb hs hc => ?_)
  (repeat' (first | refine ldB hc rfl ?_ | refine ldAB (x := x.t) hc rfl ?_ | refine impl.within.c ?_ | refine impl.kind.reckons.c ?_ | refine impl.kind.asks.c ?_ | refine impl.regOk.c ?_ | refine impl.sizeOk.c ?_ | refine eqlIns rfl ?_ | refine And.intro (fun _ => ?_) (fun _ => ?_) | (refine impl.Ins.either.c (x := x) fun w2 hb2 => ?_; replace hc := (hb2.block _ (by omega)).trans hc; replace hb := hb.trans (hb2.mono (by omega)))))
  all_goals
    refine kof (hk _ hb) (dec_eq ?_)
    clear hk hb hc
    grind [InsP, BareP, szP]
end
end Go.Proofs.YtihllippchgkgaaGreat.V

/- Contracts: why a program cannot be. -/
namespace Go.Proofs.YtihllippchgkgaaGreat.V
open Go Go.RowKit
set_option linter.unusedVariables false
set_option linter.unusedSimpArgs false

section
variable {w : World} {K : Bool → World → Prop}
set_option maxHeartbeats 1000000 in
theorem spec.l1Bare.c {x : Ins} (hk : ∀ w', Below w.heap.size w w' → K (decide (BareP x)) w') : CallT (.o (.lf .b)) P0 139 [.agg (Tup.cells (R 6 (.i .i64)) x.t).toArray] w K := by
  refine spec.l1Bare.ok (nwIns fun w1 hb hs hc => ?_)
  have hk := hk w1 hb
  (repeat' (first | refine ldB hc rfl ?_ | refine ldAB (x := x.t) hc rfl ?_ | refine spec.l1In.c ?_ | refine spec.l1Alu.c ?_ | refine spec.l1Jump.c ?_ | refine eqlIns rfl ?_ | refine And.intro (fun _ => ?_) (fun _ => ?_)))
  all_goals
    refine kof hk (dec_eq ?_)
    clear hk hb hc
    grind [BareP, szP]
theorem spec.l1InsOk.c {x : Ins} (hk : ∀ w', Below w.heap.size w w' → K (decide (InsP x)) w') : CallT (.o (.lf .b)) P0 90 [.agg (Tup.cells (R 6 (.i .i64)) x.t).toArray] w K := by
  refine spec.l1InsOk.ok (nwIns fun w1 hb hs hc => ?_)
  (repeat' (first | refine ldB hc rfl ?_ | refine ldAB (x := x.t) hc rfl ?_ | refine spec.l1In.c ?_ | refine And.intro (fun _ => ?_) (fun _ => ?_) | (refine spec.l1Bare.c (x := x) fun w2 hb2 => ?_; replace hc := (hb2.block _ (by omega)).trans hc; replace hb := hb.trans (hb2.mono (by omega)))))
  all_goals
    refine kof (hk _ hb) (dec_eq ?_)
    clear hk hb hc
    grind [InsP]
end
theorem getElem?_drop_cons {α : Type} {l : List α} {k : Nat} {x : α} (h : l[k]? = some x) : l.drop k = x :: l.drop (k + 1) := by
  have hk : k < l.length := by
    rcases Nat.lt_or_ge k l.length with h1 | h1
    · exact h1
    · simp [List.getElem?_eq_none h1] at h
  rw [List.drop_eq_getElem_cons hk]
  rw [List.getElem?_eq_getElem hk] at h
  simp only [Option.some.injEq] at h
  rw [h]
theorem get_some {α : Type} {l : List α} {k : Nat} (h : k < l.length) : ∃ x, l[k]? = some x := ⟨l[k], List.getElem?_eq_getElem h⟩
theorem last_get {l : List Ins} {x : Ins} (h : l[l.length - 1]? = some x) : l.getLast? = some x := by rw [List.getLast?_eq_getElem?]; exact h
theorem i64_of {n : Int} (h0 : -9223372036854775808 ≤ n) (h1 : n ≤ 9223372036854775807) : IntKind.wrap .i64 n = n := i64_in h0 h1
section
variable {w : World} {s : Sl} {l : List Ins}
theorem impl.target.c {i : Int} {x : Ins} {K : Int → World → Prop} (h : SlR kIns w s l) (h0 : 0 ≤ i) (hx : l[i.toNat]? = some x) (hl : l.length ≤ 1048576) (ho : -128 ≤ x.off ∧ x.off ≤ 127) (hk : K (tgt i x) w) :
    CallT (.o (.lf (.i .i64))) P0 45 [s.v, .int .i64 i] w K := by
  refine impl.target.ok (ixF h h0 hx rfl (v := x.off) rfl ?_)
  have hi : i.toNat < l.length := by
    rcases Nat.lt_or_ge i.toNat l.length with h1 | h1
    · exact h1
    · simp [List.getElem?_eq_none h1] at hx
  simp (disch := omega) only [i64_of]
  exact hk
theorem endP_many (h : 48 < l.length) : endP l = 3 := by unfold endP; rw [if_pos h]
theorem endP_nil (h : l = []) : endP l = 4 := by subst h; rfl
theorem endP_last {x : Ins} (h : ¬ 48 < l.length) (hx : l[l.length - 1]? = some x) : endP l = if x.op ≠ 20 ∧ x.op ≠ 16 then 4 else 0 := by
  unfold endP; rw [if_neg h, last_get hx]
theorem spec.l1Form.c {K : Int → World → Prop} (h : SlR kIns w s l) (hl : l.length ≤ 1048576) (hk : ∀ w', Below w.heap.size w w' → K (formP l) w') :
    CallT (.o (.lf (.i .i64))) P0 47 [s.v] w K := by
  have hn := h.len
  refine spec.l1Form.ok ⟨fun i w' => ∃ k : Nat, i = k ∧ k ≤ l.length ∧ formGo l k (l.drop k) = formP l ∧ Below w.heap.size w w', fun i _ => l.length - i.toNat, ⟨0, rfl, by omega, rfl, Below.refl _ _⟩, ?_⟩
  rintro i w1 ⟨k, rfl, hkl, hf, hb⟩ _
  have h1 := h.below hb
  refine And.intro (fun hlt => ?_) (fun hge => ?_)
  · simp only [decide_eq_true_eq] at hlt
    obtain ⟨x, hx⟩ := get_some (l := l) (k := k) (by omega)
    rw [getElem?_drop_cons hx] at hf
    refine ixA h1 (by omega) (x := x) (by simpa using hx) rfl ?_
    refine spec.l1InsOk.c (x := x) fun w2 hb2 => ?_
    have h2 := h1.below hb2
    have hbb := hb.trans (hb2.mono hb.size)
    refine And.intro (fun hq => ?_) (fun hq => ?_)
    · simp at hq
      exact kof (hk _ hbb) (by rw [← hf]; simp [formGo, hq])
    · simp at hq
      have ho := hq.2.2.1
      refine ⟨fun b w3 => b = decide (goesP x) ∧ w3 = w2, ?_, ?_⟩
      · refine ixF h2 (by omega) (x := x) (by simpa using hx) rfl (v := x.op) rfl ?_
        refine spec.l1Jump.c ?_
        refine And.intro (fun hj => ?_) (fun hj => ?_)
        · exact ⟨by clear hk h1 h2 hbb hb hb2; grind [goesP], rfl⟩
        · refine ixF h2 (by omega) (x := x) (by simpa using hx) rfl (v := x.op) rfl ?_
          exact ⟨by clear hk h1 h2 hbb hb hb2; grind [goesP], rfl⟩
      · rintro b w3 ⟨rfl, rfl⟩ _
        refine And.intro (fun hg => ?_) (fun hg => ?_)
        · simp only [decide_eq_true_eq] at hg
          refine ixF h2 (by omega) (x := x) (by simpa using hx) rfl (v := x.off) rfl ?_
          simp (disch := omega) only [i64_of]
          refine spec.l1In.c ?_
          refine And.intro (fun ht => ?_) (fun ht => ?_)
          · simp only [Bool.not_eq_true', decide_eq_false_iff_not] at ht
            exact kof (hk _ hbb) (by rw [← hf]; simp only [formGo, hq, hg, tgt]; rw [if_neg (by simp), if_pos ⟨trivial, by omega⟩])
          · simp only [Bool.not_eq_false', decide_eq_true_eq] at ht
            refine ⟨⟨k + 1, by omega, by omega, ?_, hbb⟩, by omega⟩
            rw [← hf]; simp only [formGo, hq, hg, tgt]; rw [if_neg (by simp), if_neg (by omega)]
        · simp only [decide_eq_false_iff_not] at hg
          simp (disch := omega) only [i64_of]
          refine ⟨⟨k + 1, by omega, by omega, ?_, hbb⟩, by omega⟩
          rw [← hf]; simp only [formGo, hq, hg]; rw [if_neg (by simp), if_neg (by simp)]
  · simp only [decide_eq_false_iff_not] at hge
    have hkl' : k = l.length := by omega
    rw [hkl', List.drop_length] at hf
    simp only [formGo] at hf
    refine And.intro (fun hm => ?_) (fun hm => ?_)
    · simp only [decide_eq_true_eq] at hm
      exact kof (hk _ hb) (by rw [← hf, endP_many (by omega)])
    · simp only [decide_eq_false_iff_not] at hm
      refine And.intro (fun hz => ?_) (fun hz => ?_)
      · simp only [beq_iff_eq] at hz
        exact kof (hk _ hb) (by rw [← hf, endP_nil (List.eq_nil_of_length_eq_zero (by omega))])
      · simp only [beq_eq_false_iff_ne, ne_eq] at hz
        obtain ⟨x, hx⟩ := get_some (l := l) (k := l.length - 1) (by omega)
        have he := endP_last (l := l) (by omega) hx
        simp (disch := omega) only [i64_of]
        have hx' : l[((s.n : Int) - 1).toNat]? = some x := by rw [show ((s.n : Int) - 1).toNat = l.length - 1 by omega]; exact hx
        refine ixF h1 (by omega) hx' rfl (v := x.op) rfl ?_
        refine And.intro (fun h20 => ?_) (fun h20 => ?_)
        · refine ixF h1 (by omega) hx' rfl (v := x.op) rfl ?_
          refine And.intro (fun h16 => ?_) (fun h16 => ?_)
          · exact kof (hk _ hb) (by rw [← hf, he]; simp at h20 h16; simp [h20, h16])
          · exact kof (hk _ hb) (by rw [← hf, he]; simp at h20 h16; simp [h16])
        · exact kof (hk _ hb) (by rw [← hf, he]; simp at h20; simp [h20])
theorem spec.l12Fine.c {K : Bool → World → Prop} (h : SlR kIns w s l) (hl : l.length ≤ 1048576) (hk : ∀ w', Below w.heap.size w w' → K (decide (formP l = 0)) w') :
    CallT (.o (.lf .b)) P0 24 [s.v] w K := by
  refine spec.l12Fine.ok (spec.l1Form.c h hl fun w' hb => ?_)
  exact kof (hk _ hb) (dec_eq (by simp))
theorem zIns : (zc P0 82).toList.length = 6 := by kernel_rfl
/-- An op is copied into a variable of its own. -/
theorem nwStIns {x : Ins} {P : Program} {w : World} {K : Addr → World → Prop}
    (hk : ∀ w', Below w.heap.size w w' → w'.heap.size = w.heap.size + 1 → w'.heap[w.heap.size]? = some (.cells x.cs 82 (0, 0)) → K ⟨w.heap.size, 0, none⟩ w') :
    Nw (zc P0 82) 82 w (fun a w' => StA P a (Tup.cells (R 6 (.i .i64)) x.t) w' (K a)) :=
  nwSt (cs := Tup.cells (R 6 (.i .i64)) x.t) zIns (oneCell_cells kIns (by intro l hl; simp [kIns] at hl; simp [hl]) x) hk rfl
theorem impl.ProgForm.c {K : Int → World → Prop} (h : SlR kIns w s l) (hl : l.length ≤ 1048576) (hk : ∀ w', Below w.heap.size w w' → K (formP l) w') :
    CallT (.o (.lf (.i .i64))) P0 21 [s.v] w K := by
  have hn := h.len
  refine impl.ProgForm.ok ⟨fun i w' => ∃ k : Nat, i = k ∧ k ≤ l.length ∧ formGo l k (l.drop k) = formP l ∧ Below w.heap.size w w', fun i _ => l.length - i.toNat, ⟨0, rfl, by omega, rfl, Below.refl _ _⟩, ?_⟩
  rintro i w1 ⟨k, rfl, hkl, hf, hb⟩ _
  have h1 := h.below hb
  refine And.intro (fun hlt => ?_) (fun hge => ?_)
  · simp only [decide_eq_true_eq] at hlt
    obtain ⟨x, hx⟩ := get_some (l := l) (k := k) (by omega)
    rw [getElem?_drop_cons hx] at hf
    refine ixA h1 (by omega) (x := x) (by simpa using hx) rfl ?_
    refine nwStIns (x := x) fun w2 hb2 hs2 hc2 => ?_
    refine ldAB (x := x.t) hc2 rfl ?_
    refine impl.InsOk.c (x := x) fun w3 hb3 => ?_
    have hc3 := (hb3.block _ (by omega)).trans hc2
    have hb13 := hb2.trans (hb3.mono (by omega))
    have h3 := h1.below hb13
    have hbb := hb.trans (hb13.mono hb.size)
    refine And.intro (fun hq => ?_) (fun hq => ?_)
    · simp at hq
      exact kof (hk _ hbb) (by rw [← hf]; simp [formGo, hq])
    · simp at hq
      have ho := hq.2.2.1
      refine ldB hc3 (x := x.op) rfl ?_
      refine impl.kind.goes.c ?_
      refine And.intro (fun hg => ?_) (fun hg => ?_)
      · simp only [decide_eq_true_eq] at hg
        refine impl.target.c h3 (by omega) (x := x) (by simpa using hx) hl ho ?_
        simp (disch := omega) only [i64_of]
        refine impl.within.c ?_
        refine And.intro (fun ht => ?_) (fun ht => ?_)
        · simp only [Bool.not_eq_true', decide_eq_false_iff_not] at ht
          exact kof (hk _ hbb) (by rw [← hf]; simp only [formGo, hq]; rw [if_neg (by simp), if_pos ⟨hg, by omega⟩])
        · simp only [Bool.not_eq_false', decide_eq_true_eq] at ht
          refine ⟨⟨k + 1, by omega, by omega, ?_, hbb⟩, by omega⟩
          rw [← hf]; simp only [formGo, hq]; rw [if_neg (by simp), if_neg (by omega)]
      · simp only [decide_eq_false_iff_not] at hg
        simp (disch := omega) only [i64_of]
        refine ⟨⟨k + 1, by omega, by omega, ?_, hbb⟩, by omega⟩
        rw [← hf]; simp only [formGo, hq]; rw [if_neg (by simp), if_neg (fun hh => hg hh.1)]
  · simp only [decide_eq_false_iff_not] at hge
    have hkl' : k = l.length := by omega
    rw [hkl', List.drop_length] at hf
    simp only [formGo] at hf
    refine And.intro (fun hm => ?_) (fun hm => ?_)
    · simp only [decide_eq_true_eq] at hm
      exact kof (hk _ hb) (by rw [← hf, endP_many (by omega)])
    · simp only [decide_eq_false_iff_not] at hm
      refine And.intro (fun hz => ?_) (fun hz => ?_)
      · refine And.intro (fun _ => ?_) (fun hz' => ?_)
        · simp only [beq_iff_eq] at hz
          exact kof (hk _ hb) (by rw [← hf, endP_nil (List.eq_nil_of_length_eq_zero (by omega))])
        · rw [hz] at hz'; simp at hz'
      · simp only [beq_eq_false_iff_ne, ne_eq] at hz
        obtain ⟨x, hx⟩ := get_some (l := l) (k := l.length - 1) (by omega)
        have he := endP_last (l := l) (by omega) hx
        simp (disch := omega) only [i64_of]
        have hx' : l[((s.n : Int) - 1).toNat]? = some x := by rw [show ((s.n : Int) - 1).toNat = l.length - 1 by omega]; exact hx
        refine ixF h1 (by omega) hx' rfl (v := x.op) rfl ?_
        refine And.intro (fun h20 => ?_) (fun h20 => ?_)
        · refine ixF h1 (by omega) hx' rfl (v := x.op) rfl ?_
          refine And.intro (fun h16 => ?_) (fun h16 => ?_)
          · exact kof (hk _ hb) (by rw [← hf, he]; simp at h20 h16; simp [h20, h16])
          · exact kof (hk _ hb) (by rw [← hf, he]; simp at h20 h16; simp [h16])
        · exact kof (hk _ hb) (by rw [← hf, he]; simp at h20; simp [h20])
end
end Go.Proofs.YtihllippchgkgaaGreat.V

/- Numbers bit by bit: what the program's operations are on numbers that are no less than 0; ranges that are ends and what these tell. -/
namespace Go.Proofs.YtihllippchgkgaaGreat.V
open Go Go.RowKit
set_option linter.unusedVariables false
set_option linter.unusedSimpArgs false
theorem ofInt_nat {a : Nat} (ha : a < 2 ^ 63) : (BitVec.ofInt 64 (a : Int)).toNat = a := by
  rw [BitVec.toNat_ofInt]; omega
theorem i64_nat {a : Nat} (ha : a < 2 ^ 63) : IntKind.wrap .i64 (a : Int) = a := i64_of (by omega) (by omega)
theorem iAnd_nat {a b : Nat} (ha : a < 2 ^ 63) (hb : b < 2 ^ 63) : iAnd .i64 a b = ((a &&& b : Nat) : Int) := by
  have h : (BitVec.ofInt 64 (a : Int) &&& BitVec.ofInt 64 (b : Int)).toNat = a &&& b := by rw [BitVec.toNat_and, ofInt_nat ha, ofInt_nat hb]
  show IntKind.wrap .i64 (((BitVec.ofInt 64 (a : Int) &&& BitVec.ofInt 64 (b : Int)).toNat : Nat) : Int) = _
  rw [h]
  exact i64_nat (Nat.lt_of_le_of_lt Nat.and_le_left ha)
theorem iOr_nat {a b : Nat} (ha : a < 2 ^ 63) (hb : b < 2 ^ 63) : iOr .i64 a b = ((a ||| b : Nat) : Int) := by
  have h : (BitVec.ofInt 64 (a : Int) ||| BitVec.ofInt 64 (b : Int)).toNat = a ||| b := by rw [BitVec.toNat_or, ofInt_nat ha, ofInt_nat hb]
  show IntKind.wrap .i64 (((BitVec.ofInt 64 (a : Int) ||| BitVec.ofInt 64 (b : Int)).toNat : Nat) : Int) = _
  rw [h]
  exact i64_nat (Nat.or_lt_two_pow ha hb)
theorem iXor_nat {a b : Nat} (ha : a < 2 ^ 63) (hb : b < 2 ^ 63) : iXor .i64 a b = ((a ^^^ b : Nat) : Int) := by
  have h : (BitVec.ofInt 64 (a : Int) ^^^ BitVec.ofInt 64 (b : Int)).toNat = a ^^^ b := by rw [BitVec.toNat_xor, ofInt_nat ha, ofInt_nat hb]
  show IntKind.wrap .i64 (((BitVec.ofInt 64 (a : Int) ^^^ BitVec.ofInt 64 (b : Int)).toNat : Nat) : Int) = _
  rw [h]
  exact i64_nat (Nat.xor_lt_two_pow ha hb)
/-- A number without the lowest bits. -/
def cutN (k x : Nat) : Nat := x / 2 ^ k * 2 ^ k
theorem cutN_bit (k x i : Nat) : (cutN k x).testBit i = (decide (k ≤ i) && x.testBit i) := by
  unfold cutN
  rw [Nat.testBit_mul_two_pow]
  by_cases h : k ≤ i
  · simp only [h, decide_true, Bool.true_and]
    rw [Nat.testBit_div_two_pow]
    congr 1; omega
  · simp [h]
theorem cutN_le (k x : Nat) : cutN k x ≤ x := Nat.div_mul_le_self _ _
theorem cutN_lt (k x : Nat) : x < cutN k x + 2 ^ k := by
  unfold cutN
  have := Nat.mod_lt x (Nat.two_pow_pos k)
  have := Nat.div_add_mod x (2 ^ k)
  rw [Nat.mul_comm] at this
  omega
theorem mask_bit (k i : Nat) : (2 ^ k - 1).testBit i = decide (i < k) := Nat.testBit_two_pow_sub_one k i
theorem iAndNot_mask {a k : Nat} (ha : a < 2 ^ 63) (hk : k ≤ 62) : iAndNot .i64 a ((2 ^ k - 1 : Nat) : Int) = ((cutN k a : Nat) : Int) := by
  have hm : 2 ^ k - 1 < 2 ^ 63 := by have := Nat.pow_le_pow_right (n := 2) (by omega) hk; have : (2 : Nat) ^ 62 < 2 ^ 63 := (by decide); omega
  have h : (BitVec.ofInt 64 (a : Int) &&& ~~~(BitVec.ofInt 64 ((2 ^ k - 1 : Nat) : Int))).toNat = cutN k a := by
    apply Nat.eq_of_testBit_eq
    intro i
    rw [cutN_bit]
    have e1 : BitVec.ofInt 64 (a : Int) = BitVec.ofNat 64 a := by apply BitVec.eq_of_toNat_eq; rw [ofInt_nat ha, BitVec.toNat_ofNat]; omega
    have e2 : BitVec.ofInt 64 ((2 ^ k - 1 : Nat) : Int) = BitVec.ofNat 64 (2 ^ k - 1) := by apply BitVec.eq_of_toNat_eq; rw [ofInt_nat hm, BitVec.toNat_ofNat]; omega
    rw [e1, e2, BitVec.toNat_and, Nat.testBit_and, ← BitVec.getLsbD, ← BitVec.getLsbD, BitVec.getLsbD_not, BitVec.getLsbD_ofNat, BitVec.getLsbD_ofNat, mask_bit]
    by_cases hi : i < 64
    · by_cases h2 : i < k
      · simp [hi, h2]; intro h; omega
      · simp [hi, h2, Nat.le_of_not_lt h2]
    · have : a.testBit i = false := Nat.testBit_lt_two_pow (Nat.lt_of_lt_of_le ha (Nat.pow_le_pow_right (by omega) (by omega)))
      simp [hi, this]
  show IntKind.wrap .i64 (((BitVec.ofInt 64 (a : Int) &&& ~~~(BitVec.ofInt 64 ((2 ^ k - 1 : Nat) : Int))).toNat : Nat) : Int) = _
  rw [h]
  exact i64_nat (Nat.lt_of_le_of_lt (cutN_le k a) ha)
/-- How many bits a number has. -/
theorem bl_spec (x : Nat) (hx : x < 2 ^ 64) (k : Nat) : Lib.bitLen x ≤ k ↔ x < 2 ^ k := by
  by_cases h0 : x = 0
  · subst h0
    have : Lib.bitLen 0 = 0 := by decide
    rw [this]
    exact ⟨fun _ => Nat.two_pow_pos k, fun _ => Nat.zero_le _⟩
  · obtain ⟨h1, h2, h3⟩ := Lib.bitLenAux_bounds 64 x hx h0
    change 1 ≤ Lib.bitLen x at h1
    change 2 ^ (Lib.bitLen x - 1) ≤ x at h2
    change x < 2 ^ Lib.bitLen x at h3
    constructor
    · intro h; exact Nat.lt_of_lt_of_le h3 (Nat.pow_le_pow_right (by omega) h)
    · intro h
      have : 2 ^ (Lib.bitLen x - 1) < 2 ^ k := Nat.lt_of_le_of_lt h2 h
      have := (Nat.pow_lt_pow_iff_right (a := 2) (by omega)).1 this
      omega
/-- How many bits two numbers do not share. -/
def kk (lo hi : Nat) : Nat := Lib.bitLen (lo ^^^ hi)
theorem kk_div {lo hi k : Nat} (h1 : lo < 2 ^ 64) (h2 : hi < 2 ^ 64) : kk lo hi ≤ k ↔ lo / 2 ^ k = hi / 2 ^ k := by
  unfold kk
  rw [bl_spec _ (Nat.xor_lt_two_pow h1 h2)]
  have e : (lo ^^^ hi) / 2 ^ k = lo / 2 ^ k ^^^ hi / 2 ^ k := by
    rw [← Nat.shiftRight_eq_div_pow, ← Nat.shiftRight_eq_div_pow, ← Nat.shiftRight_eq_div_pow, Nat.shiftRight_xor_distrib]
  constructor
  · intro h
    have h3 : (lo ^^^ hi) / 2 ^ k = 0 := Nat.div_eq_of_lt h
    rw [e] at h3
    apply Nat.eq_of_testBit_eq
    intro i
    have h4 := congrArg (·.testBit i) h3
    simp only [Nat.testBit_xor, Nat.zero_testBit] at h4
    cases ha : (lo / 2 ^ k).testBit i <;> cases hb : (hi / 2 ^ k).testBit i <;> simp_all
  · intro h
    rw [h, Nat.xor_self] at e
    exact (Nat.div_eq_zero_iff_lt (Nat.two_pow_pos k)).1 e
theorem kk_self (n : Nat) : kk n n = 0 := by unfold kk; rw [Nat.xor_self]; decide
theorem kk_le {lo hi : Nat} (h1 : lo < 2 ^ 32) (h2 : hi < 2 ^ 32) : kk lo hi ≤ 32 := by
  rw [kk_div (by omega) (by omega), Nat.div_eq_of_lt h1, Nat.div_eq_of_lt h2]
/-- A range: its ends, the bits that are known, those that are not. -/
abbrev T4 := Tup (R 4 (.i .i64))
/-- A range of which the k lowest bits are not known, the others are as a number's. -/
def rgk (k x : Nat) (lo hi : Int) : T4 := (lo, hi, ((cutN k x : Nat) : Int), ((2 ^ k - 1 : Nat) : Int), ())
/-- The range from one number to another. -/
def ivl (lo hi : Nat) : T4 := rgk (kk lo hi) lo lo hi
theorem cut_eq {k lo hi : Nat} (h : lo / 2 ^ k = hi / 2 ^ k) : cutN k lo = cutN k hi := by unfold cutN; rw [h]
/-- A part of a range shares what is known. -/
theorem part_div {k lo hi a b : Nat} (h : lo / 2 ^ k = hi / 2 ^ k) (h1 : lo ≤ a) (h2 : a ≤ b) (h3 : b ≤ hi) : a / 2 ^ k = lo / 2 ^ k ∧ b / 2 ^ k = lo / 2 ^ k := by
  have e1 := Nat.div_le_div_right (c := 2 ^ k) h1
  have e2 := Nat.div_le_div_right (c := 2 ^ k) h2
  have e3 := Nat.div_le_div_right (c := 2 ^ k) h3
  omega
theorem kk_part {k a b : Nat} (h : a / 2 ^ k = b / 2 ^ k) (ha : a < 2 ^ 64) (hb : b < 2 ^ 64) : kk a b ≤ k := (kk_div ha hb).2 h
theorem kk_same {a b : Nat} (ha : a < 2 ^ 64) (hb : b < 2 ^ 64) : a / 2 ^ kk a b = b / 2 ^ kk a b := (kk_div ha hb).1 (Nat.le_refl _)
theorem mask_and {k j : Nat} (h : j ≤ k) : (2 ^ k - 1) &&& (2 ^ j - 1) = 2 ^ j - 1 := by
  apply Nat.eq_of_testBit_eq
  intro i
  rw [Nat.testBit_and, mask_bit, mask_bit]
  by_cases h1 : i < j
  · simp [h1, Nat.lt_of_lt_of_le h1 h]
  · simp [h1]
theorem cut_or {k j a b : Nat} (hj : j ≤ k) (h : a / 2 ^ k = b / 2 ^ k) : cutN k a ||| cutN j b = cutN j b := by
  apply Nat.eq_of_testBit_eq
  intro i
  rw [Nat.testBit_or, cut_eq h, cutN_bit, cutN_bit]
  by_cases h1 : k ≤ i
  · simp [h1, Nat.le_trans hj h1]
  · simp [h1]
theorem cut_cut (j a : Nat) : cutN j (cutN j a) = cutN j a := by
  unfold cutN; rw [Nat.mul_div_cancel _ (Nat.two_pow_pos j)]
theorem cut_mask (j a : Nat) : cutN j a ||| (2 ^ j - 1) = cutN j a + (2 ^ j - 1) := by
  unfold cutN
  rw [Nat.mul_comm, Nat.two_pow_add_eq_or_of_lt (by have := Nat.two_pow_pos j; omega)]
theorem cut_and_mask (j a : Nat) : cutN j a &&& (2 ^ j - 1) = 0 := by
  apply Nat.eq_of_testBit_eq
  intro i
  rw [Nat.testBit_and, cutN_bit, mask_bit, Nat.zero_testBit]
  by_cases h : j ≤ i
  · simp [h]
  · simp [h]
/-! ### what is left of a range -/
/-- Whether something holds of two numbers. -/
def holdsX (op a b : Int) : Bool := if op = 12 then a == b else if op = 13 then a != b else if op = 14 then decide (a < b) else decide (a > b)
/-- The numbers of a range of which something holds, or does not: from one to another, if there are such. -/
def brN (op : Int) (lo hi n : Nat) (is_ : Bool) : Option (Nat × Nat) :=
  if op = 14 then (if is_ then (if lo < n then some (lo, min hi (n - 1)) else none) else (if n ≤ hi then some (max lo n, hi) else none))
  else if op = 15 then (if is_ then (if n < hi then some (max lo (n + 1), hi) else none) else (if lo ≤ n then some (lo, min hi n) else none))
  else if is_ = decide (op = 12) then (if lo ≤ n ∧ n ≤ hi then some (n, n) else none)
  else if lo = n ∧ hi = n then none else some (if lo = n then n + 1 else lo, if hi = n then n - 1 else hi)
theorem brN_in {op : Int} {lo hi n a b : Nat} {is_ : Bool} (h : lo ≤ hi) (hb : brN op lo hi n is_ = some (a, b)) : lo ≤ a ∧ a ≤ b ∧ b ≤ hi := by
  unfold brN at hb
  split at hb
  · split at hb <;> split at hb <;> simp at hb <;> omega
  · split at hb
    · split at hb <;> split at hb <;> simp at hb <;> omega
    · split at hb
      · split at hb <;> simp at hb; omega
      · split at hb
        · simp at hb
        · simp only [Option.some.injEq, Prod.mk.injEq] at hb
          obtain ⟨rfl, rfl⟩ := hb
          split <;> split <;> omega
/-- A number of a range of which it holds, or does not, is left. -/
theorem brN_has {op : Int} {lo hi n : Nat} {is_ : Bool} (ho : 12 ≤ op ∧ op ≤ 15) {x : Nat} (hx : lo ≤ x ∧ x ≤ hi) (hh : holdsX op x n = is_) : ∃ a b, brN op lo hi n is_ = some (a, b) ∧ a ≤ x ∧ x ≤ b := by
  unfold brN
  unfold holdsX at hh
  have ho' : op = 12 ∨ op = 13 ∨ op = 14 ∨ op = 15 := by omega
  rcases ho' with rfl | rfl | rfl | rfl
  · simp only [if_true] at hh
    rw [if_neg (by decide), if_neg (by decide)]
    cases is_ with
    | true =>
      simp only [beq_iff_eq] at hh
      rw [if_pos (by simp), if_pos (by omega)]
      exact ⟨_, _, rfl, by omega, by omega⟩
    | false =>
      simp only [beq_eq_false_iff_ne, ne_eq] at hh
      rw [if_neg (by simp), if_neg (by omega)]
      refine ⟨_, _, rfl, ?_, ?_⟩ <;> split <;> omega
  · rw [if_neg (by decide), if_pos rfl] at hh
    rw [if_neg (by decide), if_neg (by decide)]
    cases is_ with
    | true =>
      simp only [bne_iff_ne, ne_eq] at hh
      rw [if_neg (by simp), if_neg (by omega)]
      refine ⟨_, _, rfl, ?_, ?_⟩ <;> split <;> omega
    | false =>
      simp only [bne_eq_false_iff_eq] at hh
      rw [if_pos (by simp), if_pos (by omega)]
      exact ⟨_, _, rfl, by omega, by omega⟩
  · rw [if_neg (by decide), if_neg (by decide), if_pos rfl] at hh
    rw [if_pos rfl]
    cases is_ with
    | true =>
      simp only [decide_eq_true_eq] at hh
      rw [if_pos rfl, if_pos (by omega)]
      exact ⟨_, _, rfl, by omega, by omega⟩
    | false =>
      simp only [decide_eq_false_iff_not] at hh
      rw [if_neg (by simp), if_pos (by omega)]
      exact ⟨_, _, rfl, by omega, by omega⟩
  · rw [if_neg (by decide), if_neg (by decide), if_neg (by decide)] at hh
    rw [if_neg (by decide), if_pos rfl]
    cases is_ with
    | true =>
      simp only [decide_eq_true_eq] at hh
      rw [if_pos rfl, if_pos (by omega)]
      exact ⟨_, _, rfl, by omega, by omega⟩
    | false =>
      simp only [decide_eq_false_iff_not] at hh
      rw [if_neg (by simp), if_pos (by omega)]
      exact ⟨_, _, rfl, by omega, by omega⟩
end Go.Proofs.YtihllippchgkgaaGreat.V

/- Plain laws: ranges of numbers, with bits that are known: what an op makes of numbers of two ranges is of the range that is reckoned. -/
namespace Go.Proofs.YtihllippchgkgaaGreat.V
open Go Go.RowKit
set_option linter.unusedVariables false
set_option linter.unusedSimpArgs false
/-- A range: the least, the most, the bits that are set, the bits that are open. -/
structure Rg where
  mn : Nat
  mx : Nat
  bt : Nat
  op : Nat
/-- A number is of a range. -/
def Rg.has (r : Rg) (n : Nat) : Prop := r.mn ≤ n ∧ n ≤ r.mx ∧ ∀ i, r.op.testBit i = false → n.testBit i = r.bt.testBit i
/-- A range that may be. -/
def Rg.okk (r : Rg) : Prop := r.mn < 2 ^ 32 ∧ r.mx < 2 ^ 32 ∧ r.bt < 2 ^ 32 ∧ r.op < 2 ^ 32 ∧ ∀ i, r.op.testBit i = true → r.bt.testBit i = false
/-- Bits that are among others' make no greater number. -/
theorem sub_le {a b : Nat} (h : ∀ i, a.testBit i = true → b.testBit i = true) : a ≤ b := by
  have e : a &&& b = a := by
    apply Nat.eq_of_testBit_eq
    intro i
    rw [Nat.testBit_and]
    cases ha : a.testBit i with
    | false => rfl
    | true => rw [h i ha]; rfl
  rw [← e]; exact Nat.and_le_right
/-- a without the bits of b. -/
def andN (a b : Nat) : Nat := a ^^^ (a &&& b)
theorem andN_bit (a b i : Nat) : (andN a b).testBit i = (a.testBit i && !b.testBit i) := by
  unfold andN
  rw [Nat.testBit_xor, Nat.testBit_and]
  cases a.testBit i <;> cases b.testBit i <;> rfl
theorem andN_le (a b : Nat) : andN a b ≤ a := sub_le fun i hi => by rw [andN_bit] at hi; simp at hi; exact hi.1
theorem bit_hi {a k : Nat} (h : a < 2 ^ k) {i : Nat} (hi : k ≤ i) : a.testBit i = false :=
  Nat.testBit_lt_two_pow (Nat.lt_of_lt_of_le h (Nat.pow_le_pow_right (by omega) hi))
theorem lt_of_bits {a k : Nat} (h : ∀ i, k ≤ i → a.testBit i = false) : a < 2 ^ k := by
  have : a ≤ 2 ^ k - 1 := sub_le fun i hi => by
    rw [mask_bit, decide_eq_true_eq]
    rcases Nat.lt_or_ge i k with h1 | h1
    · exact h1
    · rw [h i h1] at hi; simp at hi
  have := Nat.two_pow_pos k
  omega
def tidyG (r : Rg) : Rg :=
  let low := 2 ^ kk r.mn r.mx - 1
  let o := r.op &&& low
  let b := andN (r.bt ||| andN r.mn low) o
  ⟨max r.mn b, min r.mx (b ||| o), b, o⟩
theorem td1 : ∀ p q m n t : Bool, (p = false → n = q) → (t = false → n = m) → (p = true → q = false) → ((q || (m && !t)) && !(p && t)) = true → n = true := by decide
theorem td2 : ∀ p q m n t : Bool, (p = false → n = q) → (t = false → n = m) → (p = true → q = false) → n = true → (((q || (m && !t)) && !(p && t)) || (p && t)) = true := by decide
theorem td3 : ∀ p q m n t : Bool, (p = false → n = q) → (t = false → n = m) → (p = true → q = false) → (p && t) = false → n = ((q || (m && !t)) && !(p && t)) := by decide
theorem tidyG_has {r : Rg} (h : r.okk) {n : Nat} (hn : r.has n) : (tidyG r).okk ∧ (tidyG r).has n := by
  obtain ⟨h1, h2, h3, h4, h5⟩ := h
  obtain ⟨n1, n2, n3⟩ := hn
  have hp := part_div (kk_same (a := r.mn) (b := r.mx) (by omega) (by omega)) n1 n2 (Nat.le_refl _)
  have hhi : ∀ i, decide (i < kk r.mn r.mx) = false → n.testBit i = r.mn.testBit i := fun i hi => by
    simp only [decide_eq_false_iff_not] at hi
    have e : ∀ a : Nat, a.testBit i = (a / 2 ^ kk r.mn r.mx).testBit (i - kk r.mn r.mx) := fun a => by rw [Nat.testBit_div_two_pow]; congr 1; omega
    rw [e n, e r.mn, hp.1]
  have ob : ∀ i, (r.op &&& (2 ^ kk r.mn r.mx - 1)).testBit i = (r.op.testBit i && decide (i < kk r.mn r.mx)) := fun i => by rw [Nat.testBit_and, mask_bit]
  have bb : ∀ i, (andN (r.bt ||| andN r.mn (2 ^ kk r.mn r.mx - 1)) (r.op &&& (2 ^ kk r.mn r.mx - 1))).testBit i = ((r.bt.testBit i || (r.mn.testBit i && !decide (i < kk r.mn r.mx))) && !(r.op.testBit i && decide (i < kk r.mn r.mx))) := fun i => by
    rw [andN_bit, ob, Nat.testBit_or, andN_bit, mask_bit]
  have b1 : andN (r.bt ||| andN r.mn (2 ^ kk r.mn r.mx - 1)) (r.op &&& (2 ^ kk r.mn r.mx - 1)) ≤ n := sub_le fun i hi => by
    rw [bb] at hi
    exact td1 _ _ _ _ _ (n3 i) (hhi i) (h5 i) hi
  have b2 : n ≤ andN (r.bt ||| andN r.mn (2 ^ kk r.mn r.mx - 1)) (r.op &&& (2 ^ kk r.mn r.mx - 1)) ||| (r.op &&& (2 ^ kk r.mn r.mx - 1)) := sub_le fun i hi => by
    rw [Nat.testBit_or, bb, ob]
    exact td2 _ _ _ _ _ (n3 i) (hhi i) (h5 i) hi
  refine ⟨⟨?_, ?_, ?_, ?_, fun i hi => ?_⟩, ?_, ?_, fun i hi => ?_⟩
  · show max _ _ < _; omega
  · show min _ _ < _; omega
  · show andN _ _ < _; omega
  · show r.op &&& _ < _; exact Nat.lt_of_le_of_lt Nat.and_le_left h4
  · show (andN _ _).testBit i = false
    have hi : (r.op &&& (2 ^ kk r.mn r.mx - 1)).testBit i = true := hi
    rw [andN_bit, hi]; simp
  · show max _ _ ≤ n; omega
  · show n ≤ min _ _; omega
  · have hi : (r.op &&& (2 ^ kk r.mn r.mx - 1)).testBit i = false := hi
    show n.testBit i = (andN _ _).testBit i
    rw [bb]
    rw [ob] at hi
    exact td3 _ _ _ _ _ (n3 i) (hhi i) (h5 i) hi
def M32 : Nat := 4294967295
theorem m32_bit (i : Nat) : M32.testBit i = decide (i < 32) := mask_bit 32 i
def fromToG (lo hi : Nat) : Rg := tidyG ⟨lo, hi, 0, M32⟩
theorem fromToG_has {lo hi n : Nat} (h1 : lo ≤ n) (h2 : n ≤ hi) (h3 : hi < 2 ^ 32) : (fromToG lo hi).okk ∧ (fromToG lo hi).has n := by
  refine tidyG_has ⟨by show lo < _; omega, h3, by show (0 : Nat) < _; omega, by show M32 < _; decide, fun i _ => by simp⟩ ⟨h1, h2, fun i hi => ?_⟩
  have hi : M32.testBit i = false := hi
  rw [m32_bit, decide_eq_false_iff_not] at hi
  show n.testBit i = (0 : Nat).testBit i
  rw [bit_hi (k := 32) (by omega) (by omega)]; simp
def allG : Rg := ⟨0, M32, 0, M32⟩
theorem allG_has {n : Nat} (h : n < 2 ^ 32) : allG.okk ∧ allG.has n := by
  refine ⟨⟨by decide, by decide, by decide, by decide, fun i _ => by simp [allG]⟩, by simp [allG], by show n ≤ M32; unfold M32; omega, fun i hi => ?_⟩
  have hi : M32.testBit i = false := hi
  rw [m32_bit, decide_eq_false_iff_not] at hi
  show n.testBit i = (0 : Nat).testBit i
  rw [bit_hi (k := 32) h (by omega)]; simp
def oneG (n : Nat) : Rg := ⟨n, n, n, 0⟩
theorem oneG_has {n : Nat} (h : n < 2 ^ 32) : (oneG n).okk ∧ (oneG n).has n :=
  ⟨⟨h, h, h, by show (0 : Nat) < _; omega, fun i hi => by simp [oneG] at hi⟩, Nat.le_refl _, Nat.le_refl _, fun i _ => rfl⟩
/-- The carry into a bit. -/
def cy (u v i : Nat) : Bool := decide (2 ^ i ≤ u % 2 ^ i + v % 2 ^ i)
theorem add_bit {u v i : Nat} (hu : u < 2 ^ 40) (hv : v < 2 ^ 40) (hi : i < 60) : (u + v).testBit i = (u.testBit i ^^ (v.testBit i ^^ cy u v i)) := by
  have h := BitVec.getLsbD_add (w := 64) (i := i) (by omega) (BitVec.ofNat 64 u) (BitVec.ofNat 64 v)
  have e1 : BitVec.ofNat 64 u + BitVec.ofNat 64 v = BitVec.ofNat 64 (u + v) := by rw [BitVec.ofNat_add]
  rw [e1, BitVec.getLsbD_ofNat, BitVec.getLsbD_ofNat, BitVec.getLsbD_ofNat] at h
  have hd : decide (i < 64) = true := decide_eq_true (by omega)
  simp only [hd, Bool.true_and] at h
  rw [h]
  unfold BitVec.carry cy
  rw [BitVec.toNat_ofNat, BitVec.toNat_ofNat, Nat.mod_eq_of_lt (a := u) (by omega), Nat.mod_eq_of_lt (a := v) (by omega)]
  simp
theorem cy_mono {u v u' v' i : Nat} (h1 : ∀ j, u.testBit j = true → u'.testBit j = true) (h2 : ∀ j, v.testBit j = true → v'.testBit j = true) (h : cy u v i = true) : cy u' v' i = true := by
  have m : ∀ {a b : Nat}, (∀ j, a.testBit j = true → b.testBit j = true) → a % 2 ^ i ≤ b % 2 ^ i := fun hab => sub_le fun j hj => by
    rw [Nat.testBit_mod_two_pow] at hj ⊢
    simp only [Bool.and_eq_true] at hj ⊢
    exact ⟨hj.1, hab j hj.2⟩
  have a1 := m h1
  have a2 := m h2
  unfold cy at *
  simp only [decide_eq_true_eq] at *
  omega
/-- Numbers without a bit in common. -/
theorem add_or {a b : Nat} (ha : a < 2 ^ 40) (hb : b < 2 ^ 40) (h : ∀ i, b.testBit i = true → a.testBit i = false) : a + b = a ||| b := by
  have hz : BitVec.ofNat 64 a &&& BitVec.ofNat 64 b = 0#64 := by
    apply BitVec.eq_of_getLsbD_eq
    intro i hi
    rw [BitVec.getLsbD_and, BitVec.getLsbD_ofNat, BitVec.getLsbD_ofNat, BitVec.getLsbD_zero]
    cases hbi : b.testBit i with
    | false => simp
    | true => rw [h i hbi]; simp
  have h2 := BitVec.add_eq_or_of_and_eq_zero _ _ hz
  have h3 := congrArg BitVec.toNat h2
  rw [BitVec.toNat_add, BitVec.toNat_or, BitVec.toNat_ofNat, BitVec.toNat_ofNat, Nat.mod_eq_of_lt (a := a) (by omega), Nat.mod_eq_of_lt (a := b) (by omega), Nat.mod_eq_of_lt (by omega)] at h3
  exact h3
def addG (a b : Rg) : Rg :=
  let x := a.bt + b.bt
  let y := a.bt + b.bt + a.op + b.op
  let o := ((x ^^^ y) ||| a.op ||| b.op) &&& M32
  if a.mx + b.mx ≤ M32 then tidyG ⟨a.mn + b.mn, a.mx + b.mx, andN x o &&& M32, o⟩ else tidyG ⟨0, M32, andN x o &&& M32, o⟩
theorem ad1 : ∀ ab bb cx cm cz : Bool, (cx = true → cm = true) → (cm = true → cz = true) → ((ab ^^ (bb ^^ cx)) ^^ (ab ^^ (bb ^^ cz))) = false → (ab ^^ (bb ^^ cm)) = (ab ^^ (bb ^^ cx)) := by decide
theorem addG_has {a b : Rg} (ha : a.okk) (hb : b.okk) {m n : Nat} (hm : a.has m) (hn : b.has n) : (addG a b).okk ∧ (addG a b).has ((m + n) % 2 ^ 32) := by
  obtain ⟨a1, a2, a3, a4, a5⟩ := ha
  obtain ⟨b1, b2, b3, b4, b5⟩ := hb
  obtain ⟨m1, m2, m3⟩ := hm
  obtain ⟨n1, n2, n3⟩ := hn
  have ea := add_or (a := a.bt) (b := a.op) (by omega) (by omega) (fun i hi => a5 i hi)
  have eb := add_or (a := b.bt) (b := b.op) (by omega) (by omega) (fun i hi => b5 i hi)
  have ey : a.bt + b.bt + a.op + b.op = (a.bt ||| a.op) + (b.bt ||| b.op) := by omega
  have low : ∀ {r k : Nat}, (∀ i, b.op.testBit i = false → True) → True := fun _ => trivial
  have la : ∀ j, a.bt.testBit j = true → m.testBit j = true := fun j hj => by
    have : a.op.testBit j = false := by cases h : a.op.testBit j with | false => rfl | true => rw [a5 j h] at hj; simp at hj
    rw [m3 j this, hj]
  have lb : ∀ j, b.bt.testBit j = true → n.testBit j = true := fun j hj => by
    have : b.op.testBit j = false := by cases h : b.op.testBit j with | false => rfl | true => rw [b5 j h] at hj; simp at hj
    rw [n3 j this, hj]
  have ua : ∀ j, m.testBit j = true → (a.bt ||| a.op).testBit j = true := fun j hj => by
    rw [Nat.testBit_or]
    cases h : a.op.testBit j with
    | true => simp
    | false => rw [← m3 j h, hj]; rfl
  have ub : ∀ j, n.testBit j = true → (b.bt ||| b.op).testBit j = true := fun j hj => by
    rw [Nat.testBit_or]
    cases h : b.op.testBit j with
    | true => simp
    | false => rw [← n3 j h, hj]; rfl
  have hoa := Nat.or_lt_two_pow a3 a4
  have hob := Nat.or_lt_two_pow b3 b4
  -- what is told of the sum's bits
  have core : ∀ i, ((((a.bt + b.bt) ^^^ (a.bt + b.bt + a.op + b.op)) ||| a.op ||| b.op) &&& M32).testBit i = false → ((m + n) % 2 ^ 32).testBit i = (andN (a.bt + b.bt) ((((a.bt + b.bt) ^^^ (a.bt + b.bt + a.op + b.op)) ||| a.op ||| b.op) &&& M32) &&& M32).testBit i := by
    intro i hi
    rw [Nat.testBit_and, andN_bit, hi, m32_bit, Nat.testBit_mod_two_pow]
    rw [Nat.testBit_and, m32_bit, Nat.testBit_or, Nat.testBit_or, Nat.testBit_xor] at hi
    rcases Nat.lt_or_ge i 32 with h32 | h32
    · have hd : decide (i < 32) = true := decide_eq_true h32
      rw [hd] at hi ⊢
      simp only [Bool.and_true, Bool.or_eq_false_iff, Bool.true_and, Bool.not_false] at hi ⊢
      obtain ⟨⟨hx, hao⟩, hbo⟩ := hi
      rw [ey, add_bit (by omega) (by omega) (by omega), add_bit (u := a.bt ||| a.op) (by omega) (by omega) (by omega), Nat.testBit_or, Nat.testBit_or, hao, hbo, Bool.or_false, Bool.or_false] at hx
      rw [add_bit (u := m) (by omega) (by omega) (by omega), add_bit (u := a.bt) (by omega) (by omega) (by omega), m3 i hao, n3 i hbo]
      exact ad1 _ _ _ _ _ (cy_mono la lb) (cy_mono ua ub) hx
    · have hd : decide (i < 32) = false := decide_eq_false (by omega)
      rw [hd]; simp
  have oo : ((((a.bt + b.bt) ^^^ (a.bt + b.bt + a.op + b.op)) ||| a.op ||| b.op) &&& M32) < 2 ^ 32 := Nat.lt_of_le_of_lt Nat.and_le_right (by decide)
  have bo : (andN (a.bt + b.bt) ((((a.bt + b.bt) ^^^ (a.bt + b.bt + a.op + b.op)) ||| a.op ||| b.op) &&& M32) &&& M32) < 2 ^ 32 := Nat.lt_of_le_of_lt Nat.and_le_right (by decide)
  have dj : ∀ i, ((((a.bt + b.bt) ^^^ (a.bt + b.bt + a.op + b.op)) ||| a.op ||| b.op) &&& M32).testBit i = true → (andN (a.bt + b.bt) ((((a.bt + b.bt) ^^^ (a.bt + b.bt + a.op + b.op)) ||| a.op ||| b.op) &&& M32) &&& M32).testBit i = false := fun i hi => by
    rw [Nat.testBit_and, andN_bit, hi]; simp
  unfold addG
  simp only
  split
  · rename_i hs
    have hM : M32 = 4294967295 := rfl
    have e : (m + n) % 2 ^ 32 = m + n := Nat.mod_eq_of_lt (by omega)
    refine tidyG_has ⟨by show a.mn + b.mn < _; omega, by show a.mx + b.mx < _; omega, bo, oo, dj⟩ ⟨?_, ?_, core⟩
    · show a.mn + b.mn ≤ _; rw [e]; omega
    · show _ ≤ a.mx + b.mx; rw [e]; omega
  · refine tidyG_has ⟨by show (0 : Nat) < _; omega, by show M32 < _; decide, bo, oo, dj⟩ ⟨Nat.zero_le _, ?_, core⟩
    show (m + n) % 2 ^ 32 ≤ M32
    have := Nat.mod_lt (m + n) (show 0 < 2 ^ 32 by omega)
    unfold M32; omega
end Go.Proofs.YtihllippchgkgaaGreat.V

/- Plain laws: ranges: differences, products, bits, shifts, quotients; all ops that reckon. -/
namespace Go.Proofs.YtihllippchgkgaaGreat.V
open Go Go.RowKit
set_option linter.unusedVariables false
set_option linter.unusedSimpArgs false
theorem m32 : M32 = 4294967295 := rfl
def subG (a b : Rg) : Rg := if a.mn < b.mx then allG else fromToG (a.mn - b.mx) (a.mx - b.mn)
theorem subG_has {a b : Rg} (ha : a.okk) (hb : b.okk) {m n : Nat} (hm : a.has m) (hn : b.has n) : (subG a b).okk ∧ (subG a b).has ((m + 2 ^ 32 - n) % 2 ^ 32) := by
  obtain ⟨a1, a2, _⟩ := ha
  obtain ⟨b1, b2, _⟩ := hb
  obtain ⟨m1, m2, _⟩ := hm
  obtain ⟨n1, n2, _⟩ := hn
  unfold subG
  split
  · exact allG_has (Nat.mod_lt _ (by omega))
  · have e : (m + 2 ^ 32 - n) % 2 ^ 32 = m - n := by
      rw [show m + 2 ^ 32 - n = (m - n) + 2 ^ 32 by omega, Nat.add_mod_right, Nat.mod_eq_of_lt (by omega)]
    rw [e]
    exact fromToG_has (by omega) (by omega) (by omega)
def mulG (a b : Rg) : Rg := if M32 < a.mx * b.mx then allG else fromToG (a.mn * b.mn) (a.mx * b.mx)
theorem mulG_has {a b : Rg} {m n : Nat} (hm : a.has m) (hn : b.has n) : (mulG a b).okk ∧ (mulG a b).has ((m * n) % 2 ^ 32) := by
  obtain ⟨m1, m2, _⟩ := hm
  obtain ⟨n1, n2, _⟩ := hn
  have h1 := Nat.mul_le_mul m1 n1
  have h2 := Nat.mul_le_mul m2 n2
  have hM := m32
  unfold mulG
  split
  · exact allG_has (Nat.mod_lt _ (by omega))
  · rw [Nat.mod_eq_of_lt (a := m * n) (by omega)]
    exact fromToG_has h1 h2 (by omega)
def bitG (op : Int) (a b : Rg) : Rg :=
  if op = 5 then tidyG ⟨0, min a.mx b.mx, a.bt &&& b.bt, andN ((a.bt ||| a.op) &&& (b.bt ||| b.op)) (a.bt &&& b.bt)⟩
  else if op = 6 then tidyG ⟨max a.mn b.mn, M32, a.bt ||| b.bt, andN (a.op ||| b.op) (a.bt ||| b.bt)⟩
  else tidyG ⟨0, M32, andN (a.bt ^^^ b.bt) (a.op ||| b.op), a.op ||| b.op⟩
theorem bi1 : ∀ x p y q m n : Bool, (p = false → m = x) → (q = false → n = y) → (p = true → x = false) → (q = true → y = false) → (((x || p) && (y || q)) && !(x && y)) = false → (m && n) = (x && y) := by decide
theorem bi2 : ∀ x p y q m n : Bool, (p = false → m = x) → (q = false → n = y) → (p = true → x = false) → (q = true → y = false) → ((p || q) && !(x || y)) = false → (m || n) = (x || y) := by decide
theorem bi3 : ∀ x p y q m n : Bool, (p = false → m = x) → (q = false → n = y) → (p || q) = false → (m ^^ n) = ((x ^^ y) && !(p || q)) := by decide
theorem bitG_has {op : Int} {a b : Rg} (ha : a.okk) (hb : b.okk) {m n : Nat} (hm : a.has m) (hn : b.has n) :
    (bitG op a b).okk ∧ (bitG op a b).has (if op = 5 then m &&& n else if op = 6 then m ||| n else m ^^^ n) := by
  obtain ⟨a1, a2, a3, a4, a5⟩ := ha
  obtain ⟨b1, b2, b3, b4, b5⟩ := hb
  obtain ⟨m1, m2, m3⟩ := hm
  obtain ⟨n1, n2, n3⟩ := hn
  have hM := m32
  have o1 := Nat.or_lt_two_pow a3 b3
  have o2 := Nat.or_lt_two_pow a4 b4
  have o3 := Nat.or_lt_two_pow a3 a4
  unfold bitG
  by_cases h5 : op = 5
  · rw [if_pos h5, if_pos h5]
    refine tidyG_has ⟨by show (0 : Nat) < _; omega, by show min _ _ < _; omega, ?_, ?_, fun i hi => ?_⟩ ⟨Nat.zero_le _, ?_, fun i hi => ?_⟩
    · show a.bt &&& b.bt < _; exact Nat.lt_of_le_of_lt Nat.and_le_left a3
    · show andN _ _ < _; exact Nat.lt_of_le_of_lt (Nat.le_trans (andN_le _ _) Nat.and_le_left) o3
    · have hi : (andN ((a.bt ||| a.op) &&& (b.bt ||| b.op)) (a.bt &&& b.bt)).testBit i = true := hi
      rw [andN_bit] at hi
      show (a.bt &&& b.bt).testBit i = false
      simp only [Bool.and_eq_true, Bool.not_eq_true'] at hi
      exact hi.2
    · show m &&& n ≤ min _ _
      have h1 := Nat.and_le_left (n := m) (m := n)
      have h2 := Nat.and_le_right (n := m) (m := n)
      omega
    · have hi : (andN ((a.bt ||| a.op) &&& (b.bt ||| b.op)) (a.bt &&& b.bt)).testBit i = false := hi
      rw [andN_bit, Nat.testBit_and, Nat.testBit_or, Nat.testBit_or, Nat.testBit_and] at hi
      show (m &&& n).testBit i = (a.bt &&& b.bt).testBit i
      rw [Nat.testBit_and, Nat.testBit_and]
      exact bi1 _ _ _ _ _ _ (m3 i) (n3 i) (a5 i) (b5 i) hi
  · rw [if_neg h5, if_neg h5]
    by_cases h6 : op = 6
    · rw [if_pos h6, if_pos h6]
      refine tidyG_has ⟨by show max _ _ < _; omega, by show M32 < _; omega, o1, ?_, fun i hi => ?_⟩ ⟨?_, ?_, fun i hi => ?_⟩
      · show andN _ _ < _; exact Nat.lt_of_le_of_lt (andN_le _ _) o2
      · have hi : (andN (a.op ||| b.op) (a.bt ||| b.bt)).testBit i = true := hi
        rw [andN_bit] at hi
        show (a.bt ||| b.bt).testBit i = false
        simp only [Bool.and_eq_true, Bool.not_eq_true'] at hi
        exact hi.2
      · show max _ _ ≤ m ||| n
        have h1 : m ≤ m ||| n := Nat.left_le_or
        have h2 : n ≤ m ||| n := Nat.right_le_or
        omega
      · show m ||| n ≤ M32
        have := Nat.or_lt_two_pow (x := m) (y := n) (n := 32) (by omega) (by omega)
        omega
      · have hi : (andN (a.op ||| b.op) (a.bt ||| b.bt)).testBit i = false := hi
        rw [andN_bit, Nat.testBit_or, Nat.testBit_or] at hi
        show (m ||| n).testBit i = (a.bt ||| b.bt).testBit i
        rw [Nat.testBit_or, Nat.testBit_or]
        exact bi2 _ _ _ _ _ _ (m3 i) (n3 i) (a5 i) (b5 i) hi
    · rw [if_neg h6, if_neg h6]
      have hx := Nat.xor_lt_two_pow a3 b3
      refine tidyG_has ⟨by show (0 : Nat) < _; omega, by show M32 < _; omega, ?_, o2, fun i hi => ?_⟩ ⟨Nat.zero_le _, ?_, fun i hi => ?_⟩
      · show andN _ _ < _; exact Nat.lt_of_le_of_lt (andN_le _ _) hx
      · have hi : (a.op ||| b.op).testBit i = true := hi
        show (andN (a.bt ^^^ b.bt) (a.op ||| b.op)).testBit i = false
        rw [andN_bit, hi]; simp
      · show m ^^^ n ≤ M32
        have := Nat.xor_lt_two_pow (x := m) (y := n) (n := 32) (by omega) (by omega)
        omega
      · have hi : (a.op ||| b.op).testBit i = false := hi
        rw [Nat.testBit_or] at hi
        show (m ^^^ n).testBit i = (andN (a.bt ^^^ b.bt) (a.op ||| b.op)).testBit i
        rw [andN_bit, Nat.testBit_xor, Nat.testBit_xor, Nat.testBit_or]
        exact bi3 _ _ _ _ _ _ (m3 i) (n3 i) hi
def shG (op : Int) (a b : Rg) : Rg :=
  if b.mn ≠ b.mx then (if op = 9 then fromToG 0 a.mx else allG)
  else if op = 9 then tidyG ⟨a.mn >>> (b.mn % 32), a.mx >>> (b.mn % 32), a.bt >>> (b.mn % 32), a.op >>> (b.mn % 32)⟩
  else if a.mx <<< (b.mn % 32) ≤ M32 then tidyG ⟨a.mn <<< (b.mn % 32), a.mx <<< (b.mn % 32), a.bt <<< (b.mn % 32) &&& M32, a.op <<< (b.mn % 32) &&& M32⟩
  else tidyG ⟨0, M32, a.bt <<< (b.mn % 32) &&& M32, a.op <<< (b.mn % 32) &&& M32⟩
theorem shr_le (a k : Nat) : a >>> k ≤ a := by rw [Nat.shiftRight_eq_div_pow]; exact Nat.div_le_self _ _
theorem shr_mono {a b : Nat} (k : Nat) (h : a ≤ b) : a >>> k ≤ b >>> k := by rw [Nat.shiftRight_eq_div_pow, Nat.shiftRight_eq_div_pow]; exact Nat.div_le_div_right h
theorem shl_mono {a b : Nat} (k : Nat) (h : a ≤ b) : a <<< k ≤ b <<< k := by rw [Nat.shiftLeft_eq, Nat.shiftLeft_eq]; exact Nat.mul_le_mul_right _ h
theorem shG_has {op : Int} {a b : Rg} (ha : a.okk) (hb : b.okk) {m n : Nat} (hm : a.has m) (hn : b.has n) :
    (shG op a b).okk ∧ (shG op a b).has (if op = 9 then m >>> (n % 32) else (m <<< (n % 32)) % 2 ^ 32) := by
  obtain ⟨a1, a2, a3, a4, a5⟩ := ha
  obtain ⟨b1, b2, b3, b4, b5⟩ := hb
  obtain ⟨m1, m2, m3⟩ := hm
  obtain ⟨n1, n2, n3⟩ := hn
  have hM := m32
  unfold shG
  by_cases hne : b.mn ≠ b.mx
  · rw [if_pos hne]
    by_cases h9 : op = 9
    · rw [if_pos h9, if_pos h9]
      exact fromToG_has (Nat.zero_le _) (Nat.le_trans (shr_le _ _) m2) a2
    · rw [if_neg h9, if_neg h9]
      exact allG_has (Nat.mod_lt _ (by omega))
  · rw [if_neg hne]
    have hnb : b.mn = n := by omega
    rw [hnb]
    by_cases h9 : op = 9
    · rw [if_pos h9, if_pos h9]
      refine tidyG_has ⟨?_, ?_, ?_, ?_, fun i hi => ?_⟩ ⟨shr_mono _ m1, shr_mono _ m2, fun i hi => ?_⟩
      · exact Nat.lt_of_le_of_lt (shr_le _ _) a1
      · exact Nat.lt_of_le_of_lt (shr_le _ _) a2
      · exact Nat.lt_of_le_of_lt (shr_le _ _) a3
      · exact Nat.lt_of_le_of_lt (shr_le _ _) a4
      · have hi : (a.op >>> (n % 32)).testBit i = true := hi
        show (a.bt >>> (n % 32)).testBit i = false
        rw [Nat.testBit_shiftRight] at hi ⊢
        exact a5 _ hi
      · have hi : (a.op >>> (n % 32)).testBit i = false := hi
        show (m >>> (n % 32)).testBit i = (a.bt >>> (n % 32)).testBit i
        rw [Nat.testBit_shiftRight] at hi
        rw [Nat.testBit_shiftRight, Nat.testBit_shiftRight]
        exact m3 _ hi
    · rw [if_neg h9, if_neg h9]
      have dj : ∀ i, (a.op <<< (n % 32) &&& M32).testBit i = true → (a.bt <<< (n % 32) &&& M32).testBit i = false := fun i hi => by
        rw [Nat.testBit_and, Nat.testBit_shiftLeft] at hi ⊢
        simp only [Bool.and_eq_true] at hi
        rw [a5 _ hi.1.2]; simp
      have core : ∀ i, (a.op <<< (n % 32) &&& M32).testBit i = false → ((m <<< (n % 32)) % 2 ^ 32).testBit i = (a.bt <<< (n % 32) &&& M32).testBit i := fun i hi => by
        rw [Nat.testBit_and, Nat.testBit_shiftLeft, m32_bit] at hi
        rw [Nat.testBit_mod_two_pow, Nat.testBit_shiftLeft, Nat.testBit_and, Nat.testBit_shiftLeft, m32_bit]
        cases h32 : decide (i < 32) with
        | false => simp
        | true =>
          rw [h32] at hi
          cases hk : decide (i ≥ n % 32) with
          | false => simp
          | true =>
            rw [hk] at hi
            simp only [Bool.true_and, Bool.and_true] at hi ⊢
            exact m3 _ hi
      have l1 : (a.bt <<< (n % 32) &&& M32) < 2 ^ 32 := Nat.lt_of_le_of_lt Nat.and_le_right (by omega)
      have l2 : (a.op <<< (n % 32) &&& M32) < 2 ^ 32 := Nat.lt_of_le_of_lt Nat.and_le_right (by omega)
      have q1 := shl_mono (n % 32) m1
      have q2 := shl_mono (n % 32) m2
      split
      · have e : (m <<< (n % 32)) % 2 ^ 32 = m <<< (n % 32) := Nat.mod_eq_of_lt (by omega)
        refine tidyG_has ⟨by show a.mn <<< _ < _; omega, by show a.mx <<< _ < _; omega, l1, l2, dj⟩ ⟨?_, ?_, core⟩
        · show a.mn <<< _ ≤ _; rw [e]; exact q1
        · show _ ≤ a.mx <<< _; rw [e]; exact q2
      · refine tidyG_has ⟨by show (0 : Nat) < _; omega, by show M32 < _; omega, l1, l2, dj⟩ ⟨Nat.zero_le _, ?_, core⟩
        show _ ≤ M32
        have := Nat.mod_lt (m <<< (n % 32)) (show 0 < 2 ^ 32 by omega)
        omega
def partG (op : Int) (a b : Rg) : Rg :=
  if op = 10 ∧ 0 < b.mn then fromToG (a.mn / b.mx) (a.mx / b.mn)
  else if op = 11 ∧ a.mx < b.mn then a
  else if op = 11 ∧ 0 < b.mn ∧ b.mx - 1 < a.mx then fromToG 0 (b.mx - 1)
  else fromToG 0 a.mx
theorem partG_has {op : Int} {a b : Rg} (ha : a.okk) (hb : b.okk) {m n : Nat} (hm : a.has m) (hn : b.has n) (ho : op = 10 ∨ op = 11) :
    (partG op a b).okk ∧ (partG op a b).has (if op = 10 then m / n else m % n) := by
  obtain ⟨a1, a2, _⟩ := id ha
  obtain ⟨b1, b2, _⟩ := hb
  obtain ⟨m1, m2, m3⟩ := id hm
  obtain ⟨n1, n2, _⟩ := hn
  unfold partG
  rcases ho with rfl | rfl
  · rw [if_pos rfl]
    by_cases h : 0 < b.mn
    · rw [if_pos ⟨rfl, h⟩]
      have h1 : a.mn / b.mx ≤ m / n := Nat.le_trans (Nat.div_le_div_right m1) (Nat.div_le_div_left n2 (by omega))
      have h2 : m / n ≤ a.mx / b.mn := Nat.le_trans (Nat.div_le_div_right m2) (Nat.div_le_div_left n1 h)
      have h3 := Nat.div_le_self a.mx b.mn
      exact fromToG_has h1 h2 (by omega)
    · rw [if_neg (by omega), if_neg (by omega), if_neg (by omega)]
      have h1 := Nat.div_le_self m n
      exact fromToG_has (Nat.zero_le _) (by omega) a2
  · rw [if_neg (show ¬ ((11 : Int) = 10 ∧ 0 < b.mn) by omega), if_neg (show ¬ ((11 : Int) = 10) by omega)]
    by_cases h : a.mx < b.mn
    · rw [if_pos ⟨rfl, h⟩, Nat.mod_eq_of_lt (by omega)]
      exact ⟨ha, hm⟩
    · rw [if_neg (by omega)]
      by_cases h2 : 0 < b.mn ∧ b.mx - 1 < a.mx
      · rw [if_pos ⟨rfl, h2⟩]
        have := Nat.mod_lt m (show 0 < n by omega)
        exact fromToG_has (Nat.zero_le _) (by omega) (by omega)
      · rw [if_neg (by omega)]
        have := Nat.mod_le m n
        exact fromToG_has (Nat.zero_le _) (by omega) a2
/-- What an op makes of two numbers. -/
def reckN (op : Int) (m n : Nat) : Nat :=
  if op = 2 then (m + n) % 2 ^ 32 else if op = 3 then (m + 2 ^ 32 - n) % 2 ^ 32 else if op = 4 then (m * n) % 2 ^ 32 else if op = 5 then m &&& n else if op = 6 then m ||| n else if op = 7 then m ^^^ n
  else if op = 8 then (m <<< (n % 32)) % 2 ^ 32 else if op = 9 then m >>> (n % 32) else if op = 10 then m / n else if op = 11 then m % n else n
/-- What is known of what an op makes. -/
def rangeG (op : Int) (a b : Rg) : Rg :=
  let a := tidyG a
  let b := tidyG b
  if a.mn = a.mx ∧ b.mn = b.mx then oneG (reckN op a.mn b.mn)
  else if op = 1 then b else if op = 2 then addG a b else if op = 3 then subG a b else if op = 4 then mulG a b
  else if op = 5 ∨ op = 6 ∨ op = 7 then bitG op a b else if op = 8 ∨ op = 9 then shG op a b else partG op a b
theorem reck_lt {op : Int} (ho : 1 ≤ op ∧ op ≤ 11) {m n : Nat} (hm : m < 2 ^ 32) (hn : n < 2 ^ 32) : reckN op m n < 2 ^ 32 := by
  have h1 := Nat.div_le_self m n
  have h2 := Nat.mod_le m n
  have h3 := shr_le m (n % 32)
  unfold reckN
  repeat' split
  all_goals first | exact Nat.mod_lt _ (by omega) | exact Nat.lt_of_le_of_lt Nat.and_le_left hm | exact Nat.or_lt_two_pow hm hn | exact Nat.xor_lt_two_pow hm hn | omega
theorem rangeG_has {op : Int} {a b : Rg} (ho : 1 ≤ op ∧ op ≤ 11) (ha : a.okk) (hb : b.okk) {m n : Nat} (hm : a.has m) (hn : b.has n) : (rangeG op a b).okk ∧ (rangeG op a b).has (reckN op m n) := by
  obtain ⟨ka, qa⟩ := tidyG_has ha hm
  obtain ⟨kb, qb⟩ := tidyG_has hb hn
  unfold rangeG
  simp only
  generalize tidyG a = x at *
  generalize tidyG b = y at *
  split
  · rename_i h
    have e1 : m = x.mn := by have := qa.1; have := qa.2.1; omega
    have e2 : n = y.mn := by have := qb.1; have := qb.2.1; omega
    rw [e1, e2]
    exact oneG_has (reck_lt ho ka.1 kb.1)
  · unfold reckN
    by_cases o1 : op = 1
    · rw [if_pos o1]
      simp only [o1]
      simp only [show ¬ ((1 : Int) = 2) by omega, show ¬ ((1 : Int) = 3) by omega, show ¬ ((1 : Int) = 4) by omega, show ¬ ((1 : Int) = 5) by omega, show ¬ ((1 : Int) = 6) by omega, show ¬ ((1 : Int) = 7) by omega, show ¬ ((1 : Int) = 8) by omega, show ¬ ((1 : Int) = 9) by omega, show ¬ ((1 : Int) = 10) by omega, show ¬ ((1 : Int) = 11) by omega, if_false]
      exact ⟨kb, qb⟩
    rw [if_neg o1]
    by_cases o2 : op = 2
    · rw [if_pos o2, if_pos o2]; exact addG_has ka kb qa qb
    rw [if_neg o2, if_neg o2]
    by_cases o3 : op = 3
    · rw [if_pos o3, if_pos o3]; exact subG_has ka kb qa qb
    rw [if_neg o3, if_neg o3]
    by_cases o4 : op = 4
    · rw [if_pos o4, if_pos o4]; exact mulG_has qa qb
    rw [if_neg o4, if_neg o4]
    have hbit := bitG_has (op := op) ka kb qa qb
    by_cases o5 : op = 5
    · rw [if_pos (.inl o5), if_pos o5]; rw [if_pos o5] at hbit; exact hbit
    rw [if_neg o5] at hbit
    by_cases o6 : op = 6
    · rw [if_pos (.inr (.inl o6)), if_neg o5, if_pos o6]; rw [if_pos o6] at hbit; exact hbit
    rw [if_neg o6] at hbit
    by_cases o7 : op = 7
    · rw [if_pos (.inr (.inr o7)), if_neg o5, if_neg o6, if_pos o7]; exact hbit
    rw [if_neg (by omega), if_neg o5, if_neg o6, if_neg o7]
    have hsh := shG_has (op := op) ka kb qa qb
    by_cases o8 : op = 8
    · rw [if_pos (.inl o8), if_pos o8]; rw [if_neg (by omega)] at hsh; exact hsh
    by_cases o9 : op = 9
    · rw [if_pos (.inr o9), if_neg o8, if_pos o9]; rw [if_pos o9] at hsh; exact hsh
    rw [if_neg (by omega), if_neg o8, if_neg o9]
    have hp := partG_has (op := op) ka kb qa qb (by omega)
    by_cases o10 : op = 10
    · rw [if_pos o10]; rw [if_pos o10] at hp; exact hp
    rw [if_neg o10] at hp ⊢
    rw [if_pos (by omega)]
    exact hp
end Go.Proofs.YtihllippchgkgaaGreat.V

/- Plain laws: the least number of a range; what two ranges are if an op holds of their numbers, or not. -/
namespace Go.Proofs.YtihllippchgkgaaGreat.V
open Go Go.RowKit
set_option linter.unusedVariables false
set_option linter.unusedSimpArgs false
/-- A number bears the bits of a range. -/
def Rg.fits (r : Rg) (n : Nat) : Prop := ∀ i, r.op.testBit i = false → n.testBit i = r.bt.testBit i
theorem least_of {P : Nat → Prop} : ∀ {n : Nat}, P n → ∃ i, i ≤ n ∧ P i ∧ ∀ j, j < i → ¬ P j := by
  intro n
  induction n using Nat.strongRecOn with
  | _ n ih =>
    intro h
    by_cases hx : ∃ j, j < n ∧ P j
    · obtain ⟨j, hj, hp⟩ := hx
      obtain ⟨i, h1, h2, h3⟩ := ih j hj hp
      exact ⟨i, by omega, h2, h3⟩
    · exact ⟨n, Nat.le_refl _, h, fun j hj hp => hx ⟨j, hj, hp⟩⟩
/-- The highest bit that tells two numbers apart. -/
theorem top_bit {a b : Nat} (h : a < b) (hb : b < 2 ^ 64) : ∃ i, b.testBit i = true ∧ a.testBit i = false ∧ ∀ j, i < j → a.testBit j = b.testBit j := by
  have ha : a < 2 ^ 64 := by omega
  have hs := kk_same ha hb
  have h0 : kk a b ≠ 0 := fun e => by rw [e] at hs; simp at hs; omega
  refine ⟨kk a b - 1, ?_⟩
  have hk : kk a b = (kk a b - 1) + 1 := by omega
  have hne : ¬ kk a b ≤ kk a b - 1 := by omega
  rw [kk_div ha hb] at hne
  have hle := Nat.div_le_div_right (c := 2 ^ (kk a b - 1)) (Nat.le_of_lt h)
  have h2 : a / 2 ^ (kk a b - 1) / 2 = b / 2 ^ (kk a b - 1) / 2 := by
    rw [Nat.div_div_eq_div_mul, Nat.div_div_eq_div_mul, ← Nat.pow_succ, show (kk a b - 1).succ = kk a b by omega]; exact hs
  have e : ∀ x : Nat, x.testBit (kk a b - 1) = (x / 2 ^ (kk a b - 1)).testBit 0 := fun x => by rw [Nat.testBit_div_two_pow, Nat.zero_add]
  refine ⟨?_, ?_, fun j hj => ?_⟩
  · rw [e, Nat.testBit_zero, decide_eq_true_eq]; omega
  · rw [e, Nat.testBit_zero, decide_eq_false_iff_not]; omega
  · have e2 : ∀ x : Nat, x.testBit j = (x / 2 ^ kk a b).testBit (j - kk a b) := fun x => by rw [Nat.testBit_div_two_pow]; congr 1; omega
    rw [e2 a, e2 b, hs]
theorem lt_bits {a b i : Nat} (ha : a < 2 ^ 64) (hb : b < 2 ^ 64) (h0 : a.testBit i = false) (h1 : b.testBit i = true) (h : ∀ j, i < j → a.testBit j = b.testBit j) : a < b := by
  rcases Nat.lt_trichotomy a b with h2 | h2 | h2
  · exact h2
  · rw [h2, h1] at h0; simp at h0
  · exfalso
    obtain ⟨k, t1, t2, t3⟩ := top_bit h2 ha
    rcases Nat.lt_trichotomy k i with h3 | h3 | h3
    · rw [← t3 i h3, h1] at h0; simp at h0
    · rw [h3, h0] at t1; simp at t1
    · rw [h k h3, t2] at t1; simp at t1
/-- Here a greater number may begin to be greater. -/
def abC (r : Rg) (i : Nat) : Prop := r.mn.testBit i = false ∧ (r.bt.testBit i = true ∨ r.op.testBit i = true) ∧ ∀ j, i < j → r.op.testBit j = false → r.mn.testBit j = r.bt.testBit j
def abV (r : Rg) (i : Nat) : Nat := ((r.mn >>> (i + 1)) <<< (i + 1)) ||| 2 ^ i ||| (r.bt &&& (2 ^ i - 1))
theorem abV_bit (r : Rg) (i j : Nat) : (abV r i).testBit j = if i < j then r.mn.testBit j else if j = i then true else r.bt.testBit j := by
  unfold abV
  rw [Nat.testBit_or, Nat.testBit_or, Nat.testBit_shiftLeft, Nat.testBit_shiftRight, Nat.testBit_two_pow, Nat.testBit_and, mask_bit]
  rcases Nat.lt_trichotomy i j with h | h | h
  · rw [if_pos h, decide_eq_true (show j ≥ i + 1 by omega), decide_eq_false (show ¬ i = j by omega), decide_eq_false (show ¬ j < i by omega), show i + 1 + (j - (i + 1)) = j by omega]
    simp
  · subst h
    rw [if_neg (by omega), if_pos rfl, decide_eq_false (show ¬ i ≥ i + 1 by omega)]
    simp
  · rw [if_neg (by omega), if_neg (by omega), decide_eq_false (show ¬ j ≥ i + 1 by omega), decide_eq_false (show ¬ i = j by omega), decide_eq_true h]
    simp
theorem above_has {r : Rg} (h : r.okk) {n : Nat} (hn : r.has n) (hno : ¬ r.fits r.mn) : ∃ i, i < 32 ∧ abC r i ∧ (∀ j, j < i → ¬ abC r j) ∧ r.has (abV r i) := by
  obtain ⟨h1, h2, h3, h4, h5⟩ := h
  obtain ⟨n1, n2, n3⟩ := hn
  have hlt : r.mn < n := by
    rcases Nat.lt_or_ge r.mn n with h | h
    · exact h
    · exact absurd (show r.fits r.mn by rw [show r.mn = n by omega]; exact n3) hno
  obtain ⟨i0, t1, t2, t3⟩ := top_bit hlt (by omega)
  have c0 : abC r i0 := ⟨t2, by
    cases ho : r.op.testBit i0 with
    | true => exact .inr rfl
    | false => rw [← n3 i0 ho, t1]; exact .inl rfl, fun j hj ho => by rw [t3 j hj]; exact n3 j ho⟩
  obtain ⟨i, hi, hc, hl⟩ := least_of c0
  have hi32 : i < 32 := by
    rcases Nat.lt_or_ge i 32 with h | h
    · exact h
    · have := bit_hi h3 h; have := bit_hi h4 h; have := hc.2.1; simp_all
  have hv : abV r i < 2 ^ 32 := lt_of_bits fun j hj => by
    rw [abV_bit]
    split
    · exact bit_hi h1 hj
    · rw [if_neg (by omega)]; exact bit_hi h3 hj
  refine ⟨i, hi32, hc, hl, ?_, ?_, fun j ho => ?_⟩
  · refine Nat.le_of_lt (lt_bits (i := i) (by omega) (by omega) hc.1 (by rw [abV_bit]; simp) fun j hj => ?_)
    rw [abV_bit, if_pos hj]
  · refine Nat.le_trans ?_ n2
    rcases Nat.lt_or_ge i i0 with h | h
    · refine Nat.le_of_lt (lt_bits (i := i0) (by omega) (by omega) ?_ t1 fun j hj => ?_)
      · rw [abV_bit, if_pos h]; exact t2
      · rw [abV_bit, if_pos (by omega)]; exact t3 j hj
    · obtain rfl : i = i0 := by omega
      refine sub_le fun j hj => ?_
      rw [abV_bit] at hj
      split at hj
      · rename_i h; rw [← t3 j h]; exact hj
      · split at hj
        · rename_i h; rw [h]; exact t1
        · have ho : r.op.testBit j = false := by cases ho : r.op.testBit j with | false => rfl | true => rw [h5 j ho] at hj; simp at hj
          rw [n3 j ho]; exact hj
  · rw [abV_bit]
    split
    · rename_i h; exact hc.2.2 j h ho
    · split
      · rename_i h
        subst h
        rcases hc.2.1 with h | h
        · exact h.symm
        · rw [ho] at h; simp at h
      · rfl
/-- Both. -/
def meetG (a b : Rg) : Rg := ⟨max a.mn b.mn, min a.mx b.mx, a.bt ||| b.bt, a.op &&& b.op⟩
theorem me1 : ∀ x p y q m : Bool, (p = false → m = x) → (q = false → m = y) → (p = true → x = false) → (q = true → y = false) → (p && q) = false → m = (x || y) := by decide
theorem meetG_has {a b : Rg} (ha : a.okk) (hb : b.okk) {m : Nat} (h1 : a.has m) (h2 : b.has m) : (meetG a b).has m := by
  refine ⟨?_, ?_, fun i hi => ?_⟩
  · show max _ _ ≤ m; have := h1.1; have := h2.1; omega
  · show m ≤ min _ _; have := h1.2.1; have := h2.2.1; omega
  · have hi : (a.op &&& b.op).testBit i = false := hi
    show m.testBit i = (a.bt ||| b.bt).testBit i
    rw [Nat.testBit_and] at hi
    rw [Nat.testBit_or]
    exact me1 _ _ _ _ _ (h1.2.2 i) (h2.2.2 i) (ha.2.2.2.2 i) (hb.2.2.2.2 i) hi
/-- Where both may be, they do not say otherwise. -/
theorem meet_clash {a b : Rg} {m : Nat} (h1 : a.has m) (h2 : b.has m) (i : Nat) (ho : (a.op ||| b.op).testBit i = false) : (a.bt ^^^ b.bt).testBit i = false := by
  rw [Nat.testBit_or, Bool.or_eq_false_iff] at ho
  rw [Nat.testBit_xor, ← h1.2.2 i ho.1, ← h2.2.2 i ho.2]; simp
theorem meetG_ok {a b : Rg} (ha : a.okk) (hb : b.okk) (hc : ∀ i, (a.op ||| b.op).testBit i = false → (a.bt ^^^ b.bt).testBit i = false) : (∀ i, (a.op &&& b.op).testBit i = true → (a.bt ||| b.bt).testBit i = false) := fun i hi => by
  rw [Nat.testBit_and, Bool.and_eq_true] at hi
  rw [Nat.testBit_or, ha.2.2.2.2 i hi.1, hb.2.2.2.2 i hi.2]; rfl
end Go.Proofs.YtihllippchgkgaaGreat.V

/- Ranges as tuples: what the program's operations make of them. -/
namespace Go.Proofs.YtihllippchgkgaaGreat.V
open Go Go.RowKit
set_option linter.unusedVariables false
set_option linter.unusedSimpArgs false
def Rg.t (r : Rg) : T4 := ((r.mn : Int), (r.mx : Int), (r.bt : Int), (r.op : Int), ())
theorem iAndNot_nat {a b : Nat} (ha : a < 2 ^ 63) (hb : b < 2 ^ 63) : iAndNot .i64 a b = ((andN a b : Nat) : Int) := by
  have h : (BitVec.ofInt 64 (a : Int) &&& ~~~(BitVec.ofInt 64 (b : Int))).toNat = andN a b := by
    apply Nat.eq_of_testBit_eq
    intro i
    rw [andN_bit]
    have e1 : BitVec.ofInt 64 (a : Int) = BitVec.ofNat 64 a := by apply BitVec.eq_of_toNat_eq; rw [ofInt_nat ha, BitVec.toNat_ofNat]; omega
    have e2 : BitVec.ofInt 64 (b : Int) = BitVec.ofNat 64 b := by apply BitVec.eq_of_toNat_eq; rw [ofInt_nat hb, BitVec.toNat_ofNat]; omega
    rw [e1, e2, BitVec.toNat_and, Nat.testBit_and, ← BitVec.getLsbD, ← BitVec.getLsbD, BitVec.getLsbD_not, BitVec.getLsbD_ofNat, BitVec.getLsbD_ofNat]
    by_cases hi : i < 64
    · simp [hi]
    · have : a.testBit i = false := bit_hi ha (by omega)
      simp [hi, this]
  show IntKind.wrap .i64 (((BitVec.ofInt 64 (a : Int) &&& ~~~(BitVec.ofInt 64 (b : Int))).toNat : Nat) : Int) = _
  rw [h]
  exact i64_nat (Nat.lt_of_le_of_lt (andN_le a b) ha)
end Go.Proofs.YtihllippchgkgaaGreat.V

/- Regions: facts that say what a result is; where rules lie. -/
namespace Go.Proofs.YtihllippchgkgaaGreat.V
open Go Go.RowKit
set_option linter.unusedVariables false
set_option linter.unusedSimpArgs false
/-- A fact: the result is this. -/
def eqG {α : Type} (v : α) : α → World → Prop := fun x _ => x = v
theorem exE {α : Type} {v : α} {Sp : World → World → Prop} {p : (α → World → Prop) → Prop} (h : p (eqG v)) : ∃ G, Kept Sp G ∧ p G := ⟨eqG v, fun _ _ _ h _ => h, h⟩
theorem gkE {r : Rs} {Sp : World → World → Prop} {w1 w' : World} {x : r.T} {v : Value} (hv : v = r.emb x) (h : Sp w1 w') : GK r Sp w1 (eqG x) v w' := ⟨x, hv, h, rfl⟩
theorem belOk (w : World) : SpOk (Below w.heap.size) w := ⟨fun a => Below.refl _ _, fun a b c h1 h2 => h1.trans h2, (Below.refl _ _).drew⟩
theorem keptEq {α : Type} {v : α} {Sp : World → World → Prop} : Kept Sp (eqG v) := fun _ _ _ h _ => h
theorem keptE {α : Type} {v : α} {Sp : World → World → Prop} : Kept Sp (eqG v) := fun _ _ _ h _ => h
def AtV (H : Nat) (vs : List Value) (a : Addr) (w : World) : Prop := ∃ b o, a = ⟨b, o, none⟩ ∧ b < H ∧ At w b o vs
theorem keptAv {H : Nat} {vs : List Value} : Kept (Below H) (AtV H vs) := by
  rintro a x z ⟨b, o, h1, h2, h3⟩ hxz
  refine ⟨b, o, h1, h2, fun m v hv => ?_⟩
  rw [← h3 m v hv]
  unfold World.cell?
  simp only
  rw [hxz.block b h2]
theorem bk_lt {α : Type} {k : Kd α} {w : World} {s : Sl} {xs : List α} (h : SlR k w s xs) {i : Nat} {x : α} (hx : xs[i]? = some x) {v : Value} (hv : (k.cells x)[0]? = some v) {b : Nat} (hb : s.bk = some b) : b < w.heap.size := by
  obtain ⟨b', o, ha, hA⟩ := h.at hx
  have : b' = b := by simpa [Sl.bk, ha] using hb
  subst this
  exact World.block_lt_of_cell? w _ (hA 0 v hv)
theorem ldAv {w : World} {b o : Nat} {ls : List Lf} {y : Tup ls} (h : At w b o (Tup.cells ls y)) {K : Tup ls → World → Prop} (hk : K y w) : LdA ls ⟨b, o, none⟩ w K := ⟨y, fun j v hv => by rw [add_mk]; exact h j v hv, hk⟩
theorem ixRb {α : Type} {k : Kd α} {w : World} {s : Sl} {xs : List α} {i : Int} {x : α} {sz : Nat} (h : SlR k w s xs) (hi : 0 ≤ i) (hx : xs[i.toNat]? = some x) (hsz : sz = k.ls.length) {K : Addr → World → Prop}
    (hk : ∀ b o, s.bk = some b → At w b o (k.cells x) → K ⟨b, o, none⟩ w) : Ix s.a s.n i sz w K := by
  obtain ⟨b, o, ha, hA⟩ := h.at hx
  have hl : i.toNat < xs.length := by
    rcases Nat.lt_or_ge i.toNat xs.length with h | h
    · exact h
    · simp [List.getElem?_eq_none h] at hx
  refine ⟨⟨b, o, none⟩, ha, hi, by rw [h.1]; omega, ?_⟩
  rw [add_mk, hsz]
  exact hk _ _ (by simp [Sl.bk, ha]) hA
end Go.Proofs.YtihllippchgkgaaGreat.V

/- The verification-condition generator within fences: rounds of a range over a function, calls of yield. -/
namespace Go.Proofs.YtihllippchgkgaaGreat.V
open Go Go.RowKit

/-- The wide fence, within a round or not. -/
def Rd (r : Option Nat) : Fence := { Fence.wide with round := r }
section
variable {P : Program} {r : Option Nat} {n : Nat}
theorem callsIn_rd {f : FuncId} {args : Array Value} {w : World} {R : Ending → World → Prop} (h : Calls P f args w R) : CallsIn (Rd r) n P f args w R :=
  ⟨trivial, fun cs _ => let ⟨e, w', fr, hr, s, x⟩ := h cs; ⟨e, w', fr, hr, comesIn_wide.2 s, x⟩⟩
theorem calls_of_rd {f : FuncId} {args : Array Value} {w : World} {R : Ending → World → Prop} (h : CallsIn (Rd r) n P f args w R) : Calls P f args w R :=
  fun cs => let ⟨e, w', fr, hr, s, x⟩ := h.2 cs (fun _ h => by simp [Rd, Fence.wide] at h); ⟨e, w', fr, hr, comesIn_wide.1 s, x⟩
theorem rowsIn_rd {row : String} {args : Array Value} {w : World} {R : Value → World → Prop} (h : Rows P row args w R) : RowsIn (Rd r) n P row args w R :=
  fun c cs _ => let ⟨v, w', hr, s⟩ := h c cs; ⟨v, w', hr, stepsIn_wide.2 s⟩
theorem roundIn_rd {m m' : Nat} {l : Nat} {f : FuncId} {tmps : Array Value} {assign body : Code} {w : World} {R : Ending → World → Prop} (h : RoundIn Fence.wide m P l f tmps assign body w R) : RoundIn (Rd r) m' P l f tmps assign body w R :=
  ⟨trivial, fun c cs _ => h.2 c cs (fun _ h => by simp [Fence.wide] at h)⟩
theorem op_in {o : Oper} {a : Act} {w : World} {next : Act → World → Prop} {Q : Exit → Act → World → Prop} (hd : ∀ c, o.op ≠ .defer c) (h : o.wp P a w next Q) : o.wpIn (Rd r) n P a w next Q := by
  refine ⟨fun _ _ => trivial, ?_⟩
  rw [Oper.semAt_eq _ _ _ hd]
  unfold Oper.wp at h
  generalize (execOp a.eval o).run P w = res at *
  cases res with
  | ok x w' =>
    cases x <;> simp only [Oper.upon] at h
    case value v => exact h
    case skip => exact h
    case defer d => exact h
    case enter f args => exact ⟨fun hh => by simp [Rd, Fence.wide] at hh, callsIn_rd h⟩
    case row row args => exact ⟨fun hh => by simp [Rd, Fence.wide] at hh, rowsIn_rd h⟩
  | halt x w' => cases x <;> simp only [Oper.upon] at h; exact h
end
/-- A call of yield. -/
def YldT (P : Program) (l : Nat) (args : List Value) (w : World) (K : Bool → World → Prop) : Prop :=
  YieldAt Fence.wide 0 P l args.toArray w (fun e w' => ∃ b, e = .returned (.bool b) ∧ K b w')
def evOpI (P : Program) (pl : OpP) (o : Oper) (env : Env) (w : World) (K : EV → World → Prop) (Q : List PanicEntry → World → Prop) : Prop :=
  match pl with
  | .y => match o.op with
    | .call { callee := .value x, args, .. } => match rho env x with
      | .func (.yield l) ⟨[]⟩ _ => YldT P l (args.toList.map (rho env)) w fun b w => K (.v (.bool b)) w
      | _ => False
    | _ => False
  | p => evOp P p o env w K Q
section
variable {P : Program} {r : Option Nat} {n : Nat} {ds : List Deferred} {o : Oper} {env : Env} {w : World} {K : EV → World → Prop} {Q : List PanicEntry → World → Prop}
variable {next : Act → World → Prop} {Q' : Exit → Act → World → Prop}
theorem evOpI_sound {pl : OpP} (hd : ∀ c, o.op ≠ .defer c) (h : evOpI P pl o env w K Q) (hK : ∀ v w', K v w' → next (act ds (put env o.dst v)) w')
    (hQ : ∀ ch w', Q ch w' → Q' (.panic ch) (act ds env) w') : o.wpIn (Rd r) n P (act ds env) w next Q' := by
  cases pl with
  | y =>
    refine ⟨fun _ _ => trivial, ?_⟩
    rw [Oper.semAt_eq _ _ _ hd, act_eval]
    obtain ⟨dst, op, type, pos, after, guard⟩ := o
    cases op <;> simp only [evOpI] at h <;> try exact h.elim
    rename_i c
    obtain ⟨callee, as1, ats⟩ := c
    cases callee <;> simp only at h <;> try exact h.elim
    rename_i x
    split at h
    · rename_i l c0 hx
      obtain ⟨fn, tmps, assign, body, hy, hR⟩ := h
      have e1 : (as1.toList.map (rho env)).toArray = as1.map (rho env) := by simp [← Array.toList_map]
      rw [e1] at hy
      have hrun : (execOp (rho env) { dst, op := .call { callee := .value x, args := as1, argTypes := ats }, type, pos, after, guard }).run P w = .ok (.round l fn tmps assign body) w := by
        simp [execOp, resolve, Deferred.ofValue, hx, invoke, hy]
      rw [hrun]
      refine ⟨fun hh => by simp [Rd, Fence.wide] at hh, roundIn_rd (hR.mono ?_)⟩
      rintro e w' ⟨b, rfl, hk⟩
      have := act_put ds env dst (.v (.bool b))
      simp only [EV.val] at this
      simp only [this]
      exact hK _ _ hk
    · exact h.elim
  | _ => exact op_in hd (evOp_sound h hK hQ)
end
def evLI (P : Program) (ops : Array Oper) (K : Exit → Env → World → Prop) : List OpP → List Oper → Env → World → Prop
  | _, [], env, w => K .normal env w
  | [], _ :: _, _, _ => False
  | p :: ps, o :: os, env, w =>
    match o.guard with
    | none => evOpI P p o env w (fun v w' => evLI P ops K ps os (put env o.dst v) w') (fun ch w' => K (.panic ch) env w')
    | some (j, want) =>
      match (ops.toList[j]?).bind (·.dst) with
      | none => False
      | some d => match env.getD d u0 with
        | .b t => match t == want with
          | true => evOpI P p o env w (fun v w' => evLI P ops K ps os (put env o.dst v) w') (fun ch w' => K (.panic ch) env w')
          | false => evLI P ops K ps os (put env o.dst u0) w
        | .v (.bool t) =>
          (t = want → evOpI P p o (env.set d (.b want)) w (fun v w' => evLI P ops K ps os (put (env.set d (.b want)) o.dst v) w') (fun ch w' => K (.panic ch) (env.set d (.b want)) w')) ∧
          (t = (!want) → evLI P ops K ps os (put (env.set d (.b (!want))) o.dst u0) w)
        | .v _ => evLI P ops K ps os (put env o.dst u0) w
def noDef : List Oper → Bool
  | [] => true
  | o :: os => (match o.op with | .defer _ => false | _ => true) && noDef os
theorem noDef_spec : ∀ {os : List Oper}, noDef os = true → ∀ o ∈ os, ∀ c, o.op ≠ .defer c
  | [], _, o, ho, _ => by simp at ho
  | o' :: os, h, o, ho, c => by
    simp only [noDef, Bool.and_eq_true] at h
    rcases List.mem_cons.1 ho with rfl | ho
    · intro e; rw [e] at h; simp at h
    · exact noDef_spec h.2 o ho c
def evI (P : Program) : Pl → Code → (Exit → Env → World → Prop) → Env → World → Prop
  | .z, c, K, env, w => match c with
    | .skip => K .normal env w
    | .label _ => K .normal env w
    | .exit id => K (.exit id) env w
    | .ret => K .ret env w
    | _ => False
  | .r ps, c, K, env, w => match c with
    | .region _ ops draw => match draw with
      | false => match noDef ops.toList with
        | true => evLI P ops K ps ops.toList env w
        | false => False
      | true => False
    | _ => False
  | .s pa pb, c, K, env, w => match c with
    | .seq a b => evI P pa a (fun e env' w' => match e with
      | .normal => evI P pb b K env' w'
      | .exit id => K (.exit id) env' w'
      | .goto l => K (.goto l) env' w'
      | .ret => K .ret env' w'
      | .panic ch => K (.panic ch) env' w'
      | .outgrown => K .outgrown env' w') env w
    | _ => False
  | .c pa pb, c, K, env, w => match c with
    | .cond x a b => match evO env x with
      | .b t => match t with
        | true => evI P pa a K env w
        | false => evI P pb b K env w
      | .v (.bool t) => (t = true → evI P pa a K env w) ∧ (t = false → evI P pb b K env w)
      | .v _ => False
    | _ => False
  | .b p, c, K, env, w => match c with
    | .block id a => evI P p a (fun e env' w' => match e with
      | .exit id' => (match id' == id with
        | true => K .normal env' w'
        | false => K (.exit id') env' w')
      | .normal => K .normal env' w'
      | .goto l => K (.goto l) env' w'
      | .ret => K .ret env' w'
      | .panic ch => K (.panic ch) env' w'
      | .outgrown => K .outgrown env' w') env w
    | _ => False
  | .l ss p, c, K, env, w => match c with
    | .loop a => match slotsIn (writes a) ss with
      | true => ∃ (I : Fn (World → Prop) ss) (μ : Fn (World → Nat) ss),
        (match unS ss env with
          | some xs => ap ss I xs w
          | none => False) ∧
        All ss fun xs => ∀ w', ap ss I xs w' → ∀ g : Nat → Value, evI P p a (fun e env' w'' => match e with
          | .normal => (match unS ss env' with
            | some ys => ap ss I ys w'' ∧ ap ss μ ys w'' < ap ss μ xs w'
            | none => False)
          | .exit id => K (.exit id) env' w''
          | .goto l => K (.goto l) env' w''
          | .ret => K .ret env' w''
          | .panic ch => K (.panic ch) env' w''
          | .outgrown => K .outgrown env' w'') (reb (writes a) (slotVal ss xs) g 0 env) w'
      | false => False
    | _ => False
  | _, _, _, _, _ => False
theorem wpIn_loop_typed {F0 : Fence} {n0 : Nat} {P : Program} {Q : Exit → Act → World → Prop} {c : Code} {σ : Type} (F : σ → Act) (I : σ → World → Prop) (μ : σ → World → Nat)
    (round : ∀ s w, I s w → c.wpIn F0 n0 P (Exit.then (fun a' w' => ∃ s', a' = F s' ∧ I s' w' ∧ μ s' w' < μ s w) Q) (F s) w) (s : σ) (w : World) (h : I s w) : (Code.loop c).wpIn F0 n0 P Q (F s) w := by
  intro b k cs hro hb hr
  have key : ∀ n s w, μ s w = n → I s w → ∃ e a' w', Q e a' w' ∧ ArrivesIn (Machine.fenced P F0) P (lone (b.atR (F s) (.code c :: .inLoop c :: k)) cs w) b k cs e a' w' := by
    intro n
    induction n using Nat.strongRecOn with
    | _ n ih =>
      intro s w hn hI
      obtain ⟨e, a₁, w₁, hq, harr⟩ := round s w hI b (.inLoop c :: k) cs hro hb hr
      cases e with
      | normal =>
        obtain ⟨s', rfl, hI₁, hlt⟩ := hq
        obtain ⟨e₂, a₂, w₂, hq₂, harr₂⟩ := ih (μ s' w₁) (hn ▸ hlt) s' w₁ rfl hI₁
        exact ⟨e₂, a₂, w₂, hq₂, .of_steps (StepsIn.trans harr (.one (fenced_calm hb hr rfl) stepR_inLoop)) harr₂⟩
      | exit id => exact ⟨_, a₁, w₁, hq, .pass (x := .inLoop c) rfl (fun _ _ => .inl (by simp)) harr⟩
      | goto l => exact ⟨_, a₁, w₁, hq, .pass (x := .inLoop c) rfl (fun _ _ => .inl (by simp)) harr⟩
      | ret => exact ⟨_, a₁, w₁, hq, .pass (x := .inLoop c) rfl (fun _ _ => .inl (by simp)) harr⟩
      | panic ch => exact ⟨_, a₁, w₁, hq, .pass (x := .inLoop c) rfl (fun _ _ => .inl (by simp)) harr⟩
      | outgrown => exact ⟨_, a₁, w₁, hq, .pass (x := .inLoop c) rfl (fun _ _ => .inl (by simp)) harr⟩
  obtain ⟨e, a', w', hq, harr⟩ := key _ s w rfl h
  exact ⟨e, a', w', hq, .of_steps (.one (fenced_calm hb hr rfl) stepR_loop) harr⟩

section
variable {P : Program} {ds : List Deferred} {r : Option Nat} {n : Nat}
theorem evLI_sound {ops : Array Oper} {S : List Nat} {env0 : Env} {K : Exit → Env → World → Prop} {Q : Exit → Act → World → Prop} (hK : ∀ e env' w', K e env' w' → Ag S env0 env' → Q e (act ds env') w') :
    ∀ (ps : List OpP) (os : List Oper) (env : Env) (w : World), (∀ o ∈ os, ∀ c, o.op ≠ .defer c) → (∀ o ∈ os, ∀ d, o.dst = some d → d ∈ S) → Ag S env0 env → evLI P ops K ps os env w → wpListIn (Rd r) n P ops Q os (act ds env) w
  | _, [], env, w, _, _, ha, h => by cases ‹List OpP› <;> exact hK _ _ _ h ha
  | [], _ :: _, _, _, _, _, _, h => h.elim
  | p :: ps, o :: os, env, w, hd, hS, ha, h => by
    have ih := evLI_sound (ops := ops) hK ps os
    have hdos : ∀ o' ∈ os, ∀ c, o'.op ≠ .defer c := fun o' ho' => hd o' (List.mem_cons_of_mem _ ho')
    have hos : ∀ o' ∈ os, ∀ d, o'.dst = some d → d ∈ S := fun o' ho' => hS o' (List.mem_cons_of_mem _ ho')
    have hod : ∀ k, o.dst = some k → k ∈ S := hS o List.mem_cons_self
    have exec : ∀ env1, act ds env1 = act ds env → Ag S env0 env1 → evOpI P p o env1 w (fun v w' => evLI P ops K ps os (put env1 o.dst v) w') (fun ch w' => K (.panic ch) env1 w') →
        o.wpIn (Rd r) n P (act ds env) w (wpListIn (Rd r) n P ops Q os) Q := by
      intro env1 he ha1 h1
      rw [← he]
      exact evOpI_sound (r := r) (n := n) (hd _ List.mem_cons_self) h1 (fun v w' hh => ih _ _ hdos hos (ha1.trans (Ag.put env1 o.dst v hod)) hh) (fun ch w' hh => hK _ _ _ hh ha1)
    have skip : ∀ env1, act ds env1 = act ds env → Ag S env0 env1 → evLI P ops K ps os (put env1 o.dst u0) w → wpListIn (Rd r) n P ops Q os ((act ds env).put o.dst undef) w := by
      intro env1 he ha1 h1
      rw [← he]
      have := act_put ds env1 o.dst u0
      simp only [EV.val, u0] at this
      rw [this]
      exact ih _ _ hdos hos (ha1.trans (Ag.put env1 o.dst _ hod)) h1
    simp only [evLI] at h
    unfold wpListIn
    split at h
    · rename_i hg
      rw [if_pos (by simp [Region.wanted, hg])]
      exact (exec env rfl ha h)
    · rename_i j want hg
      split at h
      · exact h.elim
      · rename_i d hd
        have hwant := wanted_some (ds := ds) (env := env) hg hd
        split at h
        · rename_i t ht
          simp only [ht, EV.val] at hwant
          split at h
          · rename_i htw
            rw [htw] at hwant
            rw [if_pos hwant]
            exact (exec env rfl ha h)
          · rename_i htw
            rw [htw] at hwant
            rw [if_neg (by simp [hwant])]
            exact ⟨fun _ _ => trivial, skip env rfl ha h⟩
        · rename_i t ht
          simp only [ht, EV.val] at hwant
          by_cases htw : t = want
          · subst htw
            have hv : (env.getD d u0).val = (EV.b t).val := by rw [ht]; rfl
            rw [if_pos (by simp [hwant])]
            exact (exec _ (act_set hv) (ha.trans (Ag.set hv)) (h.1 rfl))
          · have htn : t = !want := by cases t <;> cases want <;> simp_all
            have hv : (env.getD d u0).val = (EV.b (!want)).val := by rw [ht, htn]; rfl
            rw [if_neg (by rw [hwant]; simp [htw])]
            exact ⟨fun _ _ => trivial, skip _ (act_set hv) (ha.trans (Ag.set hv)) (h.2 htn)⟩
        · rename_i x hx ht
          have hw0 : Region.wanted o (yielded ops (act ds env).tmps) = false := by
            rw [hwant, ht]
            simp only [EV.val]
          rw [if_neg (by simp [hw0])]
          exact ⟨fun _ _ => trivial, skip env rfl ha h⟩
theorem evI_sound : ∀ (p : Pl) (c : Code) (K : Exit → Env → World → Prop) (Q : Exit → Act → World → Prop) (env : Env) (w : World),
    (∀ e env' w', K e env' w' → Ag (writes c) env env' → Q e (act ds env') w') → evI P p c K env w → c.wpIn (Rd r) n P Q (act ds env) w
  | .z, c, K, Q, env, w, hK, h => by
    cases c with
    | skip => exact wpIn_skip (hK _ _ _ h (Ag.refl _ _))
    | label l => exact wpIn_label (hK _ _ _ h (Ag.refl _ _))
    | exit id => exact wpIn_exit (hK _ _ _ h (Ag.refl _ _))
    | ret => exact wpIn_ret (hK _ _ _ h (Ag.refl _ _))
    | _ => exact h.elim
  | .r ps, c, K, Q, env, w, hK, h => by
    cases c with
    | region id ops draw =>
      have hS : ∀ o ∈ ops.toList, ∀ d, o.dst = some d → d ∈ writes (.region id ops draw) := fun o ho d hd => List.mem_filterMap.2 ⟨o, ho, hd⟩
      cases draw with
      | false =>
        simp only [evI] at h
        split at h
        · rename_i hnd
          exact wpIn_region_list (evLI_sound (S := writes (.region id ops false)) (env0 := env) hK ps ops.toList env w (noDef_spec hnd) hS (Ag.refl _ _) h)
        · exact h.elim
      | true => exact h.elim
    | _ => exact h.elim
  | .s pa pb, c, K, Q, env, w, hK, h => by
    cases c with
    | seq a b =>
      refine wpIn_seq (evI_sound pa a _ _ env w ?_ h)
      intro e env' w' hk hag
      have hag' : Ag (writes (.seq a b)) env env' := hag.mono fun i hi => List.mem_append_left _ hi
      cases e with
      | normal =>
        exact evI_sound pb b K Q env' w' (fun e env2 w2 h2 hag2 => hK _ _ _ h2 (hag'.trans (hag2.mono fun i hi => List.mem_append_right _ hi))) hk
      | exit id => exact hK _ _ _ hk hag'
      | goto l => exact hK _ _ _ hk hag'
      | ret => exact hK _ _ _ hk hag'
      | panic ch => exact hK _ _ _ hk hag'
      | outgrown => exact hK _ _ _ hk hag'
    | _ => exact h.elim
  | .c pa pb, c, K, Q, env, w, hK, h => by
    cases c with
    | cond x a b =>
      have hl : ∀ e env' w', K e env' w' → Ag (writes a) env env' → Q e (act ds env') w' := fun e env' w' hk hag => hK _ _ _ hk (hag.mono fun i hi => List.mem_append_left _ hi)
      have hr : ∀ e env' w', K e env' w' → Ag (writes b) env env' → Q e (act ds env') w' := fun e env' w' hk hag => hK _ _ _ hk (hag.mono fun i hi => List.mem_append_right _ hi)
      simp only [evI] at h
      split at h
      · rename_i t hx
        have hc : (act ds env).eval x = .bool t := by rw [act_eval, rho, hx]; rfl
        split at h
        · exact wpIn_cond hc (evI_sound pa a K Q env w hl h)
        · exact wpIn_cond hc (evI_sound pb b K Q env w hr h)
      · rename_i t hx
        have hc : (act ds env).eval x = .bool t := by rw [act_eval, rho, hx]; rfl
        exact wpIn_cond_split hc (fun ht => evI_sound pa a K Q env w hl (h.1 ht)) (fun ht => evI_sound pb b K Q env w hr (h.2 ht))
      · exact h.elim
    | _ => exact h.elim
  | .b p, c, K, Q, env, w, hK, h => by
    cases c with
    | block id a =>
      refine wpIn_block (evI_sound p a _ _ env w ?_ h)
      intro e env' w' hk hag
      cases e with
      | exit id' =>
        simp only at hk
        simp only [Exit.inBlock]
        split at hk
        · rename_i hh; rw [if_pos (by simpa using hh)]; exact hK _ _ _ hk hag
        · rename_i hh; rw [if_neg (by simpa using hh)]; exact hK _ _ _ hk hag
      | normal => exact hK _ _ _ hk hag
      | goto l => exact hK _ _ _ hk hag
      | ret => exact hK _ _ _ hk hag
      | panic ch => exact hK _ _ _ hk hag
      | outgrown => exact hK _ _ _ hk hag
    | _ => exact h.elim
  | .l ss p, c, K, Q, env, w, hK, h => by
    cases c with
    | loop a =>
      simp only [evI] at h
      split at h
      · rename_i hin
        obtain ⟨I, μ, h0, h1⟩ := h
        split at h0
        · rename_i xs0 hu0
          have e0 : act ds env = act ds (reb (writes a) (slotVal ss xs0) (fun i => (env.getD i u0).val) 0 env) := (reb_act (Ag.refl _ _) hu0).symm
          rw [e0]
          refine wpIn_loop_typed (σ := TS ss × (Nat → Value)) (fun s => act ds (reb (writes a) (slotVal ss s.1) s.2 0 env)) (fun s w => ap ss I s.1 w) (fun s w => ap ss μ s.1 w) ?_ (xs0, fun i => (env.getD i u0).val) w h0
          rintro ⟨xs, g⟩ w' hI
          have hag0 : Ag (writes a) env (reb (writes a) (slotVal ss xs) g 0 env) := reb_ag (slotsIn_spec hin xs)
          refine evI_sound p a _ _ _ w' ?_ (h1.out xs w' hI g)
          intro e env' w2 hk hag
          have hag' : Ag (writes a) env env' := hag0.trans hag
          cases e with
          | normal =>
            simp only at hk
            split at hk
            · rename_i ys hu
              exact ⟨(ys, fun i => (env'.getD i u0).val), (reb_act hag' hu).symm, hk.1, hk.2⟩
            · exact hk.elim
          | exit id => exact hK _ _ _ hk hag'
          | goto l => exact hK _ _ _ hk hag'
          | ret => exact hK _ _ _ hk hag'
          | panic ch => exact hK _ _ _ hk hag'
          | outgrown => exact hK _ _ _ hk hag'
        · exact h0.elim
      · exact h.elim
    | _ => exact h.elim
  | .g _ _, _, _, _, _, _, _, h => h.elim
  | .x _ _, _, _, _, _, _, _, h => h.elim
  | .j _ _ _, _, _, _, _, _, _, h => h.elim
end
def VCI (P : Program) (fn : Func) (pl : Pl) (r : Rs) (args : List Value) (w : World) (K : r.T → World → Prop) (Kp : List PanicEntry → World → Prop) : Prop :=
  evI P pl (code fn) (top P fn.results.toList r K Kp) (args.map EV.v ++ List.replicate (fn.ntmps - args.length) u0) w
/-- A call of a function that calls yield. -/
theorem callI_of {P : Program} {f : FuncId} {fn : Func} (hf : P.funcs[f]? = some fn) (hb : fn.body.isSome = true) {pl : Pl} {r : Rs} (hr : r.fine = true) {args : List Value} {w : World} {K : r.T → World → Prop}
    (h : VCI P fn pl r args w K noP) : CallT r P f args w K := by
  obtain ⟨c, hc⟩ := Option.isSome_iff_exists.1 hb
  have hcode : code fn = c := by simp [code, hc]
  unfold VCI at h
  rw [hcode] at h
  refine calls_of_rd (r := none) (n := 0) (callsIn_of_wp hf hc trivial ?_)
  have he : act [] (args.map EV.v ++ List.replicate (fn.ntmps - args.length) u0) = { tmps := args.toArray ++ Array.replicate (fn.ntmps - args.toArray.size) undef, defers := [] } := by
    simp only [act, Act.mk.injEq, and_true]
    rw [← Array.toList_inj]
    have e2 : (EV.val ∘ EV.v) = id := rfl
    simp [u0, EV.val, e2]
  rw [← he]
  refine evI_sound pl c _ _ _ w ?_ h
  intro e env' w' hk _
  cases e with
  | normal =>
    obtain ⟨x, hx, hr⟩ := results_run (ds := []) hr hk
    exact ⟨rfl, _, hr, ⟨x, rfl, hx⟩⟩
  | ret =>
    obtain ⟨x, hx, hr⟩ := results_run (ds := []) hr hk
    exact ⟨rfl, _, hr, ⟨x, rfl, hx⟩⟩
  | panic ch => exact hk.elim
  | exit id => exact hk.elim
  | goto l => exact hk.elim
  | outgrown => exact hk.elim
/-- Whatever lies from H on lies as it lay. -/
def KeepsHi (H : Nat) (A B : World) : Prop := A.heap.size ≤ B.heap.size ∧ ∀ k, H ≤ k → k < A.heap.size → B.heap[k]? = A.heap[k]?
theorem KeepsHi.refl (H : Nat) (A : World) : KeepsHi H A A := ⟨Nat.le_refl _, fun _ _ _ => rfl⟩
theorem KeepsHi.trans {H : Nat} {A B C : World} (h : KeepsHi H A B) (k : KeepsHi H B C) : KeepsHi H A C := ⟨Nat.le_trans h.1 k.1, fun i hi hl => (k.2 i hi (Nat.lt_of_lt_of_le hl h.1)).trans (h.2 i hi hl)⟩
def bPost {α : Type} (H : Nat) (I Ix : List α → World → Prop) (xs : List α) (W : World) : Exit → Act → World → Prop
  | .normal, _, W' => Below W.heap.size W W' ∧ I xs W'
  | .ret, _, W' => KeepsHi H W W' ∧ Ix xs W'
  | _, _, _ => False
theorem below_putObj {H : Nat} {W : World} {l : Nat} {o : Obj} (hl : H ≤ l) : Below H W (W.putObj l o) :=
  ⟨rfl, rfl, rfl, by simp, fun k hk => World.putObj_heap_other (by omega)⟩
/-- A range over a function whose iterator may write what it has laid itself. -/
theorem rf_law {α : Type} {P : Program} {n : Nat} {g : Operand} {ps : Array Tmp} {assign body : Code} {Q : Exit → Act → World → Prop} {a : Act} {w : World} {gf : Nat} {lb : Array Value}
    (hg : a.eval g = .func (.func gf) #[] lb) (eg : ∀ args w, (callFunc gf args).run P w = .ok (.enter gf args) w) {encs : α → Array Value} (hps : ∀ x, (encs x).size = ps.size) (ok : α → Prop)
    (I Ix : List α → World → Prop) (hI : ∀ s A B, I s A → Below w.heap.size A B → I s B) (hIx : ∀ s A B, Ix s A → Below w.heap.size A B → Ix s B) (h0 : I [] w) (xs : List α) (a₁ : α → Act)
    (hseq : ∀ (l : Nat) (W : World) (J Jx : List α → World → Prop), Below w.heap.size w W → W.heap.size = w.heap.size + 2 → (∀ s A B, J s A → Below W.heap.size A B → J s B) → (∀ s A B, Jx s A → Below W.heap.size A B → Jx s B) →
      (∀ pre x W1, ok x → J pre W1 → W.heap.size ≤ W1.heap.size → YieldAt Fence.wide 0 P l (encs x) W1 fun e W' => (e = .returned (.bool true) ∧ J (pre ++ [x]) W' ∧ Below W1.heap.size W1 W') ∨ (e = .returned (.bool false) ∧ Jx (pre ++ [x]) W')) → J [] W →
      Calls P gf (#[.func (.yield l) #[] #[]] ++ lb) W fun e W' => (∃ v, e = .returned v) ∧ (J xs W' ∨ ∃ pre, pre <+: xs ∧ Jx pre W'))
    (hassign : ∀ (l : Nat) (x : α) (W : World) (K : Act → World → Prop), K (a₁ x) W → assign.wpIn (Rd (some l)) 0 P (Exit.then K (fun _ _ _ => False)) { tmps := (ps.zip (encs x)).foldl (fun t (p, v) => t.setIfInBounds p v) a.tmps, defers := [] } W)
    (hbody : ∀ (l : Nat) (pre : List α) (x : α) (W : World), ok x → I pre W → w.heap.size + 2 ≤ W.heap.size → body.wpIn (Rd (some l)) 0 P (bPost w.heap.size I Ix (pre ++ [x]) W) (a₁ x) W)
    (hdone : ∀ W, I xs W → W.heap[w.heap.size]? = some (.deferred (some [])) → Q .normal { a with defers := { target := .collected w.heap.size, args := #[] } :: a.defers } W)
    (hstop : ∀ pre W, pre <+: xs → Ix pre W → W.heap[w.heap.size]? = some (.deferred (some [])) → Q .ret { a with defers := { target := .collected w.heap.size, args := #[] } :: a.defers } W) :
    (Code.rangeFunc g ps assign body).wpIn Fence.wide n P Q a w := by
  refine wpIn_rangeFunc ?_
  intro fn hfn
  obtain ⟨rec, hrec⟩ : ∃ rec : LoopState → Option Code → Loop, rec = fun st pe => { state := st, pending := pe, fn, tmps := a.tmps, params := ps, assign, body, defers := w.heap.size } := ⟨_, rfl⟩
  obtain ⟨W1, hW1⟩ : ∃ W1, (w.alloc (.deferred (some []))).alloc (.loop (rec .ready none)) = W1 := ⟨_, rfl⟩
  have hL1 : W1.heap[w.heap.size + 1]? = some (.loop (rec .ready none)) := by
    rw [← hW1]; have := World.alloc_heap_new (w.alloc (.deferred (some []))) (.loop (rec .ready none)); rwa [World.size_alloc] at this
  have hK1 : W1.heap[w.heap.size]? = some (.deferred (some [])) := by
    rw [← hW1]; exact (Below.heap_alloc _ _ _ (by simp)).trans (World.alloc_heap_new w _)
  have hb1 : Below w.heap.size w W1 := by
    rw [← hW1]; exact ((Below.refl _ w).alloc (Nat.le_refl _) _).alloc (by simp) _
  have hs1 : W1.heap.size = w.heap.size + 2 := by rw [← hW1]; simp
  have hI1 : I [] W1 := hI _ _ _ h0 hb1
  refine ⟨w.heap.size + 1, [{ target := .collected w.heap.size, args := #[] }], W1, { target := .fn (.func gf) lb, args := #[.func (.yield (w.heap.size + 1)) #[] #[]] }, W1, gf,
    #[.func (.yield (w.heap.size + 1)) #[] #[]] ++ lb, W1, ?_, ?_, fun _ _ => trivial, ?_, fun hh => by simp [Fence.wide] at hh, ?_⟩
  · rw [← hW1, hrec]; exact run_enterLoop_outer _ _ _ _ _
  · simp only [resolve, hg]
    simp [go_sem]
  · simp [invoke, go_sem, eg]
  · have kb : ∀ {k : Nat} {o : Obj} {A B : World}, k < W1.heap.size → A.heap[k]? = some o → Below W1.heap.size A B → B.heap[k]? = some o := fun hk h hab => (hab.block _ hk).trans h
    refine (callsIn_rd (r := none) (hseq (w.heap.size + 1) W1
      (fun pre W => I pre W ∧ W.heap[w.heap.size + 1]? = some (.loop (rec .ready none)) ∧ W.heap[w.heap.size]? = some (.deferred (some [])))
      (fun pre W => Ix pre W ∧ W.heap[w.heap.size + 1]? = some (.loop (rec .done (some .ret))) ∧ W.heap[w.heap.size]? = some (.deferred (some [])))
      hb1 hs1 (fun s A B h hab => ⟨hI _ _ _ h.1 (hab.mono (by omega)), kb (by omega) h.2.1 hab, kb (by omega) h.2.2 hab⟩) (fun s A B h hab => ⟨hIx _ _ _ h.1 (hab.mono (by omega)), kb (by omega) h.2.1 hab, kb (by omega) h.2.2 hab⟩) ?_ ⟨hI1, hL1, hK1⟩) : CallsIn Fence.wide (n - 1) P gf _ W1 _).mono ?_
    · -- one round
      rintro pre x W hok ⟨hi, hl, hk⟩ hW
      have hlt : w.heap.size + 1 < W.heap.size := (Array.getElem?_eq_some_iff.1 hl).1
      have hy := run_yield (P := P) (args := encs x) hl (by rw [hrec]; exact hps x)
      rw [hrec] at hy
      refine ⟨fn, _, assign, body, hy, roundIn_of_wpIn hfn (hassign _ x W _ ?_)⟩
      clear hy
      refine ⟨_, run_beginRound hl (by rw [hrec]), ?_⟩
      have hl2 : (W.putObj (w.heap.size + 1) (.loop { rec .ready none with state := .busy })).heap[w.heap.size + 1]? = some (.loop { rec .ready none with state := .busy }) := World.putObj_heap_same hlt
      have hk2 : (W.putObj (w.heap.size + 1) (.loop { rec .ready none with state := .busy })).heap[w.heap.size]? = some (.deferred (some [])) := (World.putObj_heap_other (by omega)).trans hk
      refine wpIn_mono (hbody _ pre x _ hok (hI _ _ _ hi (below_putObj (by omega))) (by simp; omega)) ?_
      have fin : ∀ (jump : Option Code) (W3 : World), KeepsHi w.heap.size (W.putObj (w.heap.size + 1) (.loop { rec .ready none with state := .busy })) W3 →
          (Instr.endRound (w.heap.size + 1) jump).run P W3 = .ok (.bool jump.isNone) (W3.putObj (w.heap.size + 1) (.loop (rec (if jump.isNone then .ready else .done) jump))) ∧
          (W3.putObj (w.heap.size + 1) (.loop (rec (if jump.isNone then .ready else .done) jump))).heap[w.heap.size + 1]? = some (.loop (rec (if jump.isNone then .ready else .done) jump)) ∧
          (W3.putObj (w.heap.size + 1) (.loop (rec (if jump.isNone then .ready else .done) jump))).heap[w.heap.size]? = some (.deferred (some [])) := fun jump W3 hk3 => by
        have hsz : (W.putObj (w.heap.size + 1) (.loop { rec .ready none with state := .busy })).heap.size = W.heap.size := by simp
        have hl3 := (hk3.2 _ (by omega) (by omega)).trans hl2
        have hd3 := (hk3.2 _ (Nat.le_refl _) (by omega)).trans hk2
        have hlt3 := (Array.getElem?_eq_some_iff.1 hl3).1
        have := run_endRound (P := P) jump hl3
        rw [hrec] at this ⊢
        exact ⟨this, World.putObj_heap_same hlt3, (World.putObj_heap_other (by omega)).trans hd3⟩
      rintro e a3 W3 hp
      cases e with
      | normal =>
        obtain ⟨hb3, hi3⟩ := hp
        have hsz : (W.putObj (w.heap.size + 1) (.loop { rec .ready none with state := .busy })).heap.size = W.heap.size := by simp
        obtain ⟨hr, hl4, hk4⟩ := fin none W3 ⟨hb3.size, fun k _ hk => hb3.block k (by simpa using hk)⟩
        refine ⟨_, _, hr, .inl ⟨rfl, ⟨hI _ _ _ hi3 (below_putObj (by omega)), hl4, hk4⟩, hb3.os, hb3.tape, hb3.output, by have := hb3.size; simp only [World.putObj_size] at this ⊢; exact this, fun k hk => ?_⟩⟩
        by_cases e : k = w.heap.size + 1
        · rw [e]; exact hl4.trans hl.symm
        · rw [World.putObj_heap_other e, hb3.block k (by simpa using hk), World.putObj_heap_other e]
      | ret =>
        obtain ⟨hk3, hi3⟩ := hp
        obtain ⟨hr, hl4, hk4⟩ := fin (some .ret) W3 hk3
        exact ⟨_, _, hr, .inr ⟨rfl, hIx _ _ _ hi3 (below_putObj (by omega)), hl4, hk4⟩⟩
      | exit id => exact hp.elim
      | goto t => exact hp.elim
      | panic ch => exact hp.elim
      | outgrown => exact hp.elim
    · -- behind the iterator
      rintro e W2 ⟨⟨v, rfl⟩, (⟨hi, hl, hk⟩ | ⟨pre, hSp, hi, hl, hk⟩)⟩
      · exact ⟨none, _, by have := run_endLoop (P := P) hl (by rw [hrec]; simp); rw [hrec] at this; exact this, hdone _ (hI _ _ _ hi (below_putObj (by omega))) ((World.putObj_heap_other (by omega)).trans hk)⟩
      · exact ⟨some .ret, _, by have := run_endLoop (P := P) hl (by rw [hrec]; simp); rw [hrec] at this; exact this, wpIn_ret (hstop pre _ hSp (hIx _ _ _ hi (below_putObj (by omega))) ((World.putObj_heap_other (by omega)).trans hk))⟩
theorem enters_ok {P : Program} {f : FuncId} (hc : callable P f = true) (args : Array Value) (w : World) : (callFunc f args).run P w = .ok (.enter f args) w := by
  unfold callable at hc
  split at hc
  · rename_i fn hfn
    simp only [Bool.and_eq_true, Bool.not_eq_true', beq_eq_false_iff_ne] at hc
    have hb : fn.body ≠ none := by intro hh; simp [hh] at hc
    simp [callFunc, hfn, hc.2, hb]
  · simp at hc
/-- A call of a function that holds a range over a function. -/
theorem callM_of {P : Program} {f : FuncId} {fn : Func} {c : Code} (hf : P.funcs[f]? = some fn) (hb : fn.body = some c) {r : Rs} {args : List Value} {w : World} {K : r.T → World → Prop}
    (h : c.wpIn (Rd none) 0 P (bodyPostM (Rd none) 0 P fn (fun e w' => ∃ x, e = .returned (r.emb x) ∧ K x w')) (act [] (args.map EV.v ++ List.replicate (fn.ntmps - args.length) u0)) w) : CallT r P f args w K := by
  refine calls_of_rd (r := none) (n := 0) (callsIn_of_wp_marks hf hb trivial ?_)
  have he : act [] (args.map EV.v ++ List.replicate (fn.ntmps - args.length) u0) = { tmps := args.toArray ++ Array.replicate (fn.ntmps - args.toArray.size) undef, defers := [] } := by
    simp only [act, Act.mk.injEq, and_true]
    rw [← Array.toList_inj]
    have e2 : (EV.val ∘ EV.v) = id := rfl
    simp [u0, EV.val, e2]
  rw [← he]
  exact h
/-- What goes on alone. -/
def nK (Kn : Env → World → Prop) : Exit → Env → World → Prop
  | .normal, env, w => Kn env w
  | _, _, _ => False
theorem step_seq {P : Program} {rr : Option Nat} {a b : Code} {pl : Pl} {env : Env} {ds : List Deferred} {w : World} {Q : Exit → Act → World → Prop} (h : evI P pl a (nK fun env' w' => b.wpIn (Rd rr) 0 P Q (act ds env') w') env w) :
    (Code.seq a b).wpIn (Rd rr) 0 P Q (act ds env) w :=
  wpIn_seq (evI_sound pl a _ _ env w (fun e env' w' h _ => by cases e with | normal => exact h | _ => exact h.elim) h)
theorem step_one {P : Program} {rr : Option Nat} {a : Code} {pl : Pl} {env : Env} {ds : List Deferred} {w : World} {K : Act → World → Prop} {Q : Exit → Act → World → Prop} (h : evI P pl a (nK fun env' w' => K (act ds env') w') env w) :
    a.wpIn (Rd rr) 0 P (Exit.then K Q) (act ds env) w :=
  evI_sound pl a _ _ env w (fun e env' w' h _ => by cases e with | normal => exact h | _ => exact h.elim) h
/-- The body of a round: it goes on, or it returns. -/
def bK (K : Bool → World → Prop) : Exit → Env → World → Prop
  | .normal, _, w => K true w
  | .ret, _, w => K false w
  | _, _, _ => False
theorem step_body {α : Type} {P : Program} {rr : Option Nat} {c : Code} {pl : Pl} {env : Env} {ds : List Deferred} {w : World} {H : Nat} {I Ix : List α → World → Prop} {xs : List α}
    (h : evI P pl c (bK fun t w' => match t with | true => Below w.heap.size w w' ∧ I xs w' | false => KeepsHi H w w' ∧ Ix xs w') env w) : c.wpIn (Rd rr) 0 P (bPost H I Ix xs w) (act ds env) w :=
  evI_sound pl c _ _ env w (fun e env' w' h _ => by cases e with | normal => exact h | ret => exact h | _ => exact h.elim) h
def cL : Code → Code | .seq a _ => a | c => c
def cR : Code → Code | .seq _ b => b | c => c
def cB : Code → Code | .block _ b => b | c => c
def cAs : Code → Code | .rangeFunc _ _ a _ => a | c => c
def cBd : Code → Code | .rangeFunc _ _ _ b => b | c => c
end Go.Proofs.YtihllippchgkgaaGreat.V
