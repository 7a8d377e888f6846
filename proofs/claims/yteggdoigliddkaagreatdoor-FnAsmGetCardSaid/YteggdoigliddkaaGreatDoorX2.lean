/- Texts of one proof, put together in build order by pack.py (the last one states what is proved). -/
import Derived.WalkKit
import Derived.Test.YteggdoigliddkaaGreatDoorProg
import Derived.Shelf.Strings.Builder1
import Derived.Shelf.Small.Bits
import Derived.Shelf.Small.Wraps
import Derived.Shelf.Strings.BuilderF
import Derived.Shelf.Strings.BuilderK
import Derived.Shelf.Utf8.RuneCount
import Derived.Shelf.Strconv.Atoi
import Derived.Shelf.Strconv.Itoa0
import Derived.Shelf.Strconv.Itoa1
import Derived.Shelf.LaysM
import Derived.Shelf.Strconv.Itoa2
import Derived.Shelf.Strconv.Itoa3
import Derived.Shelf.Strconv.AtoiErrFast
import Derived.Shelf.Strconv.ParseIntEmpty
import Derived.Shelf.Strconv.AtoiFail
import Derived.Shelf.Strconv.Clone
import Derived.Shelf.Strconv.SyntaxError
import Derived.Shelf.LaysC
import Derived.Shelf.Strconv.ToError
import Derived.Shelf.Strconv.Lower
import Derived.Shelf.Strconv.ParseUint10
import Derived.Shelf.Strconv.ParseUint10Empty
import Derived.Shelf.Strconv.ParseUint10Any
import Derived.Shelf.Strconv.ParseInt10
import Derived.Shelf.Strconv.AtoiLong
import Derived.Shelf.Strconv.AtoiInnerAll
import Derived.Shelf.Strconv.RangeError
import Derived.Shelf.Strconv.ToErrorRange
import Derived.Shelf.Strconv.AtoiAll
import Derived.Shelf.Strconv.ErrVarAll
import Derived.Shelf.Strconv.ParseUintEmpty
import Derived.Shelf.Strconv.ParseUint10b64
import Derived.Shelf.Strconv.ParseUint10b32
import Derived.Shelf.Strconv.ParseUint10b16
import Derived.Shelf.Strconv.ParseUint10b8
import Derived.Shelf.Strings.Search1
import Derived.Shelf.Strings.Search2
import Derived.Shelf.Strings.Search3
import Derived.Shelf.Strings.Cut
import Derived.Shelf.Strings.Count
import Derived.Shelf.Strings.Shaped
import Derived.Shelf.Sort.Plain
import Derived.Shelf.Strings.Prefix
import Derived.Shelf.Strings.Split
import Derived.Shelf.Strings.SplitShaped
import Derived.Shelf.Unicode.Decode
import Derived.Shelf.Strings.RuneCount
import Derived.Shelf.Strings.Explode
import Derived.Shelf.Unicode.DecodeSlow
import Derived.Shelf.Unicode.DecodeAny
import Derived.Shelf.Strings.BuilderCap
import Derived.Shelf.Slices.Turned
import Derived.Ground.Names2Prog
import Derived.Shelf.Slices.SearchI
import Derived.Shelf.Slices.In.SortNone
import Derived.Shelf.Slices.Empties
import Derived.ProofKit
import Derived.OpenShut
import Derived.ShutString
import Derived.ChangeOld
import Derived.Below
import Derived.SizedLaws
import Derived.Deep.Slices
import Derived.Lib.ItoaMem
import Derived.Lib.AtoiAllCases
import Derived.Lib.SplitLaws
import Derived.Lib.SlicesS
import Derived.Test.YteggdoigliddkaaGreatDoorX1
/- Words for memory: what a slice reads as, what a call owns, and how the printed conditions are met. -/
namespace Go.Proofs.YteggdoigliddkaaGreatDoor.V
open Go Go.RowKit

theorem add_mk (b o n : Nat) : Addr.add ⟨b, o, none⟩ n = ⟨b, o + n, none⟩ := by
  unfold Addr.add
  split
  · rename_i h; subst h; rfl
  · rfl
theorem i64_in {n : Int} (h0 : -9223372036854775808 ≤ n) (h1 : n ≤ 9223372036854775807) : IntKind.wrap .i64 n = n := by
  have := IntWalk.i64_in n (by omega)
  exact this

/-- A kind of element: its cells. -/
structure Kd (α : Type) where
  ls : List Lf
  t : α → Tup ls
def Kd.cells {α : Type} (k : Kd α) (x : α) : List Value := Tup.cells k.ls (k.t x)
theorem Kd.cells_length {α : Type} (k : Kd α) (x : α) : (k.cells x).length = k.ls.length := V.cells_length _ _
def kI : Kd Int := ⟨[.i .i64], fun x => (x, ())⟩
def kU8 : Kd Int := ⟨[.i .u8], fun x => (x, ())⟩
def kB : Kd Bool := ⟨[.b], fun x => (x, ())⟩
def kS : Kd ByteArray := ⟨[.s], fun x => (x, ())⟩
def kSl : Kd Sl := ⟨[.sl], fun x => (x, ())⟩

def At (w : World) (b o : Nat) (vs : List Value) : Prop := ∀ m v, vs[m]? = some v → w.cell? ⟨b, o + m, none⟩ = some v
theorem At.below {w w' : World} {b o : Nat} {vs : List Value} (h : At w b o vs) (hb : Below w.heap.size w w') : At w' b o vs := fun m v hv => by
  have h1 := h m v hv
  rw [hb.cell (World.block_lt_of_cell? w _ h1)]
  exact h1
/-- The slice reads as a list. -/
def SlR {α : Type} (k : Kd α) (w : World) (s : Sl) (xs : List α) : Prop :=
  s.n = xs.length ∧ s.n ≤ s.c ∧ s.c ≤ maxLen ∧ (xs = [] ∨ ∃ b o, s.a = some ⟨b, o, none⟩ ∧ ∀ i x, xs[i]? = some x → At w b (o + i * k.ls.length) (k.cells x))
theorem SlR.below {α : Type} {k : Kd α} {w w' : World} {s : Sl} {xs : List α} (h : SlR k w s xs) (hb : Below w.heap.size w w') : SlR k w' s xs := by
  refine ⟨h.1, h.2.1, h.2.2.1, ?_⟩
  rcases h.2.2.2 with h | ⟨b, o, ha, hx⟩
  · exact .inl h
  · exact .inr ⟨b, o, ha, fun i x hi => (hx i x hi).below hb⟩
theorem SlR.at {α : Type} {k : Kd α} {w : World} {s : Sl} {xs : List α} (h : SlR k w s xs) {i : Nat} {x : α} (hx : xs[i]? = some x) :
    ∃ b o, s.a = some ⟨b, o, none⟩ ∧ At w b (o + i * k.ls.length) (k.cells x) := by
  rcases h.2.2.2 with h | ⟨b, o, ha, hh⟩
  · subst h; simp at hx
  · exact ⟨b, o, ha, hh i x hx⟩
theorem SlR.nil {α : Type} (k : Kd α) (w : World) : SlR k w ⟨none, 0, 0⟩ [] := ⟨rfl, Nat.le_refl _, by simp [maxLen], .inl rfl⟩
theorem SlR.len {α : Type} {k : Kd α} {w : World} {s : Sl} {xs : List α} (h : SlR k w s xs) : s.n = xs.length := h.1
theorem SlR.max {α : Type} {k : Kd α} {w : World} {s : Sl} {xs : List α} (h : SlR k w s xs) : xs.length ≤ 9223372036854775807 := by
  have h1 := h.1; have h2 := h.2.1; have h3 := h.2.2.1
  simp only [maxLen] at h3
  omega

section
variable {α : Type} {k : Kd α} {w : World} {s : Sl} {xs : List α} {i : Int} {x : α} {sz : Nat}
theorem ixR (h : SlR k w s xs) (hi : 0 ≤ i) (hx : xs[i.toNat]? = some x) (hsz : sz = k.ls.length) {K : Addr → World → Prop}
    (hk : ∀ b o, At w b o (k.cells x) → K ⟨b, o, none⟩ w) : Ix s.a s.n i sz w K := by
  obtain ⟨b, o, ha, hA⟩ := h.at hx
  have hl : i.toNat < xs.length := by
    rcases Nat.lt_or_ge i.toNat xs.length with h | h
    · exact h
    · simp [List.getElem?_eq_none h] at hx
  refine ⟨⟨b, o, none⟩, ha, hi, by rw [h.1]; omega, ?_⟩
  rw [add_mk, hsz]
  exact hk _ _ hA
theorem ixA (h : SlR k w s xs) (hi : 0 ≤ i) (hx : xs[i.toNat]? = some x) (hsz : sz = k.ls.length) {K : Tup k.ls → World → Prop}
    (hk : K (k.t x) w) : Ix s.a s.n i sz w (fun a w' => LdA k.ls a w' K) :=
  ixR h hi hx hsz fun b o hA => ⟨k.t x, fun j v hv => by rw [add_mk]; exact hA j v hv, hk⟩
theorem ixF (h : SlR k w s xs) (hi : 0 ≤ i) (hx : xs[i.toNat]? = some x) (hsz : sz = k.ls.length) {l : Lf} {v : l.T} {j : Nat} (hv : (k.cells x)[j]? = some (l.emb v)) {K : l.T → World → Prop}
    (hk : K v w) : Ix s.a s.n i sz w (fun a w' => Ld l (Addr.add a j) w' K) :=
  ixR h hi hx hsz fun b o hA => ⟨v, by rw [add_mk]; exact hA j _ hv, hk⟩
theorem ixL (h : SlR k w s xs) (hi : 0 ≤ i) (hx : xs[i.toNat]? = some x) (hsz : sz = k.ls.length) {l : Lf} {v : l.T} (hv : (k.cells x)[0]? = some (l.emb v)) {K : l.T → World → Prop}
    (hk : K v w) : Ix s.a s.n i sz w (fun a w' => Ld l a w' K) :=
  ixR h hi hx hsz fun b o hA => ⟨v, by have := hA 0 _ hv; simpa using this, hk⟩
variable {C : World → Prop}
theorem qix (h : SlR k w s xs) (hi : 0 ≤ i) (hx : xs[i.toNat]? = some x) (hsz : sz = k.ls.length) {K : Addr → Prop}
    (hk : ∀ b o, At w b o (k.cells x) → K ⟨b, o, none⟩) : QIx s.a s.n i sz K := by
  obtain ⟨b, o, ha, hA⟩ := h.at hx
  have hl : i.toNat < xs.length := by
    rcases Nat.lt_or_ge i.toNat xs.length with h | h
    · exact h
    · simp [List.getElem?_eq_none h] at hx
  refine ⟨⟨b, o, none⟩, ha, hi, by rw [h.1]; omega, ?_⟩
  rw [add_mk, hsz]
  exact hk _ _ hA
theorem qixA (h : SlR k w s xs) (hi : 0 ≤ i) (hx : xs[i.toNat]? = some x) (hsz : sz = k.ls.length) {K : Tup k.ls → Prop}
    (hk : K (k.t x)) : QIx s.a s.n i sz (fun a => QLdA k.ls a (fun w' => Below w.heap.size w w') K) :=
  qix h hi hx hsz fun b o hA => ⟨k.t x, fun w' hw' j v hv => by rw [add_mk]; exact (hA.below hw') j v hv, hk⟩
theorem qixL (h : SlR k w s xs) (hi : 0 ≤ i) (hx : xs[i.toNat]? = some x) (hsz : sz = k.ls.length) {l : Lf} {v : l.T} (hv : (k.cells x)[0]? = some (l.emb v)) {K : l.T → Prop}
    (hk : K v) : QIx s.a s.n i sz (fun a => QLd l a (fun w' => Below w.heap.size w w') K) :=
  qix h hi hx hsz fun b o hA => ⟨v, fun w' hw' => by have := (hA.below hw') 0 _ hv; simpa using this, hk⟩
theorem qixF (h : SlR k w s xs) (hi : 0 ≤ i) (hx : xs[i.toNat]? = some x) (hsz : sz = k.ls.length) {l : Lf} {v : l.T} {j : Nat} (hv : (k.cells x)[j]? = some (l.emb v)) {K : l.T → Prop}
    (hk : K v) : QIx s.a s.n i sz (fun a => QLd l (Addr.add a j) (fun w' => Below w.heap.size w w') K) :=
  qix h hi hx hsz fun b o hA => ⟨v, fun w' hw' => by rw [add_mk]; exact (hA.below hw') j _ hv, hk⟩
end

/-- A new block: known whole. -/
theorem nw {cs : Array Value} {t : TypeId} {w : World} {K : Addr → World → Prop}
    (hk : ∀ w', Below w.heap.size w w' → w'.heap.size = w.heap.size + 1 → w'.heap[w.heap.size]? = some (.cells cs t (0, 0)) → K ⟨w.heap.size, 0, none⟩ w') : Nw cs t w K :=
  hk _ ((Below.refl _ _).alloc (Nat.le_refl _) _) (by simp) (heap_alloc_new w _)
theorem cell_of {w : World} {b : Nat} {cs : Array Value} {t : TypeId} {f : Nat × Nat} (h : w.heap[b]? = some (.cells cs t f)) (j : Nat) : w.cell? ⟨b, j, none⟩ = cs[j]? := by
  simp [World.cell?, h]
theorem ldB {w : World} {b : Nat} {cs : Array Value} {t : TypeId} {f : Nat × Nat} (h : w.heap[b]? = some (.cells cs t f)) {j : Nat} {l : Lf} {x : l.T} (hx : cs[j]? = some (l.emb x)) {K : l.T → World → Prop} (hk : K x w) :
    Ld l (Addr.add ⟨b, 0, none⟩ j) w K := ⟨x, by rw [add_mk, cell_of h, Nat.zero_add]; exact hx, hk⟩
theorem ldB0 {w : World} {b : Nat} {cs : Array Value} {t : TypeId} {f : Nat × Nat} (h : w.heap[b]? = some (.cells cs t f)) {l : Lf} {x : l.T} (hx : cs[0]? = some (l.emb x)) {K : l.T → World → Prop} (hk : K x w) :
    Ld l ⟨b, 0, none⟩ w K := ⟨x, by rw [cell_of h]; exact hx, hk⟩
theorem ldAB {w : World} {b : Nat} {cs : Array Value} {t : TypeId} {f : Nat × Nat} (h : w.heap[b]? = some (.cells cs t f)) {ls : List Lf} {x : Tup ls} (hx : cs.toList = Tup.cells ls x) {K : Tup ls → World → Prop} (hk : K x w) :
    LdA ls ⟨b, 0, none⟩ w K := ⟨x, fun j v hv => by rw [add_mk, cell_of h, Nat.zero_add, ← Array.getElem?_toList, hx]; exact hv, hk⟩
theorem qldB {w : World} {b : Nat} {cs : Array Value} {t : TypeId} {f : Nat × Nat} (h : w.heap[b]? = some (.cells cs t f)) {j : Nat} {l : Lf} {x : l.T} (hx : cs[j]? = some (l.emb x)) {K : l.T → Prop} (hk : K x) :
    QLd l (Addr.add ⟨b, 0, none⟩ j) (fun w' => Below w.heap.size w w') K := ⟨x, fun w' hw' => by
      have hb : b < w.heap.size := (Array.getElem?_eq_some_iff.1 h).1
      rw [add_mk, cell_of ((hw'.block b hb).trans h), Nat.zero_add]; exact hx, hk⟩
theorem setCell_heap {w : World} {b j : Nat} {cs : Array Value} {t : TypeId} {f : Nat × Nat} (h : w.heap[b]? = some (.cells cs t f)) (v : Value) :
    (w.setCell ⟨b, j, none⟩ v).heap[b]? = some (.cells (cs.setIfInBounds j v) t f) := by
  simp [World.setCell, Array.getElem?_modify, h]
theorem grown_setCell (w : World) (b j : Nat) (v : Value) : w.grownBy (w.setCell ⟨b, j, none⟩ v) (some b) :=
  ⟨rfl, rfl, rfl, by simp, fun k hk hne => Below.heap_setCell _ _ _ _ (by simp at hne; simpa using hne)⟩
theorem stB {w : World} {b : Nat} {cs : Array Value} {t : TypeId} (h : w.heap[b]? = some (.cells cs t (0, 0))) {j : Nat} {v : Value} (hv : v.oneCell' = true) (hj : j < cs.size) {K : World → Prop}
    (hk : ∀ w', w.grownBy w' (some b) → w'.heap.size = w.heap.size → w'.heap[b]? = some (.cells (cs.setIfInBounds j v) t (0, 0)) → K w') : St (Addr.add ⟨b, 0, none⟩ j) v w K := by
  refine ⟨hv, ⟨cs[j], ?_⟩, ?_, ?_⟩
  · rw [add_mk, cell_of h]; simp [hj]
  · simp [add_mk, World.frozen?, h]
  · rw [add_mk, Nat.zero_add]
    exact hk _ (grown_setCell w b j v) (by simp) (setCell_heap h v)
theorem stB0 {w : World} {b : Nat} {cs : Array Value} {t : TypeId} (h : w.heap[b]? = some (.cells cs t (0, 0))) {v : Value} (hv : v.oneCell' = true) (hj : 0 < cs.size) {K : World → Prop}
    (hk : ∀ w', w.grownBy w' (some b) → w'.heap.size = w.heap.size → w'.heap[b]? = some (.cells (cs.setIfInBounds 0 v) t (0, 0)) → K w') : St ⟨b, 0, none⟩ v w K := by
  have := stB h hv hj hk
  rwa [add_mk] at this
theorem run_storeCells_at' (P : Program) {b : Nat} {t : TypeId} : ∀ (vs : List Value) (i : Nat) (pre post : List Value) (w : World), (∀ v ∈ vs, v.oneCell' = true) → i = pre.length → post.length = vs.length →
    w.heap[b]? = some (.cells (pre ++ post).toArray t (0, 0)) → ∃ w', (storeCells ⟨b, 0, none⟩ vs i).run P w = .ok () w' ∧ w.grownBy w' (some b) ∧ w'.heap.size = w.heap.size ∧ w'.heap[b]? = some (.cells (pre ++ vs).toArray t (0, 0))
  | [], i, pre, post, w, _, _, hl, h => by
    have : post = [] := List.eq_nil_of_length_eq_zero (by simpa using hl)
    subst this
    exact ⟨w, by simp [storeCells], ⟨rfl, rfl, rfl, Nat.le_refl _, fun _ _ _ => rfl⟩, rfl, h⟩
  | v :: vs, i, pre, post, w, h1, hi, hl, h => by
    match post, hl with
    | p :: post, hl =>
      have hv := h1 v List.mem_cons_self
      have hc : w.cell? ⟨b, i, none⟩ = some p := by rw [cell_of h]; simp [hi]
      have hfz : w.frozen? ⟨b, i, none⟩ = false := by simp [World.frozen?, h]
      have hs : (store ⟨b, i, none⟩ v).run P w = .ok () (w.setCell ⟨b, i, none⟩ v) := by simp [run_store P w _ v .plain hv, hc, hfz]
      have hset : (w.setCell ⟨b, i, none⟩ v).heap[b]? = some (.cells (pre ++ [v] ++ post).toArray t (0, 0)) := by
        rw [setCell_heap h v]
        simp [hi]
      obtain ⟨w', hr, hg, hsz, hh⟩ := run_storeCells_at' P vs (i + 1) (pre ++ [v]) post (w.setCell ⟨b, i, none⟩ v) (fun u hu => h1 u (List.mem_cons_of_mem _ hu)) (by simp [hi]) (by simpa using hl) (by simpa using hset)
      refine ⟨w', ?_, ?_, ?_, by simpa using hh⟩
      · simp only [storeCells, Sem.run_bind, add_mk, Nat.zero_add, hs, Result.andThen_ok, hr]
      · have g0 := grown_setCell w b i v
        exact ⟨hg.os.trans g0.os, hg.tape.trans g0.tape, hg.output.trans g0.output, Nat.le_trans g0.size hg.size, fun k hk hne => (hg.block k (by simpa using hk) hne).trans (g0.block k hk hne)⟩
      · rw [hsz]; simp
theorem oneCell_emb : ∀ (l : Lf) (x : l.T), (l = .any → False) → (l.emb x).oneCell' = true
  | .i _, _, _ => rfl
  | .b, _, _ => rfl
  | .s, _, _ => rfl
  | .sl, _, _ => rfl
  | .p, _, _ => rfl
  | .ad, _, _ => rfl
  | .m, _, _ => rfl
  | .any, _, h => (h rfl).elim
  | .fn _ _, _, _ => rfl
  | .yl, _, _ => rfl
/-- A struct is copied into a new variable. -/
theorem nwSt {cs vs : List Value} {z : Array Value} {t : TypeId} {w : World} {P : Program} {K : Addr → World → Prop} (hz : z.toList.length = vs.length) (h1 : ∀ v ∈ vs, v.oneCell' = true)
    (hk : ∀ w', Below w.heap.size w w' → w'.heap.size = w.heap.size + 1 → w'.heap[w.heap.size]? = some (.cells vs.toArray t (0, 0)) → K ⟨w.heap.size, 0, none⟩ w') (_ : cs = vs := by rfl) :
    Nw z t w (fun a w' => StA P a vs w' (K a)) := by
  refine nw fun w1 hb hs hc => ?_
  obtain ⟨w', hr, hg, hsz, hh⟩ := run_storeCells_at' P (b := w.heap.size) (t := t) vs 0 [] z.toList w1 h1 rfl hz (by simpa using hc)
  refine ⟨w', hr, hk w' (hb.grown hg (by omega) (fun k hk => by simp only [Option.some.injEq] at hk; omega)) (by omega) (by simpa using hh)⟩

/-- What the call itself owns, as a list. -/
def OwnS {α : Type} (k : Kd α) (t : TypeId) (B : Nat) (w : World) (s : Sl) (xs : List α) : Prop :=
  s.n = xs.length ∧ w.ownsRow B t k.ls.length (.slice s.a s.n s.c) s.n (xs.flatMap k.cells)
theorem flat_get {α : Type} (k : Kd α) : ∀ (xs : List α) (i : Nat) (x : α), xs[i]? = some x → ∀ j v, (k.cells x)[j]? = some v → (xs.flatMap k.cells)[i * k.ls.length + j]? = some v
  | [], i, x, h, _, _, _ => by simp at h
  | y :: ys, 0, x, h, j, v, hv => by
    simp only [List.getElem?_cons_zero, Option.some.injEq] at h
    subst h
    have hj : j < (k.cells y).length := by
      rcases Nat.lt_or_ge j (k.cells y).length with h | h
      · exact h
      · simp [List.getElem?_eq_none h] at hv
    simp [List.getElem?_append_left hj, hv]
  | y :: ys, i + 1, x, h, j, v, hv => by
    have := flat_get k ys i x (by simpa using h) j v hv
    have hl := k.cells_length y
    rw [List.flatMap_cons, List.getElem?_append_right (by rw [hl, Nat.succ_mul]; omega), hl]
    rw [show (i + 1) * k.ls.length + j - k.ls.length = i * k.ls.length + j by rw [Nat.succ_mul]; omega]
    exact this
theorem flat_length {α : Type} (k : Kd α) : ∀ xs : List α, (xs.flatMap k.cells).length = xs.length * k.ls.length
  | [] => by simp
  | x :: xs => by simp [flat_length k xs, k.cells_length, Nat.succ_mul, Nat.add_comm]
section
variable {α : Type} {k : Kd α} {t : TypeId} {B : Nat} {w : World} {s : Sl} {xs : List α}
theorem OwnS.len (h : OwnS k t B w s xs) : s.n = xs.length := h.1
theorem OwnS.cap (h : OwnS k t B w s xs) : s.n ≤ s.c ∧ s.c ≤ maxLen := by
  rcases h.2.2 with ⟨hv, hn⟩ | ⟨g, cap, cur, hv, _, _, hnc, hcm, _⟩
  · simp only [Value.slice.injEq] at hv; rw [hv.2.1, hv.2.2]; simp
  · simp only [Value.slice.injEq] at hv; rw [hv.2.2]; exact ⟨hnc, hcm⟩
theorem OwnS.read (h : OwnS k t B w s xs) : SlR k w s xs := by
  refine ⟨h.1, h.cap.1, h.cap.2, ?_⟩
  rcases h.2.2 with ⟨hv, hn⟩ | ⟨g, cap, cur, hv, _⟩
  · simp only [Value.slice.injEq] at hv
    left
    exact List.eq_nil_of_length_eq_zero (by rw [← h.1]; exact hn)
  · simp only [Value.slice.injEq] at hv
    right
    refine ⟨g, 0, hv.1, fun i x hi j v hj => ?_⟩
    have := h.2.cells (g := g) (by rw [hv.1]; rfl) _ _ (flat_get k xs i x hi j v hj)
    rw [add_mk, ← Nat.add_assoc] at this
    exact this
theorem OwnS.kept {w' : World} {row : Option Nat} (h : OwnS k t B w s xs) (hg : w.grownBy w' row) (hne : ∀ b, row = some b → (Value.slice s.a s.n s.c).ownBlock ≠ some b) : OwnS k t B w' s xs :=
  ⟨h.1, h.2.kept hg (by
    cases row with
    | none => cases (Value.slice s.a s.n s.c).ownBlock <;> simp
    | some b => exact .inr (hne b rfl))⟩
theorem grown_of_below {w w' : World} (h : Below w.heap.size w w') : w.grownBy w' none := ⟨h.os, h.tape, h.output, h.size, fun k hk _ => h.block k hk⟩
theorem OwnS.below {w' : World} (h : OwnS k t B w s xs) (hb : Below w.heap.size w w') : OwnS k t B w' s xs := h.kept (grown_of_below hb) (by simp)
theorem OwnS.low {B' : Nat} (h : OwnS k t B w s xs) (hB : B' ≤ B) : OwnS k t B' w s xs := by
  refine ⟨h.1, h.2.1, ?_⟩
  rcases h.2.2 with h1 | ⟨g, cap, cur, hv, hb, r⟩
  · exact .inl h1
  · exact .inr ⟨g, cap, cur, hv, Nat.le_trans hB hb, r⟩
theorem OwnS.nil (k : Kd α) (t : TypeId) (B : Nat) (w : World) : OwnS k t B w ⟨none, 0, 0⟩ [] := ⟨rfl, World.ownsRow_nil _ _ _ _⟩
/-- A slice literal of so many elements. -/
theorem OwnS.lit {w' : World} {cs : Array Value} {n : Nat} (hB : B ≤ w.heap.size) (hh : w'.heap[w.heap.size]? = some (.cells cs t (0, 0))) (hn : n = xs.length) (hc : cs.toList = xs.flatMap k.cells) (hm : n ≤ maxLen) :
    OwnS k t B w' ⟨some ⟨w.heap.size, 0, none⟩, n, n⟩ xs := by
  have hs : cs.size = n * k.ls.length := by rw [← Array.length_toList, hc, flat_length, hn]
  refine ⟨hn, by rw [flat_length, hn], .inr ⟨w.heap.size, n, cs, rfl, hB, hh, Nat.le_refl _, hm, hs, ?_⟩⟩
  rw [← hc, List.take_of_length_le (by rw [Array.length_toList, hs]; exact Nat.le_refl _)]
theorem OwnS.blk (h : OwnS k t B w s xs) {b : Nat} (hb : (Value.slice s.a s.n s.c).ownBlock = some b) : B ≤ b ∧ b < w.heap.size := h.2.lt b hb

theorem oneCell_cells (k : Kd α) (hk : ∀ l ∈ k.ls, l ≠ .any) (x : α) : ∀ v ∈ k.cells x, v.oneCell' = true := by
  unfold Kd.cells
  generalize k.t x = t
  revert hk t
  generalize k.ls = ls
  intro hk t
  induction ls with
  | nil => intro v hv; simp [Tup.cells] at hv
  | cons l ls ih =>
    intro v hv
    simp only [Tup.cells, List.mem_cons] at hv
    rcases hv with rfl | hv
    · exact oneCell_emb l t.1 (fun e => hk l List.mem_cons_self e)
    · exact ih (fun l' hl' => hk l' (List.mem_cons_of_mem _ hl')) t.2 v hv
/-- An element type's row of the table. -/
structure El (P : Program) (tS t : TypeId) (k : Kd α) (bytes : Nat) : Prop where
  elem : P.underlying tS = some (.slice t)
  info : ∃ i z, P.info? t = some i ∧ i.zero = some z ∧ i.size = k.ls.length ∧ i.bytes = bytes ∧ z.cells.size = k.ls.length
  pos : 0 < k.ls.length
  one : ∀ l ∈ k.ls, l ≠ .any
/-- Where the appended row lies: where the old one lay, or in new memory. -/
theorem append_blk {P : Program} {w : World} {base : Nat} {tS tR e : TypeId} {i : TypeInfo} {z : Value} {size bytes : Nat} (ht : P.underlying tS = some (.slice e)) (hi : P.info? e = some i) (hz : i.zero = some z) (hsize : i.size = size) (hby : i.bytes = bytes)
    {v : Value} {n : Nat} {xs : List Value} (hown : w.ownsRow base e size v n xs) {a : Addr} {m c : Nat} {news : List Value} (hl : news.length = m * size) (hnews : ∀ j u, news[j]? = some u → w.cell? (a.add j) = some u) (h1 : ∀ u ∈ news, u.oneCell' = true)
    (h63 : n + m ≤ maxLen) (hbytes : (n + m) * bytes ≤ 140737488355328) (h0 : 0 < m) {v' : Value} {w' : World} (hr : (Builtin.append_ #[tS, tS] tR #[v, .slice (some a) m c]).run P w = .ok v' w') :
    v'.ownBlock = v.ownBlock ∨ v'.ownBlock = some w.heap.size := by
  subst hsize hby
  have hsmall : n + m ≤ 9223372036854775807 := by simp only [maxLen] at h63; omega
  rcases hown.2 with ⟨rfl, rfl⟩ | ⟨g, cap, cur, rfl, hbg, hg, hnc, hcm, hcs, htake⟩
  · have := run_append_nil (P := P) w tS tR e i z ht hi hz a m c news hl hnews h0 (by omega) (by have hb := hbytes; simp only [Nat.zero_add] at hb; omega)
    rw [this] at hr
    simp only [Result.ok.injEq] at hr
    right; rw [← hr.1]; rfl
  · by_cases hroom : n + m ≤ cap
    · have hfit : n * i.size + news.length ≤ cur.size := by rw [hl, hcs, ← Nat.add_mul]; exact Nat.mul_le_mul_right _ hroom
      have := run_append_room (P := P) w tS tR e i ht hi g n cap cur hg a m c news hl hnews h1 hroom hfit
      rw [this] at hr
      simp only [Result.ok.injEq] at hr
      left; rw [← hr.1]; rfl
    · have holds : ∀ j u, xs[j]? = some u → w.cell? ((⟨g, 0, none⟩ : Addr).add j) = some u := hown.cells (g := g) rfl
      have := run_append_grow (P := P) w tS tR e i z ht hi hz ⟨g, 0, none⟩ n cap xs hown.1 holds a m c news hl hnews (by omega) (by omega) (growslice_fits (by omega) hbytes)
      rw [this] at hr
      simp only [Result.ok.injEq] at hr
      right; rw [← hr.1]; rfl
/-- append of a slice that can be read onto one that the call owns. -/
theorem apS {P : Program} {tS tR : TypeId} {bytes : Nat} (hE : El P tS t k bytes) (h : OwnS k t B w s xs) {x : Sl} {ys : List α} (hx : SlR k w x ys) (hb : (xs.length + ys.length) * bytes ≤ 140737488355328) (hm : xs.length + ys.length ≤ 140737488355328) (hB : B ≤ w.heap.size) {K : Sl → World → Prop}
    (hk : ∀ s' w', OwnS k t B w' s' (xs ++ ys) → w.grownBy w' (Value.slice s.a s.n s.c).ownBlock → (s'.a = none → xs = [] ∧ ys = []) → (∀ b, (Value.slice s'.a s'.n s'.c).ownBlock = some b → (Value.slice s.a s.n s.c).ownBlock = some b ∨ w.heap.size ≤ b) → K s' w') :
    RunT (.o (.lf .sl)) P (Builtin.append_ #[tS, tS] tR #[.slice s.a s.n s.c, .slice x.a x.n x.c]) w K := by
  obtain ⟨i, z, hi, hz, hsz, hby, hzs⟩ := hE.info
  have hself : w.grownBy w (Value.slice s.a s.n s.c).ownBlock := ⟨rfl, rfl, rfl, Nat.le_refl _, fun _ _ _ => rfl⟩
  by_cases hne : ys = []
  · subst hne
    have hxn : x.n = 0 := by rw [hx.1]; rfl
    have hr : (Builtin.append_ #[tS, tS] tR #[.slice s.a s.n s.c, .slice x.a x.n x.c]).run P w = .ok (.slice s.a s.n s.c) w := by
      rw [hxn]
      have hc := h.cap
      cases hxa : x.a <;> cases hsa : s.a <;> simp [Builtin.append_, run_underlying hE.elem, sizeOf, typeInfo, hi, Builtin.lenOf, Builtin.firstCells, hc.1, storeCells, loadCells, loadCellsFrom]
    refine ⟨s, w, hr, hk s w (by simpa using h) hself ?_ (fun b hb => .inl hb)⟩
    intro ha
    refine ⟨?_, rfl⟩
    rcases h.2.2 with ⟨_, hn⟩ | ⟨g, cap, cur, hv, _⟩
    · exact List.eq_nil_of_length_eq_zero (by rw [← h.1]; exact hn)
    · simp only [Value.slice.injEq] at hv; rw [ha] at hv; simp at hv
  · rcases hx.2.2.2 with h0 | ⟨b, o, ha, hat⟩
    · exact absurd h0 hne
    · have hnews : ∀ j u, (ys.flatMap k.cells)[j]? = some u → w.cell? ((⟨b, o, none⟩ : Addr).add j) = some u := by
        intro j u hu
        have hjl : j < ys.length * k.ls.length := by
          rcases Nat.lt_or_ge j (ys.length * k.ls.length) with h | h
          · exact h
          · rw [List.getElem?_eq_none (by rw [flat_length]; exact h)] at hu; simp at hu
        have hq : j / k.ls.length < ys.length := Nat.div_lt_of_lt_mul (by rw [Nat.mul_comm]; exact hjl)
        have hr : j % k.ls.length < k.ls.length := Nat.mod_lt _ hE.pos
        have hy : ys[j / k.ls.length]? = some ys[j / k.ls.length] := List.getElem?_eq_getElem hq
        have hv : (k.cells ys[j / k.ls.length])[j % k.ls.length]? = some ((k.cells ys[j / k.ls.length])[j % k.ls.length]'(by rw [k.cells_length]; exact hr)) := List.getElem?_eq_getElem _
        have h1 := flat_get k ys _ _ hy _ _ hv
        have hj : j / k.ls.length * k.ls.length + j % k.ls.length = j := by rw [Nat.mul_comm]; exact Nat.div_add_mod _ _
        rw [hj, hu] at h1
        simp only [Option.some.injEq] at h1
        have h2 := hat _ _ hy _ _ hv
        rw [← h1, Nat.add_assoc, hj] at h2
        rw [add_mk]
        exact h2
      have h1 : ∀ u ∈ ys.flatMap k.cells, u.oneCell' = true := by
        intro u hu
        obtain ⟨y, _, hy⟩ := List.mem_flatMap.1 hu
        exact oneCell_cells k hE.one y u hy
      obtain ⟨v', w', hr, hown, hg, hnil⟩ := run_append_own (P := P) w B tS tR t i z k.ls.length bytes hE.elem hi hz hsz hby hzs hE.pos (.slice s.a s.n s.c) s.n (xs.flatMap k.cells) h.2
        ⟨b, o, none⟩ x.n x.c (ys.flatMap k.cells) (by rw [flat_length, hx.1]) hnews h1 (by rw [h.1, hx.1]; simp only [maxLen]; omega) (by rw [h.1, hx.1]; exact hb) hB
      have hshape : ∃ a c, v' = .slice a (s.n + x.n) c := by
        rcases hown.2 with ⟨hv, hn⟩ | ⟨g, cap, cur, hv, _⟩
        · exact ⟨none, 0, by rw [hv, hn]⟩
        · exact ⟨_, _, hv⟩
      obtain ⟨a', c', rfl⟩ := hshape
      have ha' : x.a = some ⟨b, o, none⟩ := ha
      refine ⟨⟨a', s.n + x.n, c'⟩, w', ?_, hk _ _ ⟨by simp [h.1, hx.1], by simpa [List.flatMap_append] using hown⟩ hg ?_ ?_⟩
      · rw [ha']; exact hr
      · intro hn
        exfalso
        simp only at hn
        subst hn
        rcases hown.2 with ⟨hv, hz'⟩ | ⟨g, cap, cur, hv, _⟩
        · have : x.n = 0 := by omega
          exact hne (List.eq_nil_of_length_eq_zero (by rw [← hx.1]; exact this))
        · simp at hv
      · intro b' hb'
        have hxn : 0 < x.n := by
          rw [hx.1]; exact List.length_pos_iff.2 hne
        rcases append_blk (P := P) hE.elem hi hz hsz hby h.2 (by rw [flat_length, hx.1]) hnews h1 (by rw [h.1, hx.1]; simp only [maxLen]; omega) (by rw [h.1, hx.1]; exact hb) hxn hr with e | e
        · left; rw [← e]; exact hb'
        · right; rw [e] at hb'; simp only [Option.some.injEq] at hb'; omega
/-- append(out, x): of one element, by way of a new row of one. -/
theorem ap1 {P : Program} {tS tR : TypeId} {bytes : Nat} (hE : El P tS t k bytes) (h : OwnS k t B w s xs) (x : α) {cs : Array Value} (hcs : cs.toList = k.cells x) (hb : (xs.length + 1) * bytes ≤ 140737488355328) (hm : xs.length + 1 ≤ 140737488355328) (hB : B ≤ w.heap.size) {K : Sl → World → Prop}
    (hk : ∀ s' w', OwnS k t B w' s' (xs ++ [x]) → w.grownBy w' (Value.slice s.a s.n s.c).ownBlock → (∀ b, (Value.slice s'.a s'.n s'.c).ownBlock = some b → (Value.slice s.a s.n s.c).ownBlock = some b ∨ w.heap.size ≤ b) → K s' w') :
    Nw cs t w fun a w1 => RunT (.o (.lf .sl)) P (Builtin.append_ #[tS, tS] tR #[.slice s.a s.n s.c, .slice (some a) 1 1]) w1 K := by
  refine nw fun w1 hb1 hs1 hc1 => ?_
  have hl : OwnS k t w.heap.size w1 ⟨some ⟨w.heap.size, 0, none⟩, 1, 1⟩ [x] := OwnS.lit (Nat.le_refl _) hc1 rfl (by simp [hcs]) (by simp [maxLen])
  have hg1 := grown_of_below hb1
  refine apS (x := ⟨some ⟨w.heap.size, 0, none⟩, 1, 1⟩) hE (h.below hb1) hl.read (by simpa using hb) (by simpa using hm) (by omega) fun s' w' ho hg _ hbk => hk s' w' ho ?_ (fun b hb => (hbk b hb).imp id (by omega))
  exact ⟨hg.os.trans hg1.os, hg.tape.trans hg1.tape, hg.output.trans hg1.output, Nat.le_trans hg1.size hg.size, fun k hk hne => (hg.block k (by omega) hne).trans (hg1.block k hk (by simp))⟩
end
/-- The world below B, behind a step that may have written one row from B on. -/
theorem below_grown {w0 w w' : World} {row : Option Nat} (h : Below w0.heap.size w0 w) (hg : w.grownBy w' row) (hr : ∀ b, row = some b → w0.heap.size ≤ b) : Below w0.heap.size w0 w' :=
  h.grown hg h.size hr
theorem CallT.imp {P : Program} {f : FuncId} {r : Rs} {args : List Value} {w : World} {K K' : r.T → World → Prop} (h : CallT r P f args w K) (hk : ∀ x w', K x w' → K' x w') : CallT r P f args w K' := h.mono hk
/-- A call in a region that draws. -/
theorem qcl {r : Rs} {P : Program} {f : FuncId} {args : List Value} {C : World → Prop} {K : r.T → Prop} (x : r.T) (h : ∀ w, C w → CallT r P f args w fun y w' => y = x ∧ C w') (hk : K x) : QCl r P f args C K := ⟨x, h, hk⟩
end Go.Proofs.YteggdoigliddkaaGreatDoor.V

/- The seat's program, and short words for the printed conditions. -/
namespace Go.Proofs.YteggdoigliddkaaGreatDoor.V
open Go Go.RowKit
noncomputable abbrev P0 : Program := Tryz.prog
def D (n : Nat) : List OpP := List.replicate n .d
def R (n : Nat) (l : Lf) : List Lf := List.replicate n l
def Sl.v (s : Sl) : Value := .slice s.a s.n s.c
def iAnd (k : IntKind) (x y : Int) : Int := k.wrap ((BitVec.ofInt k.bits x &&& BitVec.ofInt k.bits y).toNat : Int)
def iOr (k : IntKind) (x y : Int) : Int := k.wrap ((BitVec.ofInt k.bits x ||| BitVec.ofInt k.bits y).toNat : Int)
def iXor (k : IntKind) (x y : Int) : Int := k.wrap ((BitVec.ofInt k.bits x ^^^ BitVec.ofInt k.bits y).toNat : Int)
def iAndNot (k : IntKind) (x y : Int) : Int := k.wrap ((BitVec.ofInt k.bits x &&& ~~~(BitVec.ofInt k.bits y)).toNat : Int)
end Go.Proofs.YteggdoigliddkaaGreatDoor.V

/- Verification conditions, printed by this session's own program (wip/vc.py) and checked by the kernel. -/
namespace Go.Proofs.YteggdoigliddkaaGreatDoor.V
open Go Go.RowKit
set_option linter.unusedVariables false
/- impl.within -/
def impl.within.pl : Pl := (.s (.r (D 1)) (.s (.r [.d, .d, .d, (.sp .d), .d, .d, .d, .d, .d]) .z))
def impl.within.vc (n : Int) (low : Int) (high : Int) (w : World) (K : Bool → World → Prop) : Prop :=
((decide ((n : Int) ≥ low)) = true → K (decide ((n : Int) ≤ high)) w) ∧
((decide ((n : Int) ≥ low)) = false → K false w)
theorem impl.within.ok {n : Int} {low : Int} {high : Int} {w : World} {K : Bool → World → Prop} (h : impl.within.vc n low high w K) : CallT (.o (.lf .b)) P0 36 [(.int .i64 n), (.int .i64 low), (.int .i64 high)] w K :=
  call_of Tryz.func36 rfl rfl (pl := impl.within.pl) (show VC P0 Tryz.f36 impl.within.pl (.o (.lf .b)) [(.int .i64 n), (.int .i64 low), (.int .i64 high)] w K noP from Eq.mp (by kernel_rfl) h)
/- impl.numOk -/
def impl.numOk.pl : Pl := (.s (.r (D 1)) (.s (.r [.d, (.c (.o (.lf .b))), .d]) .z))
def impl.numOk.vc (n : Int) (w : World) (K : Bool → World → Prop) : Prop :=
CallT (.o (.lf .b)) P0 36 [(.int .i64 n), (.int .i64 0), (.int .i64 4294967295)] w fun (t4 : Bool) w_ =>
K t4 w_
theorem impl.numOk.ok {n : Int} {w : World} {K : Bool → World → Prop} (h : impl.numOk.vc n w K) : CallT (.o (.lf .b)) P0 96 [(.int .i64 n)] w K :=
  call_of Tryz.func96 rfl rfl (pl := impl.numOk.pl) (show VC P0 Tryz.f96 impl.numOk.pl (.o (.lf .b)) [(.int .i64 n)] w K noP from Eq.mp (by kernel_rfl) h)
/- impl.regOk -/
def impl.regOk.pl : Pl := (.s (.r (D 1)) (.s (.r [.d, (.c (.o (.lf .b))), .d]) .z))
def impl.regOk.vc (n : Int) (w : World) (K : Bool → World → Prop) : Prop :=
CallT (.o (.lf .b)) P0 36 [(.int .i64 n), (.int .i64 0), (.int .i64 10)] w fun (t4 : Bool) w_ =>
K t4 w_
theorem impl.regOk.ok {n : Int} {w : World} {K : Bool → World → Prop} (h : impl.regOk.vc n w K) : CallT (.o (.lf .b)) P0 71 [(.int .i64 n)] w K :=
  call_of Tryz.func71 rfl rfl (pl := impl.regOk.pl) (show VC P0 Tryz.f71 impl.regOk.pl (.o (.lf .b)) [(.int .i64 n)] w K noP from Eq.mp (by kernel_rfl) h)
/- impl.sizeOk -/
def impl.sizeOk.pl : Pl := (.s (.r (D 1)) (.s (.r [.d, .d, (.sp .d), .d, .d, .d, (.sp .d), .d, .d, .d, .d]) .z))
def impl.sizeOk.vc (n : Int) (w : World) (K : Bool → World → Prop) : Prop :=
(((n : Int) == 1) = true → K true w) ∧
(((n : Int) == 1) = false → (((n : Int) == 2) = true → K true w) ∧
(((n : Int) == 2) = false → K ((n : Int) == 4) w))
theorem impl.sizeOk.ok {n : Int} {w : World} {K : Bool → World → Prop} (h : impl.sizeOk.vc n w K) : CallT (.o (.lf .b)) P0 73 [(.int .i64 n)] w K :=
  call_of Tryz.func73 rfl rfl (pl := impl.sizeOk.pl) (show VC P0 Tryz.f73 impl.sizeOk.pl (.o (.lf .b)) [(.int .i64 n)] w K noP from Eq.mp (by kernel_rfl) h)
/- (impl.Ins).either -/
def impl.Ins.either.pl : Pl := (.s (.r (D 2)) (.s (.r [.d, (.l (.lf (.i .i64))), (.c (.o (.lf .b))), (.sp .d), .d, (.l (.lf (.i .i64))), .d, .d, (.sp .d), .d, (.l (.lf (.i .i64))), .d, (.sp .d), .d, (.l (.lf (.i .i64))), (.c (.o (.lf .b))), .d, .d, .d]) .z))
def impl.Ins.either.vc (x : Tup (R 6 (.i .i64))) (w : World) (K : Bool → World → Prop) : Prop :=
Nw (Tup.cells (R 6 (.i .i64)) x).toArray 39 w fun a_x w_ =>
Ld (.i .i64) (Addr.add a_x 2) w_ fun (t4 : Int) w__1 =>
CallT (.o (.lf .b)) P0 71 [(.int .i64 t4)] w__1 fun (t5 : Bool) w__2 =>
(t5 = true → Ld (.i .i64) (Addr.add a_x 4) w__2 fun (t8 : Int) w__3 =>
(((t8 : Int) == 0) = true → K true w__3) ∧
(((t8 : Int) == 0) = false → Ld (.i .i64) (Addr.add a_x 2) w__3 fun (t13 : Int) w__4 =>
(((t13 : Int) == (-1)) = true → Ld (.i .i64) (Addr.add a_x 4) w__4 fun (t17 : Int) w__5 =>
CallT (.o (.lf .b)) P0 96 [(.int .i64 t17)] w__5 fun (t18 : Bool) w__6 =>
K t18 w__6) ∧
(((t13 : Int) == (-1)) = false → K false w__4))) ∧
(t5 = false → Ld (.i .i64) (Addr.add a_x 2) w__2 fun (t13_1 : Int) w__7 =>
(((t13_1 : Int) == (-1)) = true → Ld (.i .i64) (Addr.add a_x 4) w__7 fun (t17_1 : Int) w__8 =>
CallT (.o (.lf .b)) P0 96 [(.int .i64 t17_1)] w__8 fun (t18_1 : Bool) w__9 =>
K t18_1 w__9) ∧
(((t13_1 : Int) == (-1)) = false → K false w__7))
theorem impl.Ins.either.ok {x : Tup (R 6 (.i .i64))} {w : World} {K : Bool → World → Prop} (h : impl.Ins.either.vc x w K) : CallT (.o (.lf .b)) P0 72 [(.agg (Tup.cells (R 6 (.i .i64)) x).toArray)] w K :=
  call_of Tryz.func72 rfl rfl (pl := impl.Ins.either.pl) (show VC P0 Tryz.f72 impl.Ins.either.pl (.o (.lf .b)) [(.agg (Tup.cells (R 6 (.i .i64)) x).toArray)] w K noP from Eq.mp (by kernel_rfl) h)
/- (impl.kind).reckons -/
def impl.kind.reckons.pl : Pl := (.s (.r (D 1)) (.s (.r [.d, (.c (.o (.lf .b))), .d]) .z))
def impl.kind.reckons.vc (k : Int) (w : World) (K : Bool → World → Prop) : Prop :=
CallT (.o (.lf .b)) P0 36 [(.int .i64 k), (.int .i64 1), (.int .i64 11)] w fun (t4 : Bool) w_ =>
K t4 w_
theorem impl.kind.reckons.ok {k : Int} {w : World} {K : Bool → World → Prop} (h : impl.kind.reckons.vc k w K) : CallT (.o (.lf .b)) P0 66 [(.int .i64 k)] w K :=
  call_of Tryz.func66 rfl rfl (pl := impl.kind.reckons.pl) (show VC P0 Tryz.f66 impl.kind.reckons.pl (.o (.lf .b)) [(.int .i64 k)] w K noP from Eq.mp (by kernel_rfl) h)
/- (impl.kind).asks -/
def impl.kind.asks.pl : Pl := (.s (.r (D 1)) (.s (.r [.d, (.c (.o (.lf .b))), .d]) .z))
def impl.kind.asks.vc (k : Int) (w : World) (K : Bool → World → Prop) : Prop :=
CallT (.o (.lf .b)) P0 36 [(.int .i64 k), (.int .i64 12), (.int .i64 15)] w fun (t4 : Bool) w_ =>
K t4 w_
theorem impl.kind.asks.ok {k : Int} {w : World} {K : Bool → World → Prop} (h : impl.kind.asks.vc k w K) : CallT (.o (.lf .b)) P0 69 [(.int .i64 k)] w K :=
  call_of Tryz.func69 rfl rfl (pl := impl.kind.asks.pl) (show VC P0 Tryz.f69 impl.kind.asks.pl (.o (.lf .b)) [(.int .i64 k)] w K noP from Eq.mp (by kernel_rfl) h)
/- (impl.kind).goes -/
def impl.kind.goes.pl : Pl := (.s (.r (D 1)) (.s (.r [.d, (.c (.o (.lf .b))), .d]) .z))
def impl.kind.goes.vc (k : Int) (w : World) (K : Bool → World → Prop) : Prop :=
CallT (.o (.lf .b)) P0 36 [(.int .i64 k), (.int .i64 12), (.int .i64 16)] w fun (t4 : Bool) w_ =>
K t4 w_
theorem impl.kind.goes.ok {k : Int} {w : World} {K : Bool → World → Prop} (h : impl.kind.goes.vc k w K) : CallT (.o (.lf .b)) P0 31 [(.int .i64 k)] w K :=
  call_of Tryz.func31 rfl rfl (pl := impl.kind.goes.pl) (show VC P0 Tryz.f31 impl.kind.goes.pl (.o (.lf .b)) [(.int .i64 k)] w K noP from Eq.mp (by kernel_rfl) h)
/- impl.InsOk -/
def impl.InsOk.pl : Pl := (.s (.r (D 2)) (.s (.r [.d, (.l (.lf (.i .i64))), (.c (.o (.lf .b))), .d]) (.s (.r [.d, (.l (.lf (.i .i64))), .d]) (.s (.b (.s (.r [.d, (.c (.o (.lf .b))), .d]) (.c (.s (.r [.d, (.l (.lf (.i .i64))), (.c (.o (.lf .b))), (.sp .d), (.l (.ag (R 6 (.i .i64)))), (.c (.o (.lf .b))), .d, (.sp .d), .d, (.l (.lf (.i .i64))), .d, .d, (.sp .d), .d, (.l (.lf (.i .i64))), .d, .d, .d]) .z) (.s (.r [.d, (.c (.o (.lf .b))), .d]) (.c (.s (.r [.d, (.l (.lf (.i .i64))), (.c (.o (.lf .b))), (.sp .d), (.l (.ag (R 6 (.i .i64)))), (.c (.o (.lf .b))), .d, (.sp .d), .d, .d, (.sp .d), .d, (.l (.lf (.i .i64))), .d, .d, .d]) .z) (.s (.r [.d, (.l (.lf (.i .i64))), .d, .d]) (.c (.s (.r [.d, (.sp .d), (.l (.ag (R 6 (.i .i64)))), .d, (.l (.lf (.i .i64))), .d, (.t (.o (.lf .b))), .d, .d]) .z) (.s (.r [.d, (.l (.lf (.i .i64))), .d, .d]) (.c (.s (.r [.d, (.l (.lf (.i .i64))), (.c (.o (.lf .b))), (.sp .d), .d, (.l (.lf (.i .i64))), (.c (.o (.lf .b))), .d, (.sp .d), .d, (.l (.lf (.i .i64))), .d, .d, (.sp .d), .d, .d, (.sp .d), .d, (.l (.lf (.i .i64))), (.c (.o (.lf .b))), .d, .d]) .z) (.s (.r [.d, (.l (.lf (.i .i64))), .d, .d]) (.c (.s (.r [.d, (.l (.lf (.i .i64))), (.c (.o (.lf .b))), (.sp .d), (.l (.ag (R 6 (.i .i64)))), (.c (.o (.lf .b))), .d, (.sp .d), .d, .d, (.sp .d), .d, (.l (.lf (.i .i64))), (.c (.o (.lf .b))), .d, .d]) .z) (.s (.r [.d, (.l (.lf (.i .i64))), .d, .d]) (.c (.s (.r [.d, (.l (.lf (.i .i64))), (.c (.o (.lf .b))), (.sp .d), (.l (.ag (R 6 (.i .i64)))), .d, (.l (.lf (.i .i64))), .d, (.t (.o (.lf .b))), .d, .d]) .z) .z))))))))))))) (.s (.r [(.l (.ag (R 6 (.i .i64)))), .d, (.t (.o (.lf .b))), .d]) .z)))))
def impl.InsOk.vc (x : Tup (R 6 (.i .i64))) (w : World) (K : Bool → World → Prop) : Prop :=
Nw (Tup.cells (R 6 (.i .i64)) x).toArray 39 w fun a_x w_ =>
Ld (.i .i64) (Addr.add a_x 3) w_ fun (t6 : Int) w__1 =>
CallT (.o (.lf .b)) P0 36 [(.int .i64 t6), (.int .i64 (-128)), (.int .i64 127)] w__1 fun (t7 : Bool) w__2 =>
Ld (.i .i64) (Addr.add a_x 0) w__2 fun (t9 : Int) w__3 =>
CallT (.o (.lf .b)) P0 66 [(.int .i64 t9)] w__3 fun (t12 : Bool) w__4 =>
(t12 = true → Ld (.i .i64) (Addr.add a_x 1) w__4 fun (t14 : Int) w__5 =>
CallT (.o (.lf .b)) P0 71 [(.int .i64 t14)] w__5 fun (t15 : Bool) w__6 =>
(t15 = true → LdA (R 6 (.i .i64)) a_x w__6 fun (t17 : Tup (R 6 (.i .i64))) w__7 =>
CallT (.o (.lf .b)) P0 72 [(.agg (Tup.cells (R 6 (.i .i64)) t17).toArray)] w__7 fun (t18 : Bool) w__8 =>
(t18 = true → Ld (.i .i64) (Addr.add a_x 3) w__8 fun (t22 : Int) w__9 =>
(((t22 : Int) == 0) = true → Ld (.i .i64) (Addr.add a_x 5) w__9 fun (t27 : Int) w__10 =>
K ((t27 : Int) == 0) w__10) ∧
(((t22 : Int) == 0) = false → K false w__9)) ∧
(t18 = false → K false w__8)) ∧
(t15 = false → K false w__6)) ∧
(t12 = false → CallT (.o (.lf .b)) P0 69 [(.int .i64 t9)] w__4 fun (t32 : Bool) w__11 =>
(t32 = true → Ld (.i .i64) (Addr.add a_x 1) w__11 fun (t34 : Int) w__12 =>
CallT (.o (.lf .b)) P0 71 [(.int .i64 t34)] w__12 fun (t35 : Bool) w__13 =>
(t35 = true → LdA (R 6 (.i .i64)) a_x w__13 fun (t37 : Tup (R 6 (.i .i64))) w__14 =>
CallT (.o (.lf .b)) P0 72 [(.agg (Tup.cells (R 6 (.i .i64)) t37).toArray)] w__14 fun (t38 : Bool) w__15 =>
(t38 = true → (t7 = true → Ld (.i .i64) (Addr.add a_x 5) w__15 fun (t45 : Int) w__16 =>
K ((t45 : Int) == 0) w__16) ∧
(t7 = false → K false w__15)) ∧
(t38 = false → K false w__15)) ∧
(t35 = false → K false w__13)) ∧
(t32 = false → Ld (.i .i64) (Addr.add a_x 0) w__11 fun (t50 : Int) w__17 =>
(((t50 : Int) == 16) = true → (t7 = true → LdA (R 6 (.i .i64)) a_x w__17 fun (t54 : Tup (R 6 (.i .i64))) w__18 =>
Ld (.i .i64) (Addr.add a_x 3) w__18 fun (t56 : Int) w__19 =>
RunT (.o (.lf .b)) P0 (do eqGuard .eql 39 (.tmp 54) (.tmp 57) (.agg (Tup.cells (R 6 (.i .i64)) t54).toArray) (.agg #[(.int .i64 16), (.int .i64 0), (.int .i64 (-1)), (.int .i64 t56), (.int .i64 0), (.int .i64 0)]); binOp .eql 39 (.agg (Tup.cells (R 6 (.i .i64)) t54).toArray) (.agg #[(.int .i64 16), (.int .i64 0), (.int .i64 (-1)), (.int .i64 t56), (.int .i64 0), (.int .i64 0)])) w__19 fun (t58 : Bool) w__20 =>
K t58 w__20) ∧
(t7 = false → K false w__17)) ∧
(((t50 : Int) == 16) = false → Ld (.i .i64) (Addr.add a_x 0) w__17 fun (t62 : Int) w__21 =>
(((t62 : Int) == 17) = true → Ld (.i .i64) (Addr.add a_x 1) w__21 fun (t65 : Int) w__22 =>
CallT (.o (.lf .b)) P0 71 [(.int .i64 t65)] w__22 fun (t66 : Bool) w__23 =>
(t66 = true → Ld (.i .i64) (Addr.add a_x 2) w__23 fun (t69 : Int) w__24 =>
CallT (.o (.lf .b)) P0 71 [(.int .i64 t69)] w__24 fun (t70 : Bool) w__25 =>
(t70 = true → Ld (.i .i64) (Addr.add a_x 4) w__25 fun (t74 : Int) w__26 =>
(((t74 : Int) == 0) = true → (t7 = true → Ld (.i .i64) (Addr.add a_x 5) w__26 fun (t82 : Int) w__27 =>
CallT (.o (.lf .b)) P0 73 [(.int .i64 t82)] w__27 fun (t83 : Bool) w__28 =>
K t83 w__28) ∧
(t7 = false → K false w__26)) ∧
(((t74 : Int) == 0) = false → K false w__26)) ∧
(t70 = false → K false w__25)) ∧
(t66 = false → K false w__23)) ∧
(((t62 : Int) == 17) = false → Ld (.i .i64) (Addr.add a_x 0) w__21 fun (t87 : Int) w__29 =>
(((t87 : Int) == 18) = true → Ld (.i .i64) (Addr.add a_x 1) w__29 fun (t90 : Int) w__30 =>
CallT (.o (.lf .b)) P0 71 [(.int .i64 t90)] w__30 fun (t91 : Bool) w__31 =>
(t91 = true → LdA (R 6 (.i .i64)) a_x w__31 fun (t93 : Tup (R 6 (.i .i64))) w__32 =>
CallT (.o (.lf .b)) P0 72 [(.agg (Tup.cells (R 6 (.i .i64)) t93).toArray)] w__32 fun (t94 : Bool) w__33 =>
(t94 = true → (t7 = true → Ld (.i .i64) (Addr.add a_x 5) w__33 fun (t101 : Int) w__34 =>
CallT (.o (.lf .b)) P0 73 [(.int .i64 t101)] w__34 fun (t102 : Bool) w__35 =>
K t102 w__35) ∧
(t7 = false → K false w__33)) ∧
(t94 = false → K false w__33)) ∧
(t91 = false → K false w__31)) ∧
(((t87 : Int) == 18) = false → Ld (.i .i64) (Addr.add a_x 0) w__29 fun (t106 : Int) w__36 =>
(((t106 : Int) == 19) = true → Ld (.i .i64) (Addr.add a_x 4) w__36 fun (t109 : Int) w__37 =>
CallT (.o (.lf .b)) P0 36 [(.int .i64 t109), (.int .i64 1), (.int .i64 6)] w__37 fun (t110 : Bool) w__38 =>
(t110 = true → LdA (R 6 (.i .i64)) a_x w__38 fun (t112 : Tup (R 6 (.i .i64))) w__39 =>
Ld (.i .i64) (Addr.add a_x 4) w__39 fun (t114 : Int) w__40 =>
RunT (.o (.lf .b)) P0 (do eqGuard .eql 39 (.tmp 112) (.tmp 115) (.agg (Tup.cells (R 6 (.i .i64)) t112).toArray) (.agg #[(.int .i64 19), (.int .i64 0), (.int .i64 (-1)), (.int .i64 0), (.int .i64 t114), (.int .i64 0)]); binOp .eql 39 (.agg (Tup.cells (R 6 (.i .i64)) t112).toArray) (.agg #[(.int .i64 19), (.int .i64 0), (.int .i64 (-1)), (.int .i64 0), (.int .i64 t114), (.int .i64 0)])) w__40 fun (t116 : Bool) w__41 =>
K t116 w__41) ∧
(t110 = false → K false w__38)) ∧
(((t106 : Int) == 19) = false → LdA (R 6 (.i .i64)) a_x w__36 fun (t118 : Tup (R 6 (.i .i64))) w__42 =>
RunT (.o (.lf .b)) P0 (do eqGuard .eql 39 (.tmp 118) (.tmp 119) (.agg (Tup.cells (R 6 (.i .i64)) t118).toArray) (.agg #[(.int .i64 20), (.int .i64 0), (.int .i64 (-1)), (.int .i64 0), (.int .i64 0), (.int .i64 0)]); binOp .eql 39 (.agg (Tup.cells (R 6 (.i .i64)) t118).toArray) (.agg #[(.int .i64 20), (.int .i64 0), (.int .i64 (-1)), (.int .i64 0), (.int .i64 0), (.int .i64 0)])) w__42 fun (t120 : Bool) w__43 =>
K t120 w__43))))))
theorem impl.InsOk.ok {x : Tup (R 6 (.i .i64))} {w : World} {K : Bool → World → Prop} (h : impl.InsOk.vc x w K) : CallT (.o (.lf .b)) P0 35 [(.agg (Tup.cells (R 6 (.i .i64)) x).toArray)] w K :=
  call_of Tryz.func35 rfl rfl (pl := impl.InsOk.pl) (show VC P0 Tryz.f35 impl.InsOk.pl (.o (.lf .b)) [(.agg (Tup.cells (R 6 (.i .i64)) x).toArray)] w K noP from Eq.mp (by kernel_rfl) h)
/- impl.target -/
def impl.target.pl : Pl := (.s (.r (D 1)) (.s (.r [.d, .d, .d, .d, .d, .d, (.l (.lf (.i .i64))), .d, .d]) .z))
def impl.target.vc (list : Sl) (i : Int) (w : World) (K : Int → World → Prop) : Prop :=
Ix list.a list.n i 6 w fun a_t9 w_ =>
Ld (.i .i64) (Addr.add a_t9 3) w_ fun (t11 : Int) w__1 =>
K (IntKind.wrap .i64 ((IntKind.wrap .i64 (i + 1)) + t11)) w__1
theorem impl.target.ok {list : Sl} {i : Int} {w : World} {K : Int → World → Prop} (h : impl.target.vc list i w K) : CallT (.o (.lf (.i .i64))) P0 32 [list.v, (.int .i64 i)] w K :=
  call_of Tryz.func32 rfl rfl (pl := impl.target.pl) (show VC P0 Tryz.f32 impl.target.pl (.o (.lf (.i .i64))) [list.v, (.int .i64 i)] w K noP from Eq.mp (by kernel_rfl) h)
/- impl.ProgForm -/
def impl.ProgForm.pl : Pl := (.s (.r (D 1)) (.s (.s (.r (D 3)) (.b (.l [(7, (.i .i64))] (.s (.r (D 1)) (.s (.c .z .z) (.s (.b (.s (.r [.d, .d, (.l (.ag (R 6 (.i .i64)))), .d, .d, .d]) (.s (.s (.r [(.l (.ag (R 6 (.i .i64)))), (.c (.o (.lf .b))), .d]) (.c (.s (.r (D 1)) .z) .z)) (.s (.r [.d, (.l (.lf (.i .i64))), (.c (.o (.lf .b))), (.sp .d), .d, .d, (.c (.o (.lf (.i .i64)))), .d, .d, .d, (.c (.o (.lf .b))), .d, .d]) (.c (.s (.r (D 1)) .z) .z))))) (.r (D 2)))))))) (.s (.b (.s (.r (D 4)) (.c (.s (.r (D 1)) .z) (.s (.s (.r (D 4)) (.c .z (.r [.d, .d, .d, .d, .d, .d, (.l (.lf (.i .i64))), .d, (.sp .d), .d, .d, .d, .d, .d, .d, (.l (.lf (.i .i64))), .d, .d, .d]))) (.c (.s (.r (D 1)) .z) .z))))) (.s (.r (D 1)) .z))))
def impl.ProgForm.vc (list : Sl) (w : World) (K : Int → World → Prop) : Prop :=
∃ (I : Int → World → Prop) (M : Int → World → Nat),
I 0 w ∧
(∀ (t7 : Int) w_, I t7 w_ → ∀ _ : Nat → Value,
((decide ((t7 : Int) < ((list.n : Nat) : Int))) = true → Ix list.a list.n t7 6 w_ fun a_t10 w__1 =>
LdA (R 6 (.i .i64)) a_t10 w__1 fun (t11 : Tup (R 6 (.i .i64))) w__2 =>
Nw (zc P0 39) 39 w__2 fun a_x w__3 =>
StA P0 a_x (Tup.cells (R 6 (.i .i64)) t11) w__3 fun w__4 =>
LdA (R 6 (.i .i64)) a_x w__4 fun (t12 : Tup (R 6 (.i .i64))) w__5 =>
CallT (.o (.lf .b)) P0 35 [(.agg (Tup.cells (R 6 (.i .i64)) t12).toArray)] w__5 fun (t13 : Bool) w__6 =>
((!t13) = true → K 1 w__6) ∧
((!t13) = false → Ld (.i .i64) (Addr.add a_x 0) w__6 fun (t16 : Int) w__7 =>
CallT (.o (.lf .b)) P0 31 [(.int .i64 t16)] w__7 fun (t17 : Bool) w__8 =>
(t17 = true → CallT (.o (.lf (.i .i64))) P0 32 [list.v, (.int .i64 t7)] w__8 fun (t21 : Int) w__9 =>
CallT (.o (.lf .b)) P0 36 [(.int .i64 t21), (.int .i64 0), (.int .i64 (IntKind.wrap .i64 (((list.n : Nat) : Int) - 1)))] w__9 fun (t25 : Bool) w__10 =>
((!t25) = true → K 2 w__10) ∧
((!t25) = false → (I (IntKind.wrap .i64 (t7 + 1)) w__10 ∧ M (IntKind.wrap .i64 (t7 + 1)) w__10 < M t7 w_))) ∧
(t17 = false → (I (IntKind.wrap .i64 (t7 + 1)) w__8 ∧ M (IntKind.wrap .i64 (t7 + 1)) w__8 < M t7 w_)))) ∧
((decide ((t7 : Int) < ((list.n : Nat) : Int))) = false → ((decide ((((list.n : Nat) : Int) : Int) > 48)) = true → K 3 w_) ∧
((decide ((((list.n : Nat) : Int) : Int) > 48)) = false → (((((list.n : Nat) : Int) : Int) == 0) = true → (((((list.n : Nat) : Int) : Int) == 0) = true → K 4 w_) ∧
(((((list.n : Nat) : Int) : Int) == 0) = false → K 0 w_)) ∧
(((((list.n : Nat) : Int) : Int) == 0) = false → Ix list.a list.n (IntKind.wrap .i64 (((list.n : Nat) : Int) - 1)) 6 w_ fun a_t41 w__11 =>
Ld (.i .i64) (Addr.add a_t41 0) w__11 fun (t43 : Int) w__12 =>
(((t43 : Int) != 20) = true → Ix list.a list.n (IntKind.wrap .i64 (((list.n : Nat) : Int) - 1)) 6 w__12 fun a_t50 w__13 =>
Ld (.i .i64) (Addr.add a_t50 0) w__13 fun (t52 : Int) w__14 =>
(((t52 : Int) != 16) = true → K 4 w__14) ∧
(((t52 : Int) != 16) = false → K 0 w__14)) ∧
(((t43 : Int) != 20) = false → K 0 w__12)))))
theorem impl.ProgForm.ok {list : Sl} {w : World} {K : Int → World → Prop} (h : impl.ProgForm.vc list w K) : CallT (.o (.lf (.i .i64))) P0 14 [list.v] w K :=
  call_of Tryz.func14 rfl rfl (pl := impl.ProgForm.pl) (show VC P0 Tryz.f14 impl.ProgForm.pl (.o (.lf (.i .i64))) [list.v] w K noP from Eq.mp (by kernel_rfl) h)
/- spec.l1In -/
def spec.l1In.pl : Pl := (.s (.r (D 1)) (.s (.r [.d, .d, .d, (.sp .d), .d, .d, .d, .d, .d]) .z))
def spec.l1In.vc (n : Int) (low : Int) (high : Int) (w : World) (K : Bool → World → Prop) : Prop :=
((decide ((n : Int) ≥ low)) = true → K (decide ((n : Int) ≤ high)) w) ∧
((decide ((n : Int) ≥ low)) = false → K false w)
theorem spec.l1In.ok {n : Int} {low : Int} {high : Int} {w : World} {K : Bool → World → Prop} (h : spec.l1In.vc n low high w K) : CallT (.o (.lf .b)) P0 48 [(.int .i64 n), (.int .i64 low), (.int .i64 high)] w K :=
  call_of Tryz.func48 rfl rfl (pl := spec.l1In.pl) (show VC P0 Tryz.f48 spec.l1In.pl (.o (.lf .b)) [(.int .i64 n), (.int .i64 low), (.int .i64 high)] w K noP from Eq.mp (by kernel_rfl) h)
/- spec.l1Alu -/
def spec.l1Alu.pl : Pl := (.s (.r (D 1)) (.s (.r [.d, (.c (.o (.lf .b))), .d]) .z))
def spec.l1Alu.vc (op : Int) (w : World) (K : Bool → World → Prop) : Prop :=
CallT (.o (.lf .b)) P0 48 [(.int .i64 op), (.int .i64 1), (.int .i64 11)] w fun (t4 : Bool) w_ =>
K t4 w_
theorem spec.l1Alu.ok {op : Int} {w : World} {K : Bool → World → Prop} (h : spec.l1Alu.vc op w K) : CallT (.o (.lf .b)) P0 97 [(.int .i64 op)] w K :=
  call_of Tryz.func97 rfl rfl (pl := spec.l1Alu.pl) (show VC P0 Tryz.f97 spec.l1Alu.pl (.o (.lf .b)) [(.int .i64 op)] w K noP from Eq.mp (by kernel_rfl) h)
/- spec.l1Jump -/
def spec.l1Jump.pl : Pl := (.s (.r (D 1)) (.s (.r [.d, (.c (.o (.lf .b))), .d]) .z))
def spec.l1Jump.vc (op : Int) (w : World) (K : Bool → World → Prop) : Prop :=
CallT (.o (.lf .b)) P0 48 [(.int .i64 op), (.int .i64 12), (.int .i64 15)] w fun (t4 : Bool) w_ =>
K t4 w_
theorem spec.l1Jump.ok {op : Int} {w : World} {K : Bool → World → Prop} (h : spec.l1Jump.vc op w K) : CallT (.o (.lf .b)) P0 46 [(.int .i64 op)] w K :=
  call_of Tryz.func46 rfl rfl (pl := spec.l1Jump.pl) (show VC P0 Tryz.f46 spec.l1Jump.pl (.o (.lf .b)) [(.int .i64 op)] w K noP from Eq.mp (by kernel_rfl) h)
/- spec.l1Bare -/
def spec.l1Bare.pl : Pl := (.s (.r (D 2)) (.s (.b (.s (.r [.d, (.l (.lf (.i .i64))), (.c (.o (.lf .b))), .d]) (.c (.s (.r [.d, (.l (.lf (.i .i64))), .d, (.sp .d), .d, (.l (.lf (.i .i64))), .d, .d, (.sp .d), .d, (.l (.lf (.i .i64))), .d, (.sp .d), .d, (.l (.lf (.i .i64))), .d, .d, .d, .d]) .z) (.s (.r [.d, (.l (.lf (.i .i64))), (.c (.o (.lf .b))), .d]) (.c (.s (.r [.d, (.l (.lf (.i .i64))), .d, (.sp .d), .d, (.l (.lf (.i .i64))), .d, (.sp .d), .d, (.l (.lf (.i .i64))), .d, .d, .d, .d]) .z) (.s (.r [.d, (.l (.lf (.i .i64))), .d, .d]) (.c (.s (.r [.d, (.l (.lf (.i .i64))), .d, (.sp .d), .d, (.l (.lf (.i .i64))), .d, .d, (.sp .d), .d, (.l (.lf (.i .i64))), .d, .d, (.sp .d), .d, (.l (.lf (.i .i64))), .d, .d, .d]) .z) (.s (.r [.d, (.l (.lf (.i .i64))), .d, .d]) (.c (.s (.r [.d, (.l (.lf (.i .i64))), .d, (.sp .d), .d, (.l (.lf (.i .i64))), .d, .d, (.sp .d), .d, (.l (.lf (.i .i64))), .d, (.sp .d), .d, (.l (.lf (.i .i64))), .d, .d, (.sp .d), .d, (.l (.lf (.i .i64))), .d, .d, .d, .d]) .z) (.s (.r [.d, (.l (.lf (.i .i64))), .d, .d]) (.c (.s (.r [.d, (.l (.lf (.i .i64))), .d, (.sp .d), .d, (.l (.lf (.i .i64))), .d, .d, (.sp .d), .d, (.l (.lf (.i .i64))), .d, (.sp .d), .d, (.l (.lf (.i .i64))), .d, .d, (.sp .d), .d, (.l (.lf (.i .i64))), .d, .d, .d, .d]) .z) (.s (.r [.d, (.l (.lf (.i .i64))), .d, .d]) (.c (.s (.r [.d, (.l (.lf (.i .i64))), .d, (.sp .d), .d, (.l (.lf (.i .i64))), .d, .d, (.sp .d), .d, (.l (.lf (.i .i64))), .d, .d, (.sp .d), .d, (.l (.lf (.i .i64))), .d, .d, (.sp .d), .d, (.l (.lf (.i .i64))), (.c (.o (.lf .b))), .d, .d]) .z) (.s (.r [.d, (.l (.lf (.i .i64))), .d, .d]) (.c (.s (.r [(.l (.ag (R 6 (.i .i64)))), .d, (.t (.o (.lf .b))), .d]) .z) .z))))))))))))))) (.s (.r (D 1)) .z)))
def spec.l1Bare.vc (x : Tup (R 6 (.i .i64))) (w : World) (K : Bool → World → Prop) : Prop :=
Nw (Tup.cells (R 6 (.i .i64)) x).toArray 39 w fun a_x w_ =>
Ld (.i .i64) (Addr.add a_x 0) w_ fun (t5 : Int) w__1 =>
CallT (.o (.lf .b)) P0 97 [(.int .i64 t5)] w__1 fun (t6 : Bool) w__2 =>
(t6 = true → Ld (.i .i64) (Addr.add a_x 3) w__2 fun (t8 : Int) w__3 =>
(((t8 : Int) == 0) = true → Ld (.i .i64) (Addr.add a_x 5) w__3 fun (t12 : Int) w__4 =>
(((t12 : Int) == 0) = true → Ld (.i .i64) (Addr.add a_x 2) w__4 fun (t17 : Int) w__5 =>
((decide ((t17 : Int) < 0)) = true → K true w__5) ∧
((decide ((t17 : Int) < 0)) = false → Ld (.i .i64) (Addr.add a_x 4) w__5 fun (t21 : Int) w__6 =>
K ((t21 : Int) == 0) w__6)) ∧
(((t12 : Int) == 0) = false → K false w__4)) ∧
(((t8 : Int) == 0) = false → K false w__3)) ∧
(t6 = false → Ld (.i .i64) (Addr.add a_x 0) w__2 fun (t27 : Int) w__7 =>
CallT (.o (.lf .b)) P0 46 [(.int .i64 t27)] w__7 fun (t28 : Bool) w__8 =>
(t28 = true → Ld (.i .i64) (Addr.add a_x 5) w__8 fun (t30 : Int) w__9 =>
(((t30 : Int) == 0) = true → Ld (.i .i64) (Addr.add a_x 2) w__9 fun (t34 : Int) w__10 =>
((decide ((t34 : Int) < 0)) = true → K true w__10) ∧
((decide ((t34 : Int) < 0)) = false → Ld (.i .i64) (Addr.add a_x 4) w__10 fun (t38 : Int) w__11 =>
K ((t38 : Int) == 0) w__11)) ∧
(((t30 : Int) == 0) = false → K false w__9)) ∧
(t28 = false → Ld (.i .i64) (Addr.add a_x 0) w__8 fun (t44 : Int) w__12 =>
(((t44 : Int) == 16) = true → Ld (.i .i64) (Addr.add a_x 1) w__12 fun (t47 : Int) w__13 =>
(((t47 : Int) == 0) = true → Ld (.i .i64) (Addr.add a_x 2) w__13 fun (t51 : Int) w__14 =>
(((t51 : Int) == (-1)) = true → Ld (.i .i64) (Addr.add a_x 4) w__14 fun (t56 : Int) w__15 =>
(((t56 : Int) == 0) = true → Ld (.i .i64) (Addr.add a_x 5) w__15 fun (t61 : Int) w__16 =>
K ((t61 : Int) == 0) w__16) ∧
(((t56 : Int) == 0) = false → K false w__15)) ∧
(((t51 : Int) == (-1)) = false → K false w__14)) ∧
(((t47 : Int) == 0) = false → K false w__13)) ∧
(((t44 : Int) == 16) = false → Ld (.i .i64) (Addr.add a_x 0) w__12 fun (t66 : Int) w__17 =>
(((t66 : Int) == 17) = true → Ld (.i .i64) (Addr.add a_x 2) w__17 fun (t69 : Int) w__18 =>
((decide ((t69 : Int) ≥ 0)) = true → Ld (.i .i64) (Addr.add a_x 4) w__18 fun (t73 : Int) w__19 =>
(((t73 : Int) == 0) = true → Ld (.i .i64) (Addr.add a_x 5) w__19 fun (t78 : Int) w__20 =>
(((t78 : Int) == 1) = true → K true w__20) ∧
(((t78 : Int) == 1) = false → Ld (.i .i64) (Addr.add a_x 5) w__20 fun (t82 : Int) w__21 =>
(((t82 : Int) == 2) = true → K true w__21) ∧
(((t82 : Int) == 2) = false → Ld (.i .i64) (Addr.add a_x 5) w__21 fun (t87 : Int) w__22 =>
K ((t87 : Int) == 4) w__22))) ∧
(((t73 : Int) == 0) = false → K false w__19)) ∧
((decide ((t69 : Int) ≥ 0)) = false → K false w__18)) ∧
(((t66 : Int) == 17) = false → Ld (.i .i64) (Addr.add a_x 0) w__17 fun (t93 : Int) w__23 =>
(((t93 : Int) == 18) = true → Ld (.i .i64) (Addr.add a_x 2) w__23 fun (t96 : Int) w__24 =>
((decide ((t96 : Int) < 0)) = true → Ld (.i .i64) (Addr.add a_x 5) w__24 fun (t105 : Int) w__25 =>
(((t105 : Int) == 1) = true → K true w__25) ∧
(((t105 : Int) == 1) = false → Ld (.i .i64) (Addr.add a_x 5) w__25 fun (t109 : Int) w__26 =>
(((t109 : Int) == 2) = true → K true w__26) ∧
(((t109 : Int) == 2) = false → Ld (.i .i64) (Addr.add a_x 5) w__26 fun (t114 : Int) w__27 =>
K ((t114 : Int) == 4) w__27))) ∧
((decide ((t96 : Int) < 0)) = false → Ld (.i .i64) (Addr.add a_x 4) w__24 fun (t100 : Int) w__28 =>
(((t100 : Int) == 0) = true → Ld (.i .i64) (Addr.add a_x 5) w__28 fun (t105_1 : Int) w__29 =>
(((t105_1 : Int) == 1) = true → K true w__29) ∧
(((t105_1 : Int) == 1) = false → Ld (.i .i64) (Addr.add a_x 5) w__29 fun (t109_1 : Int) w__30 =>
(((t109_1 : Int) == 2) = true → K true w__30) ∧
(((t109_1 : Int) == 2) = false → Ld (.i .i64) (Addr.add a_x 5) w__30 fun (t114_1 : Int) w__31 =>
K ((t114_1 : Int) == 4) w__31))) ∧
(((t100 : Int) == 0) = false → K false w__28))) ∧
(((t93 : Int) == 18) = false → Ld (.i .i64) (Addr.add a_x 0) w__23 fun (t120 : Int) w__32 =>
(((t120 : Int) == 19) = true → Ld (.i .i64) (Addr.add a_x 1) w__32 fun (t123 : Int) w__33 =>
(((t123 : Int) == 0) = true → Ld (.i .i64) (Addr.add a_x 2) w__33 fun (t127 : Int) w__34 =>
(((t127 : Int) == (-1)) = true → Ld (.i .i64) (Addr.add a_x 3) w__34 fun (t132 : Int) w__35 =>
(((t132 : Int) == 0) = true → Ld (.i .i64) (Addr.add a_x 5) w__35 fun (t137 : Int) w__36 =>
(((t137 : Int) == 0) = true → Ld (.i .i64) (Addr.add a_x 4) w__36 fun (t142 : Int) w__37 =>
CallT (.o (.lf .b)) P0 48 [(.int .i64 t142), (.int .i64 1), (.int .i64 6)] w__37 fun (t143 : Bool) w__38 =>
K t143 w__38) ∧
(((t137 : Int) == 0) = false → K false w__36)) ∧
(((t132 : Int) == 0) = false → K false w__35)) ∧
(((t127 : Int) == (-1)) = false → K false w__34)) ∧
(((t123 : Int) == 0) = false → K false w__33)) ∧
(((t120 : Int) == 19) = false → Ld (.i .i64) (Addr.add a_x 0) w__32 fun (t147 : Int) w__39 =>
(((t147 : Int) == 20) = true → LdA (R 6 (.i .i64)) a_x w__39 fun (t149 : Tup (R 6 (.i .i64))) w__40 =>
RunT (.o (.lf .b)) P0 (do eqGuard .eql 39 (.tmp 149) (.tmp 150) (.agg (Tup.cells (R 6 (.i .i64)) t149).toArray) (.agg #[(.int .i64 20), (.int .i64 0), (.int .i64 (-1)), (.int .i64 0), (.int .i64 0), (.int .i64 0)]); binOp .eql 39 (.agg (Tup.cells (R 6 (.i .i64)) t149).toArray) (.agg #[(.int .i64 20), (.int .i64 0), (.int .i64 (-1)), (.int .i64 0), (.int .i64 0), (.int .i64 0)])) w__40 fun (t151 : Bool) w__41 =>
K t151 w__41) ∧
(((t147 : Int) == 20) = false → K false w__39)))))))
theorem spec.l1Bare.ok {x : Tup (R 6 (.i .i64))} {w : World} {K : Bool → World → Prop} (h : spec.l1Bare.vc x w K) : CallT (.o (.lf .b)) P0 82 [(.agg (Tup.cells (R 6 (.i .i64)) x).toArray)] w K :=
  call_of Tryz.func82 rfl rfl (pl := spec.l1Bare.pl) (show VC P0 Tryz.f82 spec.l1Bare.pl (.o (.lf .b)) [(.agg (Tup.cells (R 6 (.i .i64)) x).toArray)] w K noP from Eq.mp (by kernel_rfl) h)
/- spec.l1InsOk -/
def spec.l1InsOk.pl : Pl := (.s (.r (D 2)) (.s (.r [.d, (.l (.lf (.i .i64))), (.c (.o (.lf .b))), (.sp .d), .d, (.l (.lf (.i .i64))), (.c (.o (.lf .b))), .d, (.sp .d), .d, (.l (.lf (.i .i64))), (.c (.o (.lf .b))), .d, (.sp .d), .d, (.l (.lf (.i .i64))), (.c (.o (.lf .b))), .d, (.sp .d), (.l (.ag (R 6 (.i .i64)))), (.c (.o (.lf .b))), .d, .d]) .z))
def spec.l1InsOk.vc (x : Tup (R 6 (.i .i64))) (w : World) (K : Bool → World → Prop) : Prop :=
Nw (Tup.cells (R 6 (.i .i64)) x).toArray 39 w fun a_x w_ =>
Ld (.i .i64) (Addr.add a_x 1) w_ fun (t4 : Int) w__1 =>
CallT (.o (.lf .b)) P0 48 [(.int .i64 t4), (.int .i64 0), (.int .i64 10)] w__1 fun (t5 : Bool) w__2 =>
(t5 = true → Ld (.i .i64) (Addr.add a_x 2) w__2 fun (t8 : Int) w__3 =>
CallT (.o (.lf .b)) P0 48 [(.int .i64 t8), (.int .i64 (-1)), (.int .i64 10)] w__3 fun (t9 : Bool) w__4 =>
(t9 = true → Ld (.i .i64) (Addr.add a_x 3) w__4 fun (t13 : Int) w__5 =>
CallT (.o (.lf .b)) P0 48 [(.int .i64 t13), (.int .i64 (-128)), (.int .i64 127)] w__5 fun (t14 : Bool) w__6 =>
(t14 = true → Ld (.i .i64) (Addr.add a_x 4) w__6 fun (t18 : Int) w__7 =>
CallT (.o (.lf .b)) P0 48 [(.int .i64 t18), (.int .i64 0), (.int .i64 4294967295)] w__7 fun (t19 : Bool) w__8 =>
(t19 = true → LdA (R 6 (.i .i64)) a_x w__8 fun (t22 : Tup (R 6 (.i .i64))) w__9 =>
CallT (.o (.lf .b)) P0 82 [(.agg (Tup.cells (R 6 (.i .i64)) t22).toArray)] w__9 fun (t23 : Bool) w__10 =>
K t23 w__10) ∧
(t19 = false → K false w__8)) ∧
(t14 = false → K false w__6)) ∧
(t9 = false → K false w__4)) ∧
(t5 = false → K false w__2)
theorem spec.l1InsOk.ok {x : Tup (R 6 (.i .i64))} {w : World} {K : Bool → World → Prop} (h : spec.l1InsOk.vc x w K) : CallT (.o (.lf .b)) P0 50 [(.agg (Tup.cells (R 6 (.i .i64)) x).toArray)] w K :=
  call_of Tryz.func50 rfl rfl (pl := spec.l1InsOk.pl) (show VC P0 Tryz.f50 spec.l1InsOk.pl (.o (.lf .b)) [(.agg (Tup.cells (R 6 (.i .i64)) x).toArray)] w K noP from Eq.mp (by kernel_rfl) h)
/- spec.l1Form -/
def spec.l1Form.pl : Pl := (.s (.r (D 1)) (.s (.s (.r (D 1)) (.b (.l [(3, (.i .i64))] (.s (.s (.r (D 4)) (.c .z .z)) (.s (.b (.s (.s (.r [.d, .d, .d, (.l (.ag (R 6 (.i .i64)))), (.c (.o (.lf .b))), .d]) (.c (.s (.r (D 1)) .z) .z)) (.j [(30, .b)] (.r [.d, .d, .d, .d, (.l (.lf (.i .i64))), (.c (.o (.lf .b))), (.sp .d), .d, .d, .d, .d, (.l (.lf (.i .i64))), .d, .d]) (.c (.s (.r [.d, .d, .d, .d, .d, .d, (.l (.lf (.i .i64))), .d, .d, .d, .d, (.c (.o (.lf .b))), .d]) (.c (.s (.r (D 1)) .z) .z)) .z)))) (.r (D 3))))))) (.s (.r (D 3)) (.s (.s (.r (D 2)) (.c (.s (.r (D 1)) .z) .z)) (.s (.s (.r [.d, .d, (.sp .d), .d, .d, .d, .d, .d, (.l (.lf (.i .i64))), .d, (.sp .d), .d, .d, .d, .d, .d, (.l (.lf (.i .i64))), .d, .d, .d]) (.c (.s (.r (D 1)) .z) .z)) (.s (.r (D 1)) .z))))))
def spec.l1Form.vc (list : Sl) (w : World) (K : Int → World → Prop) : Prop :=
∃ (I : Int → World → Prop) (M : Int → World → Nat),
I 0 w ∧
(∀ (i : Int) w_, I i w_ → ∀ _ : Nat → Value,
((decide ((i : Int) < ((list.n : Nat) : Int))) = true → Ix list.a list.n i 6 w_ fun a_t13 w__1 =>
LdA (R 6 (.i .i64)) a_t13 w__1 fun (t14 : Tup (R 6 (.i .i64))) w__2 =>
CallT (.o (.lf .b)) P0 50 [(.agg (Tup.cells (R 6 (.i .i64)) t14).toArray)] w__2 fun (t15 : Bool) w__3 =>
((!t15) = true → K 1 w__3) ∧
((!t15) = false → ∃ J : Bool → World → Prop,
(Ix list.a list.n i 6 w__3 fun a_t19 w__4 =>
Ld (.i .i64) (Addr.add a_t19 0) w__4 fun (t21 : Int) w__5 =>
CallT (.o (.lf .b)) P0 46 [(.int .i64 t21)] w__5 fun (t22 : Bool) w__6 =>
(t22 = true → J true w__6) ∧
(t22 = false → Ix list.a list.n i 6 w__6 fun a_t26 w__7 =>
Ld (.i .i64) (Addr.add a_t26 0) w__7 fun (t28 : Int) w__8 =>
J ((t28 : Int) == 16) w__8)) ∧
(∀ (t30 : Bool) w__9, J t30 w__9 → ∀ _ : Nat → Value,
(t30 = true → Ix list.a list.n i 6 w__9 fun a_t35 w__10 =>
Ld (.i .i64) (Addr.add a_t35 3) w__10 fun (t37 : Int) w__11 =>
CallT (.o (.lf .b)) P0 48 [(.int .i64 (IntKind.wrap .i64 ((IntKind.wrap .i64 (i + 1)) + t37))), (.int .i64 0), (.int .i64 (IntKind.wrap .i64 (((list.n : Nat) : Int) - 1)))] w__11 fun (t42 : Bool) w__12 =>
((!t42) = true → K 2 w__12) ∧
((!t42) = false → (I (IntKind.wrap .i64 (i + 1)) w__12 ∧ M (IntKind.wrap .i64 (i + 1)) w__12 < M i w_))) ∧
(t30 = false → (I (IntKind.wrap .i64 (i + 1)) w__9 ∧ M (IntKind.wrap .i64 (i + 1)) w__9 < M i w_))))) ∧
((decide ((i : Int) < ((list.n : Nat) : Int))) = false → ((decide ((((list.n : Nat) : Int) : Int) > 48)) = true → K 3 w_) ∧
((decide ((((list.n : Nat) : Int) : Int) > 48)) = false → (((((list.n : Nat) : Int) : Int) == 0) = true → K 4 w_) ∧
(((((list.n : Nat) : Int) : Int) == 0) = false → Ix list.a list.n (IntKind.wrap .i64 (((list.n : Nat) : Int) - 1)) 6 w_ fun a_t54 w__13 =>
Ld (.i .i64) (Addr.add a_t54 0) w__13 fun (t56 : Int) w__14 =>
(((t56 : Int) != 20) = true → Ix list.a list.n (IntKind.wrap .i64 (((list.n : Nat) : Int) - 1)) 6 w__14 fun a_t62 w__15 =>
Ld (.i .i64) (Addr.add a_t62 0) w__15 fun (t64 : Int) w__16 =>
(((t64 : Int) != 16) = true → K 4 w__16) ∧
(((t64 : Int) != 16) = false → K 0 w__16)) ∧
(((t56 : Int) != 20) = false → K 0 w__14)))))
theorem spec.l1Form.ok {list : Sl} {w : World} {K : Int → World → Prop} (h : spec.l1Form.vc list w K) : CallT (.o (.lf (.i .i64))) P0 19 [list.v] w K :=
  call_of Tryz.func19 rfl rfl (pl := spec.l1Form.pl) (show VC P0 Tryz.f19 spec.l1Form.pl (.o (.lf (.i .i64))) [list.v] w K noP from Eq.mp (by kernel_rfl) h)
/- laws.eqIns -/
def laws.eqIns.pl : Pl := (.s (.r (D 3)) (.s (.s (.r [.d, (.l (.lf (.i .i64))), .d, (.l (.lf (.i .i64))), .d]) (.c (.s (.r (D 1)) .z) .z)) (.s (.s (.r [.d, (.l (.lf (.i .i64))), .d, (.l (.lf (.i .i64))), .d]) (.c (.s (.r (D 1)) .z) .z)) (.s (.s (.r [.d, (.l (.lf (.i .i64))), .d, (.l (.lf (.i .i64))), .d]) (.c (.s (.r (D 1)) .z) .z)) (.s (.s (.r [.d, (.l (.lf (.i .i64))), .d, (.l (.lf (.i .i64))), .d]) (.c (.s (.r (D 1)) .z) .z)) (.s (.s (.r [.d, (.l (.lf (.i .i64))), .d, (.l (.lf (.i .i64))), .d]) (.c (.s (.r (D 1)) .z) .z)) (.s (.s (.r [.d, (.l (.lf (.i .i64))), .d, (.l (.lf (.i .i64))), .d]) (.c (.s (.r (D 1)) .z) .z)) (.s (.r (D 1)) .z))))))))
def laws.eqIns.vc (a : Tup (R 6 (.i .i64))) (b : Tup (R 6 (.i .i64))) (w : World) (K : Bool → World → Prop) : Prop :=
Nw (Tup.cells (R 6 (.i .i64)) a).toArray 39 w fun a_a w_ =>
Nw (Tup.cells (R 6 (.i .i64)) b).toArray 39 w_ fun a_b w__1 =>
Ld (.i .i64) (Addr.add a_a 0) w__1 fun (t6 : Int) w__2 =>
Ld (.i .i64) (Addr.add a_b 0) w__2 fun (t8 : Int) w__3 =>
(((t6 : Int) != t8) = true → K false w__3) ∧
(((t6 : Int) != t8) = false → Ld (.i .i64) (Addr.add a_a 1) w__3 fun (t11 : Int) w__4 =>
Ld (.i .i64) (Addr.add a_b 1) w__4 fun (t13 : Int) w__5 =>
(((t11 : Int) != t13) = true → K false w__5) ∧
(((t11 : Int) != t13) = false → Ld (.i .i64) (Addr.add a_a 2) w__5 fun (t16 : Int) w__6 =>
Ld (.i .i64) (Addr.add a_b 2) w__6 fun (t18 : Int) w__7 =>
(((t16 : Int) != t18) = true → K false w__7) ∧
(((t16 : Int) != t18) = false → Ld (.i .i64) (Addr.add a_a 3) w__7 fun (t21 : Int) w__8 =>
Ld (.i .i64) (Addr.add a_b 3) w__8 fun (t23 : Int) w__9 =>
(((t21 : Int) != t23) = true → K false w__9) ∧
(((t21 : Int) != t23) = false → Ld (.i .i64) (Addr.add a_a 4) w__9 fun (t26 : Int) w__10 =>
Ld (.i .i64) (Addr.add a_b 4) w__10 fun (t28 : Int) w__11 =>
(((t26 : Int) != t28) = true → K false w__11) ∧
(((t26 : Int) != t28) = false → Ld (.i .i64) (Addr.add a_a 5) w__11 fun (t31 : Int) w__12 =>
Ld (.i .i64) (Addr.add a_b 5) w__12 fun (t33 : Int) w__13 =>
(((t31 : Int) != t33) = true → K false w__13) ∧
(((t31 : Int) != t33) = false → K true w__13))))))
theorem laws.eqIns.ok {a : Tup (R 6 (.i .i64))} {b : Tup (R 6 (.i .i64))} {w : World} {K : Bool → World → Prop} (h : laws.eqIns.vc a b w K) : CallT (.o (.lf .b)) P0 24 [(.agg (Tup.cells (R 6 (.i .i64)) a).toArray), (.agg (Tup.cells (R 6 (.i .i64)) b).toArray)] w K :=
  call_of Tryz.func24 rfl rfl (pl := laws.eqIns.pl) (show VC P0 Tryz.f24 laws.eqIns.pl (.o (.lf .b)) [(.agg (Tup.cells (R 6 (.i .i64)) a).toArray), (.agg (Tup.cells (R 6 (.i .i64)) b).toArray)] w K noP from Eq.mp (by kernel_rfl) h)
/- laws.eqInsS -/
def laws.eqInsS.pl : Pl := (.s (.r (D 1)) (.s (.s (.r (D 5)) (.c (.s (.r (D 1)) .z) .z)) (.s (.s (.r (D 1)) (.b (.l [(5, (.i .i64))] (.s (.s (.r (D 4)) (.c .z .z)) (.s (.b (.s (.r [.d, .d, .d, (.l (.ag (R 6 (.i .i64)))), .d, .d, .d, (.l (.ag (R 6 (.i .i64)))), (.c (.o (.lf .b))), .d]) (.c (.s (.r (D 1)) .z) .z))) (.r (D 3))))))) (.s (.r (D 1)) .z))))
def laws.eqInsS.vc (a : Sl) (b : Sl) (w : World) (K : Bool → World → Prop) : Prop :=
(((((a.n : Nat) : Int) : Int) != ((b.n : Nat) : Int)) = true → K false w) ∧
(((((a.n : Nat) : Int) : Int) != ((b.n : Nat) : Int)) = false → ∃ (I : Int → World → Prop) (M : Int → World → Nat),
I 0 w ∧
(∀ (i : Int) w_, I i w_ → ∀ _ : Nat → Value,
((decide ((i : Int) < ((a.n : Nat) : Int))) = true → QIx a.a a.n i 6 fun a_t19 =>
QLdA (R 6 (.i .i64)) a_t19 (fun w' => Below (World.heap w_).size w_ w') fun (t20 : Tup (R 6 (.i .i64))) =>
QIx b.a b.n i 6 fun a_t23 =>
QLdA (R 6 (.i .i64)) a_t23 (fun w' => Below (World.heap w_).size w_ w') fun (t24 : Tup (R 6 (.i .i64))) =>
QCl (.o (.lf .b)) P0 24 [(.agg (Tup.cells (R 6 (.i .i64)) t20).toArray), (.agg (Tup.cells (R 6 (.i .i64)) t24).toArray)] (fun w' => Below (World.heap w_).size w_ w') fun (t25 : Bool) =>
∀ w__1, Below (World.heap w_).size w_ w__1 →
((!t25) = true → K false w__1) ∧
((!t25) = false → (I (IntKind.wrap .i64 (i + 1)) w__1 ∧ M (IntKind.wrap .i64 (i + 1)) w__1 < M i w_))) ∧
((decide ((i : Int) < ((a.n : Nat) : Int))) = false → K true w_)))
theorem laws.eqInsS.ok {a : Sl} {b : Sl} {w : World} {K : Bool → World → Prop} (h : laws.eqInsS.vc a b w K) : CallT (.o (.lf .b)) P0 8 [a.v, b.v] w K :=
  call_of Tryz.func8 rfl rfl (pl := laws.eqInsS.pl) (show VC P0 Tryz.f8 laws.eqInsS.pl (.o (.lf .b)) [a.v, b.v] w K noP from Eq.mp (by kernel_rfl) h)
/- laws.markInsS -/
def laws.markInsS.pl : Pl := (.s (.r (D 1)) (.s (.s (.r (D 1)) (.b (.l [(1, (.i .i64)), (5, (.i .i64))] (.s (.s (.r (D 4)) (.c .z .z)) (.s (.b (.s (.r (D 6)) (.s (.r (D 3)) (.s (.r (D 6)) (.s (.r (D 3)) (.s (.r (D 6)) (.s (.r (D 3)) (.s (.r (D 6)) (.s (.r (D 3)) (.s (.r (D 6)) (.s (.r (D 3)) (.s (.r (D 6)) (.r (D 3)))))))))))))) (.r (D 3))))))) (.s (.r (D 2)) .z)))
def laws.markInsS.vc (a : Sl) (k : Int) (w : World) (K : Int → World → Prop) : Prop :=
∃ (I : Int → Int → World → Prop) (M : Int → Int → World → Nat),
I k 0 w ∧
(∀ (k_1 : Int) (i : Int) w_, I k_1 i w_ → ∀ _ : Nat → Value,
((decide ((i : Int) < ((a.n : Nat) : Int))) = true → Ix a.a a.n i 6 w_ fun a_t15 w__1 =>
St (Addr.add a_t15 0) (.int .i64 k_1) w__1 fun w__2 =>
Ix a.a a.n i 6 w__2 fun a_t22 w__3 =>
St (Addr.add a_t22 1) (.int .i64 (IntKind.wrap .i64 (k_1 + 1))) w__3 fun w__4 =>
Ix a.a a.n i 6 w__4 fun a_t29 w__5 =>
St (Addr.add a_t29 2) (.int .i64 (IntKind.wrap .i64 ((IntKind.wrap .i64 (k_1 + 1)) + 1))) w__5 fun w__6 =>
Ix a.a a.n i 6 w__6 fun a_t36 w__7 =>
St (Addr.add a_t36 3) (.int .i64 (IntKind.wrap .i64 ((IntKind.wrap .i64 ((IntKind.wrap .i64 (k_1 + 1)) + 1)) + 1))) w__7 fun w__8 =>
Ix a.a a.n i 6 w__8 fun a_t43 w__9 =>
St (Addr.add a_t43 4) (.int .i64 (IntKind.wrap .i64 ((IntKind.wrap .i64 ((IntKind.wrap .i64 ((IntKind.wrap .i64 (k_1 + 1)) + 1)) + 1)) + 1))) w__9 fun w__10 =>
Ix a.a a.n i 6 w__10 fun a_t50 w__11 =>
St (Addr.add a_t50 5) (.int .i64 (IntKind.wrap .i64 ((IntKind.wrap .i64 ((IntKind.wrap .i64 ((IntKind.wrap .i64 ((IntKind.wrap .i64 (k_1 + 1)) + 1)) + 1)) + 1)) + 1))) w__11 fun w__12 =>
(I (IntKind.wrap .i64 ((IntKind.wrap .i64 ((IntKind.wrap .i64 ((IntKind.wrap .i64 ((IntKind.wrap .i64 ((IntKind.wrap .i64 (k_1 + 1)) + 1)) + 1)) + 1)) + 1)) + 1)) (IntKind.wrap .i64 (i + 1)) w__12 ∧ M (IntKind.wrap .i64 ((IntKind.wrap .i64 ((IntKind.wrap .i64 ((IntKind.wrap .i64 ((IntKind.wrap .i64 ((IntKind.wrap .i64 (k_1 + 1)) + 1)) + 1)) + 1)) + 1)) + 1)) (IntKind.wrap .i64 (i + 1)) w__12 < M k_1 i w_)) ∧
((decide ((i : Int) < ((a.n : Nat) : Int))) = false → K k_1 w_))
theorem laws.markInsS.ok {a : Sl} {k : Int} {w : World} {K : Int → World → Prop} (h : laws.markInsS.vc a k w K) : CallT (.o (.lf (.i .i64))) P0 9 [a.v, (.int .i64 k)] w K :=
  call_of Tryz.func9 rfl rfl (pl := laws.markInsS.pl) (show VC P0 Tryz.f9 laws.markInsS.pl (.o (.lf (.i .i64))) [a.v, (.int .i64 k)] w K noP from Eq.mp (by kernel_rfl) h)
end Go.Proofs.YteggdoigliddkaaGreatDoor.V

/-
  DERIVED: THE SHELF's CONTRACTS AT THIS DUMP, IN PLAIN WORDS (tools/lay-plain.mjs out of 'TryzShelf.lean', which tools/lay-shelf.mjs wrote): THE SAME DECLARATIONS UNDER THE SAME NAMES: 'import', 'namespace', 'open', 'def', 'theorem' AND NOTHING ELSE: no command of the shelf's: FOR A HAND-IN. Each laying: the table of numbers ('.._ren') and one theorem, a field a fact of the dump's own or the kernel's comparison; each contract: ONE APPLICATION.
-/
namespace Go.Proofs
open Go.Shelf
def Tryz.lays169_ren : Go.Shelf.Ren := ⟨fun | 169 => 34 | n => n, fun | 70 => 53 | 9 => 9 | 0 => 0 | 72 => 55 | 37 => 28 | 127 => 98 | 3 => 3 | 5 => 5 | n => n, fun | n => n⟩
theorem Tryz.lays169 : Go.Proofs.Lays.n169 Tryz.prog Tryz.lays169_ren := {
  mixed := by kernel_rfl
  f169 := Tryz.func34.trans (congrArg some (by kernel_rfl))
  t0 := Tryz.underlying0
  a0 := Tryz.isAgg0
  z0 := Tryz.sizeOf0
  v0 := Tryz.zeroValue0
  t3 := Tryz.underlying3
  a3 := Tryz.isAgg3
  z3 := Tryz.sizeOf3
  v3 := Tryz.zeroValue3
  t9 := Tryz.underlying9
  a9 := Tryz.isAgg9
  z9 := Tryz.sizeOf9
  v9 := Tryz.zeroValue9
  t37 := Tryz.underlying28
  a37 := Tryz.isAgg28
  z37 := Tryz.sizeOf28
  v37 := Tryz.zeroValue28
  t70 := Tryz.underlying53
  a70 := Tryz.isAgg53
  z70 := Tryz.sizeOf53
  v70 := Tryz.zeroValue53
  t72 := Tryz.underlying55
  a72 := Tryz.isAgg55
  z72 := Tryz.sizeOf55
  v72 := Tryz.zeroValue55
  t127 := Tryz.underlying98
  a127 := Tryz.isAgg98
  z127 := Tryz.sizeOf98
  v127 := Tryz.zeroValue98 }
theorem Tryz.Builder_Extra_169 : Builder.Extra Tryz.prog Tryz.lays169_ren := {
  sizeBuilder := by kernel_rfl
  liesBuilder := by kernel_rfl
  t5 := Tryz.underlying5
  a5 := Tryz.isAgg5
  z5 := Tryz.sizeOf5
  v5 := Tryz.zeroValue5
  infoByte := by kernel_rfl
  cellsByte := by kernel_rfl
  sizeByte := by kernel_rfl
  neB5 := by decide }
open Go.RowKit in
/-- (*strings.Builder).String: "String returns the accumulated string.": OF A BUILDER THAT HOLDS AT LEAST ONE BYTE. ✋ THE MODEL FREEZES THOSE BYTES IN THE BUFFER (unsafe.String): a later write INTO them ends the model's run without an answer; a later append BEHIND them goes on. The statement's order of evaluation is drawn: one draw. (LAID: no walk: one application.) -/
theorem Tryz.Builder_String (B b : Nat) (l : List UInt8) (w : World) (h : Lib.IsBuilder 55 5 B b (Lib.byteCells l) w) (h0 : l ≠ []) :
    Calls Tryz.prog 34 #[.pointer (some ⟨b, 0, none⟩)] w fun e w' => e = .returned (.string ⟨l.toArray⟩) ∧ Below B w w' := Any.Builder_String Tryz.lays169 Tryz.Builder_Extra_169 B b l w h h0
open Go.RowKit in
/-- (*strings.Builder).String OF A BUILDER THAT HOLDS NO BYTE: the empty string. (Its buffer is nil, or a row of which it has taken nothing yet; where that row has NO capacity the model lays one new block for unsafe.SliceData's 'some address'.) One draw. (LAID: no walk: one application.) -/
theorem Tryz.Builder_String_empty (B b : Nat) (w : World) (h : Lib.IsBuilder 55 5 B b [] w) (hBw : B ≤ w.heap.size) :
    Calls Tryz.prog 34 #[.pointer (some ⟨b, 0, none⟩)] w fun e w' => e = .returned (.string ⟨#[]⟩) ∧ Below B w w' := Any.Builder_String_empty Tryz.lays169 Tryz.Builder_Extra_169 B b w h hBw
open Go.RowKit in
/-- (*strings.Builder).String: "String returns the accumulated string.": WHATEVER THE BUILDER HOLDS. (LAID: no walk: one application.) -/
theorem Tryz.Builder_String_any (B b : Nat) (l : List UInt8) (w : World) (h : Lib.IsBuilder 55 5 B b (Lib.byteCells l) w) (hBw : B ≤ w.heap.size) :
    Calls Tryz.prog 34 #[.pointer (some ⟨b, 0, none⟩)] w fun e w' => e = .returned (.string ⟨l.toArray⟩) ∧ Below B w w' := Any.Builder_String_any Tryz.lays169 Tryz.Builder_Extra_169 B b l w h hBw
def Tryz.lays128_ren : Go.Shelf.Ren := ⟨fun | 128 => 132 | n => n, fun | 51 => 130 | 3 => 3 | 4 => 4 | 46 => 92 | 5 => 5 | 9 => 9 | n => n, fun | n => n⟩
theorem Tryz.lays128 : Go.Proofs.Lays.n128 Tryz.prog Tryz.lays128_ren := {
  mixed := by kernel_rfl
  f128 := Tryz.func132.trans (congrArg some (by kernel_rfl))
  t3 := Tryz.underlying3
  a3 := Tryz.isAgg3
  z3 := Tryz.sizeOf3
  v3 := Tryz.zeroValue3
  t4 := Tryz.underlying4
  a4 := Tryz.isAgg4
  z4 := Tryz.sizeOf4
  v4 := Tryz.zeroValue4
  t5 := Tryz.underlying5
  a5 := Tryz.isAgg5
  z5 := Tryz.sizeOf5
  v5 := Tryz.zeroValue5
  t9 := Tryz.underlying9
  a9 := Tryz.isAgg9
  z9 := Tryz.sizeOf9
  v9 := Tryz.zeroValue9
  t46 := Tryz.underlying92
  a46 := Tryz.isAgg92
  z46 := Tryz.sizeOf92
  v46 := Tryz.zeroValue92
  t51 := Tryz.underlying130
  a51 := Tryz.isAgg130
  z51 := Tryz.sizeOf130
  v51 := Tryz.zeroValue130 }
/-- bits.Len32: "Len32 returns the minimum number of bits required to represent x; the result is 0 for x == 0.": IT RETURNS 'Lib.bitLen x'; the world is as it was. ('h0', 'h1': x is a uint32.) (LAID: no walk: one application.) -/
theorem Tryz.bits_Len32 (x : Int) (w : World) (h0 : 0 ≤ x) (h1 : x ≤ 4294967295) :
    Calls Tryz.prog 132 #[.int .u32 x] w fun e w' => e = .returned (.int .i64 (Lib.bitLen x.toNat)) ∧ w' = w := Any.bits_Len32 Tryz.lays128 x w h0 h1
def Tryz.lays125_ren : Go.Shelf.Ren := ⟨fun | 125 => 112 | 128 => 132 | 129 => 133 | n => n, fun | 46 => 92 | 3 => 3 | 51 => 130 | 53 => 125 | 4 => 4 | 5 => 5 | 9 => 9 | n => n, fun | n => n⟩
theorem Tryz.lays125 : Go.Proofs.Lays.n125 Tryz.prog Tryz.lays125_ren := {
  mixed := by kernel_rfl
  f125 := Tryz.func112.trans (congrArg some (by kernel_rfl))
  f128 := Tryz.func132.trans (congrArg some (by kernel_rfl))
  f129 := Tryz.func133.trans (congrArg some (by kernel_rfl))
  t3 := Tryz.underlying3
  a3 := Tryz.isAgg3
  z3 := Tryz.sizeOf3
  v3 := Tryz.zeroValue3
  t4 := Tryz.underlying4
  a4 := Tryz.isAgg4
  z4 := Tryz.sizeOf4
  v4 := Tryz.zeroValue4
  t5 := Tryz.underlying5
  a5 := Tryz.isAgg5
  z5 := Tryz.sizeOf5
  v5 := Tryz.zeroValue5
  t9 := Tryz.underlying9
  a9 := Tryz.isAgg9
  z9 := Tryz.sizeOf9
  v9 := Tryz.zeroValue9
  t46 := Tryz.underlying92
  a46 := Tryz.isAgg92
  z46 := Tryz.sizeOf92
  v46 := Tryz.zeroValue92
  t51 := Tryz.underlying130
  a51 := Tryz.isAgg130
  z51 := Tryz.sizeOf130
  v51 := Tryz.zeroValue130
  t53 := Tryz.underlying125
  a53 := Tryz.isAgg125
  z53 := Tryz.sizeOf125
  v53 := Tryz.zeroValue125 }
/-- bits.Len: "Len returns the minimum number of bits required to represent x; the result is 0 for x == 0.": IT RETURNS 'Lib.bitLen x'; the world is as it was. (A uint has 64 bits in the model.) ITS CALLEE bits.Len64 IS MET BY ITS OWN CONTRACT OFF THE SHELF (lay that first). (LAID: no walk: one application.) -/
theorem Tryz.bits_Len (x : Int) (w : World) (h0 : 0 ≤ x) (h1 : x ≤ 18446744073709551615) :
    Calls Tryz.prog 112 #[.int .u64 x] w fun e w' => e = .returned (.int .i64 (Lib.bitLen x.toNat)) ∧ w' = w := Any.bits_Len Tryz.lays125 x w h0 h1
def Tryz.lays210_ren : Go.Shelf.Ren := ⟨fun | 210 => 85 | 206 => 87 | n => n, fun | 9 => 9 | 4 => 4 | 3 => 3 | n => n, fun | n => n⟩
theorem Tryz.lays210 : Go.Proofs.Lays.n210 Tryz.prog Tryz.lays210_ren := {
  mixed := by kernel_rfl
  f206 := Tryz.func87.trans (congrArg some (by kernel_rfl))
  f210 := Tryz.func85.trans (congrArg some (by kernel_rfl))
  t3 := Tryz.underlying3
  a3 := Tryz.isAgg3
  z3 := Tryz.sizeOf3
  v3 := Tryz.zeroValue3
  t4 := Tryz.underlying4
  a4 := Tryz.isAgg4
  z4 := Tryz.sizeOf4
  v4 := Tryz.zeroValue4
  t9 := Tryz.underlying9
  a9 := Tryz.isAgg9
  z9 := Tryz.sizeOf9
  v9 := Tryz.zeroValue9 }
open Go.RowKit in
/-- internal/stringslite.CutPrefix (what strings.CutPrefix calls). (LAID: no walk: one application.) -/
theorem Tryz.stringslite_CutPrefix (s p : ByteArray) (w : World) :
    Calls Tryz.prog 85 #[.string s, .string p] w fun e w' => e = .returned (.tuple #[.string ⟨(Lib.trimPrefix s.data.toList p.data.toList).toArray⟩, .bool (Lib.hasPrefix s.data.toList p.data.toList)]) ∧ w' = w := Any.stringslite_CutPrefix Tryz.lays210 s p w
def Tryz.lays103_ren : Go.Shelf.Ren := ⟨fun | 103 => 56 | 210 => 85 | 206 => 87 | n => n, fun | 9 => 9 | 4 => 4 | 24 => 84 | 3 => 3 | n => n, fun | n => n⟩
theorem Tryz.lays103 : Go.Proofs.Lays.n103 Tryz.prog Tryz.lays103_ren := {
  mixed := by kernel_rfl
  f103 := Tryz.func56.trans (congrArg some (by kernel_rfl))
  f206 := Tryz.func87.trans (congrArg some (by kernel_rfl))
  f210 := Tryz.func85.trans (congrArg some (by kernel_rfl))
  t3 := Tryz.underlying3
  a3 := Tryz.isAgg3
  z3 := Tryz.sizeOf3
  v3 := Tryz.zeroValue3
  t4 := Tryz.underlying4
  a4 := Tryz.isAgg4
  z4 := Tryz.sizeOf4
  v4 := Tryz.zeroValue4
  t9 := Tryz.underlying9
  a9 := Tryz.isAgg9
  z9 := Tryz.sizeOf9
  v9 := Tryz.zeroValue9
  t24 := Tryz.underlying84
  a24 := Tryz.isAgg84
  z24 := Tryz.sizeOf84
  v24 := Tryz.zeroValue84 }
open Go.RowKit in
/-- strings.CutPrefix: "CutPrefix returns s without the provided leading prefix string and reports whether it found the prefix. If s doesn't start with prefix, CutPrefix returns s, false. If prefix is the empty string, CutPrefix returns s, true.": IT RETURNS '(Lib.trimPrefix s p, Lib.hasPrefix s p)'; the world is as it was. (LAID: no walk: one application.) -/
theorem Tryz.strings_CutPrefix (s p : ByteArray) (w : World) :
    Calls Tryz.prog 56 #[.string s, .string p] w fun e w' => e = .returned (.tuple #[.string ⟨(Lib.trimPrefix s.data.toList p.data.toList).toArray⟩, .bool (Lib.hasPrefix s.data.toList p.data.toList)]) ∧ w' = w := Any.strings_CutPrefix Tryz.lays103 s p w
def Tryz.lays211_ren : Go.Shelf.Ren := ⟨fun | 211 => 84 | 207 => 106 | n => n, fun | 9 => 9 | 4 => 4 | 3 => 3 | n => n, fun | n => n⟩
theorem Tryz.lays211 : Go.Proofs.Lays.n211 Tryz.prog Tryz.lays211_ren := {
  mixed := by kernel_rfl
  f207 := Tryz.func106.trans (congrArg some (by kernel_rfl))
  f211 := Tryz.func84.trans (congrArg some (by kernel_rfl))
  t3 := Tryz.underlying3
  a3 := Tryz.isAgg3
  z3 := Tryz.sizeOf3
  v3 := Tryz.zeroValue3
  t4 := Tryz.underlying4
  a4 := Tryz.isAgg4
  z4 := Tryz.sizeOf4
  v4 := Tryz.zeroValue4
  t9 := Tryz.underlying9
  a9 := Tryz.isAgg9
  z9 := Tryz.sizeOf9
  v9 := Tryz.zeroValue9 }
open Go.RowKit in
/-- internal/stringslite.CutSuffix (what strings.CutSuffix calls). (LAID: no walk: one application.) -/
theorem Tryz.stringslite_CutSuffix (s p : ByteArray) (w : World) (hs : s.size ≤ 9223372036854775807) :
    Calls Tryz.prog 84 #[.string s, .string p] w fun e w' => e = .returned (.tuple #[.string ⟨(Lib.trimSuffix s.data.toList p.data.toList).toArray⟩, .bool (Lib.hasSuffix s.data.toList p.data.toList)]) ∧ w' = w := Any.stringslite_CutSuffix Tryz.lays211 s p w hs
def Tryz.lays104_ren : Go.Shelf.Ren := ⟨fun | 104 => 55 | 211 => 84 | 207 => 106 | n => n, fun | 9 => 9 | 4 => 4 | 24 => 84 | 3 => 3 | n => n, fun | n => n⟩
theorem Tryz.lays104 : Go.Proofs.Lays.n104 Tryz.prog Tryz.lays104_ren := {
  mixed := by kernel_rfl
  f104 := Tryz.func55.trans (congrArg some (by kernel_rfl))
  f207 := Tryz.func106.trans (congrArg some (by kernel_rfl))
  f211 := Tryz.func84.trans (congrArg some (by kernel_rfl))
  t3 := Tryz.underlying3
  a3 := Tryz.isAgg3
  z3 := Tryz.sizeOf3
  v3 := Tryz.zeroValue3
  t4 := Tryz.underlying4
  a4 := Tryz.isAgg4
  z4 := Tryz.sizeOf4
  v4 := Tryz.zeroValue4
  t9 := Tryz.underlying9
  a9 := Tryz.isAgg9
  z9 := Tryz.sizeOf9
  v9 := Tryz.zeroValue9
  t24 := Tryz.underlying84
  a24 := Tryz.isAgg84
  z24 := Tryz.sizeOf84
  v24 := Tryz.zeroValue84 }
open Go.RowKit in
/-- strings.CutSuffix: "CutSuffix returns s without the provided ending suffix string and reports whether it found the suffix. If s doesn't end with suffix, CutSuffix returns s, false. If suffix is the empty string, CutSuffix returns s, true.": IT RETURNS '(Lib.trimSuffix s p, Lib.hasSuffix s p)'; the world is as it was. (LAID: no walk: one application.) -/
theorem Tryz.strings_CutSuffix (s p : ByteArray) (w : World) (hs : s.size ≤ 9223372036854775807) :
    Calls Tryz.prog 55 #[.string s, .string p] w fun e w' => e = .returned (.tuple #[.string ⟨(Lib.trimSuffix s.data.toList p.data.toList).toArray⟩, .bool (Lib.hasSuffix s.data.toList p.data.toList)]) ∧ w' = w := Any.strings_CutSuffix Tryz.lays104 s p w hs
def Tryz.lays215_ren : Go.Shelf.Ren := ⟨fun | 215 => 93 | n => n, fun | 3 => 3 | 4 => 4 | n => n, fun | n => n⟩
theorem Tryz.lays215 : Go.Proofs.Lays.n215 Tryz.prog Tryz.lays215_ren := {
  mixed := by kernel_rfl
  f215 := Tryz.func93.trans (congrArg some (by kernel_rfl))
  t3 := Tryz.underlying3
  a3 := Tryz.isAgg3
  z3 := Tryz.sizeOf3
  v3 := Tryz.zeroValue3
  t4 := Tryz.underlying4
  a4 := Tryz.isAgg4
  z4 := Tryz.sizeOf4
  v4 := Tryz.zeroValue4 }
open Go.RowKit in
/-- cmp.isNaN at int: 'x != x': false. (LAID: no walk: one application.) -/
theorem Tryz.cmp_isNaN_int (x : Int) (w : World) :
    Calls Tryz.prog 93 #[.int .i64 x] w fun e w' => e = .returned (.bool false) ∧ w' = w := Any.cmp_isNaN_int Tryz.lays215 x w
open Go.RowKit in
/-- (*strings.Builder).String: "String returns the accumulated string.": OF A BUILDER THAT HOLDS AT LEAST ONE BYTE. ✋ THE MODEL FREEZES THOSE BYTES IN THE BUFFER (unsafe.String): a later write INTO them ends the model's run without an answer; a later append BEHIND them goes on. The statement's order of evaluation is drawn: one draw. THE FORM '_f': IT SAYS BESIDES THAT THE BUILDER IS A BUILDER STILL ('Lib.IsBuilderF', the same bytes): SO IT CAN BE WRITTEN ON: 'b.WriteString(b.String()[:k])'. (LAID: no walk: one application.) -/
theorem Tryz.Builder_String_f (B b : Nat) (l : List UInt8) (w : World) (h : Lib.IsBuilderF 55 5 B b (Lib.byteCells l) w) (h0 : l ≠ []) :
    Calls Tryz.prog 34 #[.pointer (some ⟨b, 0, none⟩)] w fun e w' => e = .returned (.string ⟨l.toArray⟩) ∧ (Lib.IsBuilderF 55 5 B b (Lib.byteCells l) w' ∧ Below B w w') := Any.Builder_String_f Tryz.lays169 Tryz.Builder_Extra_169 B b l w h h0
open Go.RowKit in
/-- (*strings.Builder).String OF A BUILDER THAT HOLDS NO BYTE: the empty string; THE FORM '_f': a builder still. (LAID: no walk: one application.) -/
theorem Tryz.Builder_String_empty_f (B b : Nat) (w : World) (h : Lib.IsBuilderF 55 5 B b [] w) (hBw : B ≤ w.heap.size) :
    Calls Tryz.prog 34 #[.pointer (some ⟨b, 0, none⟩)] w fun e w' => e = .returned (.string ⟨#[]⟩) ∧ (Lib.IsBuilderF 55 5 B b [] w' ∧ Below B w w') := Any.Builder_String_empty_f Tryz.lays169 Tryz.Builder_Extra_169 B b w h hBw
open Go.RowKit in
/-- (*strings.Builder).String: "String returns the accumulated string.": WHATEVER THE BUILDER HOLDS; THE FORM '_f': OF A BUILDER THAT MAY HAVE BEEN READ BEFORE; AND IT IS A BUILDER STILL, holding the same bytes: it can be written on. (LAID: no walk: one application.) -/
theorem Tryz.Builder_String_any_f (B b : Nat) (l : List UInt8) (w : World) (h : Lib.IsBuilderF 55 5 B b (Lib.byteCells l) w) (hBw : B ≤ w.heap.size) :
    Calls Tryz.prog 34 #[.pointer (some ⟨b, 0, none⟩)] w fun e w' => e = .returned (.string ⟨l.toArray⟩) ∧ (Lib.IsBuilderF 55 5 B b (Lib.byteCells l) w' ∧ Below B w w') := Any.Builder_String_any_f Tryz.lays169 Tryz.Builder_Extra_169 B b l w h hBw
open Go.RowKit in
/-- (*strings.Builder).String: "String returns the accumulated string.": OF A BUILDER THAT HOLDS AT LEAST ONE BYTE. ✋ THE MODEL FREEZES THOSE BYTES IN THE BUFFER (unsafe.String): a later write INTO them ends the model's run without an answer; a later append BEHIND them goes on. The statement's order of evaluation is drawn: one draw. THE FORM '_k': OVER 'Lib.IsBuilderF' (a builder that 'String()' may have read), AND WITH THE FRAME THAT REACHES ABOVE THE BUILDER: 'Lib.OthersKept': every block that is not b and is no row of uint8's stands as it stood: the iterator of a range among them. (LAID: no walk: one application.) -/
theorem Tryz.Builder_String_k (B b : Nat) (l : List UInt8) (w : World) (h : Lib.IsBuilderF 55 5 B b (Lib.byteCells l) w) (h0 : l ≠ []) :
    Calls Tryz.prog 34 #[.pointer (some ⟨b, 0, none⟩)] w fun e w' => e = .returned (.string ⟨l.toArray⟩) ∧ (Lib.IsBuilderF 55 5 B b (Lib.byteCells l) w' ∧ Below B w w' ∧ Lib.OthersKept 5 (some b) w w') := Any.Builder_String_k Tryz.lays169 Tryz.Builder_Extra_169 B b l w h h0
open Go.RowKit in
/-- (*strings.Builder).String OF A BUILDER THAT HOLDS NO BYTE: the empty string; THE FORM '_k': OVER 'Lib.IsBuilderF' (a builder that 'String()' may have read), AND WITH THE FRAME THAT REACHES ABOVE THE BUILDER: 'Lib.OthersKept': every block that is not b and is no row of uint8's stands as it stood: the iterator of a range among them. (LAID: no walk: one application.) -/
theorem Tryz.Builder_String_empty_k (B b : Nat) (w : World) (h : Lib.IsBuilderF 55 5 B b [] w) (hBw : B ≤ w.heap.size) :
    Calls Tryz.prog 34 #[.pointer (some ⟨b, 0, none⟩)] w fun e w' => e = .returned (.string ⟨#[]⟩) ∧ (Lib.IsBuilderF 55 5 B b [] w' ∧ Below B w w' ∧ Lib.OthersKept 5 (some b) w w') := Any.Builder_String_empty_k Tryz.lays169 Tryz.Builder_Extra_169 B b w h hBw
open Go.RowKit in
/-- (*strings.Builder).String: "String returns the accumulated string.": WHATEVER THE BUILDER HOLDS; THE FORM '_k': OVER 'Lib.IsBuilderF' (a builder that 'String()' may have read), AND WITH THE FRAME THAT REACHES ABOVE THE BUILDER: 'Lib.OthersKept': every block that is not b and is no row of uint8's stands as it stood: the iterator of a range among them. (LAID: no walk: one application.) -/
theorem Tryz.Builder_String_any_k (B b : Nat) (l : List UInt8) (w : World) (h : Lib.IsBuilderF 55 5 B b (Lib.byteCells l) w) (hBw : B ≤ w.heap.size) :
    Calls Tryz.prog 34 #[.pointer (some ⟨b, 0, none⟩)] w fun e w' => e = .returned (.string ⟨l.toArray⟩) ∧ (Lib.IsBuilderF 55 5 B b (Lib.byteCells l) w' ∧ Below B w w' ∧ Lib.OthersKept 5 (some b) w w') := Any.Builder_String_any_k Tryz.lays169 Tryz.Builder_Extra_169 B b l w h hBw
def Tryz.lays195_ren : Go.Shelf.Ren := ⟨fun | 195 => 119 | n => n, fun | 9 => 9 | 3 => 3 | 0 => 0 | 4 => 4 | n => n, fun | n => n⟩
theorem Tryz.lays195 : Go.Proofs.Lays.n195 Tryz.prog Tryz.lays195_ren := {
  mixed := by kernel_rfl
  f195 := Tryz.func119.trans (congrArg some (by kernel_rfl))
  t0 := Tryz.underlying0
  a0 := Tryz.isAgg0
  z0 := Tryz.sizeOf0
  v0 := Tryz.zeroValue0
  t3 := Tryz.underlying3
  a3 := Tryz.isAgg3
  z3 := Tryz.sizeOf3
  v3 := Tryz.zeroValue3
  t4 := Tryz.underlying4
  a4 := Tryz.isAgg4
  z4 := Tryz.sizeOf4
  v4 := Tryz.zeroValue4
  t9 := Tryz.underlying9
  a9 := Tryz.isAgg9
  z9 := Tryz.sizeOf9
  v9 := Tryz.zeroValue9 }
open Go.RowKit in
/-- unicode/utf8.RuneCountInString: "RuneCountInString is like RuneCount but its input is a string." ("RuneCount returns the number of runes in p. Erroneous and short encodings are treated as single runes of width 1 byte."): EVERY STRING, valid UTF-8 or not: 'Lib.runeCount s' (plain Lean over the model's own 'Utf8.decode'; 'Lib.runeCount_le': at most len(s); 'Lib.runeCount_ascii': on ASCII: len(s)). THE ONE CONDITION: len(s) below 2^63 - 1 (the counter does not wrap): the form's reach pays it. THE WORLD BEHIND THE CALL: ONE BLOCK MORE: the model's iterator over s, at its end: all else as it was. (LAID: no walk: one application.) -/
theorem Tryz.utf8_RuneCountInString (s : ByteArray) (w : World) (hs : s.size < 9223372036854775807) :
    Calls Tryz.prog 119 #[.string s] w fun e w' => e = .returned (.int .i64 (Lib.runeCount s)) ∧ ∃ pos, w' = w.iter s pos := Any.utf8_RuneCountInString Tryz.lays195 s w hs
def Tryz.lays244_ren : Go.Shelf.Ren := ⟨fun | 244 => 122 | 247 => 139 | 287 => 151 | 321 => 155 | 322 => 156 | n => n, fun | 9 => 9 | 3 => 3 | 75 => 58 | 4 => 4 | 5 => 5 | 167 => 147 | 37 => 28 | 0 => 0 | 85 => 148 | 2 => 2 | 53 => 125 | 175 => 163 | 46 => 92 | 21 => 21 | 80 => 65 | n => n, fun | n => n⟩
theorem Tryz.lays244 : Go.Proofs.Lays.n244 Tryz.prog Tryz.lays244_ren := {
  mixed := by kernel_rfl
  f244 := Tryz.func122.trans (congrArg some (by kernel_rfl))
  f247 := Tryz.func139.trans (congrArg some (by kernel_rfl))
  f287 := Tryz.func151.trans (congrArg some (by kernel_rfl))
  f321 := Tryz.func155.trans (congrArg some (by kernel_rfl))
  f322 := Tryz.func156.trans (congrArg some (by kernel_rfl))
  t0 := Tryz.underlying0
  a0 := Tryz.isAgg0
  z0 := Tryz.sizeOf0
  v0 := Tryz.zeroValue0
  t2 := Tryz.underlying2
  a2 := Tryz.isAgg2
  z2 := Tryz.sizeOf2
  v2 := Tryz.zeroValue2
  t3 := Tryz.underlying3
  a3 := Tryz.isAgg3
  z3 := Tryz.sizeOf3
  v3 := Tryz.zeroValue3
  t4 := Tryz.underlying4
  a4 := Tryz.isAgg4
  z4 := Tryz.sizeOf4
  v4 := Tryz.zeroValue4
  t5 := Tryz.underlying5
  a5 := Tryz.isAgg5
  z5 := Tryz.sizeOf5
  v5 := Tryz.zeroValue5
  t9 := Tryz.underlying9
  a9 := Tryz.isAgg9
  z9 := Tryz.sizeOf9
  v9 := Tryz.zeroValue9
  t21 := Tryz.underlying21
  a21 := Tryz.isAgg21
  z21 := Tryz.sizeOf21
  v21 := Tryz.zeroValue21
  t37 := Tryz.underlying28
  a37 := Tryz.isAgg28
  z37 := Tryz.sizeOf28
  v37 := Tryz.zeroValue28
  t46 := Tryz.underlying92
  a46 := Tryz.isAgg92
  z46 := Tryz.sizeOf92
  v46 := Tryz.zeroValue92
  t53 := Tryz.underlying125
  a53 := Tryz.isAgg125
  z53 := Tryz.sizeOf125
  v53 := Tryz.zeroValue125
  t75 := Tryz.underlying58
  a75 := Tryz.isAgg58
  z75 := Tryz.sizeOf58
  v75 := Tryz.zeroValue58
  t85 := Tryz.underlying148
  a85 := Tryz.isAgg148
  z85 := Tryz.sizeOf148
  v85 := Tryz.zeroValue148
  t167 := Tryz.underlying147
  a167 := Tryz.isAgg147
  z167 := Tryz.sizeOf147
  v167 := Tryz.zeroValue147
  t175 := Tryz.underlying163
  a175 := Tryz.isAgg163
  z175 := Tryz.sizeOf163
  v175 := Tryz.zeroValue163 }
open Go.RowKit in
/-- internal/strconv.Atoi, at a decimal numeral of at most 18 bytes: ITS VALUE, AND NO ERROR. The world behind the call: the one new row that '[]byte(s)' lays. (LAID: no walk: one application.) -/
theorem Tryz.internal_strconv_Atoi (s : ByteArray) (n : Int) (hl : s.size ≤ 18) (h : Lib.atoi s.data.toList = some n) (w : World) :
    Calls Tryz.prog 122 #[.string s] w fun e w' => e = .returned (.tuple #[.int .i64 n, .nilIface]) ∧ ∃ t, w' = Lib.bytesWorld w 5 t := Any.internal_strconv_Atoi Tryz.lays244 s n hl h w
def Tryz.lays172_ren : Go.Shelf.Ren := ⟨fun | 172 => 110 | 244 => 122 | 245 => 123 | 247 => 139 | 279 => 140 | 280 => 141 | 281 => 142 | 282 => 143 | 287 => 151 | 316 => 152 | 171 => 30 | 205 => 153 | 321 => 155 | 322 => 156 | 243 => 64 | 246 => 95 | 283 => 113 | 284 => 114 | 285 => 115 | 286 => 116 | 129 => 133 | 317 => 134 | 318 => 135 | 319 => 136 | 320 => 137 | 337 => 149 | 338 => 150 | n => n, fun | 9 => 9 | 3 => 3 | 75 => 58 | 76 => 59 | 4 => 4 | 5 => 5 | 167 => 147 | 37 => 28 | 0 => 0 | 85 => 148 | 2 => 2 | 168 => 150 | 53 => 125 | 175 => 163 | 46 => 92 | 210 => 166 | 127 => 98 | 145 => 175 | 143 => 173 | 21 => 21 | 171 => 124 | 173 => 128 | 212 => 145 | 51 => 130 | 20 => 20 | 213 => 146 | 232 => 170 | 233 => 171 | 80 => 65 | n => n, fun | 15 => 4 | 16 => 5 | 17 => 1 | 18 => 6 | 19 => 7 | n => n⟩
theorem Tryz.lays172 : Go.Proofs.Lays.n172 Tryz.prog Tryz.lays172_ren := {
  mixed := by kernel_rfl
  f129 := Tryz.func133.trans (congrArg some (by kernel_rfl))
  f171 := Tryz.func30.trans (congrArg some (by kernel_rfl))
  f172 := Tryz.func110.trans (congrArg some (by kernel_rfl))
  f205 := Tryz.func153.trans (congrArg some (by kernel_rfl))
  f243 := Tryz.func64.trans (congrArg some (by kernel_rfl))
  f244 := Tryz.func122.trans (congrArg some (by kernel_rfl))
  f245 := Tryz.func123.trans (congrArg some (by kernel_rfl))
  f246 := Tryz.func95.trans (congrArg some (by kernel_rfl))
  f247 := Tryz.func139.trans (congrArg some (by kernel_rfl))
  f279 := Tryz.func140.trans (congrArg some (by kernel_rfl))
  f280 := Tryz.func141.trans (congrArg some (by kernel_rfl))
  f281 := Tryz.func142.trans (congrArg some (by kernel_rfl))
  f282 := Tryz.func143.trans (congrArg some (by kernel_rfl))
  f283 := Tryz.func113.trans (congrArg some (by kernel_rfl))
  f284 := Tryz.func114.trans (congrArg some (by kernel_rfl))
  f285 := Tryz.func115.trans (congrArg some (by kernel_rfl))
  f286 := Tryz.func116.trans (congrArg some (by kernel_rfl))
  f287 := Tryz.func151.trans (congrArg some (by kernel_rfl))
  f316 := Tryz.func152.trans (congrArg some (by kernel_rfl))
  f317 := Tryz.func134.trans (congrArg some (by kernel_rfl))
  f318 := Tryz.func135.trans (congrArg some (by kernel_rfl))
  f319 := Tryz.func136.trans (congrArg some (by kernel_rfl))
  f320 := Tryz.func137.trans (congrArg some (by kernel_rfl))
  f321 := Tryz.func155.trans (congrArg some (by kernel_rfl))
  f322 := Tryz.func156.trans (congrArg some (by kernel_rfl))
  f337 := Tryz.func149.trans (congrArg some (by kernel_rfl))
  f338 := Tryz.func150.trans (congrArg some (by kernel_rfl))
  t0 := Tryz.underlying0
  a0 := Tryz.isAgg0
  z0 := Tryz.sizeOf0
  v0 := Tryz.zeroValue0
  t2 := Tryz.underlying2
  a2 := Tryz.isAgg2
  z2 := Tryz.sizeOf2
  v2 := Tryz.zeroValue2
  t3 := Tryz.underlying3
  a3 := Tryz.isAgg3
  z3 := Tryz.sizeOf3
  v3 := Tryz.zeroValue3
  t4 := Tryz.underlying4
  a4 := Tryz.isAgg4
  z4 := Tryz.sizeOf4
  v4 := Tryz.zeroValue4
  t5 := Tryz.underlying5
  a5 := Tryz.isAgg5
  z5 := Tryz.sizeOf5
  v5 := Tryz.zeroValue5
  t9 := Tryz.underlying9
  a9 := Tryz.isAgg9
  z9 := Tryz.sizeOf9
  v9 := Tryz.zeroValue9
  t20 := Tryz.underlying20
  a20 := Tryz.isAgg20
  z20 := Tryz.sizeOf20
  v20 := Tryz.zeroValue20
  t21 := Tryz.underlying21
  a21 := Tryz.isAgg21
  z21 := Tryz.sizeOf21
  v21 := Tryz.zeroValue21
  t37 := Tryz.underlying28
  a37 := Tryz.isAgg28
  z37 := Tryz.sizeOf28
  v37 := Tryz.zeroValue28
  t46 := Tryz.underlying92
  a46 := Tryz.isAgg92
  z46 := Tryz.sizeOf92
  v46 := Tryz.zeroValue92
  t51 := Tryz.underlying130
  a51 := Tryz.isAgg130
  z51 := Tryz.sizeOf130
  v51 := Tryz.zeroValue130
  t53 := Tryz.underlying125
  a53 := Tryz.isAgg125
  z53 := Tryz.sizeOf125
  v53 := Tryz.zeroValue125
  t75 := Tryz.underlying58
  a75 := Tryz.isAgg58
  z75 := Tryz.sizeOf58
  v75 := Tryz.zeroValue58
  t76 := Tryz.underlying59
  a76 := Tryz.isAgg59
  z76 := Tryz.sizeOf59
  v76 := Tryz.zeroValue59
  t85 := Tryz.underlying148
  a85 := Tryz.isAgg148
  z85 := Tryz.sizeOf148
  v85 := Tryz.zeroValue148
  t127 := Tryz.underlying98
  a127 := Tryz.isAgg98
  z127 := Tryz.sizeOf98
  v127 := Tryz.zeroValue98
  t143 := Tryz.underlying173
  a143 := Tryz.isAgg173
  z143 := Tryz.sizeOf173
  v143 := Tryz.zeroValue173
  t145 := Tryz.underlying175
  a145 := Tryz.isAgg175
  z145 := Tryz.sizeOf175
  v145 := Tryz.zeroValue175
  t167 := Tryz.underlying147
  a167 := Tryz.isAgg147
  z167 := Tryz.sizeOf147
  v167 := Tryz.zeroValue147
  t168 := Tryz.underlying150
  a168 := Tryz.isAgg150
  z168 := Tryz.sizeOf150
  v168 := Tryz.zeroValue150
  t171 := Tryz.underlying124
  a171 := Tryz.isAgg124
  z171 := Tryz.sizeOf124
  v171 := Tryz.zeroValue124
  t173 := Tryz.underlying128
  a173 := Tryz.isAgg128
  z173 := Tryz.sizeOf128
  v173 := Tryz.zeroValue128
  t175 := Tryz.underlying163
  a175 := Tryz.isAgg163
  z175 := Tryz.sizeOf163
  v175 := Tryz.zeroValue163
  t210 := Tryz.underlying166
  a210 := Tryz.isAgg166
  z210 := Tryz.sizeOf166
  v210 := Tryz.zeroValue166
  t212 := Tryz.underlying145
  a212 := Tryz.isAgg145
  z212 := Tryz.sizeOf145
  v212 := Tryz.zeroValue145
  t213 := Tryz.underlying146
  a213 := Tryz.isAgg146
  z213 := Tryz.sizeOf146
  t232 := Tryz.underlying170
  a232 := Tryz.isAgg170
  z232 := Tryz.sizeOf170
  v232 := Tryz.zeroValue170
  t233 := Tryz.underlying171
  a233 := Tryz.isAgg171
  z233 := Tryz.sizeOf171
  v233 := Tryz.zeroValue171
  g15 := by kernel_rfl
  g16 := by kernel_rfl
  g17 := by kernel_rfl
  g18 := by kernel_rfl
  g19 := by kernel_rfl }
open Go.RowKit in
/-- strconv.Atoi: "Atoi is equivalent to ParseInt(s, 10, 0), converted to type int.": AT A DECIMAL NUMERAL OF AT MOST 18 BYTES: its value, and a nil error. The world behind the call: the one new row that the library's '[]byte(s)' lays. (LAID: no walk: one application.) -/
theorem Tryz.strconv_Atoi (s : ByteArray) (n : Int) (hl : s.size ≤ 18) (h : Lib.atoi s.data.toList = some n) (w : World) :
    Calls Tryz.prog 110 #[.string s] w fun e w' => e = .returned (.tuple #[.int .i64 n, .nilIface]) ∧ ∃ t, w' = Lib.bytesWorld w 5 t := Any.strconv_Atoi Tryz.lays172 s n hl h w
def Tryz.lays129_ren : Go.Shelf.Ren := ⟨fun | 129 => 133 | n => n, fun | 53 => 125 | 3 => 3 | 4 => 4 | 46 => 92 | 5 => 5 | 9 => 9 | n => n, fun | n => n⟩
theorem Tryz.lays129 : Go.Proofs.Lays.n129 Tryz.prog Tryz.lays129_ren := {
  mixed := by kernel_rfl
  f129 := Tryz.func133.trans (congrArg some (by kernel_rfl))
  t3 := Tryz.underlying3
  a3 := Tryz.isAgg3
  z3 := Tryz.sizeOf3
  v3 := Tryz.zeroValue3
  t4 := Tryz.underlying4
  a4 := Tryz.isAgg4
  z4 := Tryz.sizeOf4
  v4 := Tryz.zeroValue4
  t5 := Tryz.underlying5
  a5 := Tryz.isAgg5
  z5 := Tryz.sizeOf5
  v5 := Tryz.zeroValue5
  t9 := Tryz.underlying9
  a9 := Tryz.isAgg9
  z9 := Tryz.sizeOf9
  v9 := Tryz.zeroValue9
  t46 := Tryz.underlying92
  a46 := Tryz.isAgg92
  z46 := Tryz.sizeOf92
  v46 := Tryz.zeroValue92
  t53 := Tryz.underlying125
  a53 := Tryz.isAgg125
  z53 := Tryz.sizeOf125
  v53 := Tryz.zeroValue125 }
/-- bits.Len64: "Len64 returns the minimum number of bits required to represent x; the result is 0 for x == 0.": IT RETURNS 'Lib.bitLen x'; the world is as it was. ('h0', 'h1': x is a uint64.) (LAID: no walk: one application.) -/
theorem Tryz.bits_Len64 (x : Int) (w : World) (h0 : 0 ≤ x) (h1 : x ≤ 18446744073709551615) :
    Calls Tryz.prog 133 #[.int .u64 x] w fun e w' => e = .returned (.int .i64 (Lib.bitLen x.toNat)) ∧ w' = w := Any.bits_Len64 Tryz.lays129 x w h0 h1
def Tryz.lays317_ren : Go.Shelf.Ren := ⟨fun | 317 => 134 | n => n, fun | 3 => 3 | 46 => 92 | n => n, fun | n => n⟩
theorem Tryz.lays317 : Go.Proofs.Lays.n317 Tryz.prog Tryz.lays317_ren := {
  mixed := by kernel_rfl
  f317 := Tryz.func134.trans (congrArg some (by kernel_rfl))
  t3 := Tryz.underlying3
  a3 := Tryz.isAgg3
  z3 := Tryz.sizeOf3
  v3 := Tryz.zeroValue3
  t46 := Tryz.underlying92
  a46 := Tryz.isAgg92
  z46 := Tryz.sizeOf92
  v46 := Tryz.zeroValue92 }
open Go.Lib in
/-- internal/strconv.log10Pow2: "log10Pow2(x) returns ⌊log₁₀ 2**x⌋ = ⌊x * log₁₀ 2⌋.": '(x * 78913) >> 18', at an x up to 64 (a length in bits). The world is as it was. (LAID: no walk: one application.) -/
theorem Tryz.internal_strconv_log10Pow2 (x : Nat) (h : x ≤ 64) (w : World) :
    Calls Tryz.prog 134 #[.int .i64 x] w fun e w' => e = .returned (.int .i64 (Lib.l10 x)) ∧ w' = w := Any.internal_strconv_log10Pow2 Tryz.lays317 x h w
def Tryz.lays318_ren : Go.Shelf.Ren := ⟨fun | 318 => 135 | n => n, fun | 3 => 3 | 4 => 4 | n => n, fun | n => n⟩
theorem Tryz.lays318 : Go.Proofs.Lays.n318 Tryz.prog Tryz.lays318_ren := {
  mixed := by kernel_rfl
  f318 := Tryz.func135.trans (congrArg some (by kernel_rfl))
  t3 := Tryz.underlying3
  a3 := Tryz.isAgg3
  z3 := Tryz.sizeOf3
  v3 := Tryz.zeroValue3
  t4 := Tryz.underlying4
  a4 := Tryz.isAgg4
  z4 := Tryz.sizeOf4
  v4 := Tryz.zeroValue4 }
open Go.Lib in
/-- internal/strconv.bool2: "bool2 converts b to an integer: 1 for true, 0 for false." The world is as it was. (LAID: no walk: one application.) -/
theorem Tryz.internal_strconv_bool2_int (b : Bool) (w : World) :
    Calls Tryz.prog 135 #[.bool b] w fun e w' => e = .returned (.int .i64 (if b then 1 else 0)) ∧ w' = w := Any.internal_strconv_bool2_int Tryz.lays318 b w
def Tryz.lays283_ren : Go.Shelf.Ren := ⟨fun | 283 => 113 | n => n, fun | 3 => 3 | 9 => 9 | 4 => 4 | n => n, fun | n => n⟩
theorem Tryz.lays283 : Go.Proofs.Lays.n283 Tryz.prog Tryz.lays283_ren := {
  mixed := by kernel_rfl
  f283 := Tryz.func113.trans (congrArg some (by kernel_rfl))
  t3 := Tryz.underlying3
  a3 := Tryz.isAgg3
  z3 := Tryz.sizeOf3
  v3 := Tryz.zeroValue3
  t4 := Tryz.underlying4
  a4 := Tryz.isAgg4
  z4 := Tryz.sizeOf4
  v4 := Tryz.zeroValue4
  t9 := Tryz.underlying9
  a9 := Tryz.isAgg9
  z9 := Tryz.sizeOf9
  v9 := Tryz.zeroValue9 }
open Go.Lib in
/-- internal/strconv.small: "small returns the string for an i with 0 <= i < nSmalls.": i's decimal numeral. The world is as it was. (LAID: no walk: one application.) -/
theorem Tryz.internal_strconv_small (i : Nat) (h : i < 100) (w : World) :
    Calls Tryz.prog 113 #[.int .i64 i] w fun e w' => e = .returned (.string ⟨(Lib.decDigits i).toArray⟩) ∧ w' = w := Any.internal_strconv_small Tryz.lays283 i h w
def Tryz.laysM284_ren : Go.Shelf.Ren := ⟨fun | 284 => 114 | 129 => 133 | 317 => 134 | 318 => 135 | n => n, fun | 53 => 125 | 3 => 3 | 212 => 145 | 0 => 0 | 4 => 4 | 46 => 92 | 5 => 5 | 9 => 9 | n => n, fun | 17 => 1 | n => n⟩
theorem Tryz.laysM284 : Go.Proofs.LaysM.n284 Tryz.prog Tryz.laysM284_ren := {
  mixed := by kernel_rfl
  f129 := Tryz.func133.trans (congrArg some (by kernel_rfl))
  f284 := Tryz.func114.trans (congrArg some (by kernel_rfl))
  f317 := Tryz.func134.trans (congrArg some (by kernel_rfl))
  f318 := Tryz.func135.trans (congrArg some (by kernel_rfl))
  t0 := Tryz.underlying0
  a0 := Tryz.isAgg0
  z0 := Tryz.sizeOf0
  v0 := Tryz.zeroValue0
  t3 := Tryz.underlying3
  a3 := Tryz.isAgg3
  z3 := Tryz.sizeOf3
  v3 := Tryz.zeroValue3
  t4 := Tryz.underlying4
  a4 := Tryz.isAgg4
  z4 := Tryz.sizeOf4
  v4 := Tryz.zeroValue4
  t5 := Tryz.underlying5
  a5 := Tryz.isAgg5
  z5 := Tryz.sizeOf5
  v5 := Tryz.zeroValue5
  t9 := Tryz.underlying9
  a9 := Tryz.isAgg9
  z9 := Tryz.sizeOf9
  v9 := Tryz.zeroValue9
  t46 := Tryz.underlying92
  a46 := Tryz.isAgg92
  z46 := Tryz.sizeOf92
  v46 := Tryz.zeroValue92
  t53 := Tryz.underlying125
  a53 := Tryz.isAgg125
  z53 := Tryz.sizeOf125
  v53 := Tryz.zeroValue125
  t212 := Tryz.underlying145
  a212 := Tryz.isAgg145
  z212 := Tryz.sizeOf145
  v212 := Tryz.zeroValue145
  g17 := by kernel_rfl
  i0 := by kernel_rfl
  i3 := by kernel_rfl
  i4 := by kernel_rfl
  i5 := by kernel_rfl
  i9 := by kernel_rfl
  i46 := by kernel_rfl
  i53 := by kernel_rfl
  i212 := by kernel_rfl
  m17 := by kernel_rfl }
open Go.Lib in
/-- internal/strconv.numDigits, at a d that is not 0: THE NUMBER OF d's DECIMAL DIGITS. The world is as it was. (LAID: no walk: one application.) -/
theorem Tryz.internal_strconv_numDigits (u : Nat) (h1 : 1 ≤ u) (h2 : u < 18446744073709551616) (w : World) (htab : Lib.TabIs Tryz.prog w "internal/strconv.uint64pow10" .u64 Lib.pow10Tab) :
    Calls Tryz.prog 114 #[.int .u64 u] w fun e w' => e = .returned (.int .i64 (Lib.nDigits u)) ∧ w' = w := Any.internal_strconv_numDigits Tryz.laysM284 u h1 h2 w htab
def Tryz.lays285_ren : Go.Shelf.Ren := ⟨fun | 285 => 115 | n => n, fun | 37 => 28 | 53 => 125 | 3 => 3 | 4 => 4 | 51 => 130 | 9 => 9 | 5 => 5 | 0 => 0 | n => n, fun | n => n⟩
theorem Tryz.lays285 : Go.Proofs.Lays.n285 Tryz.prog Tryz.lays285_ren := {
  mixed := by kernel_rfl
  f285 := Tryz.func115.trans (congrArg some (by kernel_rfl))
  t0 := Tryz.underlying0
  a0 := Tryz.isAgg0
  z0 := Tryz.sizeOf0
  v0 := Tryz.zeroValue0
  t3 := Tryz.underlying3
  a3 := Tryz.isAgg3
  z3 := Tryz.sizeOf3
  v3 := Tryz.zeroValue3
  t4 := Tryz.underlying4
  a4 := Tryz.isAgg4
  z4 := Tryz.sizeOf4
  v4 := Tryz.zeroValue4
  t5 := Tryz.underlying5
  a5 := Tryz.isAgg5
  z5 := Tryz.sizeOf5
  v5 := Tryz.zeroValue5
  t9 := Tryz.underlying9
  a9 := Tryz.isAgg9
  z9 := Tryz.sizeOf9
  v9 := Tryz.zeroValue9
  t37 := Tryz.underlying28
  a37 := Tryz.isAgg28
  z37 := Tryz.sizeOf28
  v37 := Tryz.zeroValue28
  t51 := Tryz.underlying130
  a51 := Tryz.isAgg130
  z51 := Tryz.sizeOf130
  v51 := Tryz.zeroValue130
  t53 := Tryz.underlying125
  a53 := Tryz.isAgg125
  z53 := Tryz.sizeOf125
  v53 := Tryz.zeroValue125 }
open Go.RowKit Go.Sort Go.Lib in
/-- internal/strconv.formatBase10: "formatBase10 formats the decimal representation of u into a. The caller is responsible for ensuring that a is big enough to hold u. If a is too big, leading zeros will be filled in as needed.": THE ROW HOLDS u's DIGITS ('FmtInv .. 0 ..': every place t holds 'dg u (len - 1 - t)'); all else is as it was but for the count of draws. (LAID: no walk: one application.) -/
theorem Tryz.internal_strconv_formatBase10 (blk off cap : Nat) (u : Nat) (d : Array UInt8) (w : World) (hH : Holds (fun (b : UInt8) => Value.int .u8 (b.toNat : Int)) w blk off d) (hu : u < 10 ^ d.size) (hu64 : u < 18446744073709551616) (hsz : d.size < 4611686018427387904) :
    Calls Tryz.prog 115 #[.slice (some ⟨blk, off, none⟩) d.size cap, .int .u64 u] w fun e w' =>
      e = .returned (.tuple #[]) ∧ ∃ (n v' : Nat) (dk : Array UInt8), w' = (putRow (fun (b : UInt8) => Value.int .u8 (b.toNat : Int)) w blk off dk).drewN n ∧ FmtInv d.size u 0 v' dk := Any.internal_strconv_formatBase10 Tryz.lays285 blk off cap u d w hH hu hu64 hsz
def Tryz.laysM246_ren : Go.Shelf.Ren := ⟨fun | 246 => 95 | 283 => 113 | 284 => 114 | 285 => 115 | 286 => 116 | 129 => 133 | 317 => 134 | 318 => 135 | 319 => 136 | 320 => 137 | 337 => 149 | 338 => 150 | n => n, fun | 2 => 2 | 3 => 3 | 9 => 9 | 4 => 4 | 171 => 124 | 0 => 0 | 53 => 125 | 37 => 28 | 5 => 5 | 173 => 128 | 212 => 145 | 51 => 130 | 20 => 20 | 213 => 146 | 46 => 92 | 232 => 170 | 233 => 171 | n => n, fun | 17 => 1 | 18 => 6 | 19 => 7 | n => n⟩
theorem Tryz.laysM246 : Go.Proofs.LaysM.n246 Tryz.prog Tryz.laysM246_ren := {
  mixed := by kernel_rfl
  f129 := Tryz.func133.trans (congrArg some (by kernel_rfl))
  f246 := Tryz.func95.trans (congrArg some (by kernel_rfl))
  f283 := Tryz.func113.trans (congrArg some (by kernel_rfl))
  f284 := Tryz.func114.trans (congrArg some (by kernel_rfl))
  f285 := Tryz.func115.trans (congrArg some (by kernel_rfl))
  f286 := Tryz.func116.trans (congrArg some (by kernel_rfl))
  f317 := Tryz.func134.trans (congrArg some (by kernel_rfl))
  f318 := Tryz.func135.trans (congrArg some (by kernel_rfl))
  f319 := Tryz.func136.trans (congrArg some (by kernel_rfl))
  f320 := Tryz.func137.trans (congrArg some (by kernel_rfl))
  f337 := Tryz.func149.trans (congrArg some (by kernel_rfl))
  f338 := Tryz.func150.trans (congrArg some (by kernel_rfl))
  t0 := Tryz.underlying0
  a0 := Tryz.isAgg0
  z0 := Tryz.sizeOf0
  v0 := Tryz.zeroValue0
  t2 := Tryz.underlying2
  a2 := Tryz.isAgg2
  z2 := Tryz.sizeOf2
  v2 := Tryz.zeroValue2
  t3 := Tryz.underlying3
  a3 := Tryz.isAgg3
  z3 := Tryz.sizeOf3
  v3 := Tryz.zeroValue3
  t4 := Tryz.underlying4
  a4 := Tryz.isAgg4
  z4 := Tryz.sizeOf4
  v4 := Tryz.zeroValue4
  t5 := Tryz.underlying5
  a5 := Tryz.isAgg5
  z5 := Tryz.sizeOf5
  v5 := Tryz.zeroValue5
  t9 := Tryz.underlying9
  a9 := Tryz.isAgg9
  z9 := Tryz.sizeOf9
  v9 := Tryz.zeroValue9
  t20 := Tryz.underlying20
  a20 := Tryz.isAgg20
  z20 := Tryz.sizeOf20
  v20 := Tryz.zeroValue20
  t37 := Tryz.underlying28
  a37 := Tryz.isAgg28
  z37 := Tryz.sizeOf28
  v37 := Tryz.zeroValue28
  t46 := Tryz.underlying92
  a46 := Tryz.isAgg92
  z46 := Tryz.sizeOf92
  v46 := Tryz.zeroValue92
  t51 := Tryz.underlying130
  a51 := Tryz.isAgg130
  z51 := Tryz.sizeOf130
  v51 := Tryz.zeroValue130
  t53 := Tryz.underlying125
  a53 := Tryz.isAgg125
  z53 := Tryz.sizeOf125
  v53 := Tryz.zeroValue125
  t171 := Tryz.underlying124
  a171 := Tryz.isAgg124
  z171 := Tryz.sizeOf124
  v171 := Tryz.zeroValue124
  t173 := Tryz.underlying128
  a173 := Tryz.isAgg128
  z173 := Tryz.sizeOf128
  v173 := Tryz.zeroValue128
  t212 := Tryz.underlying145
  a212 := Tryz.isAgg145
  z212 := Tryz.sizeOf145
  v212 := Tryz.zeroValue145
  t213 := Tryz.underlying146
  a213 := Tryz.isAgg146
  z213 := Tryz.sizeOf146
  t232 := Tryz.underlying170
  a232 := Tryz.isAgg170
  z232 := Tryz.sizeOf170
  v232 := Tryz.zeroValue170
  t233 := Tryz.underlying171
  a233 := Tryz.isAgg171
  z233 := Tryz.sizeOf171
  v233 := Tryz.zeroValue171
  g17 := by kernel_rfl
  g18 := by kernel_rfl
  g19 := by kernel_rfl
  i0 := by kernel_rfl
  i2 := by kernel_rfl
  i3 := by kernel_rfl
  i4 := by kernel_rfl
  i5 := by kernel_rfl
  i9 := by kernel_rfl
  i20 := by kernel_rfl
  i37 := by kernel_rfl
  i46 := by kernel_rfl
  i51 := by kernel_rfl
  i53 := by kernel_rfl
  i171 := by kernel_rfl
  i173 := by kernel_rfl
  i212 := by kernel_rfl
  i232 := by kernel_rfl
  i233 := by kernel_rfl
  m17 := by kernel_rfl
  m18 := by kernel_rfl
  m19 := by kernel_rfl }
open Go.RowKit Go.Sort Go.Lib in
/-- internal/strconv.FormatInt: "FormatInt returns the string representation of i in the given base": AT BASE 10: i's decimal numeral, for every int64. The world behind the call: the world before it, new blocks behind the heap, draws. (LAID: no walk: one application.) -/
theorem Tryz.internal_strconv_FormatInt_10 (n : Int) (h0 : -9223372036854775808 ≤ n) (h1 : n ≤ 9223372036854775807) (w : World) (htab : Lib.TabIs Tryz.prog w "internal/strconv.uint64pow10" .u64 Lib.pow10Tab) :
    Calls Tryz.prog 95 #[.int .i64 n, .int .i64 10] w fun e w' => e = .returned (.string ⟨(Lib.itoa n).toArray⟩) ∧ ∃ k os, w' = grow (w.drewN k) os := Any.internal_strconv_FormatInt_10 Tryz.laysM246 n h0 h1 w htab
def Tryz.lays246_ren : Go.Shelf.Ren := ⟨fun | 246 => 95 | 283 => 113 | 284 => 114 | 285 => 115 | 286 => 116 | 129 => 133 | 317 => 134 | 318 => 135 | 319 => 136 | 320 => 137 | 337 => 149 | 338 => 150 | n => n, fun | 2 => 2 | 3 => 3 | 9 => 9 | 4 => 4 | 171 => 124 | 0 => 0 | 53 => 125 | 37 => 28 | 5 => 5 | 173 => 128 | 212 => 145 | 51 => 130 | 20 => 20 | 213 => 146 | 46 => 92 | 232 => 170 | 233 => 171 | n => n, fun | 17 => 1 | 18 => 6 | 19 => 7 | n => n⟩
theorem Tryz.lays246 : Go.Proofs.Lays.n246 Tryz.prog Tryz.lays246_ren := {
  mixed := by kernel_rfl
  f129 := Tryz.func133.trans (congrArg some (by kernel_rfl))
  f246 := Tryz.func95.trans (congrArg some (by kernel_rfl))
  f283 := Tryz.func113.trans (congrArg some (by kernel_rfl))
  f284 := Tryz.func114.trans (congrArg some (by kernel_rfl))
  f285 := Tryz.func115.trans (congrArg some (by kernel_rfl))
  f286 := Tryz.func116.trans (congrArg some (by kernel_rfl))
  f317 := Tryz.func134.trans (congrArg some (by kernel_rfl))
  f318 := Tryz.func135.trans (congrArg some (by kernel_rfl))
  f319 := Tryz.func136.trans (congrArg some (by kernel_rfl))
  f320 := Tryz.func137.trans (congrArg some (by kernel_rfl))
  f337 := Tryz.func149.trans (congrArg some (by kernel_rfl))
  f338 := Tryz.func150.trans (congrArg some (by kernel_rfl))
  t0 := Tryz.underlying0
  a0 := Tryz.isAgg0
  z0 := Tryz.sizeOf0
  v0 := Tryz.zeroValue0
  t2 := Tryz.underlying2
  a2 := Tryz.isAgg2
  z2 := Tryz.sizeOf2
  v2 := Tryz.zeroValue2
  t3 := Tryz.underlying3
  a3 := Tryz.isAgg3
  z3 := Tryz.sizeOf3
  v3 := Tryz.zeroValue3
  t4 := Tryz.underlying4
  a4 := Tryz.isAgg4
  z4 := Tryz.sizeOf4
  v4 := Tryz.zeroValue4
  t5 := Tryz.underlying5
  a5 := Tryz.isAgg5
  z5 := Tryz.sizeOf5
  v5 := Tryz.zeroValue5
  t9 := Tryz.underlying9
  a9 := Tryz.isAgg9
  z9 := Tryz.sizeOf9
  v9 := Tryz.zeroValue9
  t20 := Tryz.underlying20
  a20 := Tryz.isAgg20
  z20 := Tryz.sizeOf20
  v20 := Tryz.zeroValue20
  t37 := Tryz.underlying28
  a37 := Tryz.isAgg28
  z37 := Tryz.sizeOf28
  v37 := Tryz.zeroValue28
  t46 := Tryz.underlying92
  a46 := Tryz.isAgg92
  z46 := Tryz.sizeOf92
  v46 := Tryz.zeroValue92
  t51 := Tryz.underlying130
  a51 := Tryz.isAgg130
  z51 := Tryz.sizeOf130
  v51 := Tryz.zeroValue130
  t53 := Tryz.underlying125
  a53 := Tryz.isAgg125
  z53 := Tryz.sizeOf125
  v53 := Tryz.zeroValue125
  t171 := Tryz.underlying124
  a171 := Tryz.isAgg124
  z171 := Tryz.sizeOf124
  v171 := Tryz.zeroValue124
  t173 := Tryz.underlying128
  a173 := Tryz.isAgg128
  z173 := Tryz.sizeOf128
  v173 := Tryz.zeroValue128
  t212 := Tryz.underlying145
  a212 := Tryz.isAgg145
  z212 := Tryz.sizeOf145
  v212 := Tryz.zeroValue145
  t213 := Tryz.underlying146
  a213 := Tryz.isAgg146
  z213 := Tryz.sizeOf146
  t232 := Tryz.underlying170
  a232 := Tryz.isAgg170
  z232 := Tryz.sizeOf170
  v232 := Tryz.zeroValue170
  t233 := Tryz.underlying171
  a233 := Tryz.isAgg171
  z233 := Tryz.sizeOf171
  v233 := Tryz.zeroValue171
  g17 := by kernel_rfl
  g18 := by kernel_rfl
  g19 := by kernel_rfl }
open Go.RowKit Go.Sort Go.Lib in
/-- THE ROAD WITHOUT THE TABLE: 0 <= i < 100: two constants are read, nothing is laid: no premise on the world, and the world is as it was. (LAID: no walk: one application.) -/
theorem Tryz.internal_strconv_FormatInt_10_small (i : Nat) (hi : i < 100) (w : World) :
    Calls Tryz.prog 95 #[.int .i64 i, .int .i64 10] w fun e w' => e = .returned (.string ⟨(Lib.decDigits i).toArray⟩) ∧ w' = w := Any.internal_strconv_FormatInt_10_small Tryz.lays246 i hi w
def Tryz.laysM243_ren : Go.Shelf.Ren := ⟨fun | 243 => 64 | 246 => 95 | 283 => 113 | 284 => 114 | 285 => 115 | 286 => 116 | 129 => 133 | 317 => 134 | 318 => 135 | 319 => 136 | 320 => 137 | 337 => 149 | 338 => 150 | n => n, fun | 3 => 3 | 9 => 9 | 2 => 2 | 4 => 4 | 171 => 124 | 0 => 0 | 53 => 125 | 37 => 28 | 5 => 5 | 173 => 128 | 212 => 145 | 51 => 130 | 20 => 20 | 213 => 146 | 46 => 92 | 232 => 170 | 233 => 171 | n => n, fun | 17 => 1 | 18 => 6 | 19 => 7 | n => n⟩
theorem Tryz.laysM243 : Go.Proofs.LaysM.n243 Tryz.prog Tryz.laysM243_ren := {
  mixed := by kernel_rfl
  f129 := Tryz.func133.trans (congrArg some (by kernel_rfl))
  f243 := Tryz.func64.trans (congrArg some (by kernel_rfl))
  f246 := Tryz.func95.trans (congrArg some (by kernel_rfl))
  f283 := Tryz.func113.trans (congrArg some (by kernel_rfl))
  f284 := Tryz.func114.trans (congrArg some (by kernel_rfl))
  f285 := Tryz.func115.trans (congrArg some (by kernel_rfl))
  f286 := Tryz.func116.trans (congrArg some (by kernel_rfl))
  f317 := Tryz.func134.trans (congrArg some (by kernel_rfl))
  f318 := Tryz.func135.trans (congrArg some (by kernel_rfl))
  f319 := Tryz.func136.trans (congrArg some (by kernel_rfl))
  f320 := Tryz.func137.trans (congrArg some (by kernel_rfl))
  f337 := Tryz.func149.trans (congrArg some (by kernel_rfl))
  f338 := Tryz.func150.trans (congrArg some (by kernel_rfl))
  t0 := Tryz.underlying0
  a0 := Tryz.isAgg0
  z0 := Tryz.sizeOf0
  v0 := Tryz.zeroValue0
  t2 := Tryz.underlying2
  a2 := Tryz.isAgg2
  z2 := Tryz.sizeOf2
  v2 := Tryz.zeroValue2
  t3 := Tryz.underlying3
  a3 := Tryz.isAgg3
  z3 := Tryz.sizeOf3
  v3 := Tryz.zeroValue3
  t4 := Tryz.underlying4
  a4 := Tryz.isAgg4
  z4 := Tryz.sizeOf4
  v4 := Tryz.zeroValue4
  t5 := Tryz.underlying5
  a5 := Tryz.isAgg5
  z5 := Tryz.sizeOf5
  v5 := Tryz.zeroValue5
  t9 := Tryz.underlying9
  a9 := Tryz.isAgg9
  z9 := Tryz.sizeOf9
  v9 := Tryz.zeroValue9
  t20 := Tryz.underlying20
  a20 := Tryz.isAgg20
  z20 := Tryz.sizeOf20
  v20 := Tryz.zeroValue20
  t37 := Tryz.underlying28
  a37 := Tryz.isAgg28
  z37 := Tryz.sizeOf28
  v37 := Tryz.zeroValue28
  t46 := Tryz.underlying92
  a46 := Tryz.isAgg92
  z46 := Tryz.sizeOf92
  v46 := Tryz.zeroValue92
  t51 := Tryz.underlying130
  a51 := Tryz.isAgg130
  z51 := Tryz.sizeOf130
  v51 := Tryz.zeroValue130
  t53 := Tryz.underlying125
  a53 := Tryz.isAgg125
  z53 := Tryz.sizeOf125
  v53 := Tryz.zeroValue125
  t171 := Tryz.underlying124
  a171 := Tryz.isAgg124
  z171 := Tryz.sizeOf124
  v171 := Tryz.zeroValue124
  t173 := Tryz.underlying128
  a173 := Tryz.isAgg128
  z173 := Tryz.sizeOf128
  v173 := Tryz.zeroValue128
  t212 := Tryz.underlying145
  a212 := Tryz.isAgg145
  z212 := Tryz.sizeOf145
  v212 := Tryz.zeroValue145
  t213 := Tryz.underlying146
  a213 := Tryz.isAgg146
  z213 := Tryz.sizeOf146
  t232 := Tryz.underlying170
  a232 := Tryz.isAgg170
  z232 := Tryz.sizeOf170
  v232 := Tryz.zeroValue170
  t233 := Tryz.underlying171
  a233 := Tryz.isAgg171
  z233 := Tryz.sizeOf171
  v233 := Tryz.zeroValue171
  g17 := by kernel_rfl
  g18 := by kernel_rfl
  g19 := by kernel_rfl
  i0 := by kernel_rfl
  i2 := by kernel_rfl
  i3 := by kernel_rfl
  i4 := by kernel_rfl
  i5 := by kernel_rfl
  i9 := by kernel_rfl
  i20 := by kernel_rfl
  i37 := by kernel_rfl
  i46 := by kernel_rfl
  i51 := by kernel_rfl
  i53 := by kernel_rfl
  i171 := by kernel_rfl
  i173 := by kernel_rfl
  i212 := by kernel_rfl
  i232 := by kernel_rfl
  i233 := by kernel_rfl
  m17 := by kernel_rfl
  m18 := by kernel_rfl
  m19 := by kernel_rfl }
open Go.RowKit Go.Sort Go.Lib in
/-- internal/strconv.Itoa: "Itoa is equivalent to FormatInt(int64(i), 10).": i's decimal numeral, for every int. (LAID: no walk: one application.) -/
theorem Tryz.internal_strconv_Itoa (n : Int) (h0 : -9223372036854775808 ≤ n) (h1 : n ≤ 9223372036854775807) (w : World) (htab : Lib.TabIs Tryz.prog w "internal/strconv.uint64pow10" .u64 Lib.pow10Tab) :
    Calls Tryz.prog 64 #[.int .i64 n] w fun e w' => e = .returned (.string ⟨(Lib.itoa n).toArray⟩) ∧ ∃ k os, w' = grow (w.drewN k) os := Any.internal_strconv_Itoa Tryz.laysM243 n h0 h1 w htab
def Tryz.lays243_ren : Go.Shelf.Ren := ⟨fun | 243 => 64 | 246 => 95 | 283 => 113 | 284 => 114 | 285 => 115 | 286 => 116 | 129 => 133 | 317 => 134 | 318 => 135 | 319 => 136 | 320 => 137 | 337 => 149 | 338 => 150 | n => n, fun | 3 => 3 | 9 => 9 | 2 => 2 | 4 => 4 | 171 => 124 | 0 => 0 | 53 => 125 | 37 => 28 | 5 => 5 | 173 => 128 | 212 => 145 | 51 => 130 | 20 => 20 | 213 => 146 | 46 => 92 | 232 => 170 | 233 => 171 | n => n, fun | 17 => 1 | 18 => 6 | 19 => 7 | n => n⟩
theorem Tryz.lays243 : Go.Proofs.Lays.n243 Tryz.prog Tryz.lays243_ren := {
  mixed := by kernel_rfl
  f129 := Tryz.func133.trans (congrArg some (by kernel_rfl))
  f243 := Tryz.func64.trans (congrArg some (by kernel_rfl))
  f246 := Tryz.func95.trans (congrArg some (by kernel_rfl))
  f283 := Tryz.func113.trans (congrArg some (by kernel_rfl))
  f284 := Tryz.func114.trans (congrArg some (by kernel_rfl))
  f285 := Tryz.func115.trans (congrArg some (by kernel_rfl))
  f286 := Tryz.func116.trans (congrArg some (by kernel_rfl))
  f317 := Tryz.func134.trans (congrArg some (by kernel_rfl))
  f318 := Tryz.func135.trans (congrArg some (by kernel_rfl))
  f319 := Tryz.func136.trans (congrArg some (by kernel_rfl))
  f320 := Tryz.func137.trans (congrArg some (by kernel_rfl))
  f337 := Tryz.func149.trans (congrArg some (by kernel_rfl))
  f338 := Tryz.func150.trans (congrArg some (by kernel_rfl))
  t0 := Tryz.underlying0
  a0 := Tryz.isAgg0
  z0 := Tryz.sizeOf0
  v0 := Tryz.zeroValue0
  t2 := Tryz.underlying2
  a2 := Tryz.isAgg2
  z2 := Tryz.sizeOf2
  v2 := Tryz.zeroValue2
  t3 := Tryz.underlying3
  a3 := Tryz.isAgg3
  z3 := Tryz.sizeOf3
  v3 := Tryz.zeroValue3
  t4 := Tryz.underlying4
  a4 := Tryz.isAgg4
  z4 := Tryz.sizeOf4
  v4 := Tryz.zeroValue4
  t5 := Tryz.underlying5
  a5 := Tryz.isAgg5
  z5 := Tryz.sizeOf5
  v5 := Tryz.zeroValue5
  t9 := Tryz.underlying9
  a9 := Tryz.isAgg9
  z9 := Tryz.sizeOf9
  v9 := Tryz.zeroValue9
  t20 := Tryz.underlying20
  a20 := Tryz.isAgg20
  z20 := Tryz.sizeOf20
  v20 := Tryz.zeroValue20
  t37 := Tryz.underlying28
  a37 := Tryz.isAgg28
  z37 := Tryz.sizeOf28
  v37 := Tryz.zeroValue28
  t46 := Tryz.underlying92
  a46 := Tryz.isAgg92
  z46 := Tryz.sizeOf92
  v46 := Tryz.zeroValue92
  t51 := Tryz.underlying130
  a51 := Tryz.isAgg130
  z51 := Tryz.sizeOf130
  v51 := Tryz.zeroValue130
  t53 := Tryz.underlying125
  a53 := Tryz.isAgg125
  z53 := Tryz.sizeOf125
  v53 := Tryz.zeroValue125
  t171 := Tryz.underlying124
  a171 := Tryz.isAgg124
  z171 := Tryz.sizeOf124
  v171 := Tryz.zeroValue124
  t173 := Tryz.underlying128
  a173 := Tryz.isAgg128
  z173 := Tryz.sizeOf128
  v173 := Tryz.zeroValue128
  t212 := Tryz.underlying145
  a212 := Tryz.isAgg145
  z212 := Tryz.sizeOf145
  v212 := Tryz.zeroValue145
  t213 := Tryz.underlying146
  a213 := Tryz.isAgg146
  z213 := Tryz.sizeOf146
  t232 := Tryz.underlying170
  a232 := Tryz.isAgg170
  z232 := Tryz.sizeOf170
  v232 := Tryz.zeroValue170
  t233 := Tryz.underlying171
  a233 := Tryz.isAgg171
  z233 := Tryz.sizeOf171
  v233 := Tryz.zeroValue171
  g17 := by kernel_rfl
  g18 := by kernel_rfl
  g19 := by kernel_rfl }
open Go.RowKit Go.Sort Go.Lib in
/-- THE ROAD WITHOUT THE TABLE: 0 <= i < 100. (LAID: no walk: one application.) -/
theorem Tryz.internal_strconv_Itoa_small (i : Nat) (hi : i < 100) (w : World) :
    Calls Tryz.prog 64 #[.int .i64 i] w fun e w' => e = .returned (.string ⟨(Lib.decDigits i).toArray⟩) ∧ w' = w := Any.internal_strconv_Itoa_small Tryz.lays243 i hi w
def Tryz.laysM171_ren : Go.Shelf.Ren := ⟨fun | 171 => 30 | 243 => 64 | 246 => 95 | 283 => 113 | 284 => 114 | 285 => 115 | 286 => 116 | 129 => 133 | 317 => 134 | 318 => 135 | 319 => 136 | 320 => 137 | 337 => 149 | 338 => 150 | n => n, fun | 3 => 3 | 9 => 9 | 2 => 2 | 4 => 4 | 171 => 124 | 0 => 0 | 53 => 125 | 37 => 28 | 5 => 5 | 173 => 128 | 212 => 145 | 51 => 130 | 20 => 20 | 213 => 146 | 46 => 92 | 232 => 170 | 233 => 171 | n => n, fun | 17 => 1 | 18 => 6 | 19 => 7 | n => n⟩
theorem Tryz.laysM171 : Go.Proofs.LaysM.n171 Tryz.prog Tryz.laysM171_ren := {
  mixed := by kernel_rfl
  f129 := Tryz.func133.trans (congrArg some (by kernel_rfl))
  f171 := Tryz.func30.trans (congrArg some (by kernel_rfl))
  f243 := Tryz.func64.trans (congrArg some (by kernel_rfl))
  f246 := Tryz.func95.trans (congrArg some (by kernel_rfl))
  f283 := Tryz.func113.trans (congrArg some (by kernel_rfl))
  f284 := Tryz.func114.trans (congrArg some (by kernel_rfl))
  f285 := Tryz.func115.trans (congrArg some (by kernel_rfl))
  f286 := Tryz.func116.trans (congrArg some (by kernel_rfl))
  f317 := Tryz.func134.trans (congrArg some (by kernel_rfl))
  f318 := Tryz.func135.trans (congrArg some (by kernel_rfl))
  f319 := Tryz.func136.trans (congrArg some (by kernel_rfl))
  f320 := Tryz.func137.trans (congrArg some (by kernel_rfl))
  f337 := Tryz.func149.trans (congrArg some (by kernel_rfl))
  f338 := Tryz.func150.trans (congrArg some (by kernel_rfl))
  t0 := Tryz.underlying0
  a0 := Tryz.isAgg0
  z0 := Tryz.sizeOf0
  v0 := Tryz.zeroValue0
  t2 := Tryz.underlying2
  a2 := Tryz.isAgg2
  z2 := Tryz.sizeOf2
  v2 := Tryz.zeroValue2
  t3 := Tryz.underlying3
  a3 := Tryz.isAgg3
  z3 := Tryz.sizeOf3
  v3 := Tryz.zeroValue3
  t4 := Tryz.underlying4
  a4 := Tryz.isAgg4
  z4 := Tryz.sizeOf4
  v4 := Tryz.zeroValue4
  t5 := Tryz.underlying5
  a5 := Tryz.isAgg5
  z5 := Tryz.sizeOf5
  v5 := Tryz.zeroValue5
  t9 := Tryz.underlying9
  a9 := Tryz.isAgg9
  z9 := Tryz.sizeOf9
  v9 := Tryz.zeroValue9
  t20 := Tryz.underlying20
  a20 := Tryz.isAgg20
  z20 := Tryz.sizeOf20
  v20 := Tryz.zeroValue20
  t37 := Tryz.underlying28
  a37 := Tryz.isAgg28
  z37 := Tryz.sizeOf28
  v37 := Tryz.zeroValue28
  t46 := Tryz.underlying92
  a46 := Tryz.isAgg92
  z46 := Tryz.sizeOf92
  v46 := Tryz.zeroValue92
  t51 := Tryz.underlying130
  a51 := Tryz.isAgg130
  z51 := Tryz.sizeOf130
  v51 := Tryz.zeroValue130
  t53 := Tryz.underlying125
  a53 := Tryz.isAgg125
  z53 := Tryz.sizeOf125
  v53 := Tryz.zeroValue125
  t171 := Tryz.underlying124
  a171 := Tryz.isAgg124
  z171 := Tryz.sizeOf124
  v171 := Tryz.zeroValue124
  t173 := Tryz.underlying128
  a173 := Tryz.isAgg128
  z173 := Tryz.sizeOf128
  v173 := Tryz.zeroValue128
  t212 := Tryz.underlying145
  a212 := Tryz.isAgg145
  z212 := Tryz.sizeOf145
  v212 := Tryz.zeroValue145
  t213 := Tryz.underlying146
  a213 := Tryz.isAgg146
  z213 := Tryz.sizeOf146
  t232 := Tryz.underlying170
  a232 := Tryz.isAgg170
  z232 := Tryz.sizeOf170
  v232 := Tryz.zeroValue170
  t233 := Tryz.underlying171
  a233 := Tryz.isAgg171
  z233 := Tryz.sizeOf171
  v233 := Tryz.zeroValue171
  g17 := by kernel_rfl
  g18 := by kernel_rfl
  g19 := by kernel_rfl
  i0 := by kernel_rfl
  i2 := by kernel_rfl
  i3 := by kernel_rfl
  i4 := by kernel_rfl
  i5 := by kernel_rfl
  i9 := by kernel_rfl
  i20 := by kernel_rfl
  i37 := by kernel_rfl
  i46 := by kernel_rfl
  i51 := by kernel_rfl
  i53 := by kernel_rfl
  i171 := by kernel_rfl
  i173 := by kernel_rfl
  i212 := by kernel_rfl
  i232 := by kernel_rfl
  i233 := by kernel_rfl
  m17 := by kernel_rfl
  m18 := by kernel_rfl
  m19 := by kernel_rfl }
open Go.RowKit Go.Sort Go.Lib in
/-- strconv.Itoa: "Itoa is equivalent to FormatInt(int64(i), 10).": i's DECIMAL NUMERAL ('Lib.itoa': a '-' where i is negative, then the digits), FOR EVERY int. The world behind the call: the world before it, new blocks behind the heap (the library's 'var a [24]byte'), draws. (LAID: no walk: one application.) -/
theorem Tryz.strconv_Itoa (n : Int) (h0 : -9223372036854775808 ≤ n) (h1 : n ≤ 9223372036854775807) (w : World) (htab : Lib.TabIs Tryz.prog w "internal/strconv.uint64pow10" .u64 Lib.pow10Tab) :
    Calls Tryz.prog 30 #[.int .i64 n] w fun e w' => e = .returned (.string ⟨(Lib.itoa n).toArray⟩) ∧ ∃ k os, w' = grow (w.drewN k) os := Any.strconv_Itoa Tryz.laysM171 n h0 h1 w htab
def Tryz.lays171_ren : Go.Shelf.Ren := ⟨fun | 171 => 30 | 243 => 64 | 246 => 95 | 283 => 113 | 284 => 114 | 285 => 115 | 286 => 116 | 129 => 133 | 317 => 134 | 318 => 135 | 319 => 136 | 320 => 137 | 337 => 149 | 338 => 150 | n => n, fun | 3 => 3 | 9 => 9 | 2 => 2 | 4 => 4 | 171 => 124 | 0 => 0 | 53 => 125 | 37 => 28 | 5 => 5 | 173 => 128 | 212 => 145 | 51 => 130 | 20 => 20 | 213 => 146 | 46 => 92 | 232 => 170 | 233 => 171 | n => n, fun | 17 => 1 | 18 => 6 | 19 => 7 | n => n⟩
theorem Tryz.lays171 : Go.Proofs.Lays.n171 Tryz.prog Tryz.lays171_ren := {
  mixed := by kernel_rfl
  f129 := Tryz.func133.trans (congrArg some (by kernel_rfl))
  f171 := Tryz.func30.trans (congrArg some (by kernel_rfl))
  f243 := Tryz.func64.trans (congrArg some (by kernel_rfl))
  f246 := Tryz.func95.trans (congrArg some (by kernel_rfl))
  f283 := Tryz.func113.trans (congrArg some (by kernel_rfl))
  f284 := Tryz.func114.trans (congrArg some (by kernel_rfl))
  f285 := Tryz.func115.trans (congrArg some (by kernel_rfl))
  f286 := Tryz.func116.trans (congrArg some (by kernel_rfl))
  f317 := Tryz.func134.trans (congrArg some (by kernel_rfl))
  f318 := Tryz.func135.trans (congrArg some (by kernel_rfl))
  f319 := Tryz.func136.trans (congrArg some (by kernel_rfl))
  f320 := Tryz.func137.trans (congrArg some (by kernel_rfl))
  f337 := Tryz.func149.trans (congrArg some (by kernel_rfl))
  f338 := Tryz.func150.trans (congrArg some (by kernel_rfl))
  t0 := Tryz.underlying0
  a0 := Tryz.isAgg0
  z0 := Tryz.sizeOf0
  v0 := Tryz.zeroValue0
  t2 := Tryz.underlying2
  a2 := Tryz.isAgg2
  z2 := Tryz.sizeOf2
  v2 := Tryz.zeroValue2
  t3 := Tryz.underlying3
  a3 := Tryz.isAgg3
  z3 := Tryz.sizeOf3
  v3 := Tryz.zeroValue3
  t4 := Tryz.underlying4
  a4 := Tryz.isAgg4
  z4 := Tryz.sizeOf4
  v4 := Tryz.zeroValue4
  t5 := Tryz.underlying5
  a5 := Tryz.isAgg5
  z5 := Tryz.sizeOf5
  v5 := Tryz.zeroValue5
  t9 := Tryz.underlying9
  a9 := Tryz.isAgg9
  z9 := Tryz.sizeOf9
  v9 := Tryz.zeroValue9
  t20 := Tryz.underlying20
  a20 := Tryz.isAgg20
  z20 := Tryz.sizeOf20
  v20 := Tryz.zeroValue20
  t37 := Tryz.underlying28
  a37 := Tryz.isAgg28
  z37 := Tryz.sizeOf28
  v37 := Tryz.zeroValue28
  t46 := Tryz.underlying92
  a46 := Tryz.isAgg92
  z46 := Tryz.sizeOf92
  v46 := Tryz.zeroValue92
  t51 := Tryz.underlying130
  a51 := Tryz.isAgg130
  z51 := Tryz.sizeOf130
  v51 := Tryz.zeroValue130
  t53 := Tryz.underlying125
  a53 := Tryz.isAgg125
  z53 := Tryz.sizeOf125
  v53 := Tryz.zeroValue125
  t171 := Tryz.underlying124
  a171 := Tryz.isAgg124
  z171 := Tryz.sizeOf124
  v171 := Tryz.zeroValue124
  t173 := Tryz.underlying128
  a173 := Tryz.isAgg128
  z173 := Tryz.sizeOf128
  v173 := Tryz.zeroValue128
  t212 := Tryz.underlying145
  a212 := Tryz.isAgg145
  z212 := Tryz.sizeOf145
  v212 := Tryz.zeroValue145
  t213 := Tryz.underlying146
  a213 := Tryz.isAgg146
  z213 := Tryz.sizeOf146
  t232 := Tryz.underlying170
  a232 := Tryz.isAgg170
  z232 := Tryz.sizeOf170
  v232 := Tryz.zeroValue170
  t233 := Tryz.underlying171
  a233 := Tryz.isAgg171
  z233 := Tryz.sizeOf171
  v233 := Tryz.zeroValue171
  g17 := by kernel_rfl
  g18 := by kernel_rfl
  g19 := by kernel_rfl }
open Go.RowKit Go.Sort Go.Lib in
/-- THE ROAD WITHOUT THE TABLE: 0 <= i < 100: NO PREMISE ON THE WORLD, AND THE WORLD IS AS IT WAS: a row that keeps its argument in that range need list no table ('laid = []'). (LAID: no walk: one application.) -/
theorem Tryz.strconv_Itoa_small (i : Nat) (hi : i < 100) (w : World) :
    Calls Tryz.prog 30 #[.int .i64 i] w fun e w' => e = .returned (.string ⟨(Lib.decDigits i).toArray⟩) ∧ w' = w := Any.strconv_Itoa_small Tryz.lays171 i hi w
open Go.RowKit in
/-- internal/strconv.Atoi, at a string of 1 to 18 bytes THAT IS NO DECIMAL NUMERAL: 0, AND ErrSyntax (the package's own error number 2). The world behind the call: as it was, or with the one new row that '[]byte(s)' lays. (LAID: no walk: one application.) -/
theorem Tryz.internal_strconv_Atoi_err (s : ByteArray) (hl0 : 1 ≤ s.size) (hl : s.size ≤ 18) (h : Lib.atoi s.data.toList = none) (w : World) :
    Calls Tryz.prog 122 #[.string s] w fun e w' => e = .returned (.tuple #[.int .i64 0, (.iface 147 (.int .i64 2))]) ∧ (w' = w ∨ ∃ t, w' = Lib.bytesWorld w 5 t) := Any.internal_strconv_Atoi_err Tryz.lays244 s hl0 hl h w
def Tryz.lays247_ren : Go.Shelf.Ren := ⟨fun | 247 => 139 | 287 => 151 | 321 => 155 | 322 => 156 | n => n, fun | 9 => 9 | 3 => 3 | 2 => 2 | 75 => 58 | 4 => 4 | 167 => 147 | 5 => 5 | 53 => 125 | 175 => 163 | 46 => 92 | 37 => 28 | 0 => 0 | 21 => 21 | 80 => 65 | n => n, fun | n => n⟩
theorem Tryz.lays247 : Go.Proofs.Lays.n247 Tryz.prog Tryz.lays247_ren := {
  mixed := by kernel_rfl
  f247 := Tryz.func139.trans (congrArg some (by kernel_rfl))
  f287 := Tryz.func151.trans (congrArg some (by kernel_rfl))
  f321 := Tryz.func155.trans (congrArg some (by kernel_rfl))
  f322 := Tryz.func156.trans (congrArg some (by kernel_rfl))
  t0 := Tryz.underlying0
  a0 := Tryz.isAgg0
  z0 := Tryz.sizeOf0
  v0 := Tryz.zeroValue0
  t2 := Tryz.underlying2
  a2 := Tryz.isAgg2
  z2 := Tryz.sizeOf2
  v2 := Tryz.zeroValue2
  t3 := Tryz.underlying3
  a3 := Tryz.isAgg3
  z3 := Tryz.sizeOf3
  v3 := Tryz.zeroValue3
  t4 := Tryz.underlying4
  a4 := Tryz.isAgg4
  z4 := Tryz.sizeOf4
  v4 := Tryz.zeroValue4
  t5 := Tryz.underlying5
  a5 := Tryz.isAgg5
  z5 := Tryz.sizeOf5
  v5 := Tryz.zeroValue5
  t9 := Tryz.underlying9
  a9 := Tryz.isAgg9
  z9 := Tryz.sizeOf9
  v9 := Tryz.zeroValue9
  t21 := Tryz.underlying21
  a21 := Tryz.isAgg21
  z21 := Tryz.sizeOf21
  v21 := Tryz.zeroValue21
  t37 := Tryz.underlying28
  a37 := Tryz.isAgg28
  z37 := Tryz.sizeOf28
  v37 := Tryz.zeroValue28
  t46 := Tryz.underlying92
  a46 := Tryz.isAgg92
  z46 := Tryz.sizeOf92
  v46 := Tryz.zeroValue92
  t53 := Tryz.underlying125
  a53 := Tryz.isAgg125
  z53 := Tryz.sizeOf125
  v53 := Tryz.zeroValue125
  t75 := Tryz.underlying58
  a75 := Tryz.isAgg58
  z75 := Tryz.sizeOf58
  v75 := Tryz.zeroValue58
  t167 := Tryz.underlying147
  a167 := Tryz.isAgg147
  z167 := Tryz.sizeOf147
  v167 := Tryz.zeroValue147
  t175 := Tryz.underlying163
  a175 := Tryz.isAgg163
  z175 := Tryz.sizeOf163
  v175 := Tryz.zeroValue163 }
open Go.RowKit in
/-- internal/strconv.ParseInt at "": 'if s == "" { return 0, ErrSyntax }'. The world is as it was. (LAID: no walk: one application.) -/
theorem Tryz.internal_strconv_ParseInt_empty (base bits : Int) (w : World) :
    Calls Tryz.prog 139 #[.string ⟨#[]⟩, .int .i64 base, .int .i64 bits] w fun e w' => e = .returned (.tuple #[.int .i64 0, (.iface 147 (.int .i64 2))]) ∧ w' = w := Any.internal_strconv_ParseInt_empty Tryz.lays247 base bits w
open Go.RowKit in
/-- internal/strconv.Atoi at "". (LAID: no walk: one application.) -/
theorem Tryz.internal_strconv_Atoi_empty (w : World) :
    Calls Tryz.prog 122 #[.string ⟨#[]⟩] w fun e w' => e = .returned (.tuple #[.int .i64 0, (.iface 147 (.int .i64 2))]) ∧ w' = w := Any.internal_strconv_Atoi_empty Tryz.lays244 w
open Go.RowKit in
/-- internal/strconv.Atoi, AT EVERY STRING OF AT MOST 18 BYTES THAT IS NO DECIMAL NUMERAL: 0, and ErrSyntax. (LAID: no walk: one application.) -/
theorem Tryz.internal_strconv_Atoi_fail (s : ByteArray) (hl : s.size ≤ 18) (h : Lib.atoi s.data.toList = none) (w : World) :
    Calls Tryz.prog 122 #[.string s] w fun e w' => e = .returned (.tuple #[.int .i64 0, (.iface 147 (.int .i64 2))]) ∧ (w' = w ∨ ∃ t, w' = Lib.bytesWorld w 5 t) := Any.internal_strconv_Atoi_fail Tryz.lays244 s hl h w
def Tryz.laysM316_ren : Go.Shelf.Ren := ⟨fun | 316 => 152 | n => n, fun | 9 => 9 | 3 => 3 | 4 => 4 | 37 => 28 | 0 => 0 | 127 => 98 | 5 => 5 | n => n, fun | n => n⟩
theorem Tryz.laysM316 : Go.Proofs.LaysM.n316 Tryz.prog Tryz.laysM316_ren := {
  mixed := by kernel_rfl
  f316 := Tryz.func152.trans (congrArg some (by kernel_rfl))
  t0 := Tryz.underlying0
  a0 := Tryz.isAgg0
  z0 := Tryz.sizeOf0
  v0 := Tryz.zeroValue0
  t3 := Tryz.underlying3
  a3 := Tryz.isAgg3
  z3 := Tryz.sizeOf3
  v3 := Tryz.zeroValue3
  t4 := Tryz.underlying4
  a4 := Tryz.isAgg4
  z4 := Tryz.sizeOf4
  v4 := Tryz.zeroValue4
  t9 := Tryz.underlying9
  a9 := Tryz.isAgg9
  z9 := Tryz.sizeOf9
  v9 := Tryz.zeroValue9
  t37 := Tryz.underlying28
  a37 := Tryz.isAgg28
  z37 := Tryz.sizeOf28
  v37 := Tryz.zeroValue28
  t127 := Tryz.underlying98
  a127 := Tryz.isAgg98
  z127 := Tryz.sizeOf98
  v127 := Tryz.zeroValue98
  t5 := Tryz.underlying5
  a5 := Tryz.isAgg5
  z5 := Tryz.sizeOf5
  v5 := Tryz.zeroValue5
  i0 := by kernel_rfl
  i3 := by kernel_rfl
  i4 := by kernel_rfl
  i5 := by kernel_rfl
  i9 := by kernel_rfl
  i37 := by kernel_rfl
  i127 := by kernel_rfl }
open Go.RowKit in
/-- internal/stringslite.Clone (what strings.Clone calls): "Clone returns a fresh copy of s.": THE SAME BYTES. Of what was there nothing has turned (a new row is laid, and frozen, where s is not empty). (LAID: no walk: one application.) -/
theorem Tryz.stringslite_Clone (s : ByteArray) (w : World) (hlim : s.size ≤ 281474976710656) :
    Calls Tryz.prog 152 #[.string s] w fun e w' => e = .returned (.string s) ∧ Below w.heap.size w w' := Any.stringslite_Clone Tryz.laysM316 s w hlim
def Tryz.laysM279_ren : Go.Shelf.Ren := ⟨fun | 279 => 140 | 316 => 152 | n => n, fun | 9 => 9 | 168 => 150 | 75 => 58 | 210 => 166 | 3 => 3 | 4 => 4 | 37 => 28 | 0 => 0 | 127 => 98 | 80 => 65 | 5 => 5 | n => n, fun | 15 => 4 | n => n⟩
theorem Tryz.laysM279 : Go.Proofs.LaysM.n279 Tryz.prog Tryz.laysM279_ren := {
  mixed := by kernel_rfl
  f279 := Tryz.func140.trans (congrArg some (by kernel_rfl))
  f316 := Tryz.func152.trans (congrArg some (by kernel_rfl))
  t0 := Tryz.underlying0
  a0 := Tryz.isAgg0
  z0 := Tryz.sizeOf0
  v0 := Tryz.zeroValue0
  t3 := Tryz.underlying3
  a3 := Tryz.isAgg3
  z3 := Tryz.sizeOf3
  v3 := Tryz.zeroValue3
  t4 := Tryz.underlying4
  a4 := Tryz.isAgg4
  z4 := Tryz.sizeOf4
  v4 := Tryz.zeroValue4
  t9 := Tryz.underlying9
  a9 := Tryz.isAgg9
  z9 := Tryz.sizeOf9
  v9 := Tryz.zeroValue9
  t37 := Tryz.underlying28
  a37 := Tryz.isAgg28
  z37 := Tryz.sizeOf28
  v37 := Tryz.zeroValue28
  t75 := Tryz.underlying58
  a75 := Tryz.isAgg58
  z75 := Tryz.sizeOf58
  v75 := Tryz.zeroValue58
  t127 := Tryz.underlying98
  a127 := Tryz.isAgg98
  z127 := Tryz.sizeOf98
  v127 := Tryz.zeroValue98
  t168 := Tryz.underlying150
  a168 := Tryz.isAgg150
  z168 := Tryz.sizeOf150
  v168 := Tryz.zeroValue150
  t210 := Tryz.underlying166
  a210 := Tryz.isAgg166
  z210 := Tryz.sizeOf166
  v210 := Tryz.zeroValue166
  g15 := by kernel_rfl
  t5 := Tryz.underlying5
  a5 := Tryz.isAgg5
  z5 := Tryz.sizeOf5
  v5 := Tryz.zeroValue5
  t80 := Tryz.underlying65
  a80 := Tryz.isAgg65
  z80 := Tryz.sizeOf65
  v80 := Tryz.zeroValue65
  i0 := by kernel_rfl
  i3 := by kernel_rfl
  i4 := by kernel_rfl
  i5 := by kernel_rfl
  i9 := by kernel_rfl
  i37 := by kernel_rfl
  i75 := by kernel_rfl
  i80 := by kernel_rfl
  i127 := by kernel_rfl
  i168 := by kernel_rfl
  i210 := by kernel_rfl
  m15 := by kernel_rfl }
open Go.RowKit in
/-- strconv.syntaxError: '&NumError{fn, stringslite.Clone(str), ErrSyntax}': A POINTER TO A NEW BLOCK that holds fn, str's bytes, and what the variable ErrSyntax holds. Of what was there nothing has turned. (LAID: no walk: one application.) -/
theorem Tryz.strconv_syntaxError (fn s : ByteArray) (ev : Value) (w : World) (hlim : s.size ≤ 281474976710656) (hv : w.cell? ⟨4, 0, none⟩ = some ev) (hev : ev = .nilIface ∨ ∃ te pe, ev = .iface te pe) :
    Calls Tryz.prog 140 #[.string fn, .string s] w fun e w' => ∃ N, e = .returned (.pointer (some ⟨N, 0, none⟩)) ∧ w.heap.size ≤ N ∧ w'.heap[N]? = some (.cells #[.string fn, .string s, ev] 166 (0, 0)) ∧ Below w.heap.size w w' := Any.strconv_syntaxError Tryz.laysM279 fn s ev w hlim hv hev
def Tryz.laysC245_ren : Go.Shelf.Ren := ⟨fun | 245 => 123 | 279 => 140 | 280 => 141 | 281 => 142 | 282 => 143 | 316 => 152 | 171 => 30 | 205 => 153 | 243 => 64 | 246 => 95 | 283 => 113 | 284 => 114 | 285 => 115 | 286 => 116 | 129 => 133 | 317 => 134 | 318 => 135 | 319 => 136 | 320 => 137 | 337 => 149 | 338 => 150 | n => n, fun | 9 => 9 | 3 => 3 | 75 => 58 | 167 => 147 | 4 => 4 | 168 => 150 | 210 => 166 | 37 => 28 | 0 => 0 | 127 => 98 | 145 => 175 | 143 => 173 | 2 => 2 | 171 => 124 | 53 => 125 | 5 => 5 | 173 => 128 | 212 => 145 | 51 => 130 | 20 => 20 | 213 => 146 | 46 => 92 | 232 => 170 | 233 => 171 | 80 => 65 | n => n, fun | 15 => 4 | 16 => 5 | 17 => 1 | 18 => 6 | 19 => 7 | n => n⟩
theorem Tryz.laysC245 : Go.Proofs.LaysC.n245 Tryz.prog Tryz.laysC245_ren := {
  mixed := by kernel_rfl
  f129 := Tryz.func133.trans (congrArg some (by kernel_rfl))
  f171 := Tryz.func30.trans (congrArg some (by kernel_rfl))
  f205 := Tryz.func153.trans (congrArg some (by kernel_rfl))
  f243 := Tryz.func64.trans (congrArg some (by kernel_rfl))
  f245 := Tryz.func123.trans (congrArg some (by kernel_rfl))
  f246 := Tryz.func95.trans (congrArg some (by kernel_rfl))
  f279 := Tryz.func140.trans (congrArg some (by kernel_rfl))
  f280 := Tryz.func141.trans (congrArg some (by kernel_rfl))
  f281 := Tryz.func142.trans (congrArg some (by kernel_rfl))
  f282 := Tryz.func143.trans (congrArg some (by kernel_rfl))
  f283 := Tryz.func113.trans (congrArg some (by kernel_rfl))
  f284 := Tryz.func114.trans (congrArg some (by kernel_rfl))
  f285 := Tryz.func115.trans (congrArg some (by kernel_rfl))
  f286 := Tryz.func116.trans (congrArg some (by kernel_rfl))
  f316 := Tryz.func152.trans (congrArg some (by kernel_rfl))
  f317 := Tryz.func134.trans (congrArg some (by kernel_rfl))
  f318 := Tryz.func135.trans (congrArg some (by kernel_rfl))
  f319 := Tryz.func136.trans (congrArg some (by kernel_rfl))
  f320 := Tryz.func137.trans (congrArg some (by kernel_rfl))
  f337 := Tryz.func149.trans (congrArg some (by kernel_rfl))
  f338 := Tryz.func150.trans (congrArg some (by kernel_rfl))
  t0 := Tryz.underlying0
  a0 := Tryz.isAgg0
  z0 := Tryz.sizeOf0
  v0 := Tryz.zeroValue0
  t2 := Tryz.underlying2
  a2 := Tryz.isAgg2
  z2 := Tryz.sizeOf2
  v2 := Tryz.zeroValue2
  t3 := Tryz.underlying3
  a3 := Tryz.isAgg3
  z3 := Tryz.sizeOf3
  v3 := Tryz.zeroValue3
  t4 := Tryz.underlying4
  a4 := Tryz.isAgg4
  z4 := Tryz.sizeOf4
  v4 := Tryz.zeroValue4
  t5 := Tryz.underlying5
  a5 := Tryz.isAgg5
  z5 := Tryz.sizeOf5
  v5 := Tryz.zeroValue5
  t9 := Tryz.underlying9
  a9 := Tryz.isAgg9
  z9 := Tryz.sizeOf9
  v9 := Tryz.zeroValue9
  t20 := Tryz.underlying20
  a20 := Tryz.isAgg20
  z20 := Tryz.sizeOf20
  v20 := Tryz.zeroValue20
  t37 := Tryz.underlying28
  a37 := Tryz.isAgg28
  z37 := Tryz.sizeOf28
  v37 := Tryz.zeroValue28
  t46 := Tryz.underlying92
  a46 := Tryz.isAgg92
  z46 := Tryz.sizeOf92
  v46 := Tryz.zeroValue92
  t51 := Tryz.underlying130
  a51 := Tryz.isAgg130
  z51 := Tryz.sizeOf130
  v51 := Tryz.zeroValue130
  t53 := Tryz.underlying125
  a53 := Tryz.isAgg125
  z53 := Tryz.sizeOf125
  v53 := Tryz.zeroValue125
  t75 := Tryz.underlying58
  a75 := Tryz.isAgg58
  z75 := Tryz.sizeOf58
  v75 := Tryz.zeroValue58
  t127 := Tryz.underlying98
  a127 := Tryz.isAgg98
  z127 := Tryz.sizeOf98
  v127 := Tryz.zeroValue98
  t143 := Tryz.underlying173
  a143 := Tryz.isAgg173
  z143 := Tryz.sizeOf173
  v143 := Tryz.zeroValue173
  t145 := Tryz.underlying175
  a145 := Tryz.isAgg175
  z145 := Tryz.sizeOf175
  v145 := Tryz.zeroValue175
  t167 := Tryz.underlying147
  a167 := Tryz.isAgg147
  z167 := Tryz.sizeOf147
  v167 := Tryz.zeroValue147
  t168 := Tryz.underlying150
  a168 := Tryz.isAgg150
  z168 := Tryz.sizeOf150
  v168 := Tryz.zeroValue150
  t171 := Tryz.underlying124
  a171 := Tryz.isAgg124
  z171 := Tryz.sizeOf124
  v171 := Tryz.zeroValue124
  t173 := Tryz.underlying128
  a173 := Tryz.isAgg128
  z173 := Tryz.sizeOf128
  v173 := Tryz.zeroValue128
  t210 := Tryz.underlying166
  a210 := Tryz.isAgg166
  z210 := Tryz.sizeOf166
  v210 := Tryz.zeroValue166
  t212 := Tryz.underlying145
  a212 := Tryz.isAgg145
  z212 := Tryz.sizeOf145
  v212 := Tryz.zeroValue145
  t213 := Tryz.underlying146
  a213 := Tryz.isAgg146
  z213 := Tryz.sizeOf146
  t232 := Tryz.underlying170
  a232 := Tryz.isAgg170
  z232 := Tryz.sizeOf170
  v232 := Tryz.zeroValue170
  t233 := Tryz.underlying171
  a233 := Tryz.isAgg171
  z233 := Tryz.sizeOf171
  v233 := Tryz.zeroValue171
  g15 := by kernel_rfl
  g16 := by kernel_rfl
  g17 := by kernel_rfl
  g18 := by kernel_rfl
  g19 := by kernel_rfl
  t80 := Tryz.underlying65
  a80 := Tryz.isAgg65
  z80 := Tryz.sizeOf65
  v80 := Tryz.zeroValue65
  i0 := by kernel_rfl
  i2 := by kernel_rfl
  i3 := by kernel_rfl
  i4 := by kernel_rfl
  i5 := by kernel_rfl
  i9 := by kernel_rfl
  i20 := by kernel_rfl
  i37 := by kernel_rfl
  i46 := by kernel_rfl
  i51 := by kernel_rfl
  i53 := by kernel_rfl
  i75 := by kernel_rfl
  i80 := by kernel_rfl
  i127 := by kernel_rfl
  i143 := by kernel_rfl
  i145 := by kernel_rfl
  i167 := by kernel_rfl
  i168 := by kernel_rfl
  i171 := by kernel_rfl
  i173 := by kernel_rfl
  i210 := by kernel_rfl
  i212 := by kernel_rfl
  i232 := by kernel_rfl
  i233 := by kernel_rfl
  m15 := by kernel_rfl
  m16 := by kernel_rfl
  m17 := by kernel_rfl
  m18 := by kernel_rfl
  m19 := by kernel_rfl
  c0 := by kernel_rfl
  c2 := by kernel_rfl
  c3 := by kernel_rfl
  c4 := by kernel_rfl
  c5 := by kernel_rfl
  c9 := by kernel_rfl
  c20 := by kernel_rfl
  c37 := by kernel_rfl
  c46 := by kernel_rfl
  c51 := by kernel_rfl
  c53 := by kernel_rfl
  c75 := by kernel_rfl
  c80 := by kernel_rfl
  c127 := by kernel_rfl
  c143 := by kernel_rfl
  c145 := by kernel_rfl
  c167 := by kernel_rfl
  c168 := by kernel_rfl
  c171 := by kernel_rfl
  c173 := by kernel_rfl
  c210 := by kernel_rfl
  c212 := by kernel_rfl
  c213 := by kernel_rfl
  c232 := by kernel_rfl
  c233 := by kernel_rfl }
open Go.RowKit in
/-- strconv.toError, at the inner package's ErrSyntax: 'syntaxError(fn, s)' as an error: A *NumError IN A NEW BLOCK. (LAID: no walk: one application.) -/
theorem Tryz.strconv_toError_syntax (fn s : ByteArray) (base bits : Int) (ev : Value) (w : World) (hlim : s.size ≤ 281474976710656) (hv : w.cell? ⟨4, 0, none⟩ = some ev) (hev : ev = .nilIface ∨ ∃ te pe, ev = .iface te pe) :
    Calls Tryz.prog 123 #[.string fn, .string s, .int .i64 base, .int .i64 bits, .iface 147 (.int .i64 2)] w fun e w' => ∃ N, e = .returned (.iface 150 (.pointer (some ⟨N, 0, none⟩))) ∧ w.heap.size ≤ N ∧ w'.heap[N]? = some (.cells #[.string fn, .string s, ev] 166 (0, 0)) ∧ Below w.heap.size w w' := Any.strconv_toError_syntax Tryz.laysC245 fn s base bits ev w hlim hv hev
def Tryz.lays321_ren : Go.Shelf.Ren := ⟨fun | 321 => 155 | n => n, fun | 5 => 5 | n => n, fun | n => n⟩
theorem Tryz.lays321 : Go.Proofs.Lays.n321 Tryz.prog Tryz.lays321_ren := {
  mixed := by kernel_rfl
  f321 := Tryz.func155.trans (congrArg some (by kernel_rfl))
  t5 := Tryz.underlying5
  a5 := Tryz.isAgg5
  z5 := Tryz.sizeOf5
  v5 := Tryz.zeroValue5 }
open Go.RowKit in
/-- internal/strconv.lower: 'c | ('x' - 'X')': the bit 32 set. The world is as it was. (LAID: no walk: one application.) -/
theorem Tryz.internal_strconv_lower (c : Int) (w : World) :
    Calls Tryz.prog 155 #[.int .u8 c] w fun e w' => e = .returned (.int .u8 (bits .or .u8 c 32)) ∧ w' = w := Any.internal_strconv_lower Tryz.lays321 c w
def Tryz.lays287_ren : Go.Shelf.Ren := ⟨fun | 287 => 151 | 321 => 155 | 322 => 156 | n => n, fun | 9 => 9 | 3 => 3 | 53 => 125 | 75 => 58 | 4 => 4 | 167 => 147 | 5 => 5 | 46 => 92 | 37 => 28 | 0 => 0 | 21 => 21 | 80 => 65 | n => n, fun | n => n⟩
theorem Tryz.lays287 : Go.Proofs.Lays.n287 Tryz.prog Tryz.lays287_ren := {
  mixed := by kernel_rfl
  f287 := Tryz.func151.trans (congrArg some (by kernel_rfl))
  f321 := Tryz.func155.trans (congrArg some (by kernel_rfl))
  f322 := Tryz.func156.trans (congrArg some (by kernel_rfl))
  t0 := Tryz.underlying0
  a0 := Tryz.isAgg0
  z0 := Tryz.sizeOf0
  v0 := Tryz.zeroValue0
  t3 := Tryz.underlying3
  a3 := Tryz.isAgg3
  z3 := Tryz.sizeOf3
  v3 := Tryz.zeroValue3
  t4 := Tryz.underlying4
  a4 := Tryz.isAgg4
  z4 := Tryz.sizeOf4
  v4 := Tryz.zeroValue4
  t5 := Tryz.underlying5
  a5 := Tryz.isAgg5
  z5 := Tryz.sizeOf5
  v5 := Tryz.zeroValue5
  t9 := Tryz.underlying9
  a9 := Tryz.isAgg9
  z9 := Tryz.sizeOf9
  v9 := Tryz.zeroValue9
  t21 := Tryz.underlying21
  a21 := Tryz.isAgg21
  z21 := Tryz.sizeOf21
  v21 := Tryz.zeroValue21
  t37 := Tryz.underlying28
  a37 := Tryz.isAgg28
  z37 := Tryz.sizeOf28
  v37 := Tryz.zeroValue28
  t46 := Tryz.underlying92
  a46 := Tryz.isAgg92
  z46 := Tryz.sizeOf92
  v46 := Tryz.zeroValue92
  t53 := Tryz.underlying125
  a53 := Tryz.isAgg125
  z53 := Tryz.sizeOf125
  v53 := Tryz.zeroValue125
  t75 := Tryz.underlying58
  a75 := Tryz.isAgg58
  z75 := Tryz.sizeOf58
  v75 := Tryz.zeroValue58
  t167 := Tryz.underlying147
  a167 := Tryz.isAgg147
  z167 := Tryz.sizeOf147
  v167 := Tryz.zeroValue147 }
open Go.RowKit in
/-- internal/strconv.ParseUint(s, 10, 0), s NOT EMPTY: 'Lib.parseUint10 0' OF ITS BYTES: the number; or (0, ErrSyntax); or (the greatest uint64, ErrRange). The world behind the call: the one new row that '[]byte(s)' lays. (LAID: no walk: one application.) -/
theorem Tryz.internal_strconv_ParseUint_10 (t : ByteArray) (hne : t.size ≠ 0) (hmax : t.size ≤ 9223372036854775806) (w : World) :
    Calls Tryz.prog 151 #[.string t, .int .i64 10, .int .i64 0] w fun e w' => e = .returned (Lib.uintTuple 147 (Lib.parseUint10 0 t.data.toList)) ∧ w' = Lib.bytesWorld w 5 t := Any.internal_strconv_ParseUint_10 Tryz.lays287 t hne hmax w
open Go.RowKit in
/-- internal/strconv.ParseUint("", 10, 0): (0, ErrSyntax). The world is as it was. (LAID: no walk: one application.) -/
theorem Tryz.internal_strconv_ParseUint_10_empty (w : World) :
    Calls Tryz.prog 151 #[.string ⟨#[]⟩, .int .i64 10, .int .i64 0] w fun e w' => e = .returned (Lib.uintTuple 147 .syntax) ∧ w' = w := Any.internal_strconv_ParseUint_10_empty Tryz.lays287 w
open Go.RowKit in
/-- internal/strconv.ParseUint(s, 10, 0): 'Lib.parseMag' OF ITS BYTES. The world: as it was (the empty string), or with the one new row that '[]byte(s)' lays. (LAID: no walk: one application.) -/
theorem Tryz.internal_strconv_ParseUint_10_any (t : ByteArray) (hmax : t.size ≤ 9223372036854775806) (w : World) :
    Calls Tryz.prog 151 #[.string t, .int .i64 10, .int .i64 0] w fun e w' => e = .returned (Lib.uintTuple 147 (Lib.parseMag t.data.toList)) ∧ (w' = w ∨ w' = Lib.bytesWorld w 5 t) := Any.internal_strconv_ParseUint_10_any Tryz.lays287 t hmax w
def Tryz.laysC247_ren : Go.Shelf.Ren := ⟨fun | 247 => 139 | 287 => 151 | 321 => 155 | 322 => 156 | n => n, fun | 9 => 9 | 3 => 3 | 2 => 2 | 75 => 58 | 4 => 4 | 167 => 147 | 5 => 5 | 53 => 125 | 175 => 163 | 46 => 92 | 37 => 28 | 0 => 0 | 21 => 21 | 80 => 65 | n => n, fun | n => n⟩
theorem Tryz.laysC247 : Go.Proofs.LaysC.n247 Tryz.prog Tryz.laysC247_ren := {
  mixed := by kernel_rfl
  f247 := Tryz.func139.trans (congrArg some (by kernel_rfl))
  f287 := Tryz.func151.trans (congrArg some (by kernel_rfl))
  f321 := Tryz.func155.trans (congrArg some (by kernel_rfl))
  f322 := Tryz.func156.trans (congrArg some (by kernel_rfl))
  t0 := Tryz.underlying0
  a0 := Tryz.isAgg0
  z0 := Tryz.sizeOf0
  v0 := Tryz.zeroValue0
  t2 := Tryz.underlying2
  a2 := Tryz.isAgg2
  z2 := Tryz.sizeOf2
  v2 := Tryz.zeroValue2
  t3 := Tryz.underlying3
  a3 := Tryz.isAgg3
  z3 := Tryz.sizeOf3
  v3 := Tryz.zeroValue3
  t4 := Tryz.underlying4
  a4 := Tryz.isAgg4
  z4 := Tryz.sizeOf4
  v4 := Tryz.zeroValue4
  t5 := Tryz.underlying5
  a5 := Tryz.isAgg5
  z5 := Tryz.sizeOf5
  v5 := Tryz.zeroValue5
  t9 := Tryz.underlying9
  a9 := Tryz.isAgg9
  z9 := Tryz.sizeOf9
  v9 := Tryz.zeroValue9
  t21 := Tryz.underlying21
  a21 := Tryz.isAgg21
  z21 := Tryz.sizeOf21
  v21 := Tryz.zeroValue21
  t37 := Tryz.underlying28
  a37 := Tryz.isAgg28
  z37 := Tryz.sizeOf28
  v37 := Tryz.zeroValue28
  t46 := Tryz.underlying92
  a46 := Tryz.isAgg92
  z46 := Tryz.sizeOf92
  v46 := Tryz.zeroValue92
  t53 := Tryz.underlying125
  a53 := Tryz.isAgg125
  z53 := Tryz.sizeOf125
  v53 := Tryz.zeroValue125
  t75 := Tryz.underlying58
  a75 := Tryz.isAgg58
  z75 := Tryz.sizeOf58
  v75 := Tryz.zeroValue58
  t167 := Tryz.underlying147
  a167 := Tryz.isAgg147
  z167 := Tryz.sizeOf147
  v167 := Tryz.zeroValue147
  t175 := Tryz.underlying163
  a175 := Tryz.isAgg163
  z175 := Tryz.sizeOf163
  v175 := Tryz.zeroValue163
  t80 := Tryz.underlying65
  a80 := Tryz.isAgg65
  z80 := Tryz.sizeOf65
  v80 := Tryz.zeroValue65
  i0 := by kernel_rfl
  i2 := by kernel_rfl
  i3 := by kernel_rfl
  i4 := by kernel_rfl
  i5 := by kernel_rfl
  i9 := by kernel_rfl
  i21 := by kernel_rfl
  i37 := by kernel_rfl
  i46 := by kernel_rfl
  i53 := by kernel_rfl
  i75 := by kernel_rfl
  i80 := by kernel_rfl
  i167 := by kernel_rfl
  i175 := by kernel_rfl
  c0 := by kernel_rfl
  c2 := by kernel_rfl
  c3 := by kernel_rfl
  c4 := by kernel_rfl
  c5 := by kernel_rfl
  c9 := by kernel_rfl
  c21 := by kernel_rfl
  c37 := by kernel_rfl
  c46 := by kernel_rfl
  c53 := by kernel_rfl
  c75 := by kernel_rfl
  c80 := by kernel_rfl
  c167 := by kernel_rfl
  c175 := by kernel_rfl }
open Go.RowKit in
/-- internal/strconv.ParseInt(s, 10, 0), s NOT EMPTY: 'Lib.atoiAll' OF ITS BYTES: (the number, nil); (0, ErrSyntax); (the greatest or the least int64 by the sign, ErrRange). The world: as it was, or with the one new row that '[]byte(..)' lays. (LAID: no walk: one application.) -/
theorem Tryz.internal_strconv_ParseInt_10 (s : ByteArray) (hne : s.size ≠ 0) (hmax : s.size ≤ 9223372036854775806) (w : World) :
    Calls Tryz.prog 139 #[.string s, .int .i64 10, .int .i64 0] w fun e w' => e = .returned (Lib.intTuple 147 (Lib.atoiSat s.data.toList) (Lib.atoiAll s.data.toList)) ∧ (w' = w ∨ ∃ t, w' = Lib.bytesWorld w 5 t) := Any.internal_strconv_ParseInt_10 Tryz.laysC247 s hne hmax w
def Tryz.laysC244_ren : Go.Shelf.Ren := ⟨fun | 244 => 122 | 247 => 139 | 287 => 151 | 321 => 155 | 322 => 156 | n => n, fun | 9 => 9 | 3 => 3 | 75 => 58 | 4 => 4 | 5 => 5 | 167 => 147 | 37 => 28 | 0 => 0 | 85 => 148 | 2 => 2 | 53 => 125 | 175 => 163 | 46 => 92 | 21 => 21 | 80 => 65 | n => n, fun | n => n⟩
theorem Tryz.laysC244 : Go.Proofs.LaysC.n244 Tryz.prog Tryz.laysC244_ren := {
  mixed := by kernel_rfl
  f244 := Tryz.func122.trans (congrArg some (by kernel_rfl))
  f247 := Tryz.func139.trans (congrArg some (by kernel_rfl))
  f287 := Tryz.func151.trans (congrArg some (by kernel_rfl))
  f321 := Tryz.func155.trans (congrArg some (by kernel_rfl))
  f322 := Tryz.func156.trans (congrArg some (by kernel_rfl))
  t0 := Tryz.underlying0
  a0 := Tryz.isAgg0
  z0 := Tryz.sizeOf0
  v0 := Tryz.zeroValue0
  t2 := Tryz.underlying2
  a2 := Tryz.isAgg2
  z2 := Tryz.sizeOf2
  v2 := Tryz.zeroValue2
  t3 := Tryz.underlying3
  a3 := Tryz.isAgg3
  z3 := Tryz.sizeOf3
  v3 := Tryz.zeroValue3
  t4 := Tryz.underlying4
  a4 := Tryz.isAgg4
  z4 := Tryz.sizeOf4
  v4 := Tryz.zeroValue4
  t5 := Tryz.underlying5
  a5 := Tryz.isAgg5
  z5 := Tryz.sizeOf5
  v5 := Tryz.zeroValue5
  t9 := Tryz.underlying9
  a9 := Tryz.isAgg9
  z9 := Tryz.sizeOf9
  v9 := Tryz.zeroValue9
  t21 := Tryz.underlying21
  a21 := Tryz.isAgg21
  z21 := Tryz.sizeOf21
  v21 := Tryz.zeroValue21
  t37 := Tryz.underlying28
  a37 := Tryz.isAgg28
  z37 := Tryz.sizeOf28
  v37 := Tryz.zeroValue28
  t46 := Tryz.underlying92
  a46 := Tryz.isAgg92
  z46 := Tryz.sizeOf92
  v46 := Tryz.zeroValue92
  t53 := Tryz.underlying125
  a53 := Tryz.isAgg125
  z53 := Tryz.sizeOf125
  v53 := Tryz.zeroValue125
  t75 := Tryz.underlying58
  a75 := Tryz.isAgg58
  z75 := Tryz.sizeOf58
  v75 := Tryz.zeroValue58
  t85 := Tryz.underlying148
  a85 := Tryz.isAgg148
  z85 := Tryz.sizeOf148
  v85 := Tryz.zeroValue148
  t167 := Tryz.underlying147
  a167 := Tryz.isAgg147
  z167 := Tryz.sizeOf147
  v167 := Tryz.zeroValue147
  t175 := Tryz.underlying163
  a175 := Tryz.isAgg163
  z175 := Tryz.sizeOf163
  v175 := Tryz.zeroValue163
  t80 := Tryz.underlying65
  a80 := Tryz.isAgg65
  z80 := Tryz.sizeOf65
  v80 := Tryz.zeroValue65
  i0 := by kernel_rfl
  i2 := by kernel_rfl
  i3 := by kernel_rfl
  i4 := by kernel_rfl
  i5 := by kernel_rfl
  i9 := by kernel_rfl
  i21 := by kernel_rfl
  i37 := by kernel_rfl
  i46 := by kernel_rfl
  i53 := by kernel_rfl
  i75 := by kernel_rfl
  i80 := by kernel_rfl
  i85 := by kernel_rfl
  i167 := by kernel_rfl
  i175 := by kernel_rfl
  c0 := by kernel_rfl
  c2 := by kernel_rfl
  c3 := by kernel_rfl
  c4 := by kernel_rfl
  c5 := by kernel_rfl
  c9 := by kernel_rfl
  c21 := by kernel_rfl
  c37 := by kernel_rfl
  c46 := by kernel_rfl
  c53 := by kernel_rfl
  c75 := by kernel_rfl
  c80 := by kernel_rfl
  c85 := by kernel_rfl
  c167 := by kernel_rfl
  c175 := by kernel_rfl }
open Go.RowKit in
/-- internal/strconv.Atoi, AT EVERY STRING OF 19 BYTES OR MORE: 'Lib.atoiAll' OF ITS BYTES: (the number, nil); (0, ErrSyntax); (the greatest or the least int by the sign, ErrRange). (LAID: no walk: one application.) -/
theorem Tryz.internal_strconv_Atoi_long (s : ByteArray) (h19 : 19 ≤ s.size) (hmax : s.size ≤ 9223372036854775806) (w : World) :
    Calls Tryz.prog 122 #[.string s] w fun e w' => e = .returned (Lib.intTuple 147 (Lib.atoiSat s.data.toList) (Lib.atoiAll s.data.toList)) ∧ (w' = w ∨ ∃ t, w' = Lib.bytesWorld w 5 t) := Any.internal_strconv_Atoi_long Tryz.laysC244 s h19 hmax w
open Go.RowKit in
/-- internal/strconv.Atoi, AT EVERY STRING: 'Lib.atoiAll' OF ITS BYTES: (the number, nil); (0, ErrSyntax); (the greatest or the least int by the sign, ErrRange). The world: as it was, or with the one new row that '[]byte(..)' lays. (LAID: no walk: one application.) -/
theorem Tryz.internal_strconv_Atoi_all (s : ByteArray) (hmax : s.size ≤ 9223372036854775806) (w : World) :
    Calls Tryz.prog 122 #[.string s] w fun e w' => e = .returned (Lib.intTuple 147 (Lib.atoiSat s.data.toList) (Lib.atoiAll s.data.toList)) ∧ (w' = w ∨ ∃ t, w' = Lib.bytesWorld w 5 t) := Any.internal_strconv_Atoi_all Tryz.laysC244 s hmax w
def Tryz.laysM280_ren : Go.Shelf.Ren := ⟨fun | 280 => 141 | 316 => 152 | n => n, fun | 9 => 9 | 168 => 150 | 75 => 58 | 210 => 166 | 3 => 3 | 4 => 4 | 37 => 28 | 0 => 0 | 127 => 98 | 80 => 65 | 5 => 5 | n => n, fun | 16 => 5 | n => n⟩
theorem Tryz.laysM280 : Go.Proofs.LaysM.n280 Tryz.prog Tryz.laysM280_ren := {
  mixed := by kernel_rfl
  f280 := Tryz.func141.trans (congrArg some (by kernel_rfl))
  f316 := Tryz.func152.trans (congrArg some (by kernel_rfl))
  t0 := Tryz.underlying0
  a0 := Tryz.isAgg0
  z0 := Tryz.sizeOf0
  v0 := Tryz.zeroValue0
  t3 := Tryz.underlying3
  a3 := Tryz.isAgg3
  z3 := Tryz.sizeOf3
  v3 := Tryz.zeroValue3
  t4 := Tryz.underlying4
  a4 := Tryz.isAgg4
  z4 := Tryz.sizeOf4
  v4 := Tryz.zeroValue4
  t9 := Tryz.underlying9
  a9 := Tryz.isAgg9
  z9 := Tryz.sizeOf9
  v9 := Tryz.zeroValue9
  t37 := Tryz.underlying28
  a37 := Tryz.isAgg28
  z37 := Tryz.sizeOf28
  v37 := Tryz.zeroValue28
  t75 := Tryz.underlying58
  a75 := Tryz.isAgg58
  z75 := Tryz.sizeOf58
  v75 := Tryz.zeroValue58
  t127 := Tryz.underlying98
  a127 := Tryz.isAgg98
  z127 := Tryz.sizeOf98
  v127 := Tryz.zeroValue98
  t168 := Tryz.underlying150
  a168 := Tryz.isAgg150
  z168 := Tryz.sizeOf150
  v168 := Tryz.zeroValue150
  t210 := Tryz.underlying166
  a210 := Tryz.isAgg166
  z210 := Tryz.sizeOf166
  v210 := Tryz.zeroValue166
  g16 := by kernel_rfl
  t5 := Tryz.underlying5
  a5 := Tryz.isAgg5
  z5 := Tryz.sizeOf5
  v5 := Tryz.zeroValue5
  t80 := Tryz.underlying65
  a80 := Tryz.isAgg65
  z80 := Tryz.sizeOf65
  v80 := Tryz.zeroValue65
  i0 := by kernel_rfl
  i3 := by kernel_rfl
  i4 := by kernel_rfl
  i5 := by kernel_rfl
  i9 := by kernel_rfl
  i37 := by kernel_rfl
  i75 := by kernel_rfl
  i80 := by kernel_rfl
  i127 := by kernel_rfl
  i168 := by kernel_rfl
  i210 := by kernel_rfl
  m16 := by kernel_rfl }
open Go.RowKit in
/-- strconv.rangeError: '&NumError{fn, stringslite.Clone(str), ErrRange}': A POINTER TO A NEW BLOCK that holds fn, str's bytes, and what the variable ErrRange holds. Of what was there nothing has turned. (LAID: no walk: one application.) -/
theorem Tryz.strconv_rangeError (fn s : ByteArray) (ev : Value) (w : World) (hlim : s.size ≤ 281474976710656) (hv : w.cell? ⟨5, 0, none⟩ = some ev) (hev : ev = .nilIface ∨ ∃ te pe, ev = .iface te pe) :
    Calls Tryz.prog 141 #[.string fn, .string s] w fun e w' => ∃ N, e = .returned (.pointer (some ⟨N, 0, none⟩)) ∧ w.heap.size ≤ N ∧ w'.heap[N]? = some (.cells #[.string fn, .string s, ev] 166 (0, 0)) ∧ Below w.heap.size w w' := Any.strconv_rangeError Tryz.laysM280 fn s ev w hlim hv hev
open Go.RowKit in
/-- strconv.toError, at the inner package's ErrRange: 'rangeError(fn, s)' as an error: A *NumError IN A NEW BLOCK. (LAID: no walk: one application.) -/
theorem Tryz.strconv_toError_range (fn s : ByteArray) (base bits : Int) (ev : Value) (w : World) (hlim : s.size ≤ 281474976710656) (hv : w.cell? ⟨5, 0, none⟩ = some ev) (hev : ev = .nilIface ∨ ∃ te pe, ev = .iface te pe) :
    Calls Tryz.prog 123 #[.string fn, .string s, .int .i64 base, .int .i64 bits, .iface 147 (.int .i64 1)] w fun e w' => ∃ N, e = .returned (.iface 150 (.pointer (some ⟨N, 0, none⟩))) ∧ w.heap.size ≤ N ∧ w'.heap[N]? = some (.cells #[.string fn, .string s, ev] 166 (0, 0)) ∧ Below w.heap.size w w' := Any.strconv_toError_range Tryz.laysC245 fn s base bits ev w hlim hv hev
def Tryz.laysC172_ren : Go.Shelf.Ren := ⟨fun | 172 => 110 | 244 => 122 | 245 => 123 | 247 => 139 | 279 => 140 | 280 => 141 | 281 => 142 | 282 => 143 | 287 => 151 | 316 => 152 | 171 => 30 | 205 => 153 | 321 => 155 | 322 => 156 | 243 => 64 | 246 => 95 | 283 => 113 | 284 => 114 | 285 => 115 | 286 => 116 | 129 => 133 | 317 => 134 | 318 => 135 | 319 => 136 | 320 => 137 | 337 => 149 | 338 => 150 | n => n, fun | 9 => 9 | 3 => 3 | 75 => 58 | 76 => 59 | 4 => 4 | 5 => 5 | 167 => 147 | 37 => 28 | 0 => 0 | 85 => 148 | 2 => 2 | 168 => 150 | 53 => 125 | 175 => 163 | 46 => 92 | 210 => 166 | 127 => 98 | 145 => 175 | 143 => 173 | 21 => 21 | 171 => 124 | 173 => 128 | 212 => 145 | 51 => 130 | 20 => 20 | 213 => 146 | 232 => 170 | 233 => 171 | 80 => 65 | n => n, fun | 15 => 4 | 16 => 5 | 17 => 1 | 18 => 6 | 19 => 7 | n => n⟩
theorem Tryz.laysC172 : Go.Proofs.LaysC.n172 Tryz.prog Tryz.laysC172_ren := {
  mixed := by kernel_rfl
  f129 := Tryz.func133.trans (congrArg some (by kernel_rfl))
  f171 := Tryz.func30.trans (congrArg some (by kernel_rfl))
  f172 := Tryz.func110.trans (congrArg some (by kernel_rfl))
  f205 := Tryz.func153.trans (congrArg some (by kernel_rfl))
  f243 := Tryz.func64.trans (congrArg some (by kernel_rfl))
  f244 := Tryz.func122.trans (congrArg some (by kernel_rfl))
  f245 := Tryz.func123.trans (congrArg some (by kernel_rfl))
  f246 := Tryz.func95.trans (congrArg some (by kernel_rfl))
  f247 := Tryz.func139.trans (congrArg some (by kernel_rfl))
  f279 := Tryz.func140.trans (congrArg some (by kernel_rfl))
  f280 := Tryz.func141.trans (congrArg some (by kernel_rfl))
  f281 := Tryz.func142.trans (congrArg some (by kernel_rfl))
  f282 := Tryz.func143.trans (congrArg some (by kernel_rfl))
  f283 := Tryz.func113.trans (congrArg some (by kernel_rfl))
  f284 := Tryz.func114.trans (congrArg some (by kernel_rfl))
  f285 := Tryz.func115.trans (congrArg some (by kernel_rfl))
  f286 := Tryz.func116.trans (congrArg some (by kernel_rfl))
  f287 := Tryz.func151.trans (congrArg some (by kernel_rfl))
  f316 := Tryz.func152.trans (congrArg some (by kernel_rfl))
  f317 := Tryz.func134.trans (congrArg some (by kernel_rfl))
  f318 := Tryz.func135.trans (congrArg some (by kernel_rfl))
  f319 := Tryz.func136.trans (congrArg some (by kernel_rfl))
  f320 := Tryz.func137.trans (congrArg some (by kernel_rfl))
  f321 := Tryz.func155.trans (congrArg some (by kernel_rfl))
  f322 := Tryz.func156.trans (congrArg some (by kernel_rfl))
  f337 := Tryz.func149.trans (congrArg some (by kernel_rfl))
  f338 := Tryz.func150.trans (congrArg some (by kernel_rfl))
  t0 := Tryz.underlying0
  a0 := Tryz.isAgg0
  z0 := Tryz.sizeOf0
  v0 := Tryz.zeroValue0
  t2 := Tryz.underlying2
  a2 := Tryz.isAgg2
  z2 := Tryz.sizeOf2
  v2 := Tryz.zeroValue2
  t3 := Tryz.underlying3
  a3 := Tryz.isAgg3
  z3 := Tryz.sizeOf3
  v3 := Tryz.zeroValue3
  t4 := Tryz.underlying4
  a4 := Tryz.isAgg4
  z4 := Tryz.sizeOf4
  v4 := Tryz.zeroValue4
  t5 := Tryz.underlying5
  a5 := Tryz.isAgg5
  z5 := Tryz.sizeOf5
  v5 := Tryz.zeroValue5
  t9 := Tryz.underlying9
  a9 := Tryz.isAgg9
  z9 := Tryz.sizeOf9
  v9 := Tryz.zeroValue9
  t20 := Tryz.underlying20
  a20 := Tryz.isAgg20
  z20 := Tryz.sizeOf20
  v20 := Tryz.zeroValue20
  t21 := Tryz.underlying21
  a21 := Tryz.isAgg21
  z21 := Tryz.sizeOf21
  v21 := Tryz.zeroValue21
  t37 := Tryz.underlying28
  a37 := Tryz.isAgg28
  z37 := Tryz.sizeOf28
  v37 := Tryz.zeroValue28
  t46 := Tryz.underlying92
  a46 := Tryz.isAgg92
  z46 := Tryz.sizeOf92
  v46 := Tryz.zeroValue92
  t51 := Tryz.underlying130
  a51 := Tryz.isAgg130
  z51 := Tryz.sizeOf130
  v51 := Tryz.zeroValue130
  t53 := Tryz.underlying125
  a53 := Tryz.isAgg125
  z53 := Tryz.sizeOf125
  v53 := Tryz.zeroValue125
  t75 := Tryz.underlying58
  a75 := Tryz.isAgg58
  z75 := Tryz.sizeOf58
  v75 := Tryz.zeroValue58
  t76 := Tryz.underlying59
  a76 := Tryz.isAgg59
  z76 := Tryz.sizeOf59
  v76 := Tryz.zeroValue59
  t85 := Tryz.underlying148
  a85 := Tryz.isAgg148
  z85 := Tryz.sizeOf148
  v85 := Tryz.zeroValue148
  t127 := Tryz.underlying98
  a127 := Tryz.isAgg98
  z127 := Tryz.sizeOf98
  v127 := Tryz.zeroValue98
  t143 := Tryz.underlying173
  a143 := Tryz.isAgg173
  z143 := Tryz.sizeOf173
  v143 := Tryz.zeroValue173
  t145 := Tryz.underlying175
  a145 := Tryz.isAgg175
  z145 := Tryz.sizeOf175
  v145 := Tryz.zeroValue175
  t167 := Tryz.underlying147
  a167 := Tryz.isAgg147
  z167 := Tryz.sizeOf147
  v167 := Tryz.zeroValue147
  t168 := Tryz.underlying150
  a168 := Tryz.isAgg150
  z168 := Tryz.sizeOf150
  v168 := Tryz.zeroValue150
  t171 := Tryz.underlying124
  a171 := Tryz.isAgg124
  z171 := Tryz.sizeOf124
  v171 := Tryz.zeroValue124
  t173 := Tryz.underlying128
  a173 := Tryz.isAgg128
  z173 := Tryz.sizeOf128
  v173 := Tryz.zeroValue128
  t175 := Tryz.underlying163
  a175 := Tryz.isAgg163
  z175 := Tryz.sizeOf163
  v175 := Tryz.zeroValue163
  t210 := Tryz.underlying166
  a210 := Tryz.isAgg166
  z210 := Tryz.sizeOf166
  v210 := Tryz.zeroValue166
  t212 := Tryz.underlying145
  a212 := Tryz.isAgg145
  z212 := Tryz.sizeOf145
  v212 := Tryz.zeroValue145
  t213 := Tryz.underlying146
  a213 := Tryz.isAgg146
  z213 := Tryz.sizeOf146
  t232 := Tryz.underlying170
  a232 := Tryz.isAgg170
  z232 := Tryz.sizeOf170
  v232 := Tryz.zeroValue170
  t233 := Tryz.underlying171
  a233 := Tryz.isAgg171
  z233 := Tryz.sizeOf171
  v233 := Tryz.zeroValue171
  g15 := by kernel_rfl
  g16 := by kernel_rfl
  g17 := by kernel_rfl
  g18 := by kernel_rfl
  g19 := by kernel_rfl
  t80 := Tryz.underlying65
  a80 := Tryz.isAgg65
  z80 := Tryz.sizeOf65
  v80 := Tryz.zeroValue65
  i0 := by kernel_rfl
  i2 := by kernel_rfl
  i3 := by kernel_rfl
  i4 := by kernel_rfl
  i5 := by kernel_rfl
  i9 := by kernel_rfl
  i20 := by kernel_rfl
  i21 := by kernel_rfl
  i37 := by kernel_rfl
  i46 := by kernel_rfl
  i51 := by kernel_rfl
  i53 := by kernel_rfl
  i75 := by kernel_rfl
  i76 := by kernel_rfl
  i80 := by kernel_rfl
  i85 := by kernel_rfl
  i127 := by kernel_rfl
  i143 := by kernel_rfl
  i145 := by kernel_rfl
  i167 := by kernel_rfl
  i168 := by kernel_rfl
  i171 := by kernel_rfl
  i173 := by kernel_rfl
  i175 := by kernel_rfl
  i210 := by kernel_rfl
  i212 := by kernel_rfl
  i232 := by kernel_rfl
  i233 := by kernel_rfl
  m15 := by kernel_rfl
  m16 := by kernel_rfl
  m17 := by kernel_rfl
  m18 := by kernel_rfl
  m19 := by kernel_rfl
  c0 := by kernel_rfl
  c2 := by kernel_rfl
  c3 := by kernel_rfl
  c4 := by kernel_rfl
  c5 := by kernel_rfl
  c9 := by kernel_rfl
  c20 := by kernel_rfl
  c21 := by kernel_rfl
  c37 := by kernel_rfl
  c46 := by kernel_rfl
  c51 := by kernel_rfl
  c53 := by kernel_rfl
  c75 := by kernel_rfl
  c76 := by kernel_rfl
  c80 := by kernel_rfl
  c85 := by kernel_rfl
  c127 := by kernel_rfl
  c143 := by kernel_rfl
  c145 := by kernel_rfl
  c167 := by kernel_rfl
  c168 := by kernel_rfl
  c171 := by kernel_rfl
  c173 := by kernel_rfl
  c175 := by kernel_rfl
  c210 := by kernel_rfl
  c212 := by kernel_rfl
  c213 := by kernel_rfl
  c232 := by kernel_rfl
  c233 := by kernel_rfl }
open Go.RowKit in
/-- strconv.Atoi, AT EVERY STRING THAT SPELLS AN int ('Lib.atoiAll .. = .ok v'; of whatever length: leading zeros count): v, AND NO ERROR. The world: as it was, or with the one new row that '[]byte(..)' lays. (LAID: no walk: one application.) -/
theorem Tryz.strconv_Atoi_ok (s : ByteArray) (hmax : s.size ≤ 9223372036854775806) (v : Int) (h : Lib.atoiAll s.data.toList = .ok v) (w : World) :
    Calls Tryz.prog 110 #[.string s] w fun e w' => e = .returned (.tuple #[.int .i64 v, .nilIface]) ∧ (w' = w ∨ ∃ t, w' = Lib.bytesWorld w 5 t) := Any.strconv_Atoi_ok Tryz.laysC172 s hmax v h w
open Go.RowKit in
/-- strconv.Atoi, AT EVERY STRING THAT IS NO DECIMAL NUMERAL ('.syntax'): 0, AND AN ERROR THAT IS NOT nil: a *NumError in a new block N: {Func: "Atoi", Num: s's bytes, Err: what the variable ErrSyntax holds}. Of what was there nothing has turned. (LAID: no walk: one application.) -/
theorem Tryz.strconv_Atoi_syntax (s : ByteArray) (hlim : s.size ≤ 281474976710656) (h : Lib.atoiAll s.data.toList = Lib.atoiAll []) (ev : Value) (w : World) (hv : w.cell? ⟨4, 0, none⟩ = some ev) (hev : ev = .nilIface ∨ ∃ te pe, ev = .iface te pe) :
    Calls Tryz.prog 110 #[.string s] w fun e w' => ∃ N, e = .returned (.tuple #[.int .i64 (0), .iface 150 (.pointer (some ⟨N, 0, none⟩))]) ∧ w.heap.size ≤ N ∧ w'.heap[N]? = some (.cells #[.string ⟨#[65, 116, 111, 105]⟩, .string s, ev] 166 (0, 0)) ∧ Below w.heap.size w w' := Any.strconv_Atoi_syntax Tryz.laysC172 s hlim h ev w hv hev
open Go.RowKit in
/-- strconv.Atoi, AT EVERY NUMERAL THAT NO int HOLDS ('.range'): THE GREATEST OR THE LEAST int, BY THE SIGN ('Lib.atoiSat'), AND AN ERROR THAT IS NOT nil: a *NumError in a new block N: {Func: "Atoi", Num: s's bytes, Err: what the variable ErrRange holds}. Of what was there nothing has turned. (LAID: no walk: one application.) -/
theorem Tryz.strconv_Atoi_range (s : ByteArray) (hlim : s.size ≤ 281474976710656) (h : Lib.atoiAll s.data.toList = .range) (ev : Value) (w : World) (hv : w.cell? ⟨5, 0, none⟩ = some ev) (hev : ev = .nilIface ∨ ∃ te pe, ev = .iface te pe) :
    Calls Tryz.prog 110 #[.string s] w fun e w' => ∃ N, e = .returned (.tuple #[.int .i64 (Lib.atoiSat s.data.toList), .iface 150 (.pointer (some ⟨N, 0, none⟩))]) ∧ w.heap.size ≤ N ∧ w'.heap[N]? = some (.cells #[.string ⟨#[65, 116, 111, 105]⟩, .string s, ev] 166 (0, 0)) ∧ Below w.heap.size w w' := Any.strconv_Atoi_range Tryz.laysC172 s hlim h ev w hv hev
open Go.RowKit in
theorem Tryz.strconv_Atoi_syntax_var (s : ByteArray) (hlim : s.size ≤ 281474976710656) (h : Lib.atoiAll s.data.toList = Lib.atoiAll []) (tp : TypeId) (p : Value) (w : World) (hvar : w.var? Tryz.prog "strconv.ErrSyntax" = some #[.iface tp p]) :
    Calls Tryz.prog 110 #[.string s] w fun e w' => ∃ N, e = .returned (.tuple #[.int .i64 0, .iface 150 (.pointer (some ⟨N, 0, none⟩))]) ∧ w.heap.size ≤ N ∧ w'.heap[N]? = some (.cells #[.string ⟨#[65, 116, 111, 105]⟩, .string s, .iface tp p] 166 (0, 0)) ∧ Below w.heap.size w w' := Any.strconv_Atoi_syntax_var Tryz.laysC172 s hlim h tp p w hvar
open Go.RowKit in
theorem Tryz.strconv_Atoi_range_var (s : ByteArray) (hlim : s.size ≤ 281474976710656) (h : Lib.atoiAll s.data.toList = .range) (tp : TypeId) (p : Value) (w : World) (hvar : w.var? Tryz.prog "strconv.ErrRange" = some #[.iface tp p]) :
    Calls Tryz.prog 110 #[.string s] w fun e w' => ∃ N, e = .returned (.tuple #[.int .i64 (Lib.atoiSat s.data.toList), .iface 150 (.pointer (some ⟨N, 0, none⟩))]) ∧ w.heap.size ≤ N ∧ w'.heap[N]? = some (.cells #[.string ⟨#[65, 116, 111, 105]⟩, .string s, .iface tp p] 166 (0, 0)) ∧ Below w.heap.size w w' := Any.strconv_Atoi_range_var Tryz.laysC172 s hlim h tp p w hvar
open Go.RowKit in
/-- internal/strconv.ParseUint("", base, bitSize): (0, ErrSyntax): the first test of the text. The world is as it was. (LAID: no walk: one application.) -/
theorem Tryz.internal_strconv_ParseUint_empty (base bits : Int) (w : World) :
    Calls Tryz.prog 151 #[.string ⟨#[]⟩, .int .i64 base, .int .i64 bits] w fun e w' => e = .returned (.tuple #[.int .u64 0, .iface 147 (.int .i64 2)]) ∧ w' = w := Any.internal_strconv_ParseUint_empty Tryz.lays287 base bits w
open Go.RowKit in
/-- internal/strconv.ParseUint(s, 10, 64), s NOT EMPTY: 'Lib.parseUint10 0' OF ITS BYTES: the number; or (0, ErrSyntax); or (the greatest uint64, ErrRange). The world behind the call: the one new row that '[]byte(s)' lays. (LAID: no walk: one application.) -/
theorem Tryz.internal_strconv_ParseUint_10_b64 (t : ByteArray) (hne : t.size ≠ 0) (hmax : t.size ≤ 9223372036854775806) (w : World) :
    Calls Tryz.prog 151 #[.string t, .int .i64 10, .int .i64 64] w fun e w' => e = .returned (Lib.uintTuple 147 (Lib.parseUint10 0 t.data.toList)) ∧ w' = Lib.bytesWorld w 5 t := Any.internal_strconv_ParseUint_10_b64 Tryz.lays287 t hne hmax w
open Go.RowKit in
/-- internal/strconv.ParseUint(s, 10, 32), s NOT EMPTY: 'Lib.parseUintM 4294967295 0' OF ITS BYTES: the number; or (0, ErrSyntax); or (the greatest uint32, ErrRange). The world behind the call: the one new row that '[]byte(s)' lays. (LAID: no walk: one application.) -/
theorem Tryz.internal_strconv_ParseUint_10_b32 (t : ByteArray) (hne : t.size ≠ 0) (hmax : t.size ≤ 9223372036854775806) (w : World) :
    Calls Tryz.prog 151 #[.string t, .int .i64 10, .int .i64 32] w fun e w' => e = .returned (Lib.uintTupleM 147 4294967295 (Lib.parseUintM 4294967295 0 t.data.toList)) ∧ w' = Lib.bytesWorld w 5 t := Any.internal_strconv_ParseUint_10_b32 Tryz.lays287 t hne hmax w
open Go.RowKit in
/-- internal/strconv.ParseUint(s, 10, 16), s NOT EMPTY: 'Lib.parseUintM 65535 0' OF ITS BYTES: the number; or (0, ErrSyntax); or (the greatest uint16, ErrRange). The world behind the call: the one new row that '[]byte(s)' lays. (LAID: no walk: one application.) -/
theorem Tryz.internal_strconv_ParseUint_10_b16 (t : ByteArray) (hne : t.size ≠ 0) (hmax : t.size ≤ 9223372036854775806) (w : World) :
    Calls Tryz.prog 151 #[.string t, .int .i64 10, .int .i64 16] w fun e w' => e = .returned (Lib.uintTupleM 147 65535 (Lib.parseUintM 65535 0 t.data.toList)) ∧ w' = Lib.bytesWorld w 5 t := Any.internal_strconv_ParseUint_10_b16 Tryz.lays287 t hne hmax w
open Go.RowKit in
/-- internal/strconv.ParseUint(s, 10, 8), s NOT EMPTY: 'Lib.parseUintM 255 0' OF ITS BYTES: the number; or (0, ErrSyntax); or (the greatest uint8, ErrRange). The world behind the call: the one new row that '[]byte(s)' lays. (LAID: no walk: one application.) -/
theorem Tryz.internal_strconv_ParseUint_10_b8 (t : ByteArray) (hne : t.size ≠ 0) (hmax : t.size ≤ 9223372036854775806) (w : World) :
    Calls Tryz.prog 151 #[.string t, .int .i64 10, .int .i64 8] w fun e w' => e = .returned (Lib.uintTupleM 147 255 (Lib.parseUintM 255 0 t.data.toList)) ∧ w' = Lib.bytesWorld w 5 t := Any.internal_strconv_ParseUint_10_b8 Tryz.lays287 t hne hmax w
def Tryz.lays217_ren : Go.Shelf.Ren := ⟨fun | 217 => 102 | 266 => 117 | n => n, fun | 9 => 9 | 5 => 5 | 3 => 3 | n => n, fun | n => n⟩
theorem Tryz.lays217 : Go.Proofs.Lays.n217 Tryz.prog Tryz.lays217_ren := {
  mixed := by kernel_rfl
  f217 := Tryz.func102.trans (congrArg some (by kernel_rfl))
  f266 := Tryz.func117.trans (congrArg some (by kernel_rfl))
  t3 := Tryz.underlying3
  a3 := Tryz.isAgg3
  z3 := Tryz.sizeOf3
  v3 := Tryz.zeroValue3
  t5 := Tryz.underlying5
  a5 := Tryz.isAgg5
  z5 := Tryz.sizeOf5
  v5 := Tryz.zeroValue5
  t9 := Tryz.underlying9
  a9 := Tryz.isAgg9
  z9 := Tryz.sizeOf9
  v9 := Tryz.zeroValue9 }
open Go.RowKit Go.Lib in
/-- internal/stringslite.IndexByte (what strings.IndexByte calls): IT RETURNS 'Lib.indexByte s c'; the world is as it was. (LAID: no walk: one application.) -/
theorem Tryz.stringslite_IndexByte (s : ByteArray) (c : Int) (w : World) :
    Calls Tryz.prog 102 #[.string s, .int .u8 c] w fun e w' => e = .returned (.int .i64 (Lib.indexByte s.data.toList c.toNat.toUInt8)) ∧ w' = w := Any.stringslite_IndexByte Tryz.lays217 s c w
def Tryz.lays224_ren : Go.Shelf.Ren := ⟨fun | 224 => 104 | n => n, fun | 3 => 3 | n => n, fun | n => n⟩
theorem Tryz.lays224 : Go.Proofs.Lays.n224 Tryz.prog Tryz.lays224_ren := {
  mixed := by kernel_rfl
  f224 := Tryz.func104.trans (congrArg some (by kernel_rfl))
  t3 := Tryz.underlying3
  a3 := Tryz.isAgg3
  z3 := Tryz.sizeOf3
  v3 := Tryz.zeroValue3 }
open Go.RowKit Go.Lib in
/-- internal/bytealg.Cutover: "Cutover reports the number of failures of IndexByte we should tolerate before switching over to Index. n is the number of bytes processed so far.": on amd64: (n + 16) / 8. (LAID: no walk: one application.) -/
theorem Tryz.bytealg_Cutover (n : Int) (h0 : 0 ≤ n) (h1 : n < 4611686018427387904) (w : World) :
    Calls Tryz.prog 104 #[.int .i64 n] w fun e w' => e = .returned (.int .i64 ((n + 16) / 8)) ∧ w' = w := Any.bytealg_Cutover Tryz.lays224 n h0 h1 w
def Tryz.lays314_ren : Go.Shelf.Ren := ⟨fun | 314 => 118 | n => n, fun | 9 => 9 | 51 => 130 | 3 => 3 | 4 => 4 | 5 => 5 | 46 => 92 | n => n, fun | n => n⟩
theorem Tryz.lays314 : Go.Proofs.Lays.n314 Tryz.prog Tryz.lays314_ren := {
  mixed := by kernel_rfl
  f314 := Tryz.func118.trans (congrArg some (by kernel_rfl))
  t3 := Tryz.underlying3
  a3 := Tryz.isAgg3
  z3 := Tryz.sizeOf3
  v3 := Tryz.zeroValue3
  t4 := Tryz.underlying4
  a4 := Tryz.isAgg4
  z4 := Tryz.sizeOf4
  v4 := Tryz.zeroValue4
  t5 := Tryz.underlying5
  a5 := Tryz.isAgg5
  z5 := Tryz.sizeOf5
  v5 := Tryz.zeroValue5
  t9 := Tryz.underlying9
  a9 := Tryz.isAgg9
  z9 := Tryz.sizeOf9
  v9 := Tryz.zeroValue9
  t46 := Tryz.underlying92
  a46 := Tryz.isAgg92
  z46 := Tryz.sizeOf92
  v46 := Tryz.zeroValue92
  t51 := Tryz.underlying130
  a51 := Tryz.isAgg130
  z51 := Tryz.sizeOf130
  v51 := Tryz.zeroValue130 }
open Go.RowKit Go.Lib in
/-- hashStr: "returns the hash and the appropriate multiplicative factor for use in Rabin-Karp algorithm": THE HASH OF ALL OF sep, AND 16777619 ^ len(sep), both in uint32. (LAID: no walk: one application.) -/
theorem Tryz.bytealg_hashStr (sep : ByteArray) (hs : sep.size < 4294967281) (w : World) :
    Calls Tryz.prog 118 #[.string sep] w fun e w' => e = .returned (.tuple #[.int .u32 (RK.H sep.data.toList % 4294967296), .int .u32 (16777619 ^ sep.size % 4294967296)]) ∧ w' = w := Any.bytealg_hashStr Tryz.lays314 sep hs w
def Tryz.lays267_ren : Go.Shelf.Ren := ⟨fun | 267 => 105 | 314 => 118 | n => n, fun | 9 => 9 | 3 => 3 | 146 => 131 | 51 => 130 | 4 => 4 | 5 => 5 | 46 => 92 | n => n, fun | n => n⟩
theorem Tryz.lays267 : Go.Proofs.Lays.n267 Tryz.prog Tryz.lays267_ren := {
  mixed := by kernel_rfl
  f267 := Tryz.func105.trans (congrArg some (by kernel_rfl))
  f314 := Tryz.func118.trans (congrArg some (by kernel_rfl))
  t3 := Tryz.underlying3
  a3 := Tryz.isAgg3
  z3 := Tryz.sizeOf3
  v3 := Tryz.zeroValue3
  t4 := Tryz.underlying4
  a4 := Tryz.isAgg4
  z4 := Tryz.sizeOf4
  v4 := Tryz.zeroValue4
  t5 := Tryz.underlying5
  a5 := Tryz.isAgg5
  z5 := Tryz.sizeOf5
  v5 := Tryz.zeroValue5
  t9 := Tryz.underlying9
  a9 := Tryz.isAgg9
  z9 := Tryz.sizeOf9
  v9 := Tryz.zeroValue9
  t46 := Tryz.underlying92
  a46 := Tryz.isAgg92
  z46 := Tryz.sizeOf92
  v46 := Tryz.zeroValue92
  t51 := Tryz.underlying130
  a51 := Tryz.isAgg130
  z51 := Tryz.sizeOf130
  v51 := Tryz.zeroValue130
  t146 := Tryz.underlying131
  a146 := Tryz.isAgg131
  z146 := Tryz.sizeOf131
  v146 := Tryz.zeroValue131 }
open Go.RowKit Go.Lib in
theorem Tryz.bytealg_IndexRabinKarp (s sep : ByteArray) (h1 : 1 ≤ sep.size) (h2 : sep.size ≤ s.size) (hs : s.size < 4294967281) (w : World) :
    Calls Tryz.prog 105 #[.string s, .string sep] w fun e w' => e = .returned (.int .i64 (Lib.index s.data.toList sep.data.toList)) ∧ w' = w := Any.bytealg_IndexRabinKarp Tryz.lays267 s sep h1 h2 hs w
def Tryz.lays219_ren : Go.Shelf.Ren := ⟨fun | 219 => 83 | 217 => 102 | 225 => 103 | 224 => 104 | 267 => 105 | 266 => 117 | 314 => 118 | n => n, fun | 9 => 9 | 3 => 3 | 4 => 4 | 5 => 5 | 46 => 92 | 146 => 131 | 51 => 130 | n => n, fun | 1 => 0 | n => n⟩
theorem Tryz.lays219 : Go.Proofs.Lays.n219 Tryz.prog Tryz.lays219_ren := {
  mixed := by kernel_rfl
  f217 := Tryz.func102.trans (congrArg some (by kernel_rfl))
  f219 := Tryz.func83.trans (congrArg some (by kernel_rfl))
  f224 := Tryz.func104.trans (congrArg some (by kernel_rfl))
  f225 := Tryz.func103.trans (congrArg some (by kernel_rfl))
  f266 := Tryz.func117.trans (congrArg some (by kernel_rfl))
  f267 := Tryz.func105.trans (congrArg some (by kernel_rfl))
  f314 := Tryz.func118.trans (congrArg some (by kernel_rfl))
  t3 := Tryz.underlying3
  a3 := Tryz.isAgg3
  z3 := Tryz.sizeOf3
  v3 := Tryz.zeroValue3
  t4 := Tryz.underlying4
  a4 := Tryz.isAgg4
  z4 := Tryz.sizeOf4
  v4 := Tryz.zeroValue4
  t5 := Tryz.underlying5
  a5 := Tryz.isAgg5
  z5 := Tryz.sizeOf5
  v5 := Tryz.zeroValue5
  t9 := Tryz.underlying9
  a9 := Tryz.isAgg9
  z9 := Tryz.sizeOf9
  v9 := Tryz.zeroValue9
  t46 := Tryz.underlying92
  a46 := Tryz.isAgg92
  z46 := Tryz.sizeOf92
  v46 := Tryz.zeroValue92
  t51 := Tryz.underlying130
  a51 := Tryz.isAgg130
  z51 := Tryz.sizeOf130
  v51 := Tryz.zeroValue130
  t146 := Tryz.underlying131
  a146 := Tryz.isAgg131
  z146 := Tryz.sizeOf131
  v146 := Tryz.zeroValue131
  g1 := by kernel_rfl }
open Go.RowKit Go.Lib in
/-- internal/stringslite.Index (what strings.Index calls) AT A substr OF ONE BYTE c: IT RETURNS 'Lib.indexByte s c'; the world is as it was. (LAID: no walk: one application.) -/
theorem Tryz.stringslite_Index_one (s : ByteArray) (c : UInt8) (w : World) :
    Calls Tryz.prog 83 #[.string s, .string ⟨#[c]⟩] w fun e w' => e = .returned (.int .i64 (Lib.indexByte s.data.toList c)) ∧ w' = w := Any.stringslite_Index_one Tryz.lays219 s c w
open Go.RowKit Go.Lib in
/-- internal/stringslite.Index (what strings.Index calls) AT A substr OF WHATEVER LENGTH: IT RETURNS 'Lib.index s substr'; the world is as it was. 'm': what internal/bytealg.MaxLen holds: whatever. (LAID: no walk: one application.) -/
theorem Tryz.stringslite_Index (s sub : ByteArray) (m : Int) (w : World) (hs : s.size < 4294967281) (hm : w.cell? ⟨0, 0, none⟩ = some (.int .i64 m)) :
    Calls Tryz.prog 83 #[.string s, .string sub] w fun e w' => e = .returned (.int .i64 (Lib.index s.data.toList sub.data.toList)) ∧ w' = w := Any.stringslite_Index Tryz.lays219 s sub m w hs hm
def Tryz.lays143_ren : Go.Shelf.Ren := ⟨fun | 143 => 109 | 219 => 83 | 217 => 102 | 225 => 103 | 224 => 104 | 267 => 105 | 266 => 117 | 314 => 118 | n => n, fun | 9 => 9 | 3 => 3 | 4 => 4 | 5 => 5 | 46 => 92 | 146 => 131 | 51 => 130 | n => n, fun | 1 => 0 | n => n⟩
theorem Tryz.lays143 : Go.Proofs.Lays.n143 Tryz.prog Tryz.lays143_ren := {
  mixed := by kernel_rfl
  f143 := Tryz.func109.trans (congrArg some (by kernel_rfl))
  f217 := Tryz.func102.trans (congrArg some (by kernel_rfl))
  f219 := Tryz.func83.trans (congrArg some (by kernel_rfl))
  f224 := Tryz.func104.trans (congrArg some (by kernel_rfl))
  f225 := Tryz.func103.trans (congrArg some (by kernel_rfl))
  f266 := Tryz.func117.trans (congrArg some (by kernel_rfl))
  f267 := Tryz.func105.trans (congrArg some (by kernel_rfl))
  f314 := Tryz.func118.trans (congrArg some (by kernel_rfl))
  t3 := Tryz.underlying3
  a3 := Tryz.isAgg3
  z3 := Tryz.sizeOf3
  v3 := Tryz.zeroValue3
  t4 := Tryz.underlying4
  a4 := Tryz.isAgg4
  z4 := Tryz.sizeOf4
  v4 := Tryz.zeroValue4
  t5 := Tryz.underlying5
  a5 := Tryz.isAgg5
  z5 := Tryz.sizeOf5
  v5 := Tryz.zeroValue5
  t9 := Tryz.underlying9
  a9 := Tryz.isAgg9
  z9 := Tryz.sizeOf9
  v9 := Tryz.zeroValue9
  t46 := Tryz.underlying92
  a46 := Tryz.isAgg92
  z46 := Tryz.sizeOf92
  v46 := Tryz.zeroValue92
  t51 := Tryz.underlying130
  a51 := Tryz.isAgg130
  z51 := Tryz.sizeOf130
  v51 := Tryz.zeroValue130
  t146 := Tryz.underlying131
  a146 := Tryz.isAgg131
  z146 := Tryz.sizeOf131
  v146 := Tryz.zeroValue131
  g1 := by kernel_rfl }
open Go.RowKit Go.Lib in
/-- strings.Index: "Index returns the index of the first instance of substr in s, or -1 if substr is not present in s.": AT A substr OF ONE BYTE c: IT RETURNS 'Lib.indexByte s c'; the world is as it was. (LAID: no walk: one application.) -/
theorem Tryz.strings_Index_one (s : ByteArray) (c : UInt8) (w : World) :
    Calls Tryz.prog 109 #[.string s, .string ⟨#[c]⟩] w fun e w' => e = .returned (.int .i64 (Lib.indexByte s.data.toList c)) ∧ w' = w := Any.strings_Index_one Tryz.lays143 s c w
open Go.RowKit Go.Lib in
/-- strings.Index: "Index returns the index of the first instance of substr in s, or -1 if substr is not present in s.": IT RETURNS 'Lib.index s substr'; the world is as it was. (LAID: no walk: one application.) -/
theorem Tryz.strings_Index (s sub : ByteArray) (m : Int) (w : World) (hs : s.size < 4294967281) (hm : w.cell? ⟨0, 0, none⟩ = some (.int .i64 m)) :
    Calls Tryz.prog 109 #[.string s, .string sub] w fun e w' => e = .returned (.int .i64 (Lib.index s.data.toList sub.data.toList)) ∧ w' = w := Any.strings_Index Tryz.lays143 s sub m w hs hm
def Tryz.lays220_ren : Go.Shelf.Ren := ⟨fun | 220 => 54 | 219 => 83 | 217 => 102 | 225 => 103 | 224 => 104 | 267 => 105 | 266 => 117 | 314 => 118 | n => n, fun | 9 => 9 | 4 => 4 | 3 => 3 | 5 => 5 | 46 => 92 | 146 => 131 | 51 => 130 | n => n, fun | 1 => 0 | n => n⟩
theorem Tryz.lays220 : Go.Proofs.Lays.n220 Tryz.prog Tryz.lays220_ren := {
  mixed := by kernel_rfl
  f217 := Tryz.func102.trans (congrArg some (by kernel_rfl))
  f219 := Tryz.func83.trans (congrArg some (by kernel_rfl))
  f220 := Tryz.func54.trans (congrArg some (by kernel_rfl))
  f224 := Tryz.func104.trans (congrArg some (by kernel_rfl))
  f225 := Tryz.func103.trans (congrArg some (by kernel_rfl))
  f266 := Tryz.func117.trans (congrArg some (by kernel_rfl))
  f267 := Tryz.func105.trans (congrArg some (by kernel_rfl))
  f314 := Tryz.func118.trans (congrArg some (by kernel_rfl))
  t3 := Tryz.underlying3
  a3 := Tryz.isAgg3
  z3 := Tryz.sizeOf3
  v3 := Tryz.zeroValue3
  t4 := Tryz.underlying4
  a4 := Tryz.isAgg4
  z4 := Tryz.sizeOf4
  v4 := Tryz.zeroValue4
  t5 := Tryz.underlying5
  a5 := Tryz.isAgg5
  z5 := Tryz.sizeOf5
  v5 := Tryz.zeroValue5
  t9 := Tryz.underlying9
  a9 := Tryz.isAgg9
  z9 := Tryz.sizeOf9
  v9 := Tryz.zeroValue9
  t46 := Tryz.underlying92
  a46 := Tryz.isAgg92
  z46 := Tryz.sizeOf92
  v46 := Tryz.zeroValue92
  t51 := Tryz.underlying130
  a51 := Tryz.isAgg130
  z51 := Tryz.sizeOf130
  v51 := Tryz.zeroValue130
  t146 := Tryz.underlying131
  a146 := Tryz.isAgg131
  z146 := Tryz.sizeOf131
  v146 := Tryz.zeroValue131
  g1 := by kernel_rfl }
open Go.RowKit Go.Lib in
/-- internal/stringslite.Cut (what strings.Cut calls): IT RETURNS 'Lib.cut s sep'; the world is as it was but for the count of draws. (LAID: no walk: one application.) -/
theorem Tryz.stringslite_Cut (s sep : ByteArray) (m : Int) (w : World) (hs : s.size < 4294967281) (hm : w.cell? ⟨0, 0, none⟩ = some (.int .i64 m)) :
    Calls Tryz.prog 54 #[.string s, .string sep] w fun e w' => e = .returned (.tuple #[.string ⟨(Lib.cut s.data.toList sep.data.toList).1.toArray⟩, .string ⟨(Lib.cut s.data.toList sep.data.toList).2.1.toArray⟩, .bool (Lib.cut s.data.toList sep.data.toList).2.2]) ∧ ∃ n, w' = w.drewN n := Any.stringslite_Cut Tryz.lays220 s sep m w hs hm
def Tryz.lays145_ren : Go.Shelf.Ren := ⟨fun | 145 => 21 | 220 => 54 | 219 => 83 | 217 => 102 | 225 => 103 | 224 => 104 | 267 => 105 | 266 => 117 | 314 => 118 | n => n, fun | 9 => 9 | 4 => 4 | 59 => 47 | 3 => 3 | 5 => 5 | 46 => 92 | 146 => 131 | 51 => 130 | n => n, fun | 1 => 0 | n => n⟩
theorem Tryz.lays145 : Go.Proofs.Lays.n145 Tryz.prog Tryz.lays145_ren := {
  mixed := by kernel_rfl
  f145 := Tryz.func21.trans (congrArg some (by kernel_rfl))
  f217 := Tryz.func102.trans (congrArg some (by kernel_rfl))
  f219 := Tryz.func83.trans (congrArg some (by kernel_rfl))
  f220 := Tryz.func54.trans (congrArg some (by kernel_rfl))
  f224 := Tryz.func104.trans (congrArg some (by kernel_rfl))
  f225 := Tryz.func103.trans (congrArg some (by kernel_rfl))
  f266 := Tryz.func117.trans (congrArg some (by kernel_rfl))
  f267 := Tryz.func105.trans (congrArg some (by kernel_rfl))
  f314 := Tryz.func118.trans (congrArg some (by kernel_rfl))
  t3 := Tryz.underlying3
  a3 := Tryz.isAgg3
  z3 := Tryz.sizeOf3
  v3 := Tryz.zeroValue3
  t4 := Tryz.underlying4
  a4 := Tryz.isAgg4
  z4 := Tryz.sizeOf4
  v4 := Tryz.zeroValue4
  t5 := Tryz.underlying5
  a5 := Tryz.isAgg5
  z5 := Tryz.sizeOf5
  v5 := Tryz.zeroValue5
  t9 := Tryz.underlying9
  a9 := Tryz.isAgg9
  z9 := Tryz.sizeOf9
  v9 := Tryz.zeroValue9
  t46 := Tryz.underlying92
  a46 := Tryz.isAgg92
  z46 := Tryz.sizeOf92
  v46 := Tryz.zeroValue92
  t51 := Tryz.underlying130
  a51 := Tryz.isAgg130
  z51 := Tryz.sizeOf130
  v51 := Tryz.zeroValue130
  t59 := Tryz.underlying47
  a59 := Tryz.isAgg47
  z59 := Tryz.sizeOf47
  v59 := Tryz.zeroValue47
  t146 := Tryz.underlying131
  a146 := Tryz.isAgg131
  z146 := Tryz.sizeOf131
  v146 := Tryz.zeroValue131
  g1 := by kernel_rfl }
open Go.RowKit Go.Lib in
/-- strings.Cut: "Cut slices s around the first instance of sep, returning the text before and after sep. The found result reports whether sep appears in s. If sep does not appear in s, cut returns s, "", false.": IT RETURNS 'Lib.cut s sep'; the world is as it was but for the count of draws. (LAID: no walk: one application.) -/
theorem Tryz.strings_Cut (s sep : ByteArray) (m : Int) (w : World) (hs : s.size < 4294967281) (hm : w.cell? ⟨0, 0, none⟩ = some (.int .i64 m)) :
    Calls Tryz.prog 21 #[.string s, .string sep] w fun e w' => e = .returned (.tuple #[.string ⟨(Lib.cut s.data.toList sep.data.toList).1.toArray⟩, .string ⟨(Lib.cut s.data.toList sep.data.toList).2.1.toArray⟩, .bool (Lib.cut s.data.toList sep.data.toList).2.2]) ∧ ∃ n, w' = w.drewN n := Any.strings_Cut Tryz.lays145 s sep m w hs hm
def Tryz.lays138_ren : Go.Shelf.Ren := ⟨fun | 138 => 108 | 195 => 119 | 218 => 121 | 143 => 109 | 219 => 83 | 217 => 102 | 225 => 103 | 224 => 104 | 267 => 105 | 266 => 117 | 314 => 118 | n => n, fun | 9 => 9 | 3 => 3 | 4 => 4 | 5 => 5 | 0 => 0 | 46 => 92 | 146 => 131 | 51 => 130 | n => n, fun | 1 => 0 | n => n⟩
theorem Tryz.lays138 : Go.Proofs.Lays.n138 Tryz.prog Tryz.lays138_ren := {
  mixed := by kernel_rfl
  f138 := Tryz.func108.trans (congrArg some (by kernel_rfl))
  f143 := Tryz.func109.trans (congrArg some (by kernel_rfl))
  f195 := Tryz.func119.trans (congrArg some (by kernel_rfl))
  f217 := Tryz.func102.trans (congrArg some (by kernel_rfl))
  f218 := Tryz.func121.trans (congrArg some (by kernel_rfl))
  f219 := Tryz.func83.trans (congrArg some (by kernel_rfl))
  f224 := Tryz.func104.trans (congrArg some (by kernel_rfl))
  f225 := Tryz.func103.trans (congrArg some (by kernel_rfl))
  f266 := Tryz.func117.trans (congrArg some (by kernel_rfl))
  f267 := Tryz.func105.trans (congrArg some (by kernel_rfl))
  f314 := Tryz.func118.trans (congrArg some (by kernel_rfl))
  t0 := Tryz.underlying0
  a0 := Tryz.isAgg0
  z0 := Tryz.sizeOf0
  v0 := Tryz.zeroValue0
  t3 := Tryz.underlying3
  a3 := Tryz.isAgg3
  z3 := Tryz.sizeOf3
  v3 := Tryz.zeroValue3
  t4 := Tryz.underlying4
  a4 := Tryz.isAgg4
  z4 := Tryz.sizeOf4
  v4 := Tryz.zeroValue4
  t5 := Tryz.underlying5
  a5 := Tryz.isAgg5
  z5 := Tryz.sizeOf5
  v5 := Tryz.zeroValue5
  t9 := Tryz.underlying9
  a9 := Tryz.isAgg9
  z9 := Tryz.sizeOf9
  v9 := Tryz.zeroValue9
  t46 := Tryz.underlying92
  a46 := Tryz.isAgg92
  z46 := Tryz.sizeOf92
  v46 := Tryz.zeroValue92
  t51 := Tryz.underlying130
  a51 := Tryz.isAgg130
  z51 := Tryz.sizeOf130
  v51 := Tryz.zeroValue130
  t146 := Tryz.underlying131
  a146 := Tryz.isAgg131
  z146 := Tryz.sizeOf131
  v146 := Tryz.zeroValue131
  g1 := by kernel_rfl }
open Go.RowKit Go.Lib in
/-- strings.Count AT A substr OF ONE BYTE ('hp'): "Count counts the number of non-overlapping instances of substr in s.": IT RETURNS 'Lib.countByte s (that byte)'; the world is as it was. ✋ NO CONTRACT HERE YET at an empty substr (utf8.RuneCountInString) or at a longer one (a loop over strings.Index). (LAID: no walk: one application.) -/
theorem Tryz.strings_Count_one (s : ByteArray) (c : UInt8) (w : World) :
    Calls Tryz.prog 108 #[.string s, .string ⟨#[c]⟩] w fun e w' => e = .returned (.int .i64 (Lib.countByte s.data.toList c)) ∧ w' = w := Any.strings_Count_one Tryz.lays138 s c w
open Go.RowKit Go.Lib in
/-- strings.Count AT A substr OF TWO BYTES OR MORE: "Count counts the number of non-overlapping instances of substr in s.": IT RETURNS 'Lib.count s substr'; the world is as it was. (LAID: no walk: one application.) -/
theorem Tryz.strings_Count (s sub : ByteArray) (m : Int) (w : World) (hs : s.size < 4294967281) (hm : w.cell? ⟨0, 0, none⟩ = some (.int .i64 m)) (h2 : 2 ≤ sub.size) :
    Calls Tryz.prog 108 #[.string s, .string sub] w fun e w' => e = .returned (.int .i64 (Lib.countB s sub)) ∧ w' = w := Any.strings_Count Tryz.lays138 s sub m w hs hm h2
def Tryz.laysM219_ren : Go.Shelf.Ren := ⟨fun | 219 => 83 | 217 => 102 | 225 => 103 | 224 => 104 | 267 => 105 | 266 => 117 | 314 => 118 | n => n, fun | 9 => 9 | 3 => 3 | 4 => 4 | 5 => 5 | 46 => 92 | 146 => 131 | 51 => 130 | n => n, fun | 1 => 0 | n => n⟩
theorem Tryz.laysM219 : Go.Proofs.LaysM.n219 Tryz.prog Tryz.laysM219_ren := {
  mixed := by kernel_rfl
  f217 := Tryz.func102.trans (congrArg some (by kernel_rfl))
  f219 := Tryz.func83.trans (congrArg some (by kernel_rfl))
  f224 := Tryz.func104.trans (congrArg some (by kernel_rfl))
  f225 := Tryz.func103.trans (congrArg some (by kernel_rfl))
  f266 := Tryz.func117.trans (congrArg some (by kernel_rfl))
  f267 := Tryz.func105.trans (congrArg some (by kernel_rfl))
  f314 := Tryz.func118.trans (congrArg some (by kernel_rfl))
  t3 := Tryz.underlying3
  a3 := Tryz.isAgg3
  z3 := Tryz.sizeOf3
  v3 := Tryz.zeroValue3
  t4 := Tryz.underlying4
  a4 := Tryz.isAgg4
  z4 := Tryz.sizeOf4
  v4 := Tryz.zeroValue4
  t5 := Tryz.underlying5
  a5 := Tryz.isAgg5
  z5 := Tryz.sizeOf5
  v5 := Tryz.zeroValue5
  t9 := Tryz.underlying9
  a9 := Tryz.isAgg9
  z9 := Tryz.sizeOf9
  v9 := Tryz.zeroValue9
  t46 := Tryz.underlying92
  a46 := Tryz.isAgg92
  z46 := Tryz.sizeOf92
  v46 := Tryz.zeroValue92
  t51 := Tryz.underlying130
  a51 := Tryz.isAgg130
  z51 := Tryz.sizeOf130
  v51 := Tryz.zeroValue130
  t146 := Tryz.underlying131
  a146 := Tryz.isAgg131
  z146 := Tryz.sizeOf131
  v146 := Tryz.zeroValue131
  g1 := by kernel_rfl
  i3 := by kernel_rfl
  i4 := by kernel_rfl
  i5 := by kernel_rfl
  i9 := by kernel_rfl
  i46 := by kernel_rfl
  i51 := by kernel_rfl
  i146 := by kernel_rfl
  m1 := by kernel_rfl
  s1_3 := fun w h => Go.Proofs.cell_of_shapedOpen_int (zero := #[.int .i64 0]) (t := 3) h (of_decide_eq_true (by kernel_rfl)) (by kernel_rfl) rfl (by kernel_rfl) (by kernel_rfl) Tryz.underlying3 }
open Go.RowKit Go.Lib in
theorem Tryz.stringslite_Index_shaped (s sub : ByteArray) (w : World) (h : w.ShapedOpen Tryz.prog) (hs : s.size < 4294967281) :
    Calls Tryz.prog 83 #[.string s, .string sub] w fun e w' => e = .returned (.int .i64 (Lib.index s.data.toList sub.data.toList)) ∧ w' = w := Any.stringslite_Index_shaped Tryz.laysM219 s sub w h hs
def Tryz.laysM143_ren : Go.Shelf.Ren := ⟨fun | 143 => 109 | 219 => 83 | 217 => 102 | 225 => 103 | 224 => 104 | 267 => 105 | 266 => 117 | 314 => 118 | n => n, fun | 9 => 9 | 3 => 3 | 4 => 4 | 5 => 5 | 46 => 92 | 146 => 131 | 51 => 130 | n => n, fun | 1 => 0 | n => n⟩
theorem Tryz.laysM143 : Go.Proofs.LaysM.n143 Tryz.prog Tryz.laysM143_ren := {
  mixed := by kernel_rfl
  f143 := Tryz.func109.trans (congrArg some (by kernel_rfl))
  f217 := Tryz.func102.trans (congrArg some (by kernel_rfl))
  f219 := Tryz.func83.trans (congrArg some (by kernel_rfl))
  f224 := Tryz.func104.trans (congrArg some (by kernel_rfl))
  f225 := Tryz.func103.trans (congrArg some (by kernel_rfl))
  f266 := Tryz.func117.trans (congrArg some (by kernel_rfl))
  f267 := Tryz.func105.trans (congrArg some (by kernel_rfl))
  f314 := Tryz.func118.trans (congrArg some (by kernel_rfl))
  t3 := Tryz.underlying3
  a3 := Tryz.isAgg3
  z3 := Tryz.sizeOf3
  v3 := Tryz.zeroValue3
  t4 := Tryz.underlying4
  a4 := Tryz.isAgg4
  z4 := Tryz.sizeOf4
  v4 := Tryz.zeroValue4
  t5 := Tryz.underlying5
  a5 := Tryz.isAgg5
  z5 := Tryz.sizeOf5
  v5 := Tryz.zeroValue5
  t9 := Tryz.underlying9
  a9 := Tryz.isAgg9
  z9 := Tryz.sizeOf9
  v9 := Tryz.zeroValue9
  t46 := Tryz.underlying92
  a46 := Tryz.isAgg92
  z46 := Tryz.sizeOf92
  v46 := Tryz.zeroValue92
  t51 := Tryz.underlying130
  a51 := Tryz.isAgg130
  z51 := Tryz.sizeOf130
  v51 := Tryz.zeroValue130
  t146 := Tryz.underlying131
  a146 := Tryz.isAgg131
  z146 := Tryz.sizeOf131
  v146 := Tryz.zeroValue131
  g1 := by kernel_rfl
  i3 := by kernel_rfl
  i4 := by kernel_rfl
  i5 := by kernel_rfl
  i9 := by kernel_rfl
  i46 := by kernel_rfl
  i51 := by kernel_rfl
  i146 := by kernel_rfl
  m1 := by kernel_rfl
  s1_3 := fun w h => Go.Proofs.cell_of_shapedOpen_int (zero := #[.int .i64 0]) (t := 3) h (of_decide_eq_true (by kernel_rfl)) (by kernel_rfl) rfl (by kernel_rfl) (by kernel_rfl) Tryz.underlying3 }
open Go.RowKit Go.Lib in
theorem Tryz.strings_Index_shaped (s sub : ByteArray) (w : World) (h : w.ShapedOpen Tryz.prog) (hs : s.size < 4294967281) :
    Calls Tryz.prog 109 #[.string s, .string sub] w fun e w' => e = .returned (.int .i64 (Lib.index s.data.toList sub.data.toList)) ∧ w' = w := Any.strings_Index_shaped Tryz.laysM143 s sub w h hs
def Tryz.laysM220_ren : Go.Shelf.Ren := ⟨fun | 220 => 54 | 219 => 83 | 217 => 102 | 225 => 103 | 224 => 104 | 267 => 105 | 266 => 117 | 314 => 118 | n => n, fun | 9 => 9 | 4 => 4 | 3 => 3 | 5 => 5 | 46 => 92 | 146 => 131 | 51 => 130 | n => n, fun | 1 => 0 | n => n⟩
theorem Tryz.laysM220 : Go.Proofs.LaysM.n220 Tryz.prog Tryz.laysM220_ren := {
  mixed := by kernel_rfl
  f217 := Tryz.func102.trans (congrArg some (by kernel_rfl))
  f219 := Tryz.func83.trans (congrArg some (by kernel_rfl))
  f220 := Tryz.func54.trans (congrArg some (by kernel_rfl))
  f224 := Tryz.func104.trans (congrArg some (by kernel_rfl))
  f225 := Tryz.func103.trans (congrArg some (by kernel_rfl))
  f266 := Tryz.func117.trans (congrArg some (by kernel_rfl))
  f267 := Tryz.func105.trans (congrArg some (by kernel_rfl))
  f314 := Tryz.func118.trans (congrArg some (by kernel_rfl))
  t3 := Tryz.underlying3
  a3 := Tryz.isAgg3
  z3 := Tryz.sizeOf3
  v3 := Tryz.zeroValue3
  t4 := Tryz.underlying4
  a4 := Tryz.isAgg4
  z4 := Tryz.sizeOf4
  v4 := Tryz.zeroValue4
  t5 := Tryz.underlying5
  a5 := Tryz.isAgg5
  z5 := Tryz.sizeOf5
  v5 := Tryz.zeroValue5
  t9 := Tryz.underlying9
  a9 := Tryz.isAgg9
  z9 := Tryz.sizeOf9
  v9 := Tryz.zeroValue9
  t46 := Tryz.underlying92
  a46 := Tryz.isAgg92
  z46 := Tryz.sizeOf92
  v46 := Tryz.zeroValue92
  t51 := Tryz.underlying130
  a51 := Tryz.isAgg130
  z51 := Tryz.sizeOf130
  v51 := Tryz.zeroValue130
  t146 := Tryz.underlying131
  a146 := Tryz.isAgg131
  z146 := Tryz.sizeOf131
  v146 := Tryz.zeroValue131
  g1 := by kernel_rfl
  i3 := by kernel_rfl
  i4 := by kernel_rfl
  i5 := by kernel_rfl
  i9 := by kernel_rfl
  i46 := by kernel_rfl
  i51 := by kernel_rfl
  i146 := by kernel_rfl
  m1 := by kernel_rfl
  s1_3 := fun w h => Go.Proofs.cell_of_shapedOpen_int (zero := #[.int .i64 0]) (t := 3) h (of_decide_eq_true (by kernel_rfl)) (by kernel_rfl) rfl (by kernel_rfl) (by kernel_rfl) Tryz.underlying3 }
open Go.RowKit Go.Lib in
theorem Tryz.stringslite_Cut_shaped (s sep : ByteArray) (w : World) (h : w.ShapedOpen Tryz.prog) (hs : s.size < 4294967281) :
    Calls Tryz.prog 54 #[.string s, .string sep] w fun e w' => e = .returned (.tuple #[.string ⟨(Lib.cut s.data.toList sep.data.toList).1.toArray⟩, .string ⟨(Lib.cut s.data.toList sep.data.toList).2.1.toArray⟩, .bool (Lib.cut s.data.toList sep.data.toList).2.2]) ∧ ∃ n, w' = w.drewN n := Any.stringslite_Cut_shaped Tryz.laysM220 s sep w h hs
def Tryz.laysM145_ren : Go.Shelf.Ren := ⟨fun | 145 => 21 | 220 => 54 | 219 => 83 | 217 => 102 | 225 => 103 | 224 => 104 | 267 => 105 | 266 => 117 | 314 => 118 | n => n, fun | 9 => 9 | 4 => 4 | 59 => 47 | 3 => 3 | 5 => 5 | 46 => 92 | 146 => 131 | 51 => 130 | n => n, fun | 1 => 0 | n => n⟩
theorem Tryz.laysM145 : Go.Proofs.LaysM.n145 Tryz.prog Tryz.laysM145_ren := {
  mixed := by kernel_rfl
  f145 := Tryz.func21.trans (congrArg some (by kernel_rfl))
  f217 := Tryz.func102.trans (congrArg some (by kernel_rfl))
  f219 := Tryz.func83.trans (congrArg some (by kernel_rfl))
  f220 := Tryz.func54.trans (congrArg some (by kernel_rfl))
  f224 := Tryz.func104.trans (congrArg some (by kernel_rfl))
  f225 := Tryz.func103.trans (congrArg some (by kernel_rfl))
  f266 := Tryz.func117.trans (congrArg some (by kernel_rfl))
  f267 := Tryz.func105.trans (congrArg some (by kernel_rfl))
  f314 := Tryz.func118.trans (congrArg some (by kernel_rfl))
  t3 := Tryz.underlying3
  a3 := Tryz.isAgg3
  z3 := Tryz.sizeOf3
  v3 := Tryz.zeroValue3
  t4 := Tryz.underlying4
  a4 := Tryz.isAgg4
  z4 := Tryz.sizeOf4
  v4 := Tryz.zeroValue4
  t5 := Tryz.underlying5
  a5 := Tryz.isAgg5
  z5 := Tryz.sizeOf5
  v5 := Tryz.zeroValue5
  t9 := Tryz.underlying9
  a9 := Tryz.isAgg9
  z9 := Tryz.sizeOf9
  v9 := Tryz.zeroValue9
  t46 := Tryz.underlying92
  a46 := Tryz.isAgg92
  z46 := Tryz.sizeOf92
  v46 := Tryz.zeroValue92
  t51 := Tryz.underlying130
  a51 := Tryz.isAgg130
  z51 := Tryz.sizeOf130
  v51 := Tryz.zeroValue130
  t59 := Tryz.underlying47
  a59 := Tryz.isAgg47
  z59 := Tryz.sizeOf47
  v59 := Tryz.zeroValue47
  t146 := Tryz.underlying131
  a146 := Tryz.isAgg131
  z146 := Tryz.sizeOf131
  v146 := Tryz.zeroValue131
  g1 := by kernel_rfl
  i3 := by kernel_rfl
  i4 := by kernel_rfl
  i5 := by kernel_rfl
  i9 := by kernel_rfl
  i46 := by kernel_rfl
  i51 := by kernel_rfl
  i59 := by kernel_rfl
  i146 := by kernel_rfl
  m1 := by kernel_rfl
  s1_3 := fun w h => Go.Proofs.cell_of_shapedOpen_int (zero := #[.int .i64 0]) (t := 3) h (of_decide_eq_true (by kernel_rfl)) (by kernel_rfl) rfl (by kernel_rfl) (by kernel_rfl) Tryz.underlying3 }
open Go.RowKit Go.Lib in
theorem Tryz.strings_Cut_shaped (s sep : ByteArray) (w : World) (h : w.ShapedOpen Tryz.prog) (hs : s.size < 4294967281) :
    Calls Tryz.prog 21 #[.string s, .string sep] w fun e w' => e = .returned (.tuple #[.string ⟨(Lib.cut s.data.toList sep.data.toList).1.toArray⟩, .string ⟨(Lib.cut s.data.toList sep.data.toList).2.1.toArray⟩, .bool (Lib.cut s.data.toList sep.data.toList).2.2]) ∧ ∃ n, w' = w.drewN n := Any.strings_Cut_shaped Tryz.laysM145 s sep w h hs
def Tryz.laysM138_ren : Go.Shelf.Ren := ⟨fun | 138 => 108 | 195 => 119 | 218 => 121 | 143 => 109 | 219 => 83 | 217 => 102 | 225 => 103 | 224 => 104 | 267 => 105 | 266 => 117 | 314 => 118 | n => n, fun | 9 => 9 | 3 => 3 | 4 => 4 | 5 => 5 | 0 => 0 | 46 => 92 | 146 => 131 | 51 => 130 | n => n, fun | 1 => 0 | n => n⟩
theorem Tryz.laysM138 : Go.Proofs.LaysM.n138 Tryz.prog Tryz.laysM138_ren := {
  mixed := by kernel_rfl
  f138 := Tryz.func108.trans (congrArg some (by kernel_rfl))
  f143 := Tryz.func109.trans (congrArg some (by kernel_rfl))
  f195 := Tryz.func119.trans (congrArg some (by kernel_rfl))
  f217 := Tryz.func102.trans (congrArg some (by kernel_rfl))
  f218 := Tryz.func121.trans (congrArg some (by kernel_rfl))
  f219 := Tryz.func83.trans (congrArg some (by kernel_rfl))
  f224 := Tryz.func104.trans (congrArg some (by kernel_rfl))
  f225 := Tryz.func103.trans (congrArg some (by kernel_rfl))
  f266 := Tryz.func117.trans (congrArg some (by kernel_rfl))
  f267 := Tryz.func105.trans (congrArg some (by kernel_rfl))
  f314 := Tryz.func118.trans (congrArg some (by kernel_rfl))
  t0 := Tryz.underlying0
  a0 := Tryz.isAgg0
  z0 := Tryz.sizeOf0
  v0 := Tryz.zeroValue0
  t3 := Tryz.underlying3
  a3 := Tryz.isAgg3
  z3 := Tryz.sizeOf3
  v3 := Tryz.zeroValue3
  t4 := Tryz.underlying4
  a4 := Tryz.isAgg4
  z4 := Tryz.sizeOf4
  v4 := Tryz.zeroValue4
  t5 := Tryz.underlying5
  a5 := Tryz.isAgg5
  z5 := Tryz.sizeOf5
  v5 := Tryz.zeroValue5
  t9 := Tryz.underlying9
  a9 := Tryz.isAgg9
  z9 := Tryz.sizeOf9
  v9 := Tryz.zeroValue9
  t46 := Tryz.underlying92
  a46 := Tryz.isAgg92
  z46 := Tryz.sizeOf92
  v46 := Tryz.zeroValue92
  t51 := Tryz.underlying130
  a51 := Tryz.isAgg130
  z51 := Tryz.sizeOf130
  v51 := Tryz.zeroValue130
  t146 := Tryz.underlying131
  a146 := Tryz.isAgg131
  z146 := Tryz.sizeOf131
  v146 := Tryz.zeroValue131
  g1 := by kernel_rfl
  i0 := by kernel_rfl
  i3 := by kernel_rfl
  i4 := by kernel_rfl
  i5 := by kernel_rfl
  i9 := by kernel_rfl
  i46 := by kernel_rfl
  i51 := by kernel_rfl
  i146 := by kernel_rfl
  m1 := by kernel_rfl
  s1_3 := fun w h => Go.Proofs.cell_of_shapedOpen_int (zero := #[.int .i64 0]) (t := 3) h (of_decide_eq_true (by kernel_rfl)) (by kernel_rfl) rfl (by kernel_rfl) (by kernel_rfl) Tryz.underlying3 }
open Go.RowKit Go.Lib in
theorem Tryz.strings_Count_shaped (s sub : ByteArray) (w : World) (h : w.ShapedOpen Tryz.prog) (hs : s.size < 4294967281) (h2 : 2 ≤ sub.size) :
    Calls Tryz.prog 108 #[.string s, .string sub] w fun e w' => e = .returned (.int .i64 (Lib.countB s sub)) ∧ w' = w := Any.strings_Count_shaped Tryz.laysM138 s sub w h hs h2
def Tryz.lays189_ren : Go.Shelf.Ren := ⟨fun | 189 => 92 | 125 => 112 | 257 => 111 | 128 => 132 | 129 => 133 | 294 => 124 | 295 => 125 | 296 => 126 | 297 => 127 | 298 => 128 | 299 => 129 | 216 => 61 | 300 => 130 | 301 => 131 | 328 => 144 | 329 => 145 | 330 => 146 | 331 => 147 | 332 => 148 | 215 => 93 | 343 => 154 | n => n, fun | 28 => 34 | 3 => 3 | 46 => 92 | 0 => 0 | 51 => 130 | 53 => 125 | 4 => 4 | 183 => 138 | 182 => 137 | 131 => 49 | 5 => 5 | 9 => 9 | 218 => 153 | 222 => 157 | 228 => 168 | 229 => 116 | n => n, fun | n => n⟩
theorem Tryz.lays189 : Go.Proofs.Lays.n189 Tryz.prog Tryz.lays189_ren := {
  mixed := by kernel_rfl
  f125 := Tryz.func112.trans (congrArg some (by kernel_rfl))
  f128 := Tryz.func132.trans (congrArg some (by kernel_rfl))
  f129 := Tryz.func133.trans (congrArg some (by kernel_rfl))
  f189 := Tryz.func92.trans (congrArg some (by kernel_rfl))
  f215 := Tryz.func93.trans (congrArg some (by kernel_rfl))
  f216 := Tryz.func61.trans (congrArg some (by kernel_rfl))
  f257 := Tryz.func111.trans (congrArg some (by kernel_rfl))
  f294 := Tryz.func124.trans (congrArg some (by kernel_rfl))
  f295 := Tryz.func125.trans (congrArg some (by kernel_rfl))
  f296 := Tryz.func126.trans (congrArg some (by kernel_rfl))
  f297 := Tryz.func127.trans (congrArg some (by kernel_rfl))
  f298 := Tryz.func128.trans (congrArg some (by kernel_rfl))
  f299 := Tryz.func129.trans (congrArg some (by kernel_rfl))
  f300 := Tryz.func130.trans (congrArg some (by kernel_rfl))
  f301 := Tryz.func131.trans (congrArg some (by kernel_rfl))
  f328 := Tryz.func144.trans (congrArg some (by kernel_rfl))
  f329 := Tryz.func145.trans (congrArg some (by kernel_rfl))
  f330 := Tryz.func146.trans (congrArg some (by kernel_rfl))
  f331 := Tryz.func147.trans (congrArg some (by kernel_rfl))
  f332 := Tryz.func148.trans (congrArg some (by kernel_rfl))
  f343 := Tryz.func154.trans (congrArg some (by kernel_rfl))
  t0 := Tryz.underlying0
  a0 := Tryz.isAgg0
  z0 := Tryz.sizeOf0
  v0 := Tryz.zeroValue0
  t3 := Tryz.underlying3
  a3 := Tryz.isAgg3
  z3 := Tryz.sizeOf3
  v3 := Tryz.zeroValue3
  t4 := Tryz.underlying4
  a4 := Tryz.isAgg4
  z4 := Tryz.sizeOf4
  v4 := Tryz.zeroValue4
  t5 := Tryz.underlying5
  a5 := Tryz.isAgg5
  z5 := Tryz.sizeOf5
  v5 := Tryz.zeroValue5
  t9 := Tryz.underlying9
  a9 := Tryz.isAgg9
  z9 := Tryz.sizeOf9
  v9 := Tryz.zeroValue9
  t28 := Tryz.underlying34
  a28 := Tryz.isAgg34
  z28 := Tryz.sizeOf34
  v28 := Tryz.zeroValue34
  t46 := Tryz.underlying92
  a46 := Tryz.isAgg92
  z46 := Tryz.sizeOf92
  v46 := Tryz.zeroValue92
  t51 := Tryz.underlying130
  a51 := Tryz.isAgg130
  z51 := Tryz.sizeOf130
  v51 := Tryz.zeroValue130
  t53 := Tryz.underlying125
  a53 := Tryz.isAgg125
  z53 := Tryz.sizeOf125
  v53 := Tryz.zeroValue125
  t131 := Tryz.underlying49
  a131 := Tryz.isAgg49
  z131 := Tryz.sizeOf49
  v131 := Tryz.zeroValue49
  t182 := Tryz.underlying137
  a182 := Tryz.isAgg137
  z182 := Tryz.sizeOf137
  v182 := Tryz.zeroValue137
  t183 := Tryz.underlying138
  a183 := Tryz.isAgg138
  z183 := Tryz.sizeOf138
  v183 := Tryz.zeroValue138
  t218 := Tryz.underlying153
  a218 := Tryz.isAgg153
  z218 := Tryz.sizeOf153
  v218 := Tryz.zeroValue153
  t222 := Tryz.underlying157
  a222 := Tryz.isAgg157
  z222 := Tryz.sizeOf157
  v222 := Tryz.zeroValue157
  t228 := Tryz.underlying168
  a228 := Tryz.isAgg168
  z228 := Tryz.sizeOf168
  v228 := Tryz.zeroValue168
  t229 := Tryz.underlying116
  a229 := Tryz.isAgg116
  z229 := Tryz.sizeOf116
  v229 := Tryz.zeroValue116 }
open Go.Sort Go.RowKit in
theorem Tryz.slices_Sort_int (blk off cap : Nat) (zs : List Int) (w : World) (hH : Holds (Value.int .i64) w blk off zs.toArray) (hblk : blk < w.heap.size) (hsz : zs.length < 4611686018427387904) :
    Calls Tryz.prog 92 #[.slice (some ⟨blk, off, none⟩) zs.length cap] w fun e w' =>
      e = .returned (.tuple #[]) ∧ ∃ n os, w' = grow (putRow (Value.int .i64) (Sort.ahead w n) blk off (zs.mergeSort fun x y => decide (x ≤ y)).toArray) os := Any.slices_Sort_int Tryz.lays189 blk off cap zs w hH hblk hsz
def Tryz.lays206_ren : Go.Shelf.Ren := ⟨fun | 206 => 87 | n => n, fun | 9 => 9 | 4 => 4 | 3 => 3 | n => n, fun | n => n⟩
theorem Tryz.lays206 : Go.Proofs.Lays.n206 Tryz.prog Tryz.lays206_ren := {
  mixed := by kernel_rfl
  f206 := Tryz.func87.trans (congrArg some (by kernel_rfl))
  t3 := Tryz.underlying3
  a3 := Tryz.isAgg3
  z3 := Tryz.sizeOf3
  v3 := Tryz.zeroValue3
  t4 := Tryz.underlying4
  a4 := Tryz.isAgg4
  z4 := Tryz.sizeOf4
  v4 := Tryz.zeroValue4
  t9 := Tryz.underlying9
  a9 := Tryz.isAgg9
  z9 := Tryz.sizeOf9
  v9 := Tryz.zeroValue9 }
open Go.RowKit Go.Lib in
/-- internal/stringslite.HasPrefix (what strings.HasPrefix calls). (LAID: no walk: one application.) -/
theorem Tryz.stringslite_HasPrefix (s p : ByteArray) (w : World) :
    Calls Tryz.prog 87 #[.string s, .string p] w fun e w' => e = .returned (.bool (Lib.hasPrefix s.data.toList p.data.toList)) ∧ w' = w := Any.stringslite_HasPrefix Tryz.lays206 s p w
def Tryz.lays99_ren : Go.Shelf.Ren := ⟨fun | 99 => 58 | 206 => 87 | n => n, fun | 9 => 9 | 4 => 4 | 3 => 3 | n => n, fun | n => n⟩
theorem Tryz.lays99 : Go.Proofs.Lays.n99 Tryz.prog Tryz.lays99_ren := {
  mixed := by kernel_rfl
  f99 := Tryz.func58.trans (congrArg some (by kernel_rfl))
  f206 := Tryz.func87.trans (congrArg some (by kernel_rfl))
  t3 := Tryz.underlying3
  a3 := Tryz.isAgg3
  z3 := Tryz.sizeOf3
  v3 := Tryz.zeroValue3
  t4 := Tryz.underlying4
  a4 := Tryz.isAgg4
  z4 := Tryz.sizeOf4
  v4 := Tryz.zeroValue4
  t9 := Tryz.underlying9
  a9 := Tryz.isAgg9
  z9 := Tryz.sizeOf9
  v9 := Tryz.zeroValue9 }
open Go.RowKit Go.Lib in
/-- strings.HasPrefix: "HasPrefix reports whether the string s begins with prefix.": IT RETURNS 'Lib.hasPrefix s prefix'; the world is as it was. (LAID: no walk: one application.) -/
theorem Tryz.strings_HasPrefix (s p : ByteArray) (w : World) :
    Calls Tryz.prog 58 #[.string s, .string p] w fun e w' => e = .returned (.bool (Lib.hasPrefix s.data.toList p.data.toList)) ∧ w' = w := Any.strings_HasPrefix Tryz.lays99 s p w
def Tryz.lays207_ren : Go.Shelf.Ren := ⟨fun | 207 => 106 | n => n, fun | 9 => 9 | 4 => 4 | 3 => 3 | n => n, fun | n => n⟩
theorem Tryz.lays207 : Go.Proofs.Lays.n207 Tryz.prog Tryz.lays207_ren := {
  mixed := by kernel_rfl
  f207 := Tryz.func106.trans (congrArg some (by kernel_rfl))
  t3 := Tryz.underlying3
  a3 := Tryz.isAgg3
  z3 := Tryz.sizeOf3
  v3 := Tryz.zeroValue3
  t4 := Tryz.underlying4
  a4 := Tryz.isAgg4
  z4 := Tryz.sizeOf4
  v4 := Tryz.zeroValue4
  t9 := Tryz.underlying9
  a9 := Tryz.isAgg9
  z9 := Tryz.sizeOf9
  v9 := Tryz.zeroValue9 }
open Go.RowKit Go.Lib in
/-- internal/stringslite.HasSuffix (what strings.HasSuffix calls). (LAID: no walk: one application.) -/
theorem Tryz.stringslite_HasSuffix (s p : ByteArray) (w : World) (hs : s.size ≤ 9223372036854775807) :
    Calls Tryz.prog 106 #[.string s, .string p] w fun e w' => e = .returned (.bool (Lib.hasSuffix s.data.toList p.data.toList)) ∧ w' = w := Any.stringslite_HasSuffix Tryz.lays207 s p w hs
open Go.RowKit Go.Lib in
/-- strings.Count at whatever sep that is not empty: the two roads under one statement. (LAID: no walk: one application.) -/
theorem Tryz.strings_Count_any (s sep : ByteArray) (m : Int) (w : World) (hs : s.size < 4294967281) (hm : w.cell? ⟨0, 0, none⟩ = some (.int .i64 m)) (h1 : 1 ≤ sep.size) :
    Calls Tryz.prog 108 #[.string s, .string sep] w fun e w' => e = .returned (.int .i64 (Lib.countB s sep)) ∧ w' = w := Any.strings_Count_any Tryz.lays138 s sep m w hs hm h1
def Tryz.lays221_ren : Go.Shelf.Ren := ⟨fun | 221 => 86 | 268 => 107 | 138 => 108 | 143 => 109 | 195 => 119 | 197 => 120 | 218 => 121 | 219 => 83 | 260 => 138 | 217 => 102 | 225 => 103 | 224 => 104 | 267 => 105 | 266 => 117 | 314 => 118 | n => n, fun | 9 => 9 | 3 => 3 | 31 => 35 | 4 => 4 | 0 => 0 | 105 => 133 | 21 => 21 | 5 => 5 | 46 => 92 | 119 => 159 | 139 => 162 | 138 => 161 | 146 => 131 | 51 => 130 | n => n, fun | 1 => 0 | 3 => 2 | 4 => 3 | n => n⟩
theorem Tryz.lays221 : Go.Proofs.Lays.n221 Tryz.prog Tryz.lays221_ren := {
  mixed := by kernel_rfl
  f138 := Tryz.func108.trans (congrArg some (by kernel_rfl))
  f143 := Tryz.func109.trans (congrArg some (by kernel_rfl))
  f195 := Tryz.func119.trans (congrArg some (by kernel_rfl))
  f197 := Tryz.func120.trans (congrArg some (by kernel_rfl))
  f217 := Tryz.func102.trans (congrArg some (by kernel_rfl))
  f218 := Tryz.func121.trans (congrArg some (by kernel_rfl))
  f219 := Tryz.func83.trans (congrArg some (by kernel_rfl))
  f221 := Tryz.func86.trans (congrArg some (by kernel_rfl))
  f224 := Tryz.func104.trans (congrArg some (by kernel_rfl))
  f225 := Tryz.func103.trans (congrArg some (by kernel_rfl))
  f260 := Tryz.func138.trans (congrArg some (by kernel_rfl))
  f266 := Tryz.func117.trans (congrArg some (by kernel_rfl))
  f267 := Tryz.func105.trans (congrArg some (by kernel_rfl))
  f268 := Tryz.func107.trans (congrArg some (by kernel_rfl))
  f314 := Tryz.func118.trans (congrArg some (by kernel_rfl))
  t0 := Tryz.underlying0
  a0 := Tryz.isAgg0
  z0 := Tryz.sizeOf0
  v0 := Tryz.zeroValue0
  t3 := Tryz.underlying3
  a3 := Tryz.isAgg3
  z3 := Tryz.sizeOf3
  v3 := Tryz.zeroValue3
  t4 := Tryz.underlying4
  a4 := Tryz.isAgg4
  z4 := Tryz.sizeOf4
  v4 := Tryz.zeroValue4
  t5 := Tryz.underlying5
  a5 := Tryz.isAgg5
  z5 := Tryz.sizeOf5
  v5 := Tryz.zeroValue5
  t9 := Tryz.underlying9
  a9 := Tryz.isAgg9
  z9 := Tryz.sizeOf9
  v9 := Tryz.zeroValue9
  t21 := Tryz.underlying21
  a21 := Tryz.isAgg21
  z21 := Tryz.sizeOf21
  v21 := Tryz.zeroValue21
  t31 := Tryz.underlying35
  a31 := Tryz.isAgg35
  z31 := Tryz.sizeOf35
  v31 := Tryz.zeroValue35
  t46 := Tryz.underlying92
  a46 := Tryz.isAgg92
  z46 := Tryz.sizeOf92
  v46 := Tryz.zeroValue92
  t51 := Tryz.underlying130
  a51 := Tryz.isAgg130
  z51 := Tryz.sizeOf130
  v51 := Tryz.zeroValue130
  t105 := Tryz.underlying133
  a105 := Tryz.isAgg133
  z105 := Tryz.sizeOf133
  v105 := Tryz.zeroValue133
  t119 := Tryz.underlying159
  a119 := Tryz.isAgg159
  z119 := Tryz.sizeOf159
  t138 := Tryz.underlying161
  a138 := Tryz.isAgg161
  z138 := Tryz.sizeOf161
  v138 := Tryz.zeroValue161
  t139 := Tryz.underlying162
  a139 := Tryz.isAgg162
  z139 := Tryz.sizeOf162
  v139 := Tryz.zeroValue162
  t146 := Tryz.underlying131
  a146 := Tryz.isAgg131
  z146 := Tryz.sizeOf131
  v146 := Tryz.zeroValue131
  g1 := by kernel_rfl
  g3 := by kernel_rfl
  g4 := by kernel_rfl }
open Go.RowKit Go.Lib in
theorem Tryz.strings_genSplit (s sep : ByteArray) (sv : Nat) (n : Int) (N : Nat) (m : Int) (w : World) (hs : s.size < 4294967281) (hm : w.cell? ⟨0, 0, none⟩ = some (.int .i64 m)) (h1 : 1 ≤ sep.size) (hsv : sv ≤ sep.size) (hn0 : n ≠ 0) (hn63 : n ≤ 9223372036854775807) (hN : (N : Int) = min (if n < 0 then (Lib.countB s sep : Int) + 1 else n) ((s.size : Int) + 1)) :
    Calls Tryz.prog 86 #[.string s, .string sep, .int .i64 sv, .int .i64 n] w fun e w' =>
      e = .returned (.slice (some ⟨w.heap.size, 0, none⟩) (Lib.splitB sep sv (N - 1) s).length N) ∧ w' = w.alloc (.cells (Lib.cellsOf (Lib.splitB sep sv (N - 1) s) N) 9) := Any.strings_genSplit Tryz.lays221 (by kernel_rfl) s sep sv n N m w hs hm h1 hsv hn0 hn63 hN
def Tryz.lays146_ren : Go.Shelf.Ren := ⟨fun | 146 => 57 | 221 => 86 | 268 => 107 | 138 => 108 | 143 => 109 | 195 => 119 | 197 => 120 | 218 => 121 | 219 => 83 | 260 => 138 | 217 => 102 | 225 => 103 | 224 => 104 | 267 => 105 | 266 => 117 | 314 => 118 | n => n, fun | 9 => 9 | 31 => 35 | 3 => 3 | 4 => 4 | 0 => 0 | 105 => 133 | 21 => 21 | 5 => 5 | 46 => 92 | 119 => 159 | 139 => 162 | 138 => 161 | 146 => 131 | 51 => 130 | n => n, fun | 1 => 0 | 3 => 2 | 4 => 3 | n => n⟩
theorem Tryz.lays146 : Go.Proofs.Lays.n146 Tryz.prog Tryz.lays146_ren := {
  mixed := by kernel_rfl
  f138 := Tryz.func108.trans (congrArg some (by kernel_rfl))
  f143 := Tryz.func109.trans (congrArg some (by kernel_rfl))
  f146 := Tryz.func57.trans (congrArg some (by kernel_rfl))
  f195 := Tryz.func119.trans (congrArg some (by kernel_rfl))
  f197 := Tryz.func120.trans (congrArg some (by kernel_rfl))
  f217 := Tryz.func102.trans (congrArg some (by kernel_rfl))
  f218 := Tryz.func121.trans (congrArg some (by kernel_rfl))
  f219 := Tryz.func83.trans (congrArg some (by kernel_rfl))
  f221 := Tryz.func86.trans (congrArg some (by kernel_rfl))
  f224 := Tryz.func104.trans (congrArg some (by kernel_rfl))
  f225 := Tryz.func103.trans (congrArg some (by kernel_rfl))
  f260 := Tryz.func138.trans (congrArg some (by kernel_rfl))
  f266 := Tryz.func117.trans (congrArg some (by kernel_rfl))
  f267 := Tryz.func105.trans (congrArg some (by kernel_rfl))
  f268 := Tryz.func107.trans (congrArg some (by kernel_rfl))
  f314 := Tryz.func118.trans (congrArg some (by kernel_rfl))
  t0 := Tryz.underlying0
  a0 := Tryz.isAgg0
  z0 := Tryz.sizeOf0
  v0 := Tryz.zeroValue0
  t3 := Tryz.underlying3
  a3 := Tryz.isAgg3
  z3 := Tryz.sizeOf3
  v3 := Tryz.zeroValue3
  t4 := Tryz.underlying4
  a4 := Tryz.isAgg4
  z4 := Tryz.sizeOf4
  v4 := Tryz.zeroValue4
  t5 := Tryz.underlying5
  a5 := Tryz.isAgg5
  z5 := Tryz.sizeOf5
  v5 := Tryz.zeroValue5
  t9 := Tryz.underlying9
  a9 := Tryz.isAgg9
  z9 := Tryz.sizeOf9
  v9 := Tryz.zeroValue9
  t21 := Tryz.underlying21
  a21 := Tryz.isAgg21
  z21 := Tryz.sizeOf21
  v21 := Tryz.zeroValue21
  t31 := Tryz.underlying35
  a31 := Tryz.isAgg35
  z31 := Tryz.sizeOf35
  v31 := Tryz.zeroValue35
  t46 := Tryz.underlying92
  a46 := Tryz.isAgg92
  z46 := Tryz.sizeOf92
  v46 := Tryz.zeroValue92
  t51 := Tryz.underlying130
  a51 := Tryz.isAgg130
  z51 := Tryz.sizeOf130
  v51 := Tryz.zeroValue130
  t105 := Tryz.underlying133
  a105 := Tryz.isAgg133
  z105 := Tryz.sizeOf133
  v105 := Tryz.zeroValue133
  t119 := Tryz.underlying159
  a119 := Tryz.isAgg159
  z119 := Tryz.sizeOf159
  t138 := Tryz.underlying161
  a138 := Tryz.isAgg161
  z138 := Tryz.sizeOf161
  v138 := Tryz.zeroValue161
  t139 := Tryz.underlying162
  a139 := Tryz.isAgg162
  z139 := Tryz.sizeOf162
  v139 := Tryz.zeroValue162
  t146 := Tryz.underlying131
  a146 := Tryz.isAgg131
  z146 := Tryz.sizeOf131
  v146 := Tryz.zeroValue131
  g1 := by kernel_rfl
  g3 := by kernel_rfl
  g4 := by kernel_rfl }
open Go.RowKit Go.Lib in
/-- strings.Split. (LAID: no walk: one application.) -/
theorem Tryz.strings_Split (s sep : ByteArray) (m : Int) (w : World) (hs : s.size < 4294967281) (hm : w.cell? ⟨0, 0, none⟩ = some (.int .i64 m)) (h1 : 1 ≤ sep.size) :
    Calls Tryz.prog 57 #[.string s, .string sep] w fun e w' =>
      e = .returned (.slice (some ⟨w.heap.size, 0, none⟩) (Lib.countB s sep + 1) (Lib.countB s sep + 1)) ∧ w' = w.alloc (.cells ((Lib.splitB sep 0 (Lib.countB s sep) s).map Value.string).toArray 9) := Any.strings_Split Tryz.lays146 (by kernel_rfl) s sep m w hs hm h1
def Tryz.laysM146_ren : Go.Shelf.Ren := ⟨fun | 146 => 57 | 221 => 86 | 268 => 107 | 138 => 108 | 143 => 109 | 195 => 119 | 197 => 120 | 218 => 121 | 219 => 83 | 260 => 138 | 217 => 102 | 225 => 103 | 224 => 104 | 267 => 105 | 266 => 117 | 314 => 118 | n => n, fun | 9 => 9 | 31 => 35 | 3 => 3 | 4 => 4 | 0 => 0 | 105 => 133 | 21 => 21 | 5 => 5 | 46 => 92 | 119 => 159 | 139 => 162 | 138 => 161 | 146 => 131 | 51 => 130 | n => n, fun | 1 => 0 | 3 => 2 | 4 => 3 | n => n⟩
theorem Tryz.laysM146 : Go.Proofs.LaysM.n146 Tryz.prog Tryz.laysM146_ren := {
  mixed := by kernel_rfl
  f138 := Tryz.func108.trans (congrArg some (by kernel_rfl))
  f143 := Tryz.func109.trans (congrArg some (by kernel_rfl))
  f146 := Tryz.func57.trans (congrArg some (by kernel_rfl))
  f195 := Tryz.func119.trans (congrArg some (by kernel_rfl))
  f197 := Tryz.func120.trans (congrArg some (by kernel_rfl))
  f217 := Tryz.func102.trans (congrArg some (by kernel_rfl))
  f218 := Tryz.func121.trans (congrArg some (by kernel_rfl))
  f219 := Tryz.func83.trans (congrArg some (by kernel_rfl))
  f221 := Tryz.func86.trans (congrArg some (by kernel_rfl))
  f224 := Tryz.func104.trans (congrArg some (by kernel_rfl))
  f225 := Tryz.func103.trans (congrArg some (by kernel_rfl))
  f260 := Tryz.func138.trans (congrArg some (by kernel_rfl))
  f266 := Tryz.func117.trans (congrArg some (by kernel_rfl))
  f267 := Tryz.func105.trans (congrArg some (by kernel_rfl))
  f268 := Tryz.func107.trans (congrArg some (by kernel_rfl))
  f314 := Tryz.func118.trans (congrArg some (by kernel_rfl))
  t0 := Tryz.underlying0
  a0 := Tryz.isAgg0
  z0 := Tryz.sizeOf0
  v0 := Tryz.zeroValue0
  t3 := Tryz.underlying3
  a3 := Tryz.isAgg3
  z3 := Tryz.sizeOf3
  v3 := Tryz.zeroValue3
  t4 := Tryz.underlying4
  a4 := Tryz.isAgg4
  z4 := Tryz.sizeOf4
  v4 := Tryz.zeroValue4
  t5 := Tryz.underlying5
  a5 := Tryz.isAgg5
  z5 := Tryz.sizeOf5
  v5 := Tryz.zeroValue5
  t9 := Tryz.underlying9
  a9 := Tryz.isAgg9
  z9 := Tryz.sizeOf9
  v9 := Tryz.zeroValue9
  t21 := Tryz.underlying21
  a21 := Tryz.isAgg21
  z21 := Tryz.sizeOf21
  v21 := Tryz.zeroValue21
  t31 := Tryz.underlying35
  a31 := Tryz.isAgg35
  z31 := Tryz.sizeOf35
  v31 := Tryz.zeroValue35
  t46 := Tryz.underlying92
  a46 := Tryz.isAgg92
  z46 := Tryz.sizeOf92
  v46 := Tryz.zeroValue92
  t51 := Tryz.underlying130
  a51 := Tryz.isAgg130
  z51 := Tryz.sizeOf130
  v51 := Tryz.zeroValue130
  t105 := Tryz.underlying133
  a105 := Tryz.isAgg133
  z105 := Tryz.sizeOf133
  v105 := Tryz.zeroValue133
  t119 := Tryz.underlying159
  a119 := Tryz.isAgg159
  z119 := Tryz.sizeOf159
  t138 := Tryz.underlying161
  a138 := Tryz.isAgg161
  z138 := Tryz.sizeOf161
  v138 := Tryz.zeroValue161
  t139 := Tryz.underlying162
  a139 := Tryz.isAgg162
  z139 := Tryz.sizeOf162
  v139 := Tryz.zeroValue162
  t146 := Tryz.underlying131
  a146 := Tryz.isAgg131
  z146 := Tryz.sizeOf131
  v146 := Tryz.zeroValue131
  g1 := by kernel_rfl
  g3 := by kernel_rfl
  g4 := by kernel_rfl
  i0 := by kernel_rfl
  i3 := by kernel_rfl
  i4 := by kernel_rfl
  i5 := by kernel_rfl
  i9 := by kernel_rfl
  i21 := by kernel_rfl
  i31 := by kernel_rfl
  i46 := by kernel_rfl
  i51 := by kernel_rfl
  i105 := by kernel_rfl
  i138 := by kernel_rfl
  i139 := by kernel_rfl
  i146 := by kernel_rfl
  m1 := by kernel_rfl
  s1_3 := fun w h => Go.Proofs.cell_of_shapedOpen_int (zero := #[.int .i64 0]) (t := 3) h (of_decide_eq_true (by kernel_rfl)) (by kernel_rfl) rfl (by kernel_rfl) (by kernel_rfl) Tryz.underlying3
  m3 := by kernel_rfl
  m4 := by kernel_rfl }
open Go.RowKit Go.Lib in
/-- strings.Split, sep not empty. (LAID: no walk: one application.) -/
theorem Tryz.strings_Split_shaped (s sep : ByteArray) (w : World) (h : w.ShapedOpen Tryz.prog) (hs : s.size < 4294967281) (h1 : 1 ≤ sep.size) :
    Calls Tryz.prog 57 #[.string s, .string sep] w fun e w' =>
      e = .returned (.slice (some ⟨w.heap.size, 0, none⟩) (Lib.countB s sep + 1) (Lib.countB s sep + 1)) ∧ w' = w.alloc (.cells ((Lib.splitB sep 0 (Lib.countB s sep) s).map Value.string).toArray 9) := Any.strings_Split_shaped Tryz.laysM146 s sep w h hs h1
def Tryz.lays197_ren : Go.Shelf.Ren := ⟨fun | 197 => 120 | 260 => 138 | n => n, fun | 9 => 9 | 21 => 21 | 3 => 3 | 4 => 4 | 5 => 5 | 105 => 133 | 119 => 159 | 0 => 0 | 46 => 92 | 139 => 162 | 138 => 161 | n => n, fun | 3 => 2 | 4 => 3 | n => n⟩
theorem Tryz.lays197 : Go.Proofs.Lays.n197 Tryz.prog Tryz.lays197_ren := {
  mixed := by kernel_rfl
  f197 := Tryz.func120.trans (congrArg some (by kernel_rfl))
  f260 := Tryz.func138.trans (congrArg some (by kernel_rfl))
  t0 := Tryz.underlying0
  a0 := Tryz.isAgg0
  z0 := Tryz.sizeOf0
  v0 := Tryz.zeroValue0
  t3 := Tryz.underlying3
  a3 := Tryz.isAgg3
  z3 := Tryz.sizeOf3
  v3 := Tryz.zeroValue3
  t4 := Tryz.underlying4
  a4 := Tryz.isAgg4
  z4 := Tryz.sizeOf4
  v4 := Tryz.zeroValue4
  t5 := Tryz.underlying5
  a5 := Tryz.isAgg5
  z5 := Tryz.sizeOf5
  v5 := Tryz.zeroValue5
  t9 := Tryz.underlying9
  a9 := Tryz.isAgg9
  z9 := Tryz.sizeOf9
  v9 := Tryz.zeroValue9
  t21 := Tryz.underlying21
  a21 := Tryz.isAgg21
  z21 := Tryz.sizeOf21
  v21 := Tryz.zeroValue21
  t46 := Tryz.underlying92
  a46 := Tryz.isAgg92
  z46 := Tryz.sizeOf92
  v46 := Tryz.zeroValue92
  t105 := Tryz.underlying133
  a105 := Tryz.isAgg133
  z105 := Tryz.sizeOf133
  v105 := Tryz.zeroValue133
  t119 := Tryz.underlying159
  a119 := Tryz.isAgg159
  z119 := Tryz.sizeOf159
  t138 := Tryz.underlying161
  a138 := Tryz.isAgg161
  z138 := Tryz.sizeOf161
  v138 := Tryz.zeroValue161
  t139 := Tryz.underlying162
  a139 := Tryz.isAgg162
  z139 := Tryz.sizeOf162
  v139 := Tryz.zeroValue162
  g3 := by kernel_rfl
  g4 := by kernel_rfl }
open Go.RowKit Go.Lib in
/-- unicode/utf8.DecodeRuneInString: "DecodeRuneInString is like DecodeRune but its input is a string.": ("DecodeRune unpacks the first UTF-8 encoding in p and returns the rune and its width in bytes."): WHERE s BEGINS WITH AN ASCII BYTE x: (x, 1). (LAID: no walk: one application.) -/
theorem Tryz.utf8_DecodeRuneInString_ascii (s : ByteArray) (x : UInt8) (w : World) (h0 : s.data.toList[0]? = some x) (hx : x.toNat < 128) :
    Calls Tryz.prog 120 #[.string s] w fun e w' => e = .returned (.tuple #[.int .i32 x.toNat, .int .i64 1]) ∧ w' = w := Any.utf8_DecodeRuneInString_ascii Tryz.lays197 s x w h0 hx
open Go.RowKit Go.Lib in
theorem Tryz.utf8_RuneCountInString_ascii (s : ByteArray) (w : World) (hs : s.size < 4294967281) (hascii : ∀ (j : Nat) b, s.data.toList[j]? = some b → b.toNat < 128) :
    Calls Tryz.prog 119 #[.string s] w fun e w' => e = .returned (.int .i64 s.size) ∧ w' = w.iter s s.size := Any.utf8_RuneCountInString_ascii Tryz.lays195 s w hs hascii
def Tryz.lays268_ren : Go.Shelf.Ren := ⟨fun | 268 => 107 | 195 => 119 | 197 => 120 | 260 => 138 | n => n, fun | 9 => 9 | 3 => 3 | 31 => 35 | 4 => 4 | 105 => 133 | 21 => 21 | 0 => 0 | 5 => 5 | 119 => 159 | 46 => 92 | 139 => 162 | 138 => 161 | n => n, fun | 3 => 2 | 4 => 3 | n => n⟩
theorem Tryz.lays268 : Go.Proofs.Lays.n268 Tryz.prog Tryz.lays268_ren := {
  mixed := by kernel_rfl
  f195 := Tryz.func119.trans (congrArg some (by kernel_rfl))
  f197 := Tryz.func120.trans (congrArg some (by kernel_rfl))
  f260 := Tryz.func138.trans (congrArg some (by kernel_rfl))
  f268 := Tryz.func107.trans (congrArg some (by kernel_rfl))
  t0 := Tryz.underlying0
  a0 := Tryz.isAgg0
  z0 := Tryz.sizeOf0
  v0 := Tryz.zeroValue0
  t3 := Tryz.underlying3
  a3 := Tryz.isAgg3
  z3 := Tryz.sizeOf3
  v3 := Tryz.zeroValue3
  t4 := Tryz.underlying4
  a4 := Tryz.isAgg4
  z4 := Tryz.sizeOf4
  v4 := Tryz.zeroValue4
  t5 := Tryz.underlying5
  a5 := Tryz.isAgg5
  z5 := Tryz.sizeOf5
  v5 := Tryz.zeroValue5
  t9 := Tryz.underlying9
  a9 := Tryz.isAgg9
  z9 := Tryz.sizeOf9
  v9 := Tryz.zeroValue9
  t21 := Tryz.underlying21
  a21 := Tryz.isAgg21
  z21 := Tryz.sizeOf21
  v21 := Tryz.zeroValue21
  t31 := Tryz.underlying35
  a31 := Tryz.isAgg35
  z31 := Tryz.sizeOf35
  v31 := Tryz.zeroValue35
  t46 := Tryz.underlying92
  a46 := Tryz.isAgg92
  z46 := Tryz.sizeOf92
  v46 := Tryz.zeroValue92
  t105 := Tryz.underlying133
  a105 := Tryz.isAgg133
  z105 := Tryz.sizeOf133
  v105 := Tryz.zeroValue133
  t119 := Tryz.underlying159
  a119 := Tryz.isAgg159
  z119 := Tryz.sizeOf159
  t138 := Tryz.underlying161
  a138 := Tryz.isAgg161
  z138 := Tryz.sizeOf161
  v138 := Tryz.zeroValue161
  t139 := Tryz.underlying162
  a139 := Tryz.isAgg162
  z139 := Tryz.sizeOf162
  v139 := Tryz.zeroValue162
  g3 := by kernel_rfl
  g4 := by kernel_rfl }
open Go.RowKit Go.Lib in
theorem Tryz.strings_explode_all (s : ByteArray) (n : Int) (w : World) (hn : n < 0) (hs : s.size < 4294967281) (hascii : ∀ (j : Nat) b, s.data.toList[j]? = some b → b.toNat < 128) :
    Calls Tryz.prog 107 #[.string s, .int .i64 n] w fun e w' =>
      e = .returned (.slice (some ⟨(w.iter s s.size).heap.size, 0, none⟩) s.size s.size) ∧ w' = (w.iter s s.size).alloc (.cells ((Lib.charsB s).map Value.string).toArray 9) := Any.strings_explode_all Tryz.lays268 (by kernel_rfl) s n w hn hs hascii
open Go.RowKit Go.Lib in
/-- strings.genSplit at sep == "", n < 0: 'return explode(s, n)'. (LAID: no walk: one application.) -/
theorem Tryz.strings_genSplit_chars (s sep : ByteArray) (sv n : Int) (w : World) (h0 : sep.size = 0) (hn : n < 0) (hs : s.size < 4294967281) (hascii : ∀ (j : Nat) b, s.data.toList[j]? = some b → b.toNat < 128) :
    Calls Tryz.prog 86 #[.string s, .string sep, .int .i64 sv, .int .i64 n] w fun e w' =>
      e = .returned (.slice (some ⟨(w.iter s s.size).heap.size, 0, none⟩) s.size s.size) ∧ w' = (w.iter s s.size).alloc (.cells ((Lib.charsB s).map Value.string).toArray 9) := Any.strings_genSplit_chars Tryz.lays221 (by kernel_rfl) s sep sv n w h0 hn hs hascii
open Go.RowKit Go.Lib in
/-- strings.Split(s, ""), s ASCII: a piece a byte. (LAID: no walk: one application.) -/
theorem Tryz.strings_Split_chars (s sep : ByteArray) (w : World) (h0 : sep.size = 0) (hs : s.size < 4294967281) (hascii : ∀ (j : Nat) b, s.data.toList[j]? = some b → b.toNat < 128) :
    Calls Tryz.prog 57 #[.string s, .string sep] w fun e w' =>
      e = .returned (.slice (some ⟨(w.iter s s.size).heap.size, 0, none⟩) s.size s.size) ∧ w' = (w.iter s s.size).alloc (.cells ((Lib.charsB s).map Value.string).toArray 9) := Any.strings_Split_chars Tryz.lays146 (by kernel_rfl) s sep w h0 hs hascii
def Tryz.lays260_ren : Go.Shelf.Ren := ⟨fun | 260 => 138 | n => n, fun | 9 => 9 | 21 => 21 | 3 => 3 | 4 => 4 | 5 => 5 | 119 => 159 | 0 => 0 | 46 => 92 | 139 => 162 | 138 => 161 | n => n, fun | 3 => 2 | 4 => 3 | n => n⟩
theorem Tryz.lays260 : Go.Proofs.Lays.n260 Tryz.prog Tryz.lays260_ren := {
  mixed := by kernel_rfl
  f260 := Tryz.func138.trans (congrArg some (by kernel_rfl))
  t0 := Tryz.underlying0
  a0 := Tryz.isAgg0
  z0 := Tryz.sizeOf0
  v0 := Tryz.zeroValue0
  t3 := Tryz.underlying3
  a3 := Tryz.isAgg3
  z3 := Tryz.sizeOf3
  v3 := Tryz.zeroValue3
  t4 := Tryz.underlying4
  a4 := Tryz.isAgg4
  z4 := Tryz.sizeOf4
  v4 := Tryz.zeroValue4
  t5 := Tryz.underlying5
  a5 := Tryz.isAgg5
  z5 := Tryz.sizeOf5
  v5 := Tryz.zeroValue5
  t9 := Tryz.underlying9
  a9 := Tryz.isAgg9
  z9 := Tryz.sizeOf9
  v9 := Tryz.zeroValue9
  t21 := Tryz.underlying21
  a21 := Tryz.isAgg21
  z21 := Tryz.sizeOf21
  v21 := Tryz.zeroValue21
  t46 := Tryz.underlying92
  a46 := Tryz.isAgg92
  z46 := Tryz.sizeOf92
  v46 := Tryz.zeroValue92
  t119 := Tryz.underlying159
  a119 := Tryz.isAgg159
  z119 := Tryz.sizeOf159
  t138 := Tryz.underlying161
  a138 := Tryz.isAgg161
  z138 := Tryz.sizeOf161
  v138 := Tryz.zeroValue161
  t139 := Tryz.underlying162
  a139 := Tryz.isAgg162
  z139 := Tryz.sizeOf162
  v139 := Tryz.zeroValue162
  g3 := by kernel_rfl
  g4 := by kernel_rfl }
open Go.RowKit Go.Lib in
theorem Tryz.utf8_decodeRuneInStringSlow (s : ByteArray) (w : World) (hT : Lib.Utf8Tabs 2 3 w) :
    Calls Tryz.prog 138 #[.string s] w fun e w' => e = .returned (.tuple #[.int .i32 (Lib.decodeGo s).1, .int .i64 (Lib.decodeGo s).2]) ∧ Below w.heap.size w w' := Any.utf8_decodeRuneInStringSlow Tryz.lays260 s w hT
open Go.RowKit Go.Lib in
/-- **unicode/utf8.DecodeRuneInString AT EVERY STRING.** (LAID: no walk: one application.) -/
theorem Tryz.utf8_DecodeRuneInString (s : ByteArray) (w : World) (hT : Lib.Utf8Tabs 2 3 w) :
    Calls Tryz.prog 120 #[.string s] w fun e w' => e = .returned (.tuple #[.int .i32 (Lib.decodeGo s).1, .int .i64 (Lib.decodeGo s).2]) ∧ Below w.heap.size w w' := Any.utf8_DecodeRuneInString Tryz.lays197 s w hT
def Tryz.lays109_ren : Go.Shelf.Ren := ⟨fun | 109 => 88 | n => n, fun | 31 => 35 | 9 => 9 | 3 => 3 | 0 => 0 | 4 => 4 | n => n, fun | n => n⟩
theorem Tryz.lays109 : Go.Proofs.Lays.n109 Tryz.prog Tryz.lays109_ren := {
  mixed := by kernel_rfl
  f109 := Tryz.func88.trans (congrArg some (by kernel_rfl))
  t0 := Tryz.underlying0
  a0 := Tryz.isAgg0
  z0 := Tryz.sizeOf0
  v0 := Tryz.zeroValue0
  t3 := Tryz.underlying3
  a3 := Tryz.isAgg3
  z3 := Tryz.sizeOf3
  v3 := Tryz.zeroValue3
  t4 := Tryz.underlying4
  a4 := Tryz.isAgg4
  z4 := Tryz.sizeOf4
  v4 := Tryz.zeroValue4
  t9 := Tryz.underlying9
  a9 := Tryz.isAgg9
  z9 := Tryz.sizeOf9
  v9 := Tryz.zeroValue9
  t31 := Tryz.underlying35
  a31 := Tryz.isAgg35
  z31 := Tryz.sizeOf35
  v31 := Tryz.zeroValue35 }
open Go.Lib in
/-- slices.Index at []string: "Index returns the index of the first occurrence of v in s, or -1 if not present.": IT RETURNS 'Lib.idxOfS (the elements) v'; the world is as it was. 'zs': what the cells behind the slice's address hold (its spare capacity too, if you have it); 'zs.take n': its elements. (LAID: no walk: one application.) -/
theorem Tryz.slices_Index_string (b off n c : Nat) (zs : List ByteArray) (x : ByteArray) (w : World) (hz : n ≤ zs.length) (hbig : n ≤ 9223372036854775807) (hc : ∀ j, j < zs.length → w.cell? ⟨b, off + j, none⟩ = some (.string (zs.getD j ByteArray.empty))) :
    Calls Tryz.prog 88 #[.slice (some ⟨b, off, none⟩) n c, .string x] w fun e w' => e = .returned (.int .i64 (Lib.idxOfS (zs.take n) x)) ∧ w' = w := Any.slices_Index_string Tryz.lays109 b off n c zs x w hz hbig hc
open Go.Lib in
/-- The same at a slice of length 0, a nil one too: no cell is known, none is asked for. (LAID: no walk: one application.) -/
theorem Tryz.slices_Index_string_empty (a : Option Addr) (c : Nat) (x : ByteArray) (w : World) :
    Calls Tryz.prog 88 #[.slice a 0 c, .string x] w fun e w' => e = .returned (.int .i64 (Lib.idxOfS [] x)) ∧ w' = w := Any.slices_Index_string_empty Tryz.lays109 a c x w
def Tryz.laysNm237_ren : Go.Shelf.Ren := ⟨fun | 37 => 93 | n => n, fun | 3 => 3 | 4 => 4 | n => n, fun | n => n⟩
theorem Tryz.laysNm237 : Go.Proofs.Lays2.n37 Tryz.prog Tryz.laysNm237_ren := {
  mixed := by kernel_rfl
  f37 := Tryz.func93.trans (congrArg some (by kernel_rfl))
  t3 := Tryz.underlying3
  a3 := Tryz.isAgg3
  z3 := Tryz.sizeOf3
  v3 := Tryz.zeroValue3
  t4 := Tryz.underlying4
  a4 := Tryz.isAgg4
  z4 := Tryz.sizeOf4
  v4 := Tryz.zeroValue4 }
open Go.RowKit Go.Lib in
/-- cmp.isNaN[int]: 'x != x': false. (LAID: no walk: one application.) -/
theorem Tryz.cmp_isNaN_int2 (x : Int) (w : World) :
    Calls Tryz.prog 93 #[.int .i64 x] w fun e w' => e = .returned (.bool false) ∧ w' = w := Any.cmp_isNaN_int2 Tryz.laysNm237 x w
def Tryz.laysNm232_ren : Go.Shelf.Ren := ⟨fun | 32 => 62 | n => n, fun | 3 => 3 | 4 => 4 | n => n, fun | n => n⟩
theorem Tryz.laysNm232 : Go.Proofs.Lays2.n32 Tryz.prog Tryz.laysNm232_ren := {
  mixed := by kernel_rfl
  f32 := Tryz.func62.trans (congrArg some (by kernel_rfl))
  t3 := Tryz.underlying3
  a3 := Tryz.isAgg3
  z3 := Tryz.sizeOf3
  v3 := Tryz.zeroValue3
  t4 := Tryz.underlying4
  a4 := Tryz.isAgg4
  z4 := Tryz.sizeOf4
  v4 := Tryz.zeroValue4 }
open Go.RowKit Go.Lib in
/-- slices.isNaN[int]: 'x != x': false. (LAID: no walk: one application.) -/
theorem Tryz.slices_isNaN_int2 (x : Int) (w : World) :
    Calls Tryz.prog 62 #[.int .i64 x] w fun e w' => e = .returned (.bool false) ∧ w' = w := Any.slices_isNaN_int2 Tryz.laysNm232 x w
def Tryz.laysNm231_ren : Go.Shelf.Ren := ⟨fun | 31 => 61 | 37 => 93 | n => n, fun | 3 => 3 | 4 => 4 | n => n, fun | n => n⟩
theorem Tryz.laysNm231 : Go.Proofs.Lays2.n31 Tryz.prog Tryz.laysNm231_ren := {
  mixed := by kernel_rfl
  f31 := Tryz.func61.trans (congrArg some (by kernel_rfl))
  f37 := Tryz.func93.trans (congrArg some (by kernel_rfl))
  t3 := Tryz.underlying3
  a3 := Tryz.isAgg3
  z3 := Tryz.sizeOf3
  v3 := Tryz.zeroValue3
  t4 := Tryz.underlying4
  a4 := Tryz.isAgg4
  z4 := Tryz.sizeOf4
  v4 := Tryz.zeroValue4 }
open Go.RowKit Go.Lib in
/-- cmp.Less[int]: "Less reports whether x is less than y.": 'x < y'; the world is as it was. (LAID: no walk: one application.) -/
theorem Tryz.cmp_Less_int2 (x y : Int) (w : World) :
    Calls Tryz.prog 61 #[.int .i64 x, .int .i64 y] w fun e w' => e = .returned (.bool (decide (x < y))) ∧ w' = w := Any.cmp_Less_int2 Tryz.laysNm231 x y w
def Tryz.laysNm225_ren : Go.Shelf.Ren := ⟨fun | 25 => 27 | 31 => 61 | 32 => 62 | 37 => 93 | n => n, fun | 22 => 34 | 3 => 3 | 4 => 4 | 40 => 92 | 0 => 0 | n => n, fun | n => n⟩
theorem Tryz.laysNm225 : Go.Proofs.Lays2.n25 Tryz.prog Tryz.laysNm225_ren := {
  mixed := by kernel_rfl
  f25 := Tryz.func27.trans (congrArg some (by kernel_rfl))
  f31 := Tryz.func61.trans (congrArg some (by kernel_rfl))
  f32 := Tryz.func62.trans (congrArg some (by kernel_rfl))
  f37 := Tryz.func93.trans (congrArg some (by kernel_rfl))
  t0 := Tryz.underlying0
  a0 := Tryz.isAgg0
  z0 := Tryz.sizeOf0
  v0 := Tryz.zeroValue0
  t3 := Tryz.underlying3
  a3 := Tryz.isAgg3
  z3 := Tryz.sizeOf3
  v3 := Tryz.zeroValue3
  t4 := Tryz.underlying4
  a4 := Tryz.isAgg4
  z4 := Tryz.sizeOf4
  v4 := Tryz.zeroValue4
  t22 := Tryz.underlying34
  a22 := Tryz.isAgg34
  z22 := Tryz.sizeOf34
  v22 := Tryz.zeroValue34
  t40 := Tryz.underlying92
  a40 := Tryz.isAgg92
  z40 := Tryz.sizeOf92
  v40 := Tryz.zeroValue92 }
open Go.RowKit Go.Lib in
/-- slices.BinarySearch at []int: "BinarySearch searches for target in a sorted slice and returns the earliest position where target is found, or the position where target would appear in the sort order; it also returns a bool saying whether the target is really found in the slice. The slice must be sorted in increasing order.": OF A SORTED SLICE IT RETURNS how many elements are less than the target, and whether the target is among the elements; the world is as it was but for the count of draws. 'zs': what the cells behind the slice's address hold; 'zs.take n': its elements. (Of a slice that is not sorted: no contract here.) (LAID: no walk: one application.) -/
theorem Tryz.slices_BinarySearch_int (b off n c : Nat) (zs : List Int) (x : Int) (w : World) (hz : n ≤ zs.length) (hbig : n < 4611686018427387904) (hc : ∀ j, j < zs.length → w.cell? ⟨b, off + j, none⟩ = some (.int .i64 (zs.getD j 0))) (hs : (zs.take n).Pairwise (· ≤ ·)) :
    Calls Tryz.prog 27 #[.slice (some ⟨b, off, none⟩) n c, .int .i64 x] w fun e w' => e = .returned (.tuple #[.int .i64 ((zs.take n).countP (· < x) : Nat), .bool ((zs.take n).contains x)]) ∧ ∃ q, w' = w.drewN q := Any.slices_BinarySearch_int Tryz.laysNm225 b off n c zs x w hz hbig hc hs
open Go.RowKit Go.Sort in
/-- .. and plain. (LAID: no walk: one application.) -/
theorem Tryz.slices_Sort_int_none (p : Option Addr) (cap : Nat) (w : World) :
    Calls Tryz.prog 92 #[.slice p 0 cap] w fun e w' => e = .returned (.tuple #[]) ∧ w' = w := Any.slices_Sort_int_none Tryz.lays189 p cap w
open Go.RowKit Go.Lib in
/-- slices.BinarySearch at []int of no element: position 0, not found; the world is as it was. (LAID: no walk: one application.) -/
theorem Tryz.slices_BinarySearch_int_empty (a : Option Addr) (c : Nat) (x : Int) (w : World) :
    Calls Tryz.prog 27 #[.slice a 0 c, .int .i64 x] w fun e w' => e = .returned (.tuple #[.int .i64 0, .bool false]) ∧ w' = w := Any.slices_BinarySearch_int_empty Tryz.laysNm225 a c x w
end Go.Proofs

/- The library's sort, its like, over what the call owns. -/
namespace Go.Proofs.YteggdoigliddkaaGreatDoor.V
open Go Go.RowKit Go.Sort

theorem kI_flat : ∀ xs : List Int, xs.flatMap kI.cells = xs.map (.int .i64)
  | [] => rfl
  | x :: xs => by rw [List.flatMap_cons, kI_flat xs]; rfl
theorem putCells_take {enc : Int → Value} {d : Array Int} {c : Array Value} (h : d.size ≤ c.size) : (putCells enc 0 d c).toList.take d.size = d.toList.map enc := by
  apply List.ext_getElem?
  intro i
  rw [List.getElem?_take]
  split
  · rename_i hi
    have hc : i < c.size := by omega
    simp [putCells, hc, hi]
  · rename_i hi
    rw [List.getElem?_eq_none (by simp; omega)]
theorem heap_putRow {w : World} {b : Nat} {cs : Array Value} {t : TypeId} {f : Nat × Nat} (h : w.heap[b]? = some (.cells cs t f)) (enc : Int → Value) (d : Array Int) : (putRow enc w b 0 d).heap[b]? = some (.cells (putCells enc 0 d cs) t f) := by
  simp [putRow, mapBlock, Array.getElem?_modify, h, onCells]
theorem heap_putRow_ne {w : World} {b k : Nat} (h : k ≠ b) (enc : Int → Value) (d : Array Int) : (putRow enc w b 0 d).heap[k]? = w.heap[k]? := by
  simp only [putRow, mapBlock, Array.getElem?_modify]
  rw [if_neg (by omega)]
theorem holds_of {w : World} {b : Nat} {cs : Array Value} {t : TypeId} {xs : List Int} (h : w.heap[b]? = some (.cells cs t (0, 0))) (hx : cs.toList.take xs.length = xs.map (.int .i64)) : Holds (Value.int .i64) w b 0 xs.toArray := by
  intro j hj
  simp only [List.size_toArray] at hj
  refine ⟨?_, by simp [World.frozen?, h]⟩
  rw [Nat.zero_add, cell_of h, getElem!_pos _ _ (by simpa using hj)]
  have := congrArg (·[j]?) hx
  simp only [List.getElem?_take, hj, if_true] at this
  simpa [hj] using this
theorem own_putRow {B : Nat} {w w' : World} {s : Sl} {xs ys : List Int} {t : TypeId} (h : OwnS kI t B w s xs) {b : Nat} (hb : s.a = some ⟨b, 0, none⟩) (hl : ys.length = xs.length) {n : Nat} {os : Array Obj}
    (hw : w' = grow (putRow (Value.int .i64) (Sort.ahead w n) b 0 ys.toArray) os) : OwnS kI t B w' s ys ∧ w.grownBy w' (some b) := by
  rcases h.2.2 with ⟨hv, _⟩ | ⟨g, cap, cur, hv, hB, hg, hnc, hcm, hcs, ht⟩
  · simp only [Value.slice.injEq] at hv; rw [hb] at hv; simp at hv
  · simp only [Value.slice.injEq] at hv
    obtain ⟨ha, _, hcap⟩ := hv
    rw [hb] at ha
    simp only [Option.some.injEq, Addr.mk.injEq, and_true] at ha
    subst ha
    have hbl : b < w.heap.size := (Array.getElem?_eq_some_iff.1 hg).1
    have hheap : w'.heap[b]? = some (.cells (putCells (Value.int .i64) 0 ys.toArray cur) t (0, 0)) := by
      rw [hw, heap_grow_old _ _ (by simpa using hbl)]
      exact heap_putRow (w := Sort.ahead w n) hg _ _
    have hys : ys.toArray.size ≤ cur.size := by
      rw [hcs, List.size_toArray, hl, ← h.1]
      simpa [kI] using hnc
    have hsz : (putCells (Value.int .i64) 0 ys.toArray cur).size = cur.size := by simp [putCells]
    refine ⟨⟨by rw [h.1, hl], ?_, .inr ⟨b, cap, _, by rw [hb, hcap], hB, hheap, hnc, hcm, by rw [hsz]; exact hcs, ?_⟩⟩, ?_⟩
    · rw [flat_length, h.1, hl]
    · rw [kI_flat]
      have := putCells_take (enc := Value.int .i64) hys
      simp only [List.size_toArray] at this
      rw [show s.n * kI.ls.length = ys.length by simp [kI, h.1, hl]]
      exact this
    · subst hw
      exact ⟨rfl, rfl, rfl, by simp, fun k hk hne => by
        rw [heap_grow_old _ _ (by simpa using hk), heap_putRow_ne (by simp at hne; exact hne)]; rfl⟩
def sorted (xs : List Int) : List Int := xs.mergeSort fun x y => decide (x ≤ y)
theorem own_cases {α : Type} {k : Kd α} {B : Nat} {w : World} {s : Sl} {xs : List α} {t : TypeId} (h : OwnS k t B w s xs) : (s = ⟨none, 0, 0⟩ ∧ xs = []) ∨ ∃ b cur, s.a = some ⟨b, 0, none⟩ ∧ w.heap[b]? = some (.cells cur t (0, 0)) ∧ cur.toList.take (xs.length * k.ls.length) = xs.flatMap k.cells := by
  obtain ⟨a, n, c⟩ := s
  rcases h.2.2 with ⟨hv, hn⟩ | ⟨g, cap, cur, hv, hB, hg, hnc, hcm, hcs, ht⟩
  · simp only [Value.slice.injEq] at hv
    obtain ⟨rfl, rfl, rfl⟩ := hv
    exact .inl ⟨rfl, List.eq_nil_of_length_eq_zero (by rw [← h.1])⟩
  · simp only [Value.slice.injEq] at hv
    exact .inr ⟨g, cur, hv.1, hg, by rw [← h.1]; exact ht⟩
theorem sort_own {B : Nat} {w : World} {s : Sl} {xs : List Int} {t : TypeId} (h : OwnS kI t B w s xs) (hl : xs.length < 4611686018427387904) {K : Unit → World → Prop}
    (hk : ∀ w', OwnS kI t B w' s (sorted xs) → w.grownBy w' (Value.slice s.a s.n s.c).ownBlock → K () w') : CallT .z P0 92 [.slice s.a s.n s.c] w K := by
  rcases own_cases h with ⟨rfl, rfl⟩ | ⟨b, cur, ha, hg, ht⟩
  · refine (Tryz.slices_Sort_int_none none 0 w).mono ?_
    intro e w' he
    obtain ⟨rfl, hw⟩ := he
    subst hw
    exact ⟨(), rfl, hk _ (by simpa [sorted] using h) ⟨rfl, rfl, rfl, Nat.le_refl _, fun _ _ _ => rfl⟩⟩
  · have hb : b < w.heap.size := (Array.getElem?_eq_some_iff.1 hg).1
    have hH := holds_of (xs := xs) hg (by rw [kI_flat] at ht; simpa [kI] using ht)
    have hc := Tryz.slices_Sort_int b 0 s.c xs w hH hb hl
    rw [← h.1, ← ha] at hc
    refine hc.mono ?_
    rintro e w' ⟨rfl, n, os, hw⟩
    obtain ⟨h1, h2⟩ := own_putRow (ys := sorted xs) h ha (by simp [sorted]) hw
    exact ⟨(), rfl, hk _ h1 (by rw [ha]; exact h2)⟩
end Go.Proofs.YteggdoigliddkaaGreatDoor.V

/- Results in new memory: read, written; Compact, Clip. -/
namespace Go.Proofs.YteggdoigliddkaaGreatDoor.V
open Go Go.RowKit Go.Sort
set_option linter.unusedSimpArgs false

/-- A slice over new memory (from block B on): it reads as a list, and may be written. -/
def WrS {α : Type} (k : Kd α) (t : TypeId) (B : Nat) (w : World) (s : Sl) (xs : List α) : Prop :=
  s.n = xs.length ∧ s.n ≤ s.c ∧ s.c ≤ maxLen ∧ ((s.a = none ∧ xs = []) ∨ ∃ b o cur, s.a = some ⟨b, o, none⟩ ∧ B ≤ b ∧ w.heap[b]? = some (.cells cur t (0, 0)) ∧ ∀ i x, xs[i]? = some x → ∀ j v, (k.cells x)[j]? = some v → cur[o + i * k.ls.length + j]? = some v)
def Sl.bk (s : Sl) : Option Nat := s.a.map (·.block)
section
variable {α : Type} {k : Kd α} {t : TypeId} {B : Nat} {w : World} {s : Sl} {xs : List α}
theorem OwnS.wr (h : OwnS k t B w s xs) : WrS k t B w s xs := by
  refine ⟨h.1, h.cap.1, h.cap.2, ?_⟩
  rcases h.2.2 with ⟨hv, hn⟩ | ⟨g, cap, cur, hv, hB, hg, hnc, hcm, hcs, ht⟩
  · simp only [Value.slice.injEq] at hv
    exact .inl ⟨hv.1, List.eq_nil_of_length_eq_zero (by rw [← h.1]; exact hn)⟩
  · simp only [Value.slice.injEq] at hv
    refine .inr ⟨g, 0, cur, hv.1, hB, hg, fun i x hi j v hm => ?_⟩
    have hm := flat_get k xs i x hi j v hm
    rw [← ht, List.getElem?_take] at hm
    split at hm
    · simpa using hm
    · simp at hm
theorem WrS.read (h : WrS k t B w s xs) : SlR k w s xs := by
  refine ⟨h.1, h.2.1, h.2.2.1, ?_⟩
  rcases h.2.2.2 with h0 | ⟨b, o, cur, ha, hB, hg, hc⟩
  · exact .inl h0.2
  · refine .inr ⟨b, o, ha, fun i x hi j v hj => ?_⟩
    rw [cell_of hg]
    exact hc i x hi j v hj
theorem WrS.len (h : WrS k t B w s xs) : s.n = xs.length := h.1
theorem WrS.blk (h : WrS k t B w s xs) {b : Nat} (hb : s.bk = some b) : B ≤ b ∧ b < w.heap.size := by
  rcases h.2.2.2 with h0 | ⟨b', o, cur, ha, hB, hg, hc⟩
  · simp [Sl.bk, h0.1] at hb
  · simp only [Sl.bk, ha, Option.map_some, Option.some.injEq] at hb
    subst hb
    exact ⟨hB, (Array.getElem?_eq_some_iff.1 hg).1⟩
theorem WrS.kept {w' : World} {row : Option Nat} (h : WrS k t B w s xs) (hg : w.grownBy w' row) (hne : ∀ b, row = some b → s.bk ≠ some b) : WrS k t B w' s xs := by
  refine ⟨h.1, h.2.1, h.2.2.1, ?_⟩
  rcases h.2.2.2 with h0 | ⟨b, o, cur, ha, hB, hgb, hc⟩
  · exact .inl h0
  · exact .inr ⟨b, o, cur, ha, hB, by rw [hg.block b (Array.getElem?_eq_some_iff.1 hgb).1 (fun e => by have := hne b e.symm; simp [Sl.bk, ha] at this)]; exact hgb, hc⟩
theorem WrS.below {w' : World} (h : WrS k t B w s xs) (hb : Below w.heap.size w w') : WrS k t B w' s xs := h.kept (grown_of_below hb) (by simp)
theorem WrS.low {B' : Nat} (h : WrS k t B w s xs) (hB : B' ≤ B) : WrS k t B' w s xs := by
  refine ⟨h.1, h.2.1, h.2.2.1, ?_⟩
  rcases h.2.2.2 with h0 | ⟨b, o, cur, ha, hb, r⟩
  · exact .inl h0
  · exact .inr ⟨b, o, cur, ha, Nat.le_trans hB hb, r⟩
theorem WrS.nil (k : Kd α) (t : TypeId) (B : Nat) (w : World) : WrS k t B w ⟨none, 0, 0⟩ [] := (OwnS.nil k t B w).wr
theorem ob_bk (s : Sl) : (Value.slice s.a s.n s.c).ownBlock = s.bk := by cases h : s.a <;> simp [Value.ownBlock, Sl.bk, h]
/-- A readable slice stays readable behind a write elsewhere. -/
theorem SlR.kept2 {w' : World} {row : Option Nat} (h : SlR k w s xs) (hg : w.grownBy w' row) (hb : ∀ b o, s.a = some ⟨b, o, none⟩ → row ≠ some b) : SlR k w' s xs := by
  refine ⟨h.1, h.2.1, h.2.2.1, ?_⟩
  rcases h.2.2.2 with h0 | ⟨b', o, ha, hx⟩
  · exact .inl h0
  · refine .inr ⟨b', o, ha, fun i x hi m v hv => ?_⟩
    have hc := hx i x hi m v hv
    have hlt := World.block_lt_of_cell? w _ hc
    have := hg.block b' hlt (fun e => hb b' o ha e.symm)
    unfold World.cell? at hc ⊢
    simp only at hc ⊢
    rw [this]; exact hc
theorem run_clip {P : Program} {tS e : TypeId} (hu : P.underlying tS = some (.slice e)) {sz : Nat} (hs : szOf P e = some sz) (hc : s.n ≤ s.c) :
    (Instr.sliceAt tS s.v none (some (.int .i64 (s.n : Int))) (some (.int .i64 (s.n : Int)))).run P w = .ok (.slice s.a s.n s.n) w := by
  have hmap : s.a.map (fun x => x.add 0) = s.a := by cases s.a <;> simp [Addr.add]
  have h1 : ((s.n : Int) ≤ (s.c : Int)) := by omega
  simp [Instr.sliceAt, Instr.slice, Sl.v, underlying, hu, Instr.sliceBounds, Instr.sliceBound, asIntOf, run_sizeOf hs, h1, hc, hmap]
end
theorem own_cut {B : Nat} {w : World} {s : Sl} {xs ys : List Int} {t : TypeId} (h : OwnS kI t B w s (xs ++ ys)) {b : Nat} (hb : s.a = some ⟨b, 0, none⟩) : OwnS kI t B w ⟨s.a, xs.length, s.c⟩ xs := by
  refine ⟨rfl, by rw [flat_length], ?_⟩
  rcases h.2.2 with ⟨hv, _⟩ | ⟨g, cap, cur, hv, hB, hg, hnc, hcm, hcs, ht⟩
  · simp only [Value.slice.injEq] at hv; rw [hb] at hv; simp at hv
  · simp only [Value.slice.injEq] at hv
    have hle : xs.length ≤ s.n := by rw [h.1]; simp
    refine .inr ⟨g, cap, cur, by rw [hv.1, hv.2.2], hB, hg, Nat.le_trans hle hnc, hcm, hcs, ?_⟩
    have := congrArg (List.take (xs.length * kI.ls.length)) ht
    rw [List.take_take, Nat.min_eq_left (Nat.mul_le_mul_right _ hle), List.flatMap_append, List.take_append_of_le_length (by rw [flat_length]; exact Nat.le_refl _)] at this
    show List.take (xs.length * kI.ls.length) _ = _
    rw [this, List.take_of_length_le (by rw [flat_length]; exact Nat.le_refl _)]
theorem compact_le (xs : List Int) : (Lib.compact xs).length ≤ xs.length := by
  unfold Lib.compact Lib.compactUpTo
  rw [List.length_map]
  exact Nat.le_trans (List.length_filter_le _ _) (by simp)
theorem grow0 (w : World) : Sort.grow w #[] = w := by cases w; simp [Sort.grow]
theorem elI : El P0 34 3 kI 8 := ⟨by kernel_rfl, ⟨_, _, Option.eq_some_of_isSome (by kernel_rfl), Option.eq_some_of_isSome (by kernel_rfl), by kernel_rfl, by kernel_rfl, by kernel_rfl⟩, by decide, by intro l hl; simp [kI] at hl; simp [hl]⟩
theorem WrS.clip {B : Nat} {w : World} {s : Sl} {xs : List Int} {t : TypeId} (h : WrS kI t B w s xs) : WrS kI t B w ⟨s.a, s.n, s.n⟩ xs :=
  ⟨h.1, Nat.le_refl _, by have := h.2.1; have := h.2.2.1; simp only; omega, h.2.2.2⟩
end Go.Proofs.YteggdoigliddkaaGreatDoor.V

/- Words for rows: what an input's memory says of its lists. -/
namespace Go.Proofs.YteggdoigliddkaaGreatDoor.V
open Go Go.RowKit Go.ChangeShapes Go.WideShapes Go.ChangeAt Go.Deep
set_option linter.unusedVariables false

theorem own : ownKnob P0.godebug = none := by kernel_rfl
theorem laidOut : laidOutB P0 = true := by kernel_rfl
def intFields (P : Program) (fs : Array Field) (n : Nat) : Bool :=
  (List.range n).all fun i => match fs[i]? with
    | some f => f.offset == i && P.cellsOf f.type == 1 && (match P.underlying f.type with | some (.int .i64) => true | _ => false)
    | none => false
section
variable {H : Type} {enc : TypeId × Value → H} {P : Program} {w : World} {base : Nat} {spare : Nat → Bool} {held : Bool}
theorem trod_intFields {t : TypeId} {fs : Array Field} {n fuel : Nat} {cs : List Value} {x : DataW H × List MemPlace} (ht : P.underlying t = some (.struct fs)) (hn : P.cellsOf t = n) (hf : intFields P fs n = true)
    (h : DataW.trod enc P w base spare held fuel t cs = some x) : ∃ zs : List Int, zs.length = n ∧ cs = zs.map (.int .i64) := by
  obtain ⟨xs, m, _, rfl, hl, hlen, hg⟩ := DataW.trod_struct ht h
  have each : ∀ i, i < n → ∃ z : Int, cs[i]? = some (.int .i64 z) := by
    intro i hi
    have h1 := List.all_eq_true.1 hf i (List.mem_range.2 hi)
    split at h1
    · rename_i f hfi
      simp only [Bool.and_eq_true, beq_iff_eq] at h1
      obtain ⟨⟨ho, hc⟩, hu⟩ := h1
      have h2 := hg i f hfi
      rw [ho, hc] at h2
      have hi' : i < xs.length := by rw [hlen]; exact (Array.getElem?_eq_some_iff.1 hfi).1
      rw [List.getElem?_eq_getElem hi'] at h2
      split at hu
      · rename_i hu'
        obtain ⟨z, hz, _, _⟩ := DataW.trod_int hu' h2
        refine ⟨z, ?_⟩
        have h3 := congrArg (·[0]?) hz
        simpa [List.getElem?_take] using h3
      · simp at hu
    · simp at h1
  have hl' : cs.length = n := by rw [hl, hn]
  refine ⟨cs.map fun v => match v with | .int _ z => z | _ => 0, by simpa using hl', ?_⟩
  refine List.ext_getElem? fun i => ?_
  simp only [List.getElem?_map]
  rcases Nat.lt_or_ge i n with hi | hi
  · obtain ⟨z, hz⟩ := each i hi
    simp [hz]
  · rw [List.getElem?_eq_none (by omega)]; rfl
theorem choose_list {α : Type} {p : Nat → α → Prop} : ∀ (n : Nat), (∀ i, i < n → ∃ x, p i x) → ∃ l : List α, l.length = n ∧ ∀ i x, l[i]? = some x → p i x
  | 0, _ => ⟨[], rfl, by simp⟩
  | n + 1, h => by
    obtain ⟨l, hl, hx⟩ := choose_list n fun i hi => h i (by omega)
    obtain ⟨y, hy⟩ := h n (by omega)
    refine ⟨l ++ [y], by simp [hl], fun i x hi => ?_⟩
    rcases Nat.lt_or_ge i n with h1 | h1
    · rw [List.getElem?_append_left (by omega)] at hi
      exact hx i x hi
    · have hlt : i < (l ++ [y]).length := (List.getElem?_eq_some_iff.1 hi).1
      simp [hl] at hlt
      have : i = n := by omega
      subst this
      rw [List.getElem?_append_right (by omega), hl] at hi
      simp at hi
      exact hi ▸ hy
/-- A list of structs of whole numbers, as an input brings it. -/
theorem open_list {α : Type} (k : Kd α) {t e : TypeId} {n fuel : Nat} {a : Option Addr} {len cap : Nat} {x : DataW H × List MemPlace} (ht : P.underlying t = some (.slice e)) (hn : P.cellsOf e = n) (hk : k.ls.length = n) (hp : 0 < n)
    (each : ∀ (fuel : Nat) (cs : List Value) (y : DataW H × List MemPlace), DataW.trod enc P w base spare held fuel e cs = some y → ∃ x : α, cs = k.cells x)
    (h : DataW.trod enc P w base spare held fuel t [.slice a len cap] = some x) : ∃ l : List α, SlR k w ⟨a, len, cap⟩ l := by
  rcases open_slice ht h with ⟨hcs, _⟩ | ⟨b, l, c, m, q, D, Pl, hcs, _, hl, hm, hmm, _, hx⟩
  · simp only [List.cons.injEq, Value.slice.injEq, and_true] at hcs
    obtain ⟨rfl, rfl, rfl⟩ := hcs
    exact ⟨[], SlR.nil k w⟩
  · simp only [List.cons.injEq, Value.slice.injEq, and_true] at hcs
    obtain ⟨rfl, rfl, rfl⟩ := hcs
    have hle : len ≤ m := by rw [hmm]; split <;> omega
    obtain ⟨L, hL, hE⟩ := choose_list (α := α) (p := fun i x => w.cells? base (b.add (i * n)) n = some (k.cells x)) len (fun i hi => by
      obtain ⟨cs', h1, h2⟩ := hx i (by omega)
      rw [hn] at h1
      obtain ⟨x, rfl⟩ := each _ _ _ h2
      exact ⟨x, h1⟩)
    refine ⟨L, hL.symm, hl, hm, ?_⟩
    rcases L with _ | ⟨x0, L⟩
    · exact .inl rfl
    · have h0 := (World.cells?_some (hE 0 x0 rfl)).2.2 0 hp
      have hc0 : (k.cells x0)[0]? ≠ none := by
        have := k.cells_length x0
        simp only [ne_eq, List.getElem?_eq_none_iff]; omega
      obtain ⟨v, hv⟩ := Option.ne_none_iff_exists'.1 hc0
      rw [hv] at h0
      have hs : b.spot = none := by simpa [Addr.add] using World.cell?_spot h0
      obtain ⟨bb, bo, bs⟩ := b
      simp only at hs; subst hs
      refine .inr ⟨bb, bo, rfl, fun i x hi j v hj => ?_⟩
      have h1 := (World.cells?_some (hE i x hi)).2.2 j (by have := (List.getElem?_eq_some_iff.1 hj).1; rw [k.cells_length] at this; omega)
      rw [add_mk, add_mk, hj] at h1
      rw [hk]
      exact h1
/-- A list of numbers, as an input brings it. -/
theorem open_nums {t e : TypeId} {k : IntKind} {fuel : Nat} {a : Option Addr} {len cap : Nat} {x : DataW H × List MemPlace} (ht : P.underlying t = some (.slice e)) (he : P.underlying e = some (.int k)) (hc : P.cellsOf e = 1)
    (h : DataW.trod enc P w base spare held fuel t [.slice a len cap] = some x) : ∃ l : List Int, SlR ⟨[.i k], fun x => (x, ())⟩ w ⟨a, len, cap⟩ l ∧ ∀ x ∈ l, (Lit.int k x).wf = true := by
  rcases open_ints ht he hc h with ⟨hcs, _⟩ | ⟨b, l, c, zs, hcs, _, hl, hm, hz, _, hget, hwf⟩
  · simp only [List.cons.injEq, Value.slice.injEq, and_true] at hcs
    obtain ⟨rfl, rfl, rfl⟩ := hcs
    exact ⟨[], SlR.nil _ w, by simp⟩
  · simp only [List.cons.injEq, Value.slice.injEq, and_true] at hcs
    obtain ⟨rfl, rfl, rfl⟩ := hcs
    have hle : len ≤ zs.length := by rw [hz]; split <;> omega
    have hlen : (zs.take len).length = len := by rw [List.length_take]; omega
    refine ⟨zs.take len, ⟨hlen.symm, hl, hm, ?_⟩, fun x hx => hwf x (List.mem_of_mem_take hx)⟩
    by_cases h0 : zs.take len = []
    · exact .inl h0
    · have hpos : 0 < zs.length := by
        rcases Nat.eq_zero_or_pos zs.length with h1 | h1
        · exact absurd (by rw [List.eq_nil_of_length_eq_zero h1]; simp) h0
        · exact h1
      have hs : b.spot = none := by simpa [Addr.add] using World.cell?_spot (hget 0 hpos)
      obtain ⟨bb, bo, bs⟩ := b
      simp only at hs; subst hs
      refine .inr ⟨bb, bo, rfl, fun i x hi j v hj => ?_⟩
      have hil := (List.getElem?_eq_some_iff.1 hi).1
      rw [List.getElem?_take] at hi
      split at hi
      · have h1 := hget i (by omega)
        rw [add_mk] at h1
        have hj0 : j = 0 := by
          have := (List.getElem?_eq_some_iff.1 hj).1
          rw [Kd.cells_length] at this; simpa using this
        subst hj0
        have hv : v = .int k x := by simpa [Kd.cells, Tup.cells, Lf.emb] using hj.symm
        have hx : zs.getD i 0 = x := by rw [List.getD_eq_getElem?_getD, hi]; rfl
        rw [hx] at h1
        rw [hv]; simpa using h1
      · simp at hi
end
end Go.Proofs.YteggdoigliddkaaGreatDoor.V

/- Layings of strings.Builder. PRINTED by laybuild.py out of the shelf's structures' fields. -/
namespace Go.Proofs
open Go.Shelf
def Tryz.laysB240_ren : Go.Shelf.Ren := ⟨fun | 240 => 63 | 276 => 94 | n => n, fun | 0 => 0 | 3 => 3 | 4 => 4 | 5 => 5 | 9 => 9 | 20 => 20 | 37 => 28 | 70 => 53 | 72 => 55 | 75 => 58 | 80 => 65 | 164 => 113 | n => n, fun | n => n⟩
theorem Tryz.laysB240 : Go.Proofs.Lays.n240 Tryz.prog Tryz.laysB240_ren := {
  mixed := by kernel_rfl
  f240 := Tryz.func63.trans (congrArg some (by kernel_rfl))
  f276 := Tryz.func94.trans (congrArg some (by kernel_rfl))
  t0 := Tryz.underlying0
  a0 := Tryz.isAgg0
  z0 := Tryz.sizeOf0
  v0 := Tryz.zeroValue0
  t4 := Tryz.underlying4
  a4 := Tryz.isAgg4
  z4 := Tryz.sizeOf4
  v4 := Tryz.zeroValue4
  t9 := Tryz.underlying9
  a9 := Tryz.isAgg9
  z9 := Tryz.sizeOf9
  v9 := Tryz.zeroValue9
  t20 := Tryz.underlying20
  a20 := Tryz.isAgg20
  z20 := Tryz.sizeOf20
  v20 := Tryz.zeroValue20
  t70 := Tryz.underlying53
  a70 := Tryz.isAgg53
  z70 := Tryz.sizeOf53
  v70 := Tryz.zeroValue53
  t72 := Tryz.underlying55
  a72 := Tryz.isAgg55
  z72 := Tryz.sizeOf55
  v72 := Tryz.zeroValue55
  t164 := Tryz.underlying113
  a164 := Tryz.isAgg113
  z164 := Tryz.sizeOf113
  v164 := Tryz.zeroValue113 }
def Tryz.laysB166_ren : Go.Shelf.Ren := ⟨fun | 166 => 28 | 240 => 63 | 276 => 94 | n => n, fun | 0 => 0 | 3 => 3 | 4 => 4 | 5 => 5 | 9 => 9 | 20 => 20 | 37 => 28 | 70 => 53 | 72 => 55 | 75 => 58 | 80 => 65 | 164 => 113 | n => n, fun | n => n⟩
theorem Tryz.laysB166 : Go.Proofs.Lays.n166 Tryz.prog Tryz.laysB166_ren := {
  mixed := by kernel_rfl
  f166 := Tryz.func28.trans (congrArg some (by kernel_rfl))
  f240 := Tryz.func63.trans (congrArg some (by kernel_rfl))
  f276 := Tryz.func94.trans (congrArg some (by kernel_rfl))
  t0 := Tryz.underlying0
  a0 := Tryz.isAgg0
  z0 := Tryz.sizeOf0
  v0 := Tryz.zeroValue0
  t3 := Tryz.underlying3
  a3 := Tryz.isAgg3
  z3 := Tryz.sizeOf3
  v3 := Tryz.zeroValue3
  t4 := Tryz.underlying4
  a4 := Tryz.isAgg4
  z4 := Tryz.sizeOf4
  v4 := Tryz.zeroValue4
  t9 := Tryz.underlying9
  a9 := Tryz.isAgg9
  z9 := Tryz.sizeOf9
  v9 := Tryz.zeroValue9
  t20 := Tryz.underlying20
  a20 := Tryz.isAgg20
  z20 := Tryz.sizeOf20
  v20 := Tryz.zeroValue20
  t37 := Tryz.underlying28
  a37 := Tryz.isAgg28
  z37 := Tryz.sizeOf28
  v37 := Tryz.zeroValue28
  t70 := Tryz.underlying53
  a70 := Tryz.isAgg53
  z70 := Tryz.sizeOf53
  v70 := Tryz.zeroValue53
  t72 := Tryz.underlying55
  a72 := Tryz.isAgg55
  z72 := Tryz.sizeOf55
  v72 := Tryz.zeroValue55
  t75 := Tryz.underlying58
  a75 := Tryz.isAgg58
  z75 := Tryz.sizeOf58
  v75 := Tryz.zeroValue58
  t164 := Tryz.underlying113
  a164 := Tryz.isAgg113
  z164 := Tryz.sizeOf113
  v164 := Tryz.zeroValue113 }
theorem Tryz.laysB_X : Builder.Extra Tryz.prog Tryz.laysB166_ren := {
  sizeBuilder := by kernel_rfl
  liesBuilder := by kernel_rfl
  t5 := Tryz.underlying5
  a5 := Tryz.isAgg5
  z5 := Tryz.sizeOf5
  v5 := Tryz.zeroValue5
  infoByte := by kernel_rfl
  cellsByte := by kernel_rfl
  sizeByte := by kernel_rfl
  neB5 := by decide }
end Go.Proofs

/- Plain laws of texts: bytes, figures, cuts, joined words. -/
namespace Go.Proofs.YteggdoigliddkaaGreatDoor.V
open Go
set_option linter.unusedVariables false
set_option linter.unusedSimpArgs false
abbrev By := List UInt8
/-- A text of bytes. -/
def bs (l : By) : ByteArray := ⟨l.toArray⟩
theorem bs_data (l : By) : (bs l).data.toList = l := rfl
theorem bs_size (l : By) : (bs l).size = l.length := by simp [bs, ByteArray.size]
theorem bs_of (s : ByteArray) : bs s.data.toList = s := by
  apply ByteArray.ext; apply Array.ext'; rfl
theorem bs_app (a b : By) : bs a ++ bs b = bs (a ++ b) := by
  apply ByteArray.ext; apply Array.ext'; simp [bs, ByteArray.data_append]
theorem bs_inj {a b : By} (h : bs a = bs b) : a = b := by
  have := congrArg (fun s : ByteArray => s.data.toList) h
  exact this
theorem bs_toList (l : By) : (bs l).toList = l := by rw [ByteArray.toList_eq]; rfl
/-- Figures. -/
def Fig (l : By) : Prop := ∀ c ∈ l, 48 ≤ c.toNat ∧ c.toNat ≤ 57
theorem fig_val {d : Nat} (h : d < 10) : (UInt8.ofNat (48 + d)).toNat = 48 + d := by
  rw [UInt8.toNat_ofNat']; omega
theorem dec_fig (u : Nat) : Fig (Lib.decDigits u) := by
  induction u using Nat.strongRecOn with
  | _ u ih =>
    intro c hc
    rw [Lib.decDigits] at hc
    split at hc
    · rename_i h
      simp only [List.mem_singleton] at hc
      subst hc; rw [fig_val h]; omega
    · rename_i h
      rcases List.mem_append.1 hc with h1 | h1
      · exact ih _ (by omega) c h1
      · simp only [List.mem_singleton] at h1
        subst h1; rw [fig_val (by omega)]; omega
theorem dec_ne (u : Nat) : Lib.decDigits u ≠ [] := by
  rw [Lib.decDigits]; split <;> simp
theorem dec_big {u : Nat} (h : ¬ u < 10) : Lib.decDigits u = Lib.decDigits (u / 10) ++ [UInt8.ofNat (48 + u % 10)] := by rw [Lib.decDigits, dif_neg h]
theorem dec_small {u : Nat} (h : u < 10) : Lib.decDigits u = [UInt8.ofNat (48 + u)] := by rw [Lib.decDigits, dif_pos h]
theorem dec_len (u : Nat) : ∀ k, u < 10 ^ (k + 1) → (Lib.decDigits u).length ≤ k + 1 := by
  induction u using Nat.strongRecOn with
  | _ u ih =>
    intro k hk
    by_cases h : u < 10
    · rw [dec_small h]; simp
    · rw [dec_big h, List.length_append]
      cases k with
      | zero => simp at hk; omega
      | succ k =>
        have := ih (u / 10) (by omega) k (by rw [Nat.pow_succ] at hk; omega)
        simp; omega
/-- A nought is ahead of no other figures. -/
theorem dec_head (u : Nat) : ∀ c r, Lib.decDigits u = c :: r → c = 48 → r = [] := by
  induction u using Nat.strongRecOn with
  | _ u ih =>
    intro c r h hc
    by_cases h1 : u < 10
    · rw [dec_small h1] at h
      simp only [List.cons.injEq] at h
      exact h.2.symm
    · rw [dec_big h1] at h
      obtain ⟨c', r', hd⟩ := List.exists_cons_of_ne_nil (dec_ne (u / 10))
      rw [hd] at h
      simp only [List.cons_append, List.cons.injEq] at h
      have hr := ih (u / 10) (by omega) c' r' hd (h.1.trans hc)
      subst hr
      exfalso
      by_cases h2 : u / 10 < 10
      · rw [dec_small h2] at hd
        simp only [List.cons.injEq] at hd
        have h3 := congrArg UInt8.toNat (hd.1.trans (h.1.trans hc))
        rw [fig_val h2] at h3
        simp at h3
        omega
      · rw [dec_big h2] at hd
        have h3 := congrArg List.length hd
        have h4 := List.length_pos_iff.2 (dec_ne (u / 10 / 10))
        simp at h3
        exact dec_ne _ h3
/-- The number that figures are. -/
def figN (l : By) : Nat := l.foldl (fun n c => n * 10 + (c.toNat - 48)) 0
theorem figN_app (l : By) (c : UInt8) : figN (l ++ [c]) = figN l * 10 + (c.toNat - 48) := by simp [figN]
theorem figN_dec (u : Nat) : figN (Lib.decDigits u) = u := by
  induction u using Nat.strongRecOn with
  | _ u ih =>
    by_cases h : u < 10
    · rw [dec_small h]
      simp only [figN, List.foldl_cons, List.foldl_nil]
      rw [fig_val h]; omega
    · rw [dec_big h, figN_app, ih _ (by omega), fig_val (by omega)]
      omega
theorem parse_app : ∀ (l : By) (acc : Nat) (c : UInt8), Lib.parseUint10 acc (l ++ [c]) = match Lib.parseUint10 acc l with | .ok v => Lib.parseUint10 v [c] | e => e
  | [], acc, c => by simp [Lib.parseUint10]
  | x :: l, acc, c => by
    simp only [List.cons_append, Lib.parseUint10]
    split
    · split
      · rfl
      · split
        · rfl
        · rw [parse_app l]; rfl
    · rfl
theorem parse_dec (u : Nat) (h : u < 9223372036854775808) : Lib.parseUint10 0 (Lib.decDigits u) = .ok u := by
  induction u using Nat.strongRecOn with
  | _ u ih =>
    by_cases h1 : u < 10
    · rw [dec_small h1]
      simp only [Lib.parseUint10]
      rw [fig_val h1, if_pos (by omega), if_neg (by omega), if_neg (by omega)]
      congr 1; omega
    · rw [dec_big h1, parse_app, ih _ (by omega) (by omega)]
      simp only [Lib.parseUint10]
      rw [fig_val (by omega), if_pos (by omega), if_neg (by omega), if_neg (by omega)]
      congr 1; omega
theorem atoi_dec (u : Nat) (h : u < 9223372036854775808) : Lib.atoiAll (Lib.decDigits u) = .ok (u : Int) := by
  obtain ⟨c, r, hd⟩ := List.exists_cons_of_ne_nil (dec_ne u)
  have hf := dec_fig u c (by rw [hd]; exact List.mem_cons_self)
  have hp := parse_dec u h
  rw [hd] at hp ⊢
  unfold Lib.atoiAll
  simp only
  rw [if_neg (by omega)]
  have e : Lib.parseMag (c :: r) = .ok u := by unfold Lib.parseMag; rw [if_neg (by simp)]; exact hp
  rw [e]
  simp only
  rw [if_neg (by omega), if_neg (by omega), if_neg (by omega)]
/-- The first cut. -/
def cut1 (c : UInt8) : By → Option (By × By)
  | [] => none
  | x :: xs => if x = c then some ([], xs) else match cut1 c xs with | some (a, b) => some (x :: a, b) | none => none
theorem cut1_app {c : UInt8} : ∀ {a : By} (b : By), c ∉ a → cut1 c (a ++ c :: b) = some (a, b)
  | [], b, _ => by simp [cut1]
  | x :: xs, b, h => by
    have h1 : x ≠ c := fun e => h (by rw [e]; exact List.mem_cons_self)
    have h2 := cut1_app (c := c) (a := xs) b (fun hm => h (List.mem_cons_of_mem _ hm))
    simp [cut1, h1, h2]
theorem cut1_no {c : UInt8} : ∀ {l : By}, c ∉ l → cut1 c l = none
  | [], _ => rfl
  | x :: xs, h => by
    have h1 : x ≠ c := fun e => h (by rw [e]; exact List.mem_cons_self)
    simp [cut1, h1, cut1_no (fun hm => h (List.mem_cons_of_mem _ hm))]
theorem cut1_some {c : UInt8} : ∀ {l a b : By}, cut1 c l = some (a, b) → l = a ++ c :: b ∧ c ∉ a
  | [], a, b, h => by simp [cut1] at h
  | x :: xs, a, b, h => by
    unfold cut1 at h
    split at h
    · rename_i e
      simp only [Option.some.injEq, Prod.mk.injEq] at h
      obtain ⟨rfl, rfl⟩ := h
      exact ⟨by rw [e]; rfl, by simp⟩
    · rename_i e
      split at h
      · rename_i a' b' h2
        simp only [Option.some.injEq, Prod.mk.injEq] at h
        obtain ⟨rfl, rfl⟩ := h
        obtain ⟨h3, h4⟩ := cut1_some h2
        exact ⟨by rw [h3]; rfl, by simp only [List.mem_cons, not_or]; exact ⟨fun e2 => e e2.symm, h4⟩⟩
      · simp at h
theorem cut1_none {c : UInt8} : ∀ {l : By}, cut1 c l = none → c ∉ l
  | [], _ => by simp
  | x :: xs, h => by
    unfold cut1 at h
    split at h
    · simp at h
    · rename_i e
      split at h
      · simp at h
      · rename_i h2
        simp only [List.mem_cons, not_or]
        exact ⟨fun e2 => e e2.symm, cut1_none h2⟩
/-- Pieces, with so many cuts at most. -/
def cutN (c : UInt8) : Nat → By → List By
  | 0, l => [l]
  | k + 1, l => match cut1 c l with | none => [l] | some (a, b) => a :: cutN c k b
theorem cutN_app {c : UInt8} {a : By} (b : By) (k : Nat) (h : c ∉ a) : cutN c (k + 1) (a ++ c :: b) = a :: cutN c k b := by
  rw [show cutN c (k + 1) (a ++ c :: b) = (match cut1 c (a ++ c :: b) with | none => [a ++ c :: b] | some (a, b) => a :: cutN c k b) from rfl, cut1_app b h]
theorem cutN_no {c : UInt8} {l : By} (k : Nat) (h : c ∉ l) : cutN c k l = [l] := by
  cases k with
  | zero => rfl
  | succ k => unfold cutN; rw [cut1_no h]
/-- Words with a mark between. -/
def joinW (c : UInt8) : List By → By
  | [] => []
  | [w] => w
  | w :: ws => w ++ c :: joinW c ws
theorem joinW_cons {c : UInt8} {w : By} {ws : List By} (h : ws ≠ []) : joinW c (w :: ws) = w ++ c :: joinW c ws := by
  cases ws with
  | nil => contradiction
  | cons x xs => rfl
theorem cutN_join {c : UInt8} : ∀ {ws : List By} (k : Nat), ws ≠ [] → ws.length ≤ k + 1 → (∀ w ∈ ws, c ∉ w) → cutN c k (joinW c ws) = ws
  | [], _, h, _, _ => absurd rfl h
  | [w], k, _, _, h => cutN_no k (h w List.mem_cons_self)
  | w :: x :: xs, 0, _, hl, _ => by simp at hl
  | w :: x :: xs, k + 1, _, hl, h => by
    rw [joinW_cons (by simp), cutN_app _ _ (h w List.mem_cons_self), cutN_join k (by simp) (by simpa using hl) (fun y hy => h y (List.mem_cons_of_mem _ hy))]
theorem index_cut {c : UInt8} {a b : By} (h : c ∉ a) : Lib.index (a ++ c :: b) [c] = (a.length : Int) := by
  induction a with
  | nil => simp [Lib.index, List.isPrefixOf]
  | cons x xs ih =>
    have h1 : c ≠ x := fun e => h (by rw [e]; exact List.mem_cons_self)
    have h2 := ih (fun hm => h (List.mem_cons_of_mem _ hm))
    rw [List.cons_append, Lib.index]
    have h3 : ([c] : List UInt8).isPrefixOf (x :: (xs ++ c :: b)) = false := by simp [List.isPrefixOf, h1]
    rw [h3, h2]
    simp only [Bool.false_eq_true, if_false]
    rw [if_neg (by simp)]
    simp
theorem index_no {c : UInt8} {l : By} (h : c ∉ l) : Lib.index l [c] = -1 := by
  induction l with
  | nil => simp [Lib.index]
  | cons x xs ih =>
    have h1 : c ≠ x := fun e => h (by rw [e]; exact List.mem_cons_self)
    have h2 := ih (fun hm => h (List.mem_cons_of_mem _ hm))
    rw [Lib.index]
    have h3 : ([c] : List UInt8).isPrefixOf (x :: xs) = false := by simp [List.isPrefixOf, h1]
    rw [h3, h2]; rfl
theorem cut_cut {c : UInt8} {a b : By} (h : c ∉ a) : Lib.cut (a ++ c :: b) [c] = (a, b, true) := by
  unfold Lib.cut
  rw [index_cut h, if_pos (by omega)]
  simp
theorem cut_len (l : By) (c : UInt8) (h : l ≠ []) : (Lib.cut l [c]).2.1.length < l.length := by
  have hp := List.length_pos_iff.2 h
  unfold Lib.cut
  split
  · simp only [List.length_drop, List.length_cons, List.length_nil]; omega
  · simpa using hp
theorem cut_len1 (l : By) (c : UInt8) : (Lib.cut l [c]).1.length ≤ l.length := by
  unfold Lib.cut
  split
  · simp; omega
  · simp
theorem split_join {c : UInt8} : ∀ {ws : List By}, ws ≠ [] → (∀ w ∈ ws, c ∉ w) → (joinW c ws).count c = ws.length - 1 ∧ Lib.splitK [c] 0 (ws.length - 1) (joinW c ws) = ws
  | [], h, _ => absurd rfl h
  | [w], _, h => ⟨by simpa [joinW] using List.count_eq_zero.2 (h w List.mem_cons_self), rfl⟩
  | w :: x :: xs, _, h => by
    obtain ⟨h1, h2⟩ := split_join (c := c) (ws := x :: xs) (by simp) (fun y hy => h y (List.mem_cons_of_mem _ hy))
    have h0 := h w List.mem_cons_self
    rw [joinW_cons (by simp)]
    refine ⟨?_, ?_⟩
    · rw [List.count_append, List.count_eq_zero.2 h0, List.count_cons_self, h1]; simp
    · show Lib.splitK [c] 0 ((xs.length + 1)) (w ++ c :: joinW c (x :: xs)) = _
      unfold Lib.splitK
      rw [index_cut h0, if_neg (by simp)]
      simp only [Int.toNat_natCast, Nat.add_zero, List.take_left, List.length_cons, List.length_nil, Nat.zero_add]
      have e : (w ++ c :: joinW c (x :: xs)).drop (w.length + 1) = joinW c (x :: xs) := by
        rw [List.drop_append, List.drop_eq_nil_of_le (by omega)]; simp
      rw [e]
      have h2' : Lib.splitK [c] 0 xs.length (joinW c (x :: xs)) = x :: xs := by simpa using h2
      rw [h2']
/-- What strings.Split hands back at joined words. -/
theorem split_words {c : UInt8} {ws : List By} (hn : ws ≠ []) (h : ∀ w ∈ ws, c ∉ w) : Lib.splitB (bs [c]) 0 (Lib.countB (bs (joinW c ws)) (bs [c])) (bs (joinW c ws)) = ws.map bs := by
  obtain ⟨h1, h2⟩ := split_join hn h
  have hc : Lib.countB (bs (joinW c ws)) (bs [c]) = ws.length - 1 := by
    show Lib.count (joinW c ws) [c] = _
    rw [Lib.count_one, h1]
  rw [hc]
  have hd := Lib.splitB_data (bs [c]) 0 (ws.length - 1) (bs (joinW c ws))
  rw [bs_data, bs_data, h2] at hd
  have := congrArg (List.map bs) hd
  rw [List.map_map] at this
  rw [← this]
  conv => lhs; rw [← List.map_id (Lib.splitB _ _ _ _)]
  apply List.map_congr_left
  intro s _
  exact (bs_of s).symm
/-- Where a word stands in a list. -/
def findW (ws : List By) (x : By) : Int := match ws.findIdx? (· == x) with | some i => (i : Int) | none => -1
end Go.Proofs.YteggdoigliddkaaGreatDoor.V
