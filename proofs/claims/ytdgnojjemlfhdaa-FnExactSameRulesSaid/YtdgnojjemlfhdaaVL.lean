/- Words for memory: what a slice reads as, what a call owns, and how the printed conditions are met. -/
import Derived.Test.YtdgnojjemlfhdaaV6
import Derived.WalkKit
namespace Go.Proofs.Ytdgnojjemlfhdaa.V
open Go Go.RowKit

theorem add_mk (b o n : Nat) : Addr.add ⟨b, o, none⟩ n = ⟨b, o + n, none⟩ := by
  unfold Addr.add
  split
  · rename_i h; subst h; rfl
  · rfl
theorem i64_in {n : Int} (h0 : -9223372036854775808 ≤ n) (h1 : n ≤ 9223372036854775807) : IntKind.wrap .i64 n = n := by
  have := IntWalk.i64_in n (by omega)
  exact this

/-- A kind of element: its cells. -/
structure Kd (α : Type) where
  ls : List Lf
  t : α → Tup ls
def Kd.cells {α : Type} (k : Kd α) (x : α) : List Value := Tup.cells k.ls (k.t x)
theorem Kd.cells_length {α : Type} (k : Kd α) (x : α) : (k.cells x).length = k.ls.length := V.cells_length _ _
def kI : Kd Int := ⟨[.i .i64], fun x => (x, ())⟩
def kU8 : Kd Int := ⟨[.i .u8], fun x => (x, ())⟩
def kB : Kd Bool := ⟨[.b], fun x => (x, ())⟩
def kS : Kd ByteArray := ⟨[.s], fun x => (x, ())⟩
def kSl : Kd Sl := ⟨[.sl], fun x => (x, ())⟩

def At (w : World) (b o : Nat) (vs : List Value) : Prop := ∀ m v, vs[m]? = some v → w.cell? ⟨b, o + m, none⟩ = some v
theorem At.below {w w' : World} {b o : Nat} {vs : List Value} (h : At w b o vs) (hb : Below w.heap.size w w') : At w' b o vs := fun m v hv => by
  have h1 := h m v hv
  rw [hb.cell (World.block_lt_of_cell? w _ h1)]
  exact h1
/-- The slice reads as a list. -/
def SlR {α : Type} (k : Kd α) (w : World) (s : Sl) (xs : List α) : Prop :=
  s.n = xs.length ∧ s.n ≤ s.c ∧ s.c ≤ maxLen ∧ (xs = [] ∨ ∃ b o, s.a = some ⟨b, o, none⟩ ∧ ∀ i x, xs[i]? = some x → At w b (o + i * k.ls.length) (k.cells x))
theorem SlR.below {α : Type} {k : Kd α} {w w' : World} {s : Sl} {xs : List α} (h : SlR k w s xs) (hb : Below w.heap.size w w') : SlR k w' s xs := by
  refine ⟨h.1, h.2.1, h.2.2.1, ?_⟩
  rcases h.2.2.2 with h | ⟨b, o, ha, hx⟩
  · exact .inl h
  · exact .inr ⟨b, o, ha, fun i x hi => (hx i x hi).below hb⟩
theorem SlR.at {α : Type} {k : Kd α} {w : World} {s : Sl} {xs : List α} (h : SlR k w s xs) {i : Nat} {x : α} (hx : xs[i]? = some x) :
    ∃ b o, s.a = some ⟨b, o, none⟩ ∧ At w b (o + i * k.ls.length) (k.cells x) := by
  rcases h.2.2.2 with h | ⟨b, o, ha, hh⟩
  · subst h; simp at hx
  · exact ⟨b, o, ha, hh i x hx⟩
theorem SlR.nil {α : Type} (k : Kd α) (w : World) : SlR k w ⟨none, 0, 0⟩ [] := ⟨rfl, Nat.le_refl _, by simp [maxLen], .inl rfl⟩
theorem SlR.len {α : Type} {k : Kd α} {w : World} {s : Sl} {xs : List α} (h : SlR k w s xs) : s.n = xs.length := h.1
theorem SlR.max {α : Type} {k : Kd α} {w : World} {s : Sl} {xs : List α} (h : SlR k w s xs) : xs.length ≤ 9223372036854775807 := by
  have h1 := h.1; have h2 := h.2.1; have h3 := h.2.2.1
  simp only [maxLen] at h3
  omega

section
variable {α : Type} {k : Kd α} {w : World} {s : Sl} {xs : List α} {i : Int} {x : α} {sz : Nat}
theorem ixR (h : SlR k w s xs) (hi : 0 ≤ i) (hx : xs[i.toNat]? = some x) (hsz : sz = k.ls.length) {K : Addr → World → Prop}
    (hk : ∀ b o, At w b o (k.cells x) → K ⟨b, o, none⟩ w) : Ix s.a s.n i sz w K := by
  obtain ⟨b, o, ha, hA⟩ := h.at hx
  have hl : i.toNat < xs.length := by
    rcases Nat.lt_or_ge i.toNat xs.length with h | h
    · exact h
    · simp [List.getElem?_eq_none h] at hx
  refine ⟨⟨b, o, none⟩, ha, hi, by rw [h.1]; omega, ?_⟩
  rw [add_mk, hsz]
  exact hk _ _ hA
theorem ixA (h : SlR k w s xs) (hi : 0 ≤ i) (hx : xs[i.toNat]? = some x) (hsz : sz = k.ls.length) {K : Tup k.ls → World → Prop}
    (hk : K (k.t x) w) : Ix s.a s.n i sz w (fun a w' => LdA k.ls a w' K) :=
  ixR h hi hx hsz fun b o hA => ⟨k.t x, fun j v hv => by rw [add_mk]; exact hA j v hv, hk⟩
theorem ixF (h : SlR k w s xs) (hi : 0 ≤ i) (hx : xs[i.toNat]? = some x) (hsz : sz = k.ls.length) {l : Lf} {v : l.T} {j : Nat} (hv : (k.cells x)[j]? = some (l.emb v)) {K : l.T → World → Prop}
    (hk : K v w) : Ix s.a s.n i sz w (fun a w' => Ld l (Addr.add a j) w' K) :=
  ixR h hi hx hsz fun b o hA => ⟨v, by rw [add_mk]; exact hA j _ hv, hk⟩
theorem ixL (h : SlR k w s xs) (hi : 0 ≤ i) (hx : xs[i.toNat]? = some x) (hsz : sz = k.ls.length) {l : Lf} {v : l.T} (hv : (k.cells x)[0]? = some (l.emb v)) {K : l.T → World → Prop}
    (hk : K v w) : Ix s.a s.n i sz w (fun a w' => Ld l a w' K) :=
  ixR h hi hx hsz fun b o hA => ⟨v, by have := hA 0 _ hv; simpa using this, hk⟩
variable {C : World → Prop}
theorem qix (h : SlR k w s xs) (hi : 0 ≤ i) (hx : xs[i.toNat]? = some x) (hsz : sz = k.ls.length) {K : Addr → Prop}
    (hk : ∀ b o, At w b o (k.cells x) → K ⟨b, o, none⟩) : QIx s.a s.n i sz K := by
  obtain ⟨b, o, ha, hA⟩ := h.at hx
  have hl : i.toNat < xs.length := by
    rcases Nat.lt_or_ge i.toNat xs.length with h | h
    · exact h
    · simp [List.getElem?_eq_none h] at hx
  refine ⟨⟨b, o, none⟩, ha, hi, by rw [h.1]; omega, ?_⟩
  rw [add_mk, hsz]
  exact hk _ _ hA
theorem qixA (h : SlR k w s xs) (hi : 0 ≤ i) (hx : xs[i.toNat]? = some x) (hsz : sz = k.ls.length) {K : Tup k.ls → Prop}
    (hk : K (k.t x)) : QIx s.a s.n i sz (fun a => QLdA k.ls a (fun w' => Below w.heap.size w w') K) :=
  qix h hi hx hsz fun b o hA => ⟨k.t x, fun w' hw' j v hv => by rw [add_mk]; exact (hA.below hw') j v hv, hk⟩
theorem qixL (h : SlR k w s xs) (hi : 0 ≤ i) (hx : xs[i.toNat]? = some x) (hsz : sz = k.ls.length) {l : Lf} {v : l.T} (hv : (k.cells x)[0]? = some (l.emb v)) {K : l.T → Prop}
    (hk : K v) : QIx s.a s.n i sz (fun a => QLd l a (fun w' => Below w.heap.size w w') K) :=
  qix h hi hx hsz fun b o hA => ⟨v, fun w' hw' => by have := (hA.below hw') 0 _ hv; simpa using this, hk⟩
theorem qixF (h : SlR k w s xs) (hi : 0 ≤ i) (hx : xs[i.toNat]? = some x) (hsz : sz = k.ls.length) {l : Lf} {v : l.T} {j : Nat} (hv : (k.cells x)[j]? = some (l.emb v)) {K : l.T → Prop}
    (hk : K v) : QIx s.a s.n i sz (fun a => QLd l (Addr.add a j) (fun w' => Below w.heap.size w w') K) :=
  qix h hi hx hsz fun b o hA => ⟨v, fun w' hw' => by rw [add_mk]; exact (hA.below hw') j _ hv, hk⟩
end

/-- A new block: known whole. -/
theorem nw {cs : Array Value} {t : TypeId} {w : World} {K : Addr → World → Prop}
    (hk : ∀ w', Below w.heap.size w w' → w'.heap.size = w.heap.size + 1 → w'.heap[w.heap.size]? = some (.cells cs t (0, 0)) → K ⟨w.heap.size, 0, none⟩ w') : Nw cs t w K :=
  hk _ ((Below.refl _ _).alloc (Nat.le_refl _) _) (by simp) (heap_alloc_new w _)
theorem cell_of {w : World} {b : Nat} {cs : Array Value} {t : TypeId} {f : Nat × Nat} (h : w.heap[b]? = some (.cells cs t f)) (j : Nat) : w.cell? ⟨b, j, none⟩ = cs[j]? := by
  simp [World.cell?, h]
theorem ldB {w : World} {b : Nat} {cs : Array Value} {t : TypeId} {f : Nat × Nat} (h : w.heap[b]? = some (.cells cs t f)) {j : Nat} {l : Lf} {x : l.T} (hx : cs[j]? = some (l.emb x)) {K : l.T → World → Prop} (hk : K x w) :
    Ld l (Addr.add ⟨b, 0, none⟩ j) w K := ⟨x, by rw [add_mk, cell_of h, Nat.zero_add]; exact hx, hk⟩
theorem ldB0 {w : World} {b : Nat} {cs : Array Value} {t : TypeId} {f : Nat × Nat} (h : w.heap[b]? = some (.cells cs t f)) {l : Lf} {x : l.T} (hx : cs[0]? = some (l.emb x)) {K : l.T → World → Prop} (hk : K x w) :
    Ld l ⟨b, 0, none⟩ w K := ⟨x, by rw [cell_of h]; exact hx, hk⟩
theorem ldAB {w : World} {b : Nat} {cs : Array Value} {t : TypeId} {f : Nat × Nat} (h : w.heap[b]? = some (.cells cs t f)) {ls : List Lf} {x : Tup ls} (hx : cs.toList = Tup.cells ls x) {K : Tup ls → World → Prop} (hk : K x w) :
    LdA ls ⟨b, 0, none⟩ w K := ⟨x, fun j v hv => by rw [add_mk, cell_of h, Nat.zero_add, ← Array.getElem?_toList, hx]; exact hv, hk⟩
theorem qldB {w : World} {b : Nat} {cs : Array Value} {t : TypeId} {f : Nat × Nat} (h : w.heap[b]? = some (.cells cs t f)) {j : Nat} {l : Lf} {x : l.T} (hx : cs[j]? = some (l.emb x)) {K : l.T → Prop} (hk : K x) :
    QLd l (Addr.add ⟨b, 0, none⟩ j) (fun w' => Below w.heap.size w w') K := ⟨x, fun w' hw' => by
      have hb : b < w.heap.size := (Array.getElem?_eq_some_iff.1 h).1
      rw [add_mk, cell_of ((hw'.block b hb).trans h), Nat.zero_add]; exact hx, hk⟩
theorem setCell_heap {w : World} {b j : Nat} {cs : Array Value} {t : TypeId} {f : Nat × Nat} (h : w.heap[b]? = some (.cells cs t f)) (v : Value) :
    (w.setCell ⟨b, j, none⟩ v).heap[b]? = some (.cells (cs.setIfInBounds j v) t f) := by
  simp [World.setCell, Array.getElem?_modify, h]
theorem grown_setCell (w : World) (b j : Nat) (v : Value) : w.grownBy (w.setCell ⟨b, j, none⟩ v) (some b) :=
  ⟨rfl, rfl, rfl, by simp, fun k hk hne => Below.heap_setCell _ _ _ _ (by simp at hne; simpa using hne)⟩
theorem stB {w : World} {b : Nat} {cs : Array Value} {t : TypeId} (h : w.heap[b]? = some (.cells cs t (0, 0))) {j : Nat} {v : Value} (hv : v.oneCell' = true) (hj : j < cs.size) {K : World → Prop}
    (hk : ∀ w', w.grownBy w' (some b) → w'.heap.size = w.heap.size → w'.heap[b]? = some (.cells (cs.setIfInBounds j v) t (0, 0)) → K w') : St (Addr.add ⟨b, 0, none⟩ j) v w K := by
  refine ⟨hv, ⟨cs[j], ?_⟩, ?_, ?_⟩
  · rw [add_mk, cell_of h]; simp [hj]
  · simp [add_mk, World.frozen?, h]
  · rw [add_mk, Nat.zero_add]
    exact hk _ (grown_setCell w b j v) (by simp) (setCell_heap h v)
theorem stB0 {w : World} {b : Nat} {cs : Array Value} {t : TypeId} (h : w.heap[b]? = some (.cells cs t (0, 0))) {v : Value} (hv : v.oneCell' = true) (hj : 0 < cs.size) {K : World → Prop}
    (hk : ∀ w', w.grownBy w' (some b) → w'.heap.size = w.heap.size → w'.heap[b]? = some (.cells (cs.setIfInBounds 0 v) t (0, 0)) → K w') : St ⟨b, 0, none⟩ v w K := by
  have := stB h hv hj hk
  rwa [add_mk] at this
theorem run_storeCells_at' (P : Program) {b : Nat} {t : TypeId} : ∀ (vs : List Value) (i : Nat) (pre post : List Value) (w : World), (∀ v ∈ vs, v.oneCell' = true) → i = pre.length → post.length = vs.length →
    w.heap[b]? = some (.cells (pre ++ post).toArray t (0, 0)) → ∃ w', (storeCells ⟨b, 0, none⟩ vs i).run P w = .ok () w' ∧ w.grownBy w' (some b) ∧ w'.heap.size = w.heap.size ∧ w'.heap[b]? = some (.cells (pre ++ vs).toArray t (0, 0))
  | [], i, pre, post, w, _, _, hl, h => by
    have : post = [] := List.eq_nil_of_length_eq_zero (by simpa using hl)
    subst this
    exact ⟨w, by simp [storeCells], ⟨rfl, rfl, rfl, Nat.le_refl _, fun _ _ _ => rfl⟩, rfl, h⟩
  | v :: vs, i, pre, post, w, h1, hi, hl, h => by
    match post, hl with
    | p :: post, hl =>
      have hv := h1 v List.mem_cons_self
      have hc : w.cell? ⟨b, i, none⟩ = some p := by rw [cell_of h]; simp [hi]
      have hfz : w.frozen? ⟨b, i, none⟩ = false := by simp [World.frozen?, h]
      have hs : (store ⟨b, i, none⟩ v).run P w = .ok () (w.setCell ⟨b, i, none⟩ v) := by simp [run_store P w _ v .plain hv, hc, hfz]
      have hset : (w.setCell ⟨b, i, none⟩ v).heap[b]? = some (.cells (pre ++ [v] ++ post).toArray t (0, 0)) := by
        rw [setCell_heap h v]
        simp [hi]
      obtain ⟨w', hr, hg, hsz, hh⟩ := run_storeCells_at' P vs (i + 1) (pre ++ [v]) post (w.setCell ⟨b, i, none⟩ v) (fun u hu => h1 u (List.mem_cons_of_mem _ hu)) (by simp [hi]) (by simpa using hl) (by simpa using hset)
      refine ⟨w', ?_, ?_, ?_, by simpa using hh⟩
      · simp only [storeCells, Sem.run_bind, add_mk, Nat.zero_add, hs, Result.andThen_ok, hr]
      · have g0 := grown_setCell w b i v
        exact ⟨hg.os.trans g0.os, hg.tape.trans g0.tape, hg.output.trans g0.output, Nat.le_trans g0.size hg.size, fun k hk hne => (hg.block k (by simpa using hk) hne).trans (g0.block k hk hne)⟩
      · rw [hsz]; simp
theorem oneCell_emb : ∀ (l : Lf) (x : l.T), (l = .any → False) → (l.emb x).oneCell' = true
  | .i _, _, _ => rfl
  | .b, _, _ => rfl
  | .s, _, _ => rfl
  | .sl, _, _ => rfl
  | .p, _, _ => rfl
  | .ad, _, _ => rfl
  | .m, _, _ => rfl
  | .any, _, h => (h rfl).elim
  | .fn _ _, _, _ => rfl
  | .yl, _, _ => rfl
/-- A struct is copied into a new variable. -/
theorem nwSt {cs vs : List Value} {z : Array Value} {t : TypeId} {w : World} {P : Program} {K : Addr → World → Prop} (hz : z.toList.length = vs.length) (h1 : ∀ v ∈ vs, v.oneCell' = true)
    (hk : ∀ w', Below w.heap.size w w' → w'.heap.size = w.heap.size + 1 → w'.heap[w.heap.size]? = some (.cells vs.toArray t (0, 0)) → K ⟨w.heap.size, 0, none⟩ w') (_ : cs = vs := by rfl) :
    Nw z t w (fun a w' => StA P a vs w' (K a)) := by
  refine nw fun w1 hb hs hc => ?_
  obtain ⟨w', hr, hg, hsz, hh⟩ := run_storeCells_at' P (b := w.heap.size) (t := t) vs 0 [] z.toList w1 h1 rfl hz (by simpa using hc)
  refine ⟨w', hr, hk w' (hb.grown hg (by omega) (fun k hk => by simp only [Option.some.injEq] at hk; omega)) (by omega) (by simpa using hh)⟩

/-- What the call itself owns, as a list. -/
def OwnS {α : Type} (k : Kd α) (t : TypeId) (B : Nat) (w : World) (s : Sl) (xs : List α) : Prop :=
  s.n = xs.length ∧ w.ownsRow B t k.ls.length (.slice s.a s.n s.c) s.n (xs.flatMap k.cells)
theorem flat_get {α : Type} (k : Kd α) : ∀ (xs : List α) (i : Nat) (x : α), xs[i]? = some x → ∀ j v, (k.cells x)[j]? = some v → (xs.flatMap k.cells)[i * k.ls.length + j]? = some v
  | [], i, x, h, _, _, _ => by simp at h
  | y :: ys, 0, x, h, j, v, hv => by
    simp only [List.getElem?_cons_zero, Option.some.injEq] at h
    subst h
    have hj : j < (k.cells y).length := by
      rcases Nat.lt_or_ge j (k.cells y).length with h | h
      · exact h
      · simp [List.getElem?_eq_none h] at hv
    simp [List.getElem?_append_left hj, hv]
  | y :: ys, i + 1, x, h, j, v, hv => by
    have := flat_get k ys i x (by simpa using h) j v hv
    have hl := k.cells_length y
    rw [List.flatMap_cons, List.getElem?_append_right (by rw [hl, Nat.succ_mul]; omega), hl]
    rw [show (i + 1) * k.ls.length + j - k.ls.length = i * k.ls.length + j by rw [Nat.succ_mul]; omega]
    exact this
theorem flat_length {α : Type} (k : Kd α) : ∀ xs : List α, (xs.flatMap k.cells).length = xs.length * k.ls.length
  | [] => by simp
  | x :: xs => by simp [flat_length k xs, k.cells_length, Nat.succ_mul, Nat.add_comm]
section
variable {α : Type} {k : Kd α} {t : TypeId} {B : Nat} {w : World} {s : Sl} {xs : List α}
theorem OwnS.len (h : OwnS k t B w s xs) : s.n = xs.length := h.1
theorem OwnS.cap (h : OwnS k t B w s xs) : s.n ≤ s.c ∧ s.c ≤ maxLen := by
  rcases h.2.2 with ⟨hv, hn⟩ | ⟨g, cap, cur, hv, _, _, hnc, hcm, _⟩
  · simp only [Value.slice.injEq] at hv; rw [hv.2.1, hv.2.2]; simp
  · simp only [Value.slice.injEq] at hv; rw [hv.2.2]; exact ⟨hnc, hcm⟩
theorem OwnS.read (h : OwnS k t B w s xs) : SlR k w s xs := by
  refine ⟨h.1, h.cap.1, h.cap.2, ?_⟩
  rcases h.2.2 with ⟨hv, hn⟩ | ⟨g, cap, cur, hv, _⟩
  · simp only [Value.slice.injEq] at hv
    left
    exact List.eq_nil_of_length_eq_zero (by rw [← h.1]; exact hn)
  · simp only [Value.slice.injEq] at hv
    right
    refine ⟨g, 0, hv.1, fun i x hi j v hj => ?_⟩
    have := h.2.cells (g := g) (by rw [hv.1]; rfl) _ _ (flat_get k xs i x hi j v hj)
    rw [add_mk, ← Nat.add_assoc] at this
    exact this
theorem OwnS.kept {w' : World} {row : Option Nat} (h : OwnS k t B w s xs) (hg : w.grownBy w' row) (hne : ∀ b, row = some b → (Value.slice s.a s.n s.c).ownBlock ≠ some b) : OwnS k t B w' s xs :=
  ⟨h.1, h.2.kept hg (by
    cases row with
    | none => cases (Value.slice s.a s.n s.c).ownBlock <;> simp
    | some b => exact .inr (hne b rfl))⟩
theorem grown_of_below {w w' : World} (h : Below w.heap.size w w') : w.grownBy w' none := ⟨h.os, h.tape, h.output, h.size, fun k hk _ => h.block k hk⟩
theorem OwnS.below {w' : World} (h : OwnS k t B w s xs) (hb : Below w.heap.size w w') : OwnS k t B w' s xs := h.kept (grown_of_below hb) (by simp)
theorem OwnS.low {B' : Nat} (h : OwnS k t B w s xs) (hB : B' ≤ B) : OwnS k t B' w s xs := by
  refine ⟨h.1, h.2.1, ?_⟩
  rcases h.2.2 with h1 | ⟨g, cap, cur, hv, hb, r⟩
  · exact .inl h1
  · exact .inr ⟨g, cap, cur, hv, Nat.le_trans hB hb, r⟩
theorem OwnS.nil (k : Kd α) (t : TypeId) (B : Nat) (w : World) : OwnS k t B w ⟨none, 0, 0⟩ [] := ⟨rfl, World.ownsRow_nil _ _ _ _⟩
/-- A slice literal of so many elements. -/
theorem OwnS.lit {w' : World} {cs : Array Value} {n : Nat} (hB : B ≤ w.heap.size) (hh : w'.heap[w.heap.size]? = some (.cells cs t (0, 0))) (hn : n = xs.length) (hc : cs.toList = xs.flatMap k.cells) (hm : n ≤ maxLen) :
    OwnS k t B w' ⟨some ⟨w.heap.size, 0, none⟩, n, n⟩ xs := by
  have hs : cs.size = n * k.ls.length := by rw [← Array.length_toList, hc, flat_length, hn]
  refine ⟨hn, by rw [flat_length, hn], .inr ⟨w.heap.size, n, cs, rfl, hB, hh, Nat.le_refl _, hm, hs, ?_⟩⟩
  rw [← hc, List.take_of_length_le (by rw [Array.length_toList, hs]; exact Nat.le_refl _)]
theorem OwnS.blk (h : OwnS k t B w s xs) {b : Nat} (hb : (Value.slice s.a s.n s.c).ownBlock = some b) : B ≤ b ∧ b < w.heap.size := h.2.lt b hb

theorem oneCell_cells (k : Kd α) (hk : ∀ l ∈ k.ls, l ≠ .any) (x : α) : ∀ v ∈ k.cells x, v.oneCell' = true := by
  unfold Kd.cells
  generalize k.t x = t
  revert hk t
  generalize k.ls = ls
  intro hk t
  induction ls with
  | nil => intro v hv; simp [Tup.cells] at hv
  | cons l ls ih =>
    intro v hv
    simp only [Tup.cells, List.mem_cons] at hv
    rcases hv with rfl | hv
    · exact oneCell_emb l t.1 (fun e => hk l List.mem_cons_self e)
    · exact ih (fun l' hl' => hk l' (List.mem_cons_of_mem _ hl')) t.2 v hv
/-- An element type's row of the table. -/
structure El (P : Program) (tS t : TypeId) (k : Kd α) (bytes : Nat) : Prop where
  elem : P.underlying tS = some (.slice t)
  info : ∃ i z, P.info? t = some i ∧ i.zero = some z ∧ i.size = k.ls.length ∧ i.bytes = bytes ∧ z.cells.size = k.ls.length
  pos : 0 < k.ls.length
  one : ∀ l ∈ k.ls, l ≠ .any
/-- Where the appended row lies: where the old one lay, or in new memory. -/
theorem append_blk {P : Program} {w : World} {base : Nat} {tS tR e : TypeId} {i : TypeInfo} {z : Value} {size bytes : Nat} (ht : P.underlying tS = some (.slice e)) (hi : P.info? e = some i) (hz : i.zero = some z) (hsize : i.size = size) (hby : i.bytes = bytes)
    {v : Value} {n : Nat} {xs : List Value} (hown : w.ownsRow base e size v n xs) {a : Addr} {m c : Nat} {news : List Value} (hl : news.length = m * size) (hnews : ∀ j u, news[j]? = some u → w.cell? (a.add j) = some u) (h1 : ∀ u ∈ news, u.oneCell' = true)
    (h63 : n + m ≤ maxLen) (hbytes : (n + m) * bytes ≤ 140737488355328) (h0 : 0 < m) {v' : Value} {w' : World} (hr : (Builtin.append_ #[tS, tS] tR #[v, .slice (some a) m c]).run P w = .ok v' w') :
    v'.ownBlock = v.ownBlock ∨ v'.ownBlock = some w.heap.size := by
  subst hsize hby
  have hsmall : n + m ≤ 9223372036854775807 := by simp only [maxLen] at h63; omega
  rcases hown.2 with ⟨rfl, rfl⟩ | ⟨g, cap, cur, rfl, hbg, hg, hnc, hcm, hcs, htake⟩
  · have := run_append_nil (P := P) w tS tR e i z ht hi hz a m c news hl hnews h0 (by omega) (by have hb := hbytes; simp only [Nat.zero_add] at hb; omega)
    rw [this] at hr
    simp only [Result.ok.injEq] at hr
    right; rw [← hr.1]; rfl
  · by_cases hroom : n + m ≤ cap
    · have hfit : n * i.size + news.length ≤ cur.size := by rw [hl, hcs, ← Nat.add_mul]; exact Nat.mul_le_mul_right _ hroom
      have := run_append_room (P := P) w tS tR e i ht hi g n cap cur hg a m c news hl hnews h1 hroom hfit
      rw [this] at hr
      simp only [Result.ok.injEq] at hr
      left; rw [← hr.1]; rfl
    · have holds : ∀ j u, xs[j]? = some u → w.cell? ((⟨g, 0, none⟩ : Addr).add j) = some u := hown.cells (g := g) rfl
      have := run_append_grow (P := P) w tS tR e i z ht hi hz ⟨g, 0, none⟩ n cap xs hown.1 holds a m c news hl hnews (by omega) (by omega) (growslice_fits (by omega) hbytes)
      rw [this] at hr
      simp only [Result.ok.injEq] at hr
      right; rw [← hr.1]; rfl
/-- append of a slice that can be read onto one that the call owns. -/
theorem apS {P : Program} {tS tR : TypeId} {bytes : Nat} (hE : El P tS t k bytes) (h : OwnS k t B w s xs) {x : Sl} {ys : List α} (hx : SlR k w x ys) (hb : (xs.length + ys.length) * bytes ≤ 140737488355328) (hm : xs.length + ys.length ≤ 140737488355328) (hB : B ≤ w.heap.size) {K : Sl → World → Prop}
    (hk : ∀ s' w', OwnS k t B w' s' (xs ++ ys) → w.grownBy w' (Value.slice s.a s.n s.c).ownBlock → (s'.a = none → xs = [] ∧ ys = []) → (∀ b, (Value.slice s'.a s'.n s'.c).ownBlock = some b → (Value.slice s.a s.n s.c).ownBlock = some b ∨ w.heap.size ≤ b) → K s' w') :
    RunT (.o (.lf .sl)) P (Builtin.append_ #[tS, tS] tR #[.slice s.a s.n s.c, .slice x.a x.n x.c]) w K := by
  obtain ⟨i, z, hi, hz, hsz, hby, hzs⟩ := hE.info
  have hself : w.grownBy w (Value.slice s.a s.n s.c).ownBlock := ⟨rfl, rfl, rfl, Nat.le_refl _, fun _ _ _ => rfl⟩
  by_cases hne : ys = []
  · subst hne
    have hxn : x.n = 0 := by rw [hx.1]; rfl
    have hr : (Builtin.append_ #[tS, tS] tR #[.slice s.a s.n s.c, .slice x.a x.n x.c]).run P w = .ok (.slice s.a s.n s.c) w := by
      rw [hxn]
      have hc := h.cap
      cases hxa : x.a <;> cases hsa : s.a <;> simp [Builtin.append_, run_underlying hE.elem, sizeOf, typeInfo, hi, Builtin.lenOf, Builtin.firstCells, hc.1, storeCells, loadCells, loadCellsFrom]
    refine ⟨s, w, hr, hk s w (by simpa using h) hself ?_ (fun b hb => .inl hb)⟩
    intro ha
    refine ⟨?_, rfl⟩
    rcases h.2.2 with ⟨_, hn⟩ | ⟨g, cap, cur, hv, _⟩
    · exact List.eq_nil_of_length_eq_zero (by rw [← h.1]; exact hn)
    · simp only [Value.slice.injEq] at hv; rw [ha] at hv; simp at hv
  · rcases hx.2.2.2 with h0 | ⟨b, o, ha, hat⟩
    · exact absurd h0 hne
    · have hnews : ∀ j u, (ys.flatMap k.cells)[j]? = some u → w.cell? ((⟨b, o, none⟩ : Addr).add j) = some u := by
        intro j u hu
        have hjl : j < ys.length * k.ls.length := by
          rcases Nat.lt_or_ge j (ys.length * k.ls.length) with h | h
          · exact h
          · rw [List.getElem?_eq_none (by rw [flat_length]; exact h)] at hu; simp at hu
        have hq : j / k.ls.length < ys.length := Nat.div_lt_of_lt_mul (by rw [Nat.mul_comm]; exact hjl)
        have hr : j % k.ls.length < k.ls.length := Nat.mod_lt _ hE.pos
        have hy : ys[j / k.ls.length]? = some ys[j / k.ls.length] := List.getElem?_eq_getElem hq
        have hv : (k.cells ys[j / k.ls.length])[j % k.ls.length]? = some ((k.cells ys[j / k.ls.length])[j % k.ls.length]'(by rw [k.cells_length]; exact hr)) := List.getElem?_eq_getElem _
        have h1 := flat_get k ys _ _ hy _ _ hv
        have hj : j / k.ls.length * k.ls.length + j % k.ls.length = j := by rw [Nat.mul_comm]; exact Nat.div_add_mod _ _
        rw [hj, hu] at h1
        simp only [Option.some.injEq] at h1
        have h2 := hat _ _ hy _ _ hv
        rw [← h1, Nat.add_assoc, hj] at h2
        rw [add_mk]
        exact h2
      have h1 : ∀ u ∈ ys.flatMap k.cells, u.oneCell' = true := by
        intro u hu
        obtain ⟨y, _, hy⟩ := List.mem_flatMap.1 hu
        exact oneCell_cells k hE.one y u hy
      obtain ⟨v', w', hr, hown, hg, hnil⟩ := run_append_own (P := P) w B tS tR t i z k.ls.length bytes hE.elem hi hz hsz hby hzs hE.pos (.slice s.a s.n s.c) s.n (xs.flatMap k.cells) h.2
        ⟨b, o, none⟩ x.n x.c (ys.flatMap k.cells) (by rw [flat_length, hx.1]) hnews h1 (by rw [h.1, hx.1]; simp only [maxLen]; omega) (by rw [h.1, hx.1]; exact hb) hB
      have hshape : ∃ a c, v' = .slice a (s.n + x.n) c := by
        rcases hown.2 with ⟨hv, hn⟩ | ⟨g, cap, cur, hv, _⟩
        · exact ⟨none, 0, by rw [hv, hn]⟩
        · exact ⟨_, _, hv⟩
      obtain ⟨a', c', rfl⟩ := hshape
      have ha' : x.a = some ⟨b, o, none⟩ := ha
      refine ⟨⟨a', s.n + x.n, c'⟩, w', ?_, hk _ _ ⟨by simp [h.1, hx.1], by simpa [List.flatMap_append] using hown⟩ hg ?_ ?_⟩
      · rw [ha']; exact hr
      · intro hn
        exfalso
        simp only at hn
        subst hn
        rcases hown.2 with ⟨hv, hz'⟩ | ⟨g, cap, cur, hv, _⟩
        · have : x.n = 0 := by omega
          exact hne (List.eq_nil_of_length_eq_zero (by rw [← hx.1]; exact this))
        · simp at hv
      · intro b' hb'
        have hxn : 0 < x.n := by
          rw [hx.1]; exact List.length_pos_iff.2 hne
        rcases append_blk (P := P) hE.elem hi hz hsz hby h.2 (by rw [flat_length, hx.1]) hnews h1 (by rw [h.1, hx.1]; simp only [maxLen]; omega) (by rw [h.1, hx.1]; exact hb) hxn hr with e | e
        · left; rw [← e]; exact hb'
        · right; rw [e] at hb'; simp only [Option.some.injEq] at hb'; omega
/-- append(out, x): of one element, by way of a new row of one. -/
theorem ap1 {P : Program} {tS tR : TypeId} {bytes : Nat} (hE : El P tS t k bytes) (h : OwnS k t B w s xs) (x : α) {cs : Array Value} (hcs : cs.toList = k.cells x) (hb : (xs.length + 1) * bytes ≤ 140737488355328) (hm : xs.length + 1 ≤ 140737488355328) (hB : B ≤ w.heap.size) {K : Sl → World → Prop}
    (hk : ∀ s' w', OwnS k t B w' s' (xs ++ [x]) → w.grownBy w' (Value.slice s.a s.n s.c).ownBlock → (∀ b, (Value.slice s'.a s'.n s'.c).ownBlock = some b → (Value.slice s.a s.n s.c).ownBlock = some b ∨ w.heap.size ≤ b) → K s' w') :
    Nw cs t w fun a w1 => RunT (.o (.lf .sl)) P (Builtin.append_ #[tS, tS] tR #[.slice s.a s.n s.c, .slice (some a) 1 1]) w1 K := by
  refine nw fun w1 hb1 hs1 hc1 => ?_
  have hl : OwnS k t w.heap.size w1 ⟨some ⟨w.heap.size, 0, none⟩, 1, 1⟩ [x] := OwnS.lit (Nat.le_refl _) hc1 rfl (by simp [hcs]) (by simp [maxLen])
  have hg1 := grown_of_below hb1
  refine apS (x := ⟨some ⟨w.heap.size, 0, none⟩, 1, 1⟩) hE (h.below hb1) hl.read (by simpa using hb) (by simpa using hm) (by omega) fun s' w' ho hg _ hbk => hk s' w' ho ?_ (fun b hb => (hbk b hb).imp id (by omega))
  exact ⟨hg.os.trans hg1.os, hg.tape.trans hg1.tape, hg.output.trans hg1.output, Nat.le_trans hg1.size hg.size, fun k hk hne => (hg.block k (by omega) hne).trans (hg1.block k hk (by simp))⟩
end
/-- The world below B, behind a step that may have written one row from B on. -/
theorem below_grown {w0 w w' : World} {row : Option Nat} (h : Below w0.heap.size w0 w) (hg : w.grownBy w' row) (hr : ∀ b, row = some b → w0.heap.size ≤ b) : Below w0.heap.size w0 w' :=
  h.grown hg h.size hr
theorem CallT.imp {P : Program} {f : FuncId} {r : Rs} {args : List Value} {w : World} {K K' : r.T → World → Prop} (h : CallT r P f args w K) (hk : ∀ x w', K x w' → K' x w') : CallT r P f args w K' := h.mono hk
/-- A call in a region that draws. -/
theorem qcl {r : Rs} {P : Program} {f : FuncId} {args : List Value} {C : World → Prop} {K : r.T → Prop} (x : r.T) (h : ∀ w, C w → CallT r P f args w fun y w' => y = x ∧ C w') (hk : K x) : QCl r P f args C K := ⟨x, h, hk⟩
end Go.Proofs.Ytdgnojjemlfhdaa.V
