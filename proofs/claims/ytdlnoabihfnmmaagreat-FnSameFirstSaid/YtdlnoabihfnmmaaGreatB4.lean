/- Texts of one proof, put together in build order by pack.py (the last one states what is proved). -/
import Derived.Lib.AppendZerosOnto
import Derived.Lib.SlicesCompact
import Derived.Laws.BytesArg
import Derived.Test.YtdlnoabihfnmmaaGreatB3
/- Contracts: what is left of two ranges, in the program. -/
namespace Go.Proofs.YtdlnoabihfnmmaaGreat.V
open Go Go.RowKit
set_option linter.unusedVariables false
set_option linter.unusedSimpArgs false
/-- What may become of the world while two boxes get their values. -/
structure SpT (n b1 : Nat) (y1 : T4) (b2 : Nat) (y2 : T4) (a c : World) : Prop where
  os : c.os = a.os
  tape : c.tape = a.tape
  output : c.output = a.output
  size : a.heap.size ≤ c.heap.size
  low : ∀ k, k < n → k ≠ b1 → k ≠ b2 → c.heap[k]? = a.heap[k]?
  box1 : c.heap[b1]? = a.heap[b1]? ∨ c.heap[b1]? = some (bx y1)
  box2 : c.heap[b2]? = a.heap[b2]? ∨ c.heap[b2]? = some (bx y2)
theorem SpT.refl (n b1 : Nat) (y1 : T4) (b2 : Nat) (y2 : T4) (a : World) : SpT n b1 y1 b2 y2 a a := ⟨rfl, rfl, rfl, Nat.le_refl _, fun _ _ _ _ => rfl, .inl rfl, .inl rfl⟩
theorem or_then {α : Type} {a c d v : α} (h1 : c = a ∨ c = v) (h2 : d = c ∨ d = v) : d = a ∨ d = v := by
  rcases h2 with h | h
  · rcases h1 with h' | h'
    · exact .inl (h.trans h')
    · exact .inr (h.trans h')
  · exact .inr h
theorem SpT.trans {n b1 b2 : Nat} {y1 y2 : T4} {a c d : World} (h1 : SpT n b1 y1 b2 y2 a c) (h2 : SpT n b1 y1 b2 y2 c d) : SpT n b1 y1 b2 y2 a d :=
  ⟨h2.os.trans h1.os, h2.tape.trans h1.tape, h2.output.trans h1.output, Nat.le_trans h1.size h2.size, fun k hk e1 e2 => (h2.low k hk e1 e2).trans (h1.low k hk e1 e2), or_then h1.box1 h2.box1, or_then h1.box2 h2.box2⟩
theorem sptOk (b1 : Nat) (y1 : T4) (b2 : Nat) (y2 : T4) (w : World) : SpOk (SpT w.heap.size b1 y1 b2 y2) w :=
  ⟨fun a => SpT.refl _ _ _ _ _ a, fun a b c h1 h2 => h1.trans h2, by
    have hb : Below w.heap.size w w.drew := (Below.refl _ _).drew
    exact ⟨hb.os, hb.tape, hb.output, hb.size, fun k hk _ _ => hb.block k hk, .inl rfl, .inl rfl⟩⟩
theorem keptT1 {n b1 b2 : Nat} {y1 y2 : T4} : Kept (SpT n b1 y1 b2 y2) (fun (_ : Unit) w => w.heap[b1]? = some (bx y1)) := by
  intro _ a c h hac
  rcases hac.box1 with e | e
  · exact e.trans h
  · exact e
theorem keptT2 {n b1 b2 : Nat} {y1 y2 : T4} : Kept (SpT n b1 y1 b2 y2) (fun (_ : Unit) w => w.heap[b2]? = some (bx y2)) := by
  intro _ a c h hac
  rcases hac.box2 with e | e
  · exact e.trans h
  · exact e
section
variable {w0 w w1 : World} {l r1 r : List (Nat × T4)} {b1 b2 : Nat} {x1 x2 y1 y2 : T4}
theorem Del.ne2 (hd1 : Del l b1 x1 r1) (hd2 : Del r1 b2 x2 r) (hn : (l.map (·.1)).Nodup) : b1 ≠ b2 := fun e => by
  subst e
  exact hd1.ne hn (List.mem_map.2 ⟨_, hd2.mem, rfl⟩)
theorem M.spt (hm : M w0 w l) (hd1 : Del l b1 x1 r1) (hd2 : Del r1 b2 x2 r) (hs : SpT w.heap.size b1 y1 b2 y2 w w1) : M w0 w1 r := by
  have hn1 := hm.one.sublist (hd1.sub.map _)
  have hb1 := hm.box b1 x1 hd1.mem
  have hb2 := hm.box b2 x2 (hd1.sub.subset hd2.mem)
  refine ⟨⟨hs.os.trans hm.low.os, hs.tape.trans hm.low.tape, hs.output.trans hm.low.output, Nat.le_trans hm.low.size hs.size, fun k hk => (hs.low k (by have := hm.low.size; omega) (by omega) (by omega)).trans (hm.low.block k hk)⟩, fun c z hz => ?_, hn1.sublist (hd2.sub.map _)⟩
  obtain ⟨h1, h2, h3⟩ := hm.box c z (hd1.sub.subset (hd2.sub.subset hz))
  have hne1 : c ≠ b1 := fun e => hd1.ne hm.one (e ▸ List.mem_map.2 ⟨_, hd2.sub.subset hz, rfl⟩)
  have hne2 : c ≠ b2 := fun e => hd2.ne hn1 (e ▸ List.mem_map.2 ⟨_, hz, rfl⟩)
  exact ⟨h1, by have := hs.size; omega, (hs.low c h2 hne1 hne2).trans h3⟩
theorem M.sptB (hm : M w0 w l) (hd1 : Del l b1 x1 r1) (hd2 : Del r1 b2 x2 r) (hs : SpT w.heap.size b1 y1 b2 y2 w w1) (hy1 : w1.heap[b1]? = some (bx y1)) (hy2 : w1.heap[b2]? = some (bx y2)) : M w0 w1 ((b1, y1) :: (b2, y2) :: r) := by
  have h := hm.spt hd1 hd2 hs
  have hn1 := hm.one.sublist (hd1.sub.map _)
  have hb1 := hm.box b1 x1 hd1.mem
  have hb2 := hm.box b2 x2 (hd1.sub.subset hd2.mem)
  refine ⟨h.low, fun c z hz => ?_, ?_⟩
  · rcases List.mem_cons.1 hz with e | e
    · simp only [Prod.mk.injEq] at e
      obtain ⟨rfl, rfl⟩ := e
      exact ⟨hb1.1, by have := hs.size; omega, hy1⟩
    · rcases List.mem_cons.1 e with e | e
      · simp only [Prod.mk.injEq] at e
        obtain ⟨rfl, rfl⟩ := e
        exact ⟨hb2.1, by have := hs.size; omega, hy2⟩
      · exact h.box c z e
  · simp only [List.map_cons, List.nodup_cons, List.mem_cons, not_or]
    exact ⟨⟨hd1.ne2 hd2 hm.one, fun hh => hd1.ne hm.one (by obtain ⟨p, hp, e⟩ := List.mem_map.1 hh; exact List.mem_map.2 ⟨p, hd2.sub.subset hp, e⟩)⟩, hd2.ne hn1, h.one⟩
theorem stT1 (hm : M w0 w l) (hd1 : Del l b1 x1 r1) (hd2 : Del r1 b2 x2 r) (hs : SpT w.heap.size b1 y1 b2 y2 w w1) :
    StA P0 ⟨b1, 0, none⟩ (Tup.cells (R 4 (.i .i64)) y1) w1 fun w2 => GK .z (SpT w.heap.size b1 y1 b2 y2) w1 (fun _ w => w.heap[b1]? = some (bx y1)) (.tuple #[]) w2 := by
  have hb := hm.box b1 x1 hd1.mem
  have hne := hd1.ne2 hd2 hm.one
  obtain ⟨z, hz⟩ : ∃ z : T4, w1.heap[b1]? = some (bx z) := by
    rcases hs.box1 with e | e
    · exact ⟨x1, e.trans hb.2.2⟩
    · exact ⟨y1, e⟩
  obtain ⟨w', hr, hg, hsz, hh⟩ := run_storeCells_at' P0 (b := b1) (t := 54) (Tup.cells (R 4 (.i .i64)) y1) 0 [] (Tup.cells (R 4 (.i .i64)) z) w1 (oneCell4 y1) rfl (by simp [V.cells_length]) (by simpa [bx] using hz)
  have hh' : w'.heap[b1]? = some (bx y1) := by simpa [bx] using hh
  have hb2 := hm.box b2 x2 (hd1.sub.subset hd2.mem)
  exact ⟨w', hr, (), rfl, ⟨hg.os, hg.tape, hg.output, hg.size, fun k hk e1 _ => hg.block k (by have := hs.size; omega) (by simpa using e1), .inr hh', .inl (hg.block b2 (by have := hs.size; omega) (by simp; omega))⟩, hh'⟩
theorem stT2 (hm : M w0 w l) (hd1 : Del l b1 x1 r1) (hd2 : Del r1 b2 x2 r) (hs : SpT w.heap.size b1 y1 b2 y2 w w1) :
    StA P0 ⟨b2, 0, none⟩ (Tup.cells (R 4 (.i .i64)) y2) w1 fun w2 => GK .z (SpT w.heap.size b1 y1 b2 y2) w1 (fun _ w => w.heap[b2]? = some (bx y2)) (.tuple #[]) w2 := by
  have hb := hm.box b2 x2 (hd1.sub.subset hd2.mem)
  have hne := hd1.ne2 hd2 hm.one
  obtain ⟨z, hz⟩ : ∃ z : T4, w1.heap[b2]? = some (bx z) := by
    rcases hs.box2 with e | e
    · exact ⟨x2, e.trans hb.2.2⟩
    · exact ⟨y2, e⟩
  obtain ⟨w', hr, hg, hsz, hh⟩ := run_storeCells_at' P0 (b := b2) (t := 54) (Tup.cells (R 4 (.i .i64)) y2) 0 [] (Tup.cells (R 4 (.i .i64)) z) w1 (oneCell4 y2) rfl (by simp [V.cells_length]) (by simpa [bx] using hz)
  have hh' : w'.heap[b2]? = some (bx y2) := by simpa [bx] using hh
  have hb1 := hm.box b1 x1 hd1.mem
  exact ⟨w', hr, (), rfl, ⟨hg.os, hg.tape, hg.output, hg.size, fun k hk _ e2 => hg.block k (by have := hs.size; omega) (by simpa using e2), .inl (hg.block b1 (by have := hs.size; omega) (by simp; omega)), .inr hh'⟩, hh'⟩
end
/-! ### what is left -/
def nR : T4 := (1, 0, 0, 0, ())
/-- What is left of a range and a number. -/
def brT (op : Int) (lo hi n : Nat) (is_ : Bool) : T4 × T4 × Bool × Unit := match brN op lo hi n is_ with
  | none => (nR, nR, false, ())
  | some p => (ivl p.1 p.2, ivl n n, true, ())
theorem brT_none {op : Int} {lo hi n : Nat} {is_ : Bool} (h : brN op lo hi n is_ = none) : brT op lo hi n is_ = (nR, nR, false, ()) := by unfold brT; rw [h]
theorem brT_some {op : Int} {lo hi n a b : Nat} {is_ : Bool} (h : brN op lo hi n is_ = some (a, b)) : brT op lo hi n is_ = (ivl a b, ivl n n, true, ()) := by unfold brT; rw [h]
theorem brT_ok {op : Int} {lo hi n : Nat} {is_ : Bool} : (brT op lo hi n is_).2.2.1 = (brN op lo hi n is_).isSome := by unfold brT; cases brN op lo hi n is_ <;> rfl
/-- What two ranges, one below the other, are left of. -/
def bwT (al ah bl bh : Int) : T4 × T4 × Bool × Unit := if al ≤ ah ∧ bl ≤ bh then (ivl al.toNat ah.toNat, ivl bl.toNat bh.toNat, true, ()) else (nR, nR, false, ())
theorem bwT_pos {al ah bl bh : Int} {a b c d : Nat} (h : al ≤ ah ∧ bl ≤ bh) (ha : al = a) (hb : ah = b) (hc : bl = c) (hd : bh = d) : bwT al ah bl bh = (ivl a b, ivl c d, true, ()) := by
  subst ha hb hc hd
  unfold bwT; rw [if_pos h]; rfl
theorem bwT_neg {al ah bl bh : Int} (h : ¬ (al ≤ ah ∧ bl ≤ bh)) : bwT al ah bl bh = (nR, nR, false, ()) := by unfold bwT; rw [if_neg h]
def swT (p : T4 × T4 × Bool × Unit) : T4 × T4 × Bool × Unit := (p.2.1, p.1, p.2.2)
theorem bw14t {lo hi n : Nat} (hle : lo ≤ hi) : bwT lo (if (n : Int) - 1 < hi then (n : Int) - 1 else hi) (if (lo : Int) + 1 > n then (lo : Int) + 1 else n) n = brT 14 lo hi n true := by
  by_cases h : lo < n
  · rw [brT_some (a := lo) (b := min hi (n - 1)) (by unfold brN; rw [if_pos rfl, if_pos rfl, if_pos h])]
    refine bwT_pos ⟨?_, ?_⟩ rfl ?_ ?_ rfl <;> split <;> omega
  · rw [brT_none (by unfold brN; rw [if_pos rfl, if_pos rfl, if_neg h])]
    refine bwT_neg fun h2 => ?_
    have := h2.1; split at this <;> omega
theorem bw14f {lo hi n : Nat} (hle : lo ≤ hi) : bwT n (if (n : Int) < (hi : Int) then (n : Int) else hi) (if (n : Int) > lo then (n : Int) else lo) hi = swT (brT 14 lo hi n false) := by
  by_cases h : n ≤ hi
  · rw [brT_some (a := max lo n) (b := hi) (by unfold brN; rw [if_pos rfl, if_neg (by simp), if_pos h])]
    refine bwT_pos (c := max lo n) ⟨?_, ?_⟩ rfl ?_ ?_ rfl <;> split <;> omega
  · rw [brT_none (by unfold brN; rw [if_pos rfl, if_neg (by simp), if_neg h])]
    refine bwT_neg fun h2 => ?_
    have := h2.1; split at this <;> omega
theorem bw15t {lo hi n : Nat} (hle : lo ≤ hi) : bwT n (if (hi : Int) - 1 < n then (hi : Int) - 1 else n) (if (n : Int) + 1 > lo then (n : Int) + 1 else lo) hi = swT (brT 15 lo hi n true) := by
  by_cases h : n < hi
  · rw [brT_some (a := max lo (n + 1)) (b := hi) (by unfold brN; rw [if_neg (by decide), if_pos rfl, if_pos rfl, if_pos h])]
    refine bwT_pos (c := max lo (n + 1)) ⟨?_, ?_⟩ rfl ?_ ?_ rfl <;> split <;> omega
  · rw [brT_none (by unfold brN; rw [if_neg (by decide), if_pos rfl, if_pos rfl, if_neg h])]
    refine bwT_neg fun h2 => ?_
    have := h2.1; split at this <;> omega
theorem bw15f {lo hi n : Nat} (hle : lo ≤ hi) : bwT lo (if (n : Int) < (hi : Int) then (n : Int) else hi) (if (lo : Int) > n then (lo : Int) else n) n = brT 15 lo hi n false := by
  by_cases h : lo ≤ n
  · rw [brT_some (a := lo) (b := min hi n) (by unfold brN; rw [if_neg (by decide), if_pos rfl, if_neg (by simp), if_pos h])]
    refine bwT_pos ⟨?_, ?_⟩ rfl ?_ ?_ rfl <;> split <;> omega
  · rw [brT_none (by unfold brN; rw [if_neg (by decide), if_pos rfl, if_neg (by simp), if_neg h])]
    refine bwT_neg fun h2 => ?_
    have := h2.1; split at this <;> omega
theorem bw14i {lo hi n : Nat} (hle : lo ≤ hi) : bwT (if (n : Int) > lo then (n : Int) else lo) hi n (if (hi : Int) < (n : Int) then (hi : Int) else n) = brT 14 lo hi n false := by
  by_cases h : n ≤ hi
  · rw [brT_some (a := max lo n) (b := hi) (by unfold brN; rw [if_pos rfl, if_neg (by simp), if_pos h])]
    refine bwT_pos (a := max lo n) ⟨?_, ?_⟩ ?_ rfl rfl ?_ <;> split <;> omega
  · rw [brT_none (by unfold brN; rw [if_pos rfl, if_neg (by simp), if_neg h])]
    refine bwT_neg fun h2 => ?_
    have := h2.1; split at this <;> omega
theorem bw15i {lo hi n : Nat} (hle : lo ≤ hi) : bwT (if (lo : Int) > n then (lo : Int) else n) n lo (if (n : Int) < (hi : Int) then (n : Int) else hi) = swT (brT 15 lo hi n false) := by
  by_cases h : lo ≤ n
  · rw [brT_some (a := lo) (b := min hi n) (by unfold brN; rw [if_neg (by decide), if_pos rfl, if_neg (by simp), if_pos h])]
    refine bwT_pos (d := min hi n) ⟨?_, ?_⟩ ?_ rfl rfl ?_ <;> split <;> omega
  · rw [brT_none (by unfold brN; rw [if_neg (by decide), if_pos rfl, if_neg (by simp), if_neg h])]
    refine bwT_neg fun h2 => ?_
    have := h2.1; split at this <;> omega
section
variable {w0 w : World} {l r1 r : List (Nat × T4)} {b8 b9 bp bq : Nat} {x y x1 x2 : T4} {K : T4 → T4 → World → Prop}
/-- Two boxes are handed back. -/
theorem tailT (hm : M w0 w l) (hd1 : Del l b8 x1 r1) (hd2 : Del r1 b9 x2 r) (hx : (bp, x) ∈ r) (hy : (bq, y) ∈ r) (hk : ∀ w', M w0 w' ((b8, x) :: (b9, y) :: r) → K x y w') :
    ∃ Sp : World → World → Prop, SpOk Sp w ∧ ∃ G1 : Tup (R 4 (.i .i64)) → World → Prop, Kept Sp G1 ∧ ∃ G2 : Tup (R 4 (.i .i64)) → World → Prop, Kept Sp G2 ∧ ∃ G3 : Unit → World → Prop, Kept Sp G3 ∧ ∃ G4 : Unit → World → Prop, Kept Sp G4 ∧
    (∀ w1, Sp w w1 → LdA (R 4 (.i .i64)) ⟨bp, 0, none⟩ w1 fun (t : Tup (R 4 (.i .i64))) w2 => GK (.o (.ag (R 4 (.i .i64)))) Sp w1 G1 (.agg (Tup.cells (R 4 (.i .i64)) t).toArray) w2) ∧
    ∀ (t1 : Tup (R 4 (.i .i64))), (∀ w1, Sp w w1 → LdA (R 4 (.i .i64)) ⟨bq, 0, none⟩ w1 fun (t : Tup (R 4 (.i .i64))) w2 => GK (.o (.ag (R 4 (.i .i64)))) Sp w1 G2 (.agg (Tup.cells (R 4 (.i .i64)) t).toArray) w2) ∧
    ∀ (t2 : Tup (R 4 (.i .i64))), (∀ w1, Sp w w1 → G1 t1 w1 → StA P0 ⟨b8, 0, none⟩ (Tup.cells (R 4 (.i .i64)) t1) w1 fun w2 => GK .z Sp w1 G3 (.tuple #[]) w2) ∧
    ∀ (s1 : Unit), (∀ w1, Sp w w1 → G2 t2 w1 → StA P0 ⟨b9, 0, none⟩ (Tup.cells (R 4 (.i .i64)) t2) w1 fun w2 => GK .z Sp w1 G4 (.tuple #[]) w2) ∧
    ∀ (s2 : Unit), ∀ w1, Sp w w1 → G1 t1 w1 → G2 t2 w1 → G3 s1 w1 → G4 s2 w1 → LdA (R 4 (.i .i64)) ⟨b8, 0, none⟩ w1 fun r w2 => LdA (R 4 (.i .i64)) ⟨b9, 0, none⟩ w1 fun r1 w3 => K r r1 w1 := by
  refine ⟨SpT w.heap.size b8 x b9 y, sptOk _ _ _ _ _, eqG x, fun _ _ _ h _ => h, eqG y, fun _ _ _ h _ => h, _, keptT1, _, keptT2, fun w1 hs => ?_, fun t1 => ⟨fun w1 hs => ?_, fun t2 => ⟨fun w1 hs f => ?_, fun s1 => ⟨fun w1 hs f => ?_, fun s2 w1 hs f1 f2 f3 f4 => ?_⟩⟩⟩⟩
  · exact ldAM (hm.spt hd1 hd2 hs) hx (gkE rfl (SpT.refl _ _ _ _ _ _))
  · exact ldAM (hm.spt hd1 hd2 hs) hy (gkE rfl (SpT.refl _ _ _ _ _ _))
  · cases f; exact stT1 hm hd1 hd2 hs
  · cases f; exact stT2 hm hd1 hd2 hs
  · have m := hm.sptB hd1 hd2 hs f3 f4
    exact ldAM m List.mem_cons_self (ldAM m (List.mem_cons_of_mem _ List.mem_cons_self) (hk _ m))
/-- The same, the second box last. -/
theorem tailU (hm : M w0 w l) (hd1 : Del l b8 x1 r) (h9 : (b9, x2) ∈ r) (hx : (bp, x) ∈ r) (hy : (bq, y) ∈ r) (hk : ∀ w', Below w0.heap.size w0 w' → K x y w') :
    ∃ Sp : World → World → Prop, SpOk Sp w ∧ ∃ G1 : Tup (R 4 (.i .i64)) → World → Prop, Kept Sp G1 ∧ ∃ G2 : Tup (R 4 (.i .i64)) → World → Prop, Kept Sp G2 ∧ ∃ G3 : Unit → World → Prop, Kept Sp G3 ∧
    (∀ w1, Sp w w1 → LdA (R 4 (.i .i64)) ⟨bp, 0, none⟩ w1 fun (t : Tup (R 4 (.i .i64))) w2 => GK (.o (.ag (R 4 (.i .i64)))) Sp w1 G1 (.agg (Tup.cells (R 4 (.i .i64)) t).toArray) w2) ∧
    ∀ (t1 : Tup (R 4 (.i .i64))), (∀ w1, Sp w w1 → LdA (R 4 (.i .i64)) ⟨bq, 0, none⟩ w1 fun (t : Tup (R 4 (.i .i64))) w2 => GK (.o (.ag (R 4 (.i .i64)))) Sp w1 G2 (.agg (Tup.cells (R 4 (.i .i64)) t).toArray) w2) ∧
    ∀ (t2 : Tup (R 4 (.i .i64))), (∀ w1, Sp w w1 → G1 t1 w1 → StA P0 ⟨b8, 0, none⟩ (Tup.cells (R 4 (.i .i64)) t1) w1 fun w2 => GK .z Sp w1 G3 (.tuple #[]) w2) ∧
    ∀ (s1 : Unit), ∀ w1, Sp w w1 → G1 t1 w1 → G2 t2 w1 → G3 s1 w1 → StA P0 ⟨b9, 0, none⟩ (Tup.cells (R 4 (.i .i64)) t2) w1 fun w2 => LdA (R 4 (.i .i64)) ⟨b8, 0, none⟩ w2 fun r w3 => LdA (R 4 (.i .i64)) ⟨b9, 0, none⟩ w2 fun r1 w4 => K r r1 w2 := by
  refine ⟨SpS w.heap.size b8 x, spsOk _ _ _, eqG x, fun _ _ _ h _ => h, eqG y, fun _ _ _ h _ => h, _, keptBx, fun w1 hs => ?_, fun t1 => ⟨fun w1 hs => ?_, fun t2 => ⟨fun w1 hs f => ?_, fun s1 w1 hs f1 f2 f3 => ?_⟩⟩⟩
  · exact ldAM (hm.sps hd1 hs) hx (gkE rfl (SpS.refl _ _ _ _))
  · exact ldAM (hm.sps hd1 hs) hy (gkE rfl (SpS.refl _ _ _ _))
  · cases f; exact stSps hm hd1 hs rfl
  · cases f1; cases f2
    have m := hm.spsB hd1 hs f3
    have hne : b8 ≠ b9 := fun e => hd1.ne hm.one (e ▸ List.mem_map.2 ⟨_, h9, rfl⟩)
    have hb9 := m.box b9 x2 (List.mem_cons_of_mem _ h9)
    have hb8 := m.box b8 x List.mem_cons_self
    obtain ⟨w', hr, hg, hsz, hh⟩ := run_storeCells_at' P0 (b := b9) (t := 54) (Tup.cells (R 4 (.i .i64)) y) 0 [] (Tup.cells (R 4 (.i .i64)) x2) w1 (oneCell4 y) rfl (by simp [V.cells_length]) (by simpa using hb9.2.2)
    refine ⟨w', hr, ldAB ((hg.block b8 hb8.2.1 (by simpa using hne)).trans hb8.2.2) (by simp) (ldAB hh (by simp) (hk _ ?_))⟩
    exact m.low.grown hg m.low.size (fun k hk => by simp only [Option.some.injEq] at hk; omega)
end
section
variable {w : World}
theorem kk_in {lo hi : Nat} (hle : lo ≤ hi) (hhi : hi < 2 ^ 31) {a b : Int} (h : a ≤ b) (ha : (lo : Int) ≤ a) (hb : b ≤ hi) : a.toNat / 2 ^ kk lo hi = lo / 2 ^ kk lo hi ∧ b.toNat / 2 ^ kk lo hi = lo / 2 ^ kk lo hi :=
  part_div (kk_same (by omega) (by omega)) (by omega) (by omega) (by omega)
end
end Go.Proofs.YtdlnoabihfnmmaaGreat.V

/- Contracts: what is left of a range and a number, in the program. -/
namespace Go.Proofs.YtdlnoabihfnmmaaGreat.V
open Go Go.RowKit
set_option linter.unusedVariables false
set_option linter.unusedSimpArgs false
section
variable {w : World}
theorem bool_op {op : Int} {is_ : Bool} (ho : 12 ≤ op ∧ op ≤ 13) : (is_ == (op == 12)) = decide (is_ = decide (op = 12)) := by
  have : op = 12 ∨ op = 13 := by omega
  rcases this with rfl | rfl <;> cases is_ <;> rfl
theorem brT_same {op : Int} {lo hi n : Nat} {is_ : Bool} (ho : 12 ≤ op ∧ op ≤ 13) (h : is_ = decide (op = 12)) : brT op lo hi n is_ = if lo ≤ n ∧ n ≤ hi then (ivl n n, ivl n n, true, ()) else (nR, nR, false, ()) := by
  have e : brN op lo hi n is_ = if lo ≤ n ∧ n ≤ hi then some (n, n) else none := by unfold brN; rw [if_neg (by omega), if_neg (by omega), if_pos h]
  split
  · rename_i h2; rw [if_pos h2] at e; exact brT_some e
  · rename_i h2; rw [if_neg h2] at e; exact brT_none e
theorem brT_but {op : Int} {lo hi n : Nat} {is_ : Bool} (ho : 12 ≤ op ∧ op ≤ 13) (h : ¬ is_ = decide (op = 12)) : brT op lo hi n is_ = if lo = n ∧ hi = n then (nR, nR, false, ()) else (ivl (if lo = n then n + 1 else lo) (if hi = n then n - 1 else hi), ivl n n, true, ()) := by
  have e : brN op lo hi n is_ = if lo = n ∧ hi = n then none else some (if lo = n then n + 1 else lo, if hi = n then n - 1 else hi) := by unfold brN; rw [if_neg (by omega), if_neg (by omega), if_neg h]
  by_cases h2 : lo = n ∧ hi = n
  · rw [if_pos h2] at e ⊢; exact brT_none e
  · rw [if_neg h2] at e ⊢; exact brT_some e
end
end Go.Proofs.YtdlnoabihfnmmaaGreat.V

/- Contracts: rules; the laws' helpers for them. -/
namespace Go.Proofs.YtdlnoabihfnmmaaGreat.V
open Go Go.RowKit
set_option linter.unusedVariables false
set_option linter.unusedSimpArgs false
structure Rule where
  at_ : Int
  op : Int
  num : Int
  verdict : Int
  key : Int
  deriving DecidableEq, Inhabited
def kRule : Kd Rule := ⟨List.replicate 5 (.i .i64), fun x => (x.at_, x.op, x.num, x.verdict, x.key, ())⟩
@[reducible] def Rule.t (x : Rule) : Tup (List.replicate 5 (.i .i64)) := (x.at_, x.op, x.num, x.verdict, x.key, ())
def Rule.cs (x : Rule) : Array Value := #[.int .i64 x.at_, .int .i64 x.op, .int .i64 x.num, .int .i64 x.verdict, .int .i64 x.key]
theorem nwRule {x : Rule} {t : TypeId} {w : World} {K : Addr → World → Prop}
    (hk : ∀ w', Below w.heap.size w w' → w'.heap.size = w.heap.size + 1 → w'.heap[w.heap.size]? = some (.cells x.cs t (0, 0)) → K ⟨w.heap.size, 0, none⟩ w') : Nw (Tup.cells (List.replicate 5 (.i .i64)) x.t).toArray t w K := nw hk
theorem mkRule : Mk P0 23 40 kRule 40 ⟨0, 0, 0, 0, 0⟩ := ⟨by kernel_rfl, ⟨_, _, Option.eq_some_of_isSome (by kernel_rfl), Option.eq_some_of_isSome (by kernel_rfl), by kernel_rfl, by kernel_rfl, by kernel_rfl⟩⟩
theorem noAnyRule : ∀ l ∈ kRule.ls, l ≠ Lf.any := by intro l hl; simp [kRule, List.mem_replicate] at hl; simp [hl]
theorem zRule : (zc P0 40).toList.length = 5 := by kernel_rfl
theorem nwStRule {x : Rule} {P : Program} {w : World} {K : Addr → World → Prop}
    (hk : ∀ w', Below w.heap.size w w' → w'.heap.size = w.heap.size + 1 → w'.heap[w.heap.size]? = some (.cells x.cs 40 (0, 0)) → K ⟨w.heap.size, 0, none⟩ w') :
    Nw (zc P0 40) 40 w (fun a w' => StA P a (Tup.cells (R 5 (.i .i64)) x.t) w' (K a)) :=
  nwSt (cs := Tup.cells (R 5 (.i .i64)) x.t) zRule (oneCell_cells kRule noAnyRule x) hk rfl
section
variable {w : World} {s : Sl} {l : List Rule}
end
section
variable {w : World} {a b : Sl} {xs ys : List Rule}
end
end Go.Proofs.YtdlnoabihfnmmaaGreat.V

/- Contracts: which rules are ok, on both sides; what they cut bytes at. -/
namespace Go.Proofs.YtdlnoabihfnmmaaGreat.V
open Go Go.RowKit
set_option linter.unusedVariables false
set_option linter.unusedSimpArgs false
def RuleP (x : Rule) : Prop := (0 ≤ x.at_ ∧ x.at_ ≤ 11) ∧ (12 ≤ x.op ∧ x.op ≤ 15) ∧ (0 ≤ x.num ∧ x.num ≤ 255) ∧ (0 ≤ x.verdict ∧ x.verdict ≤ 2) ∧ (0 ≤ x.key ∧ x.key ≤ 4294967295) ∧ (x.key = 0 ∨ x.verdict = 2)
instance (x : Rule) : Decidable (RuleP x) := by unfold RuleP; infer_instance
def RulesP (l : List Rule) : Prop := l.length ≤ 6 ∧ ∀ x ∈ l, RuleP x
instance (l : List Rule) : Decidable (RulesP l) := by unfold RulesP; infer_instance
section
variable {w : World} {s : Sl} {l : List Rule} {K : Bool → World → Prop}
theorem impl.Rule.valid.c {x : Rule} (hk : ∀ w', Below w.heap.size w w' → K (decide (RuleP x)) w') : CallT (.o (.lf .b)) P0 37 [.agg (Tup.cells (R 5 (.i .i64)) x.t).toArray] w K := by
  refine impl.Rule.valid.ok (nwRule fun w1 hb hs hc => ?_)
  have hk := hk w1 hb
  (repeat' (first | refine ldB hc rfl ?_ | refine impl.within.c ?_ | refine impl.kind.asks.c ?_ | refine impl.numOk.c ?_ | refine And.intro (fun _ => ?_) (fun _ => ?_)))
  all_goals
    refine kof hk (dec_eq ?_)
    clear hk hb hc
    grind [RuleP]
theorem spec.l9RuleOk.c {x : Rule} (hk : ∀ w', Below w.heap.size w w' → K (decide (RuleP x)) w') : CallT (.o (.lf .b)) P0 28 [.agg (Tup.cells (R 5 (.i .i64)) x.t).toArray] w K := by
  refine spec.l9RuleOk.ok (nwRule fun w1 hb hs hc => ?_)
  have top : ∀ {C : World → Prop} {K : Int → Prop}, K 4294967295 → QCl (.o (.lf (.i .i64))) P0 41 [] C K := fun hK => qcl _ (fun w2 hb2 => spec.l2Top.ok ⟨rfl, hb2⟩) hK
  have q : ∀ {C : World → Prop} {K : Bool → Prop} {n lo hi : Int}, K (decide (lo ≤ n ∧ n ≤ hi)) → QCl (.o (.lf .b)) P0 46 [.int .i64 n, .int .i64 lo, .int .i64 hi] C K := fun hK => qcl _ (fun w2 hb2 => spec.l1In.c ⟨rfl, hb2⟩) hK
  (repeat' (first | refine qldB hc rfl ?_ | refine q ?_ | refine top ?_ | refine And.intro (fun _ => ?_) (fun _ => ?_) | refine fun w2 hb2 => ?_))
  all_goals
    refine kof (hk _ (hb.trans (hb2.mono hb.size))) (dec_eq ?_)
    clear hk hb hc hb2 q top
    grind [RuleP]
theorem impl.RulesOk_1.c {x : Rule} (hk : ∀ w', Below w.heap.size w w' → K (!decide (RuleP x)) w') : CallT (.o (.lf .b)) P0 36 [.agg (Tup.cells (R 5 (.i .i64)) x.t).toArray] w K := by
  refine impl.RulesOk_1.ok (nwRule fun w1 hb hs hc => ?_)
  refine ldAB hc (x := x.t) rfl ?_
  exact impl.Rule.valid.c (x := x) fun w2 hb2 => hk w2 (hb.trans (hb2.mono hb.size))
theorem slices.IndexFunc_Rule_ok.c {K : Int → World → Prop} (h : SlR kRule w s l) (hk : ∀ w' (i : Int), Below w.heap.size w w' → (i < 0 ↔ ∀ x ∈ l, RuleP x) → K i w') :
    CallT (.o (.lf (.i .i64))) P0 54 [s.v, (.func (.func 36) #[] #[])] w K := by
  have hn := h.len; have hm := h.max
  refine slices.IndexFunc_Rule_ok.ok ⟨fun i w' => ∃ n : Nat, i = n ∧ n ≤ l.length ∧ (∀ x ∈ l.take n, RuleP x) ∧ Below w.heap.size w w', fun i _ => l.length - i.toNat, ⟨0, rfl, by omega, by simp, Below.refl _ _⟩, ?_⟩
  rintro i w1 ⟨n, rfl, hnl, hp, hb⟩ _
  refine And.intro (fun hlt => ?_) (fun hge => ?_)
  · simp only [decide_eq_true_eq] at hlt
    obtain ⟨x, hx⟩ := get_some (l := l) (k := n) (by omega)
    refine ixA (h.below hb) (i := n) (by omega) (x := x) (by simpa using hx) rfl ?_
    refine impl.RulesOk_1.c (x := x) fun w2 hb2 => ?_
    have hbb := hb.trans (hb2.mono hb.size)
    refine And.intro (fun hq => ?_) (fun hq => ?_)
    · simp only [Bool.not_eq_true', decide_eq_false_iff_not] at hq
      refine hk _ _ hbb ⟨fun h0 => by omega, fun hall => absurd (hall x (List.mem_of_getElem? hx)) hq⟩
    · simp only [Bool.not_eq_false', decide_eq_true_eq] at hq
      rw [i64_of (by omega) (by omega)]
      refine ⟨⟨n + 1, by omega, by omega, ?_, hbb⟩, by simp only; omega⟩
      rw [List.take_add_one, hx]
      intro y hy
      rcases List.mem_append.1 hy with h | h
      · exact hp y h
      · simp at h; subst h; exact hq
  · simp only [decide_eq_false_iff_not] at hge
    obtain rfl : n = l.length := by omega
    rw [List.take_length] at hp
    exact hk _ _ hb ⟨fun _ => hp, fun _ => by omega⟩
theorem impl.RulesOk.c (h : SlR kRule w s l) (hk : ∀ w', Below w.heap.size w w' → K (decide (RulesP l)) w') : CallT (.o (.lf .b)) P0 22 [s.v] w K := by
  have hn := h.len
  refine impl.RulesOk.ok ?_
  unfold impl.RulesOk.vc
  refine And.intro (fun hq => ?_) (fun hq => ?_)
  · simp only [decide_eq_true_eq] at hq
    refine slices.ContainsFunc_Rule_ok.ok (slices.IndexFunc_Rule_ok.c h fun w1 i hb hi => ?_)
    refine kof (hk _ hb) ?_
    rw [Bool.eq_iff_iff]
    simp only [decide_eq_true_eq, Bool.not_eq_true', decide_eq_false_iff_not]
    constructor
    · rintro ⟨_, h2⟩; have := hi.2 h2; omega
    · intro h2; exact ⟨by omega, hi.1 (by omega)⟩
  · simp only [decide_eq_false_iff_not] at hq
    exact kof (hk _ (Below.refl _ _)) (by simp only [decide_eq_false_iff_not]; rintro ⟨h1, _⟩; omega)
theorem spec.l9Ok.c (h : SlR kRule w s l) (hk : ∀ w', Below w.heap.size w w' → K (decide (RulesP l)) w') : CallT (.o (.lf .b)) P0 17 [s.v] w K := by
  have hn := h.len; have hm := h.max
  refine spec.l9Ok.ok ⟨fun i w' => ∃ n : Nat, i = n ∧ n ≤ l.length ∧ (∀ x ∈ l.take n, RuleP x) ∧ Below w.heap.size w w', fun i _ => l.length - i.toNat, ⟨0, rfl, by omega, by simp, Below.refl _ _⟩, ?_⟩
  rintro i w1 ⟨n, rfl, hnl, hp, hb⟩ _
  refine And.intro (fun hlt => ?_) (fun hge => ?_)
  · simp only [decide_eq_true_eq] at hlt
    obtain ⟨x, hx⟩ := get_some (l := l) (k := n) (by omega)
    refine ixA (h.below hb) (i := n) (by omega) (x := x) (by simpa using hx) rfl ?_
    refine spec.l9RuleOk.c (x := x) fun w2 hb2 => ?_
    have hbb := hb.trans (hb2.mono hb.size)
    refine And.intro (fun hq => ?_) (fun hq => ?_)
    · simp only [Bool.not_eq_true', decide_eq_false_iff_not] at hq
      exact kof (hk _ hbb) (by simp only [decide_eq_false_iff_not]; rintro ⟨_, h2⟩; exact hq (h2 x (List.mem_of_getElem? hx)))
    · simp only [Bool.not_eq_false', decide_eq_true_eq] at hq
      rw [i64_of (by omega) (by omega)]
      refine ⟨⟨n + 1, by omega, by omega, ?_, hbb⟩, by simp only; omega⟩
      rw [List.take_add_one, hx]
      intro y hy
      rcases List.mem_append.1 hy with h | h
      · exact hp y h
      · simp at h; subst h; exact hq
  · simp only [decide_eq_false_iff_not] at hge
    obtain rfl : n = l.length := by omega
    rw [List.take_length] at hp
    refine kof (hk _ hb) ?_
    rw [Bool.eq_iff_iff]
    simp only [decide_eq_true_eq]
    exact ⟨fun h => by have := h.1; omega, fun h => ⟨by omega, hp⟩⟩
end
/-! compact of a sorted list -/
theorem compact_asc (d : Array Int) (hd : ∀ i j, i ≤ j → j < d.size → d[i]! ≤ d[j]!) : ∀ m, m ≤ d.size → (Lib.compactUpTo d m).Pairwise (· < ·) ∧ ∀ x, x ∈ Lib.compactUpTo d m ↔ ∃ j, j < m ∧ d[j]! = x := by
  intro m
  induction m with
  | zero => intro _; simp [Lib.compactUpTo]
  | succ m ih =>
    intro hm
    obtain ⟨h1, h2⟩ := ih (by omega)
    rw [Lib.compactUpTo_succ]
    by_cases hk : Lib.keeps d m = true
    · rw [if_pos hk]
      have hk' : m = 0 ∨ d[m]! ≠ d[m - 1]! := by simpa [Lib.keeps] using hk
      constructor
      · refine List.pairwise_append.2 ⟨h1, by simp, fun a ha b hb => ?_⟩
        simp only [List.mem_singleton] at hb; subst hb
        obtain ⟨j, hj, rfl⟩ := (h2 a).1 ha
        have e1 := hd j (m - 1) (by omega) (by omega)
        have e2 := hd (m - 1) m (by omega) (by omega)
        rcases hk' with h | h <;> omega
      · intro x
        rw [List.mem_append, h2, List.mem_singleton]
        constructor
        · rintro (⟨j, hj, rfl⟩ | rfl)
          · exact ⟨j, by omega, rfl⟩
          · exact ⟨m, by omega, rfl⟩
        · rintro ⟨j, hj, rfl⟩
          rcases Nat.lt_or_ge j m with h | h
          · exact .inl ⟨j, h, rfl⟩
          · obtain rfl : j = m := by omega
            exact .inr rfl
    · rw [if_neg hk, List.append_nil]
      have hk' : m ≠ 0 ∧ d[m]! = d[m - 1]! := by simpa [Lib.keeps] using hk
      refine ⟨h1, fun x => ?_⟩
      rw [h2]
      constructor
      · rintro ⟨j, hj, rfl⟩; exact ⟨j, by omega, rfl⟩
      · rintro ⟨j, hj, rfl⟩
        rcases Nat.lt_or_ge j m with h | h
        · exact ⟨j, h, rfl⟩
        · obtain rfl : j = m := by omega
          exact ⟨j - 1, by omega, hk'.2.symm⟩
theorem sorted_le (xs : List Int) : (sorted xs).Pairwise (· ≤ ·) := by
  have := List.pairwise_mergeSort (le := fun x y : Int => decide (x ≤ y)) (by intro a b c; simp; omega) (by intro a b; simp; omega) xs
  exact this.imp fun h => by simpa using h
theorem mem_sorted' {x : Int} {xs : List Int} : x ∈ sorted xs ↔ x ∈ xs := by unfold sorted; exact List.mem_mergeSort
theorem compact_sorted {xs : List Int} {n : Nat} {f : Nat → Bool} (h : ∀ x, x ∈ xs ↔ ∃ i : Nat, x = i ∧ i < n ∧ f i = true) : Lib.compact (sorted xs) = picks n f := by
  have hd : ∀ i j, i ≤ j → j < (sorted xs).toArray.size → (sorted xs).toArray[i]! ≤ (sorted xs).toArray[j]! := by
    intro i j hij hj
    have hj' : j < (sorted xs).length := by simpa using hj
    rw [getElem!_pos _ i (by simp; omega), getElem!_pos _ j (by simp; omega)]
    rcases Nat.lt_or_ge i j with hlt | hge
    · exact List.pairwise_iff_getElem.1 (sorted_le xs) i j (by omega) hj' hlt
    · obtain rfl : i = j := by omega
      exact Int.le_refl _
  obtain ⟨h1, h2⟩ := compact_asc _ hd (sorted xs).length (by simp)
  have hc : Lib.compact (sorted xs) = Lib.compactUpTo (sorted xs).toArray (sorted xs).length := rfl
  rw [← hc] at h1 h2
  rw [← sorted_id h1]
  refine sorted_eq (h1.imp fun h => by omega) fun x => ?_
  rw [h2, ← h, ← mem_sorted']
  constructor
  · rintro ⟨j, hj, rfl⟩
    rw [getElem!_pos _ j (by simpa using hj)]
    simp
  · intro hx
    obtain ⟨j, hj⟩ := List.getElem?_of_mem hx
    have hl := lt_of_get hj
    refine ⟨j, hl, ?_⟩
    rw [getElem!_pos _ j (by simpa using hl)]
    rw [List.getElem?_eq_getElem hl] at hj
    simpa using hj
/-! what rules cut bytes at -/
def hits (rs : List Rule) (at_ n : Int) : Prop := n = 0 ∨ ∃ r ∈ rs, r.at_ = at_ ∧ (r.num = n ∨ r.num + 1 = n)
theorem hits_nil (at_ n : Int) : hits [] at_ n ↔ n = 0 := by simp [hits]
theorem hits_snoc (rs : List Rule) (r : Rule) (at_ n : Int) : hits (rs ++ [r]) at_ n ↔ hits rs at_ n ∨ (r.at_ = at_ ∧ (r.num = n ∨ r.num + 1 = n)) := by
  unfold hits
  constructor
  · rintro (h | ⟨q, hq, h⟩)
    · exact .inl (.inl h)
    · rcases List.mem_append.1 hq with h1 | h1
      · exact .inl (.inr ⟨q, h1, h⟩)
      · simp at h1; subst h1; exact .inr h
  · rintro ((h | ⟨q, hq, h⟩) | h)
    · exact .inl h
    · exact .inr ⟨q, List.mem_append.2 (.inl hq), h⟩
    · exact .inr ⟨r, by simp, h⟩
open Classical in
noncomputable def cuts (a b : List Rule) (at_ : Int) : List Int := picks 256 fun n => decide (hits (a ++ b) at_ n)
theorem elRule : El P0 23 40 kRule 40 := ⟨by kernel_rfl, ⟨_, _, Option.eq_some_of_isSome (by kernel_rfl), Option.eq_some_of_isSome (by kernel_rfl), by kernel_rfl, by kernel_rfl, by kernel_rfl⟩, by decide, noAnyRule⟩
section
variable {w : World} {s sa sb : Sl} {la lb : List Rule} {K : Sl → World → Prop}
theorem run_sl0 {a : Option Addr} {n c : Nat} (hc : n ≤ c) (m : Nat) (hm : m ≤ c) : (Instr.sliceAt 23 (.slice a n c) none (some (.int .i64 (m : Int))) none).run P0 w = .ok (.slice a m c) w := by
  have hmap : a.map (fun x => x.add 0) = a := by cases a <;> simp [Addr.add]
  have h1 : ((m : Int) ≤ (c : Int)) := by omega
  have hs : szOf P0 40 = some 5 := by kernel_rfl
  have hu : P0.underlying 23 = some (.slice 40) := by kernel_rfl
  simp [Instr.sliceAt, Instr.slice, underlying, hu, Instr.sliceBounds, Instr.sliceBound, asIntOf, run_sizeOf hs, h1, hm, hmap]
theorem slices.Grow_Rule.c {n : Nat} (hn : n ≤ 1048600) (hk : ∀ r w', OwnS kRule 40 w.heap.size w' r [] → Below w.heap.size w w' → K r w') :
    CallT (.o (.lf .sl)) P0 69 [.slice none 0 0, .int .i64 (n : Int)] w K := by
  refine slices.Grow_Rule.ok (s := ⟨none, 0, 0⟩) ⟨fun w' => w' = w, And.intro (fun h => by simp only [decide_eq_true_eq] at h; omega) (fun _ => rfl), ?_⟩
  rintro w1 rfl _
  have hw : IntKind.wrap .i64 ((n : Int) - IntKind.wrap .i64 (((0 : Nat) : Int) - ((0 : Nat) : Int))) = n := by
    rw [i64_of (n := ((0 : Nat) : Int) - ((0 : Nat) : Int)) (by omega) (by omega), i64_of (by omega) (by omega)]; omega
  simp only [hw]
  refine And.intro (fun h0 => ?_) (fun h0 => ?_)
  · simp only [decide_eq_true_eq] at h0
    refine ⟨⟨none, 0, 0⟩, w1, run_sl0 (Nat.le_refl _) 0 (Nat.le_refl _), ?_⟩
    obtain ⟨i, z, hi, hz, hsz, hby, hzs⟩ := elRule.info
    have hsz5 : i.size = 5 := hsz
    have hfit := growslice_fits (bytes := i.bytes) (show 0 < 0 + n by omega) (by rw [hby]; omega)
    have hr := Lib.run_append_grow_zeros (P := P0) w1 23 3 23 40 i z .i64 .i64 elRule.elem uI hi hz none 0 0 [] (run_firstCells_none w1.drew i.size 0 0 0) n (by omega) (by rw [hsz5]; decide) (by omega) (by omega) (by rw [hby]; omega) hfit
    have hG : 0 + n ≤ grownCap w1 (0 + n) 0 40 := grownCap_ge w1 _ _ _
    have hGm := grownCap_le_maxLen w1 (0 + n) 0 40 (by simp only [maxLen]; omega)
    obtain ⟨G, hGe⟩ : ∃ G, G = grownCap w1 (0 + n) 0 40 := ⟨_, rfl⟩
    rw [← hGe] at hr hG hGm
    refine ⟨⟨some ⟨w1.heap.size, 0, none⟩, 0 + n, G⟩, _, hr, ?_⟩
    refine ⟨⟨some ⟨w1.heap.size, 0, none⟩, 0, G⟩, _, run_sl0 hG 0 (Nat.zero_le _), hk _ _ ⟨rfl, rfl, .inr ⟨w1.heap.size, G, _, rfl, Nat.le_refl _, heap_alloc_new w1.drew _, Nat.zero_le _, hGm, ?_, by simp⟩⟩ ?_⟩
    · simp only [Array.size_append, size_zeroCells, hzs, List.size_toArray, List.length_nil, Nat.zero_add, ← Nat.add_mul]
      exact congrArg (· * kRule.ls.length) (show n + (G - n) = G by omega)
    · refine (Below.refl _ _).grown (row := none) ?_ (Nat.le_refl _) (by simp)
      exact ⟨rfl, rfl, rfl, by simp, fun k hk _ => heap_alloc_old w1.drew _ hk⟩
  · simp only [decide_eq_false_iff_not] at h0
    exact hk _ _ (OwnS.nil _ _ _ _) (Below.refl _ _)
theorem slices.Concat_Rule.c (h : SlR kSl w s [sa, sb]) (ha : SlR kRule w sa la) (hb : SlR kRule w sb lb) (hla : la.length ≤ 6) (hlb : lb.length ≤ 6)
    (hk : ∀ r w', OwnS kRule 40 w.heap.size w' r (la ++ lb) → Below w.heap.size w w' → K r w') : CallT (.o (.lf .sl)) P0 58 [s.v] w K := by
  have hn := h.len; have hna := ha.len; have hnb := hb.len
  have hn2 : s.n = 2 := hn
  refine slices.Concat_Rule.ok ⟨fun size i w' => ∃ n : Nat, i = n ∧ n ≤ 2 ∧ size = (([sa, sb].take n).map Sl.n).sum ∧ w' = w, fun _ i _ => 2 - i.toNat, ⟨0, rfl, by omega, by simp, rfl⟩, ?_⟩
  rintro size i w1 ⟨n, rfl, hn', rfl, rfl⟩ _
  have hle : ∀ m : Nat, m ≤ 2 → (([sa, sb].take m).map Sl.n).sum ≤ 12 := by
    intro m hm
    match m, hm with
    | 0, _ => simp
    | 1, _ => simp; omega
    | 2, _ => simp; omega
  refine And.intro (fun hlt => ?_) (fun hge => ?_)
  · simp only [decide_eq_true_eq] at hlt
    obtain ⟨x, hx⟩ := get_some (l := [sa, sb]) (k := n) (by simp; omega)
    refine ixL h (i := n) (by omega) (x := x) (by simpa using hx) rfl (l := .sl) (v := x) rfl ?_
    have h1 := hle n hn'
    have h2 := hle (n + 1) (by omega)
    have h3 : (([sa, sb].take (n + 1)).map Sl.n).sum = (([sa, sb].take n).map Sl.n).sum + x.n := by rw [List.take_add_one, hx]; simp
    rw [i64_of (n := (((([sa, sb].take n).map Sl.n).sum : Nat) : Int) + (x.n : Int)) (by omega) (by omega)]
    refine And.intro (fun hc => by simp only [decide_eq_true_eq] at hc; omega) (fun _ => ?_)
    rw [i64_of (by omega) (by omega)]
    exact ⟨⟨n + 1, by omega, by omega, by rw [h3]; omega, rfl⟩, by simp only; omega⟩
  · simp only [decide_eq_false_iff_not] at hge
    obtain rfl : n = 2 := by omega
    have h12 := hle 2 (by omega)
    refine slices.Grow_Rule.c (by omega) fun r w2 hr hb2 => ?_
    refine ⟨fun out i w' => ∃ n : Nat, i = n ∧ n ≤ 2 ∧ OwnS kRule 40 w1.heap.size w' out (([la, lb].take n).flatten) ∧ Below w1.heap.size w1 w', fun _ i _ => 2 - i.toNat, ⟨0, rfl, by omega, by simpa using hr, hb2⟩, ?_⟩
    rintro out i w3 ⟨n, rfl, hn3, ho3, hb3⟩ _
    refine And.intro (fun hlt => ?_) (fun hge => ?_)
    · simp only [decide_eq_true_eq] at hlt
      obtain ⟨x, hx⟩ := get_some (l := [sa, sb]) (k := n) (by simp; omega)
      obtain ⟨L, hL⟩ := get_some (l := [la, lb]) (k := n) (by simp; omega)
      have hxL : SlR kRule w1 x L ∧ L.length ≤ 6 ∧ ([la, lb].take n).flatten.length ≤ 6 := by
        have : n = 0 ∨ n = 1 := by omega
        rcases this with rfl | rfl
        · simp at hx hL; subst hx; subst hL; exact ⟨ha, hla, by simp⟩
        · simp at hx hL; subst hx; subst hL; exact ⟨hb, hlb, by simpa using hla⟩
      refine ixL (h.below hb3) (i := n) (by omega) (x := x) (by simpa using hx) rfl (l := .sl) (v := x) rfl ?_
      refine apS elRule ho3 (hxL.1.below hb3) (by omega) (by omega) hb3.size fun s' w4 ho4 hg4 _ _ => ?_
      rw [i64_of (by omega) (by omega)]
      refine ⟨⟨n + 1, by omega, by omega, ?_, hb3.grown hg4 hb3.size (fun b hb => (ho3.blk hb).1)⟩, by simp only; omega⟩
      rw [List.take_add_one, hL]
      simpa using ho4
    · simp only [decide_eq_false_iff_not] at hge
      obtain rfl : n = 2 := by omega
      exact hk _ _ (by simpa using ho3) hb3
theorem kSl_lit {w : World} {x y : Sl} {t : TypeId} {w' : World} (hc : w'.heap[w.heap.size]? = some (.cells #[x.v, y.v] t (0, 0))) : SlR kSl w' ⟨some ⟨w.heap.size, 0, none⟩, 2, 2⟩ [x, y] :=
  (OwnS.lit (k := kSl) (t := t) (B := 0) (xs := [x, y]) (Nat.zero_le _) hc rfl rfl (by simp [maxLen])).read
theorem impl.cuts.c {at_ : Int} (ha : SlR kRule w sa la) (hb : SlR kRule w sb lb) (hpa : RulesP la) (hpb : RulesP lb)
    (hk : ∀ r w', OwnS kI 3 w.heap.size w' r (cuts la lb at_) → Below w.heap.size w w' → K r w') : CallT (.o (.lf .sl)) P0 39 [sa.v, sb.v, .int .i64 at_] w K := by
  refine impl.cuts.ok (nw fun w1 hb1 hs1 hc1 => ?_)
  have ho1 : OwnS kI 3 w.heap.size w1 ⟨some ⟨w.heap.size, 0, none⟩, 1, 1⟩ [0] := OwnS.lit (k := kI) (Nat.le_refl _) hc1 rfl rfl (by simp [maxLen])
  refine nw fun w2 hb2 hs2 hc2 => ?_
  have hb12 := hb1.trans (hb2.mono hb1.size)
  refine slices.Concat_Rule.c (s := ⟨some ⟨w1.heap.size, 0, none⟩, 2, 2⟩) (kSl_lit hc2) (ha.below hb12) (hb.below hb12) hpa.1 hpb.1 fun r w3 hr3 hb3 => ?_
  have hb13 := hb12.trans (hb3.mono hb12.size)
  have hrn := hr3.len
  have hall : ∀ x ∈ la ++ lb, RuleP x := fun x hx => (List.mem_append.1 hx).elim (hpa.2 x) (hpb.2 x)
  have hlen : (la ++ lb).length ≤ 12 := by rw [List.length_append]; have := hpa.1; have := hpb.1; omega
  refine ⟨fun out i w' => ∃ (n : Nat) (xs : List Int), i = n ∧ n ≤ (la ++ lb).length ∧ OwnS kI 3 w.heap.size w' out xs ∧ OwnS kRule 40 w2.heap.size w' r (la ++ lb) ∧ xs.length ≤ 1 + 2 * n ∧ (∀ x, x ∈ xs ↔ hits ((la ++ lb).take n) at_ x ∧ x < 256) ∧ Below w.heap.size w w', fun _ i _ => (la ++ lb).length - i.toNat,
    ⟨0, [0], rfl, by omega, (ho1.below hb2).below hb3, hr3, by simp, fun x => by simp [hits_nil]; omega, hb13⟩, ?_⟩
  rintro out i w4 ⟨n, xs, rfl, hn, ho4, hr4, hxl, hx4, hb4⟩ _
  -- rows of rules and rows of numbers lie apart
  have apart : ∀ {w' : World} {t : Sl} {T : List Int}, OwnS kRule 40 w2.heap.size w' r (la ++ lb) → OwnS kI 3 w.heap.size w' t T → ∀ b, t.bk = some b → (Value.slice r.a r.n r.c).ownBlock ≠ some b := by
    intro w' t T h1 h2 b hb e
    rw [ob_bk] at e
    rcases h1.wr.2.2.2 with h0 | ⟨b1, o1, c1, ha1, _, hh1, _⟩
    · simp [Sl.bk, h0.1] at e
    · rcases h2.wr.2.2.2 with h0 | ⟨b2, o2, c2, ha2, _, hh2, _⟩
      · simp [Sl.bk, h0.1] at hb
      · simp only [Sl.bk, ha1, ha2, Option.map_some, Option.some.injEq] at hb e
        subst hb; subst e
        rw [hh1] at hh2
        simp at hh2
  refine And.intro (fun hlt => ?_) (fun hge => ?_)
  · simp only [decide_eq_true_eq] at hlt
    obtain ⟨x, hx⟩ := get_some (l := la ++ lb) (k := n) (by omega)
    have hp := hall x (List.mem_of_getElem? hx)
    have htk : (la ++ lb).take (n + 1) = (la ++ lb).take n ++ [x] := by rw [List.take_add_one, hx]; rfl
    have hwr : IntKind.wrap .i64 ((n : Int) + 1) = (n : Int) + 1 := i64_of (by omega) (by omega)
    refine ixA hr4.read (i := n) (by omega) (x := x) (by simpa using hx) rfl ?_
    refine nwStRule (x := x) fun w5 hb5 hs5 hc5 => ?_
    have hb45 := hb4.trans (hb5.mono hb4.size)
    refine ldB hc5 (x := x.at_) rfl ?_
    refine And.intro (fun hne => ?_) (fun he => ?_)
    · simp only [bne_iff_ne, ne_eq] at hne
      rw [hwr]
      refine ⟨⟨n + 1, xs, by omega, by omega, ho4.below hb5, hr4.below hb5, by omega, fun y => ?_, hb45⟩, by simp only; omega⟩
      rw [htk, hits_snoc, hx4 y]
      simp [hne]
    · simp only [bne_eq_false_iff_eq] at he
      refine ldB hc5 (x := x.num) rfl ?_
      refine ap1 elI (ho4.below hb5) x.num rfl (by omega) (by omega) hb45.size fun o6 w6 ho6 hg6 hbk6 => ?_
      rw [ob_bk] at hg6
      have hb6 := hb45.grown hg6 hb45.size (fun b hb => (ho4.blk ((ob_bk _).trans hb)).1)
      have hr6 := (hr4.below hb5).kept hg6 (apart (hr4.below hb5) (ho4.below hb5))
      have hc6 := (hg6.block w4.heap.size (by omega) (fun e => by have := (ho4.blk ((ob_bk _).trans e.symm)).2; omega)).trans hc5
      refine ldB hc6 (x := x.num) rfl ?_
      refine And.intro (fun hlt => ?_) (fun hge => ?_)
      · simp only [decide_eq_true_eq] at hlt
        refine ldB hc6 (x := x.num) rfl ?_
        rw [i64_of (n := x.num + 1) (by have := hp.2.2.1; omega) (by omega)]
        refine ap1 elI ho6 (x.num + 1) rfl (by simp; omega) (by simp; omega) hb6.size fun o7 w7 ho7 hg7 hbk7 => ?_
        rw [ob_bk] at hg7
        rw [hwr]
        refine ⟨⟨n + 1, _, by omega, by omega, ho7, hr6.kept hg7 (apart hr6 ho6), by simp; omega, fun y => ?_, hb6.grown hg7 hb6.size (fun b hb => (ho6.blk ((ob_bk _).trans hb)).1)⟩, by simp only; omega⟩
        rw [htk, hits_snoc, List.mem_append, List.mem_append, hx4 y]
        simp only [List.mem_singleton, he, true_and]
        constructor
        · rintro ((⟨h1, h2⟩ | h) | h)
          · exact ⟨.inl h1, h2⟩
          · exact ⟨.inr (.inl h.symm), by omega⟩
          · exact ⟨.inr (.inr h.symm), by omega⟩
        · rintro ⟨h1 | h1 | h1, h2⟩
          · exact .inl (.inl ⟨h1, h2⟩)
          · exact .inl (.inr h1.symm)
          · exact .inr h1.symm
      · simp only [decide_eq_false_iff_not] at hge
        have := hp.2.2.1
        rw [hwr]
        refine ⟨⟨n + 1, _, by omega, by omega, ho6, hr6, by simp; omega, fun y => ?_, hb6⟩, by simp only; omega⟩
        rw [htk, hits_snoc, List.mem_append, hx4 y]
        simp only [List.mem_singleton, he, true_and]
        constructor
        · rintro (⟨h1, h2⟩ | h)
          · exact ⟨.inl h1, h2⟩
          · exact ⟨.inr (.inl h.symm), by omega⟩
        · rintro ⟨h1 | h1 | h1, h2⟩
          · exact .inl ⟨h1, h2⟩
          · exact .inr h1.symm
          · omega
  · simp only [decide_eq_false_iff_not] at hge
    obtain rfl : n = (la ++ lb).length := by omega
    rw [List.take_length] at hx4
    refine sort_own ho4 (by omega) fun w5 ho5 hg5 => ?_
    refine compact_own ho5 fun o6 w6 ho6 hg6 => ?_
    have hb5 := hb4.grown hg5 hb4.size (fun b hb => (ho4.blk hb).1)
    have hb6 := hb5.grown hg6 hb5.size (fun b hb => (ho5.blk hb).1)
    refine hk _ _ ?_ hb6
    rw [compact_sorted (n := 256) (f := fun n => @decide (hits (la ++ lb) at_ n) (Classical.propDecidable _))] at ho6
    · exact ho6
    · intro x
      rw [hx4]
      simp only [decide_eq_true_eq]
      constructor
      · rintro ⟨h1, h2⟩
        have h0 : 0 ≤ x := by
          rcases h1 with h | ⟨r, hr, _, h⟩
          · omega
          · have := (hall r hr).2.2.1; omega
        exact ⟨x.toNat, by omega, by omega, by rw [show ((x.toNat : Nat) : Int) = x by omega]; exact h1⟩
      · rintro ⟨i, rfl, hi, h⟩; exact ⟨h, by omega⟩
theorem spec.l14Cuts.c {at_ : Int} (h : SlR kSl w s [sa, sb]) (ha : SlR kRule w sa la) (hb : SlR kRule w sb lb) (hpa : RulesP la) (hpb : RulesP lb)
    (hk : ∀ r w', OwnS kI 3 w.heap.size w' r (cuts la lb at_) → Below w.heap.size w w' → K r w') : CallT (.o (.lf .sl)) P0 29 [s.v, .int .i64 at_] w K := by
  have hn := h.len
  have hn2 : s.n = 2 := hn
  refine spec.l14Cuts.ok (mkS (n := 257) mkB (by omega) (by simp [maxLen]) fun r w1 hb1 hr1 => ?_)
  rw [bits_rep] at hr1
  have bk : ∀ b, r.bk = some b → w.heap.size ≤ b := fun b hb => (hr1.blk hb).1
  refine stBit hr1 (Int.le_refl _) (by omega) fun w2 hr2 hg2 => ?_
  have hb2 := hb1.grown hg2 hb1.size bk
  refine ⟨fun i w' => ∃ (n : Nat) (f : Nat → Bool), i = n ∧ n ≤ 2 ∧ WrS kB 4 w.heap.size w' r (bits 257 f) ∧ (∀ j : Nat, j < 257 → (f j = true ↔ hits (([la, lb].take n).flatten) at_ j)) ∧ Below w.heap.size w w', fun i _ => 2 - i.toNat,
    ⟨0, _, rfl, by omega, hr2, fun j hj => by simp [hits_nil], hb2⟩, ?_⟩
  rintro i w3 ⟨n, f, rfl, hn3, hr3, hf3, hb3⟩ _
  refine And.intro (fun hlt => ?_) (fun hge => ?_)
  · simp only [decide_eq_true_eq] at hlt
    obtain ⟨x, hx⟩ := get_some (l := [sa, sb]) (k := n) (by simp; omega)
    obtain ⟨L, hL⟩ := get_some (l := [la, lb]) (k := n) (by simp; omega)
    have hxL : SlR kRule w x L ∧ RulesP L := by
      have : n = 0 ∨ n = 1 := by omega
      rcases this with rfl | rfl
      · simp at hx hL; subst hx; subst hL; exact ⟨ha, hpa⟩
      · simp at hx hL; subst hx; subst hL; exact ⟨hb, hpb⟩
    have hxn := hxL.1.len
    have hL6 := hxL.2.1
    have hx' : [sa, sb][((n : Nat) : Int).toNat]? = some x := by simpa using hx
    refine ⟨fun k w' => ∃ (m : Nat) (g : Nat → Bool), k = m ∧ m ≤ L.length ∧ WrS kB 4 w.heap.size w' r (bits 257 g) ∧ (∀ j : Nat, j < 257 → (g j = true ↔ hits (([la, lb].take n).flatten ++ L.take m) at_ j)) ∧ Below w.heap.size w w', fun k _ => L.length - k.toNat,
      ⟨0, f, rfl, by omega, hr3, by simpa using hf3, hb3⟩, ?_⟩
    rintro k w4 ⟨m, g, rfl, hm, hr4, hg4, hb4⟩ _
    refine ixL (h.below hb4) (i := n) (by omega) hx' rfl (l := .sl) (v := x) rfl ?_
    refine And.intro (fun hlt4 => ?_) (fun hge4 => ?_)
    · simp only [decide_eq_true_eq] at hlt4
      obtain ⟨y, hy⟩ := get_some (l := L) (k := m) (by omega)
      have hy' : L[((m : Nat) : Int).toNat]? = some y := by simpa using hy
      have hyp := hxL.2.2 y (List.mem_of_getElem? hy)
      have hnum := hyp.2.2.1
      have htk : ([la, lb].take n).flatten ++ L.take (m + 1) = (([la, lb].take n).flatten ++ L.take m) ++ [y] := by rw [List.take_add_one, hy, List.append_assoc]; rfl
      have hwr : IntKind.wrap .i64 ((m : Int) + 1) = (m : Int) + 1 := i64_of (by omega) (by omega)
      refine ixL (h.below hb4) (i := n) (by omega) hx' rfl (l := .sl) (v := x) rfl ?_
      refine ixF (hxL.1.below hb4) (i := m) (by omega) hy' rfl (v := y.at_) rfl ?_
      refine And.intro (fun he => ?_) (fun hne => ?_)
      · simp only [beq_iff_eq] at he
        refine ixL (h.below hb4) (i := n) (by omega) hx' rfl (l := .sl) (v := x) rfl ?_
        refine ixF (hxL.1.below hb4) (i := m) (by omega) hy' rfl (v := y.num) rfl ?_
        refine stBit hr4 hnum.1 (by omega) fun w5 hr5 hg5 => ?_
        have hb5 := hb4.grown hg5 hb4.size bk
        refine ixL (h.below hb5) (i := n) (by omega) hx' rfl (l := .sl) (v := x) rfl ?_
        refine ixF (hxL.1.below hb5) (i := m) (by omega) hy' rfl (v := y.num) rfl ?_
        rw [i64_of (n := y.num + 1) (by omega) (by omega)]
        refine stBit hr5 (by omega) (by omega) fun w6 hr6 hg6 => ?_
        have hb6 := hb5.grown hg6 hb5.size bk
        rw [hwr]
        refine ⟨⟨m + 1, _, by omega, by omega, hr6, fun j hj => ?_, hb6⟩, by simp only; omega⟩
        rw [htk, hits_snoc, Bool.or_eq_true, Bool.or_eq_true, hg4 j hj]
        simp only [decide_eq_true_eq, he, true_and]
        constructor
        · rintro ((h | h) | h)
          · exact .inl h
          · exact .inr (.inl (by omega))
          · exact .inr (.inr (by omega))
        · rintro (h | h | h)
          · exact .inl (.inl h)
          · exact .inl (.inr (by omega))
          · exact .inr (by omega)
      · simp only [beq_eq_false_iff_ne, ne_eq] at hne
        rw [hwr]
        refine ⟨⟨m + 1, g, by omega, by omega, hr4, fun j hj => ?_, hb4⟩, by simp only; omega⟩
        rw [htk, hits_snoc, hg4 j hj]
        simp [hne]
    · simp only [decide_eq_false_iff_not] at hge4
      obtain rfl : m = L.length := by omega
      rw [i64_of (by omega) (by omega)]
      refine ⟨⟨n + 1, g, by omega, by omega, hr4, fun j hj => ?_, hb4⟩, by simp only; omega⟩
      rw [hg4 j hj, List.take_length, List.take_add_one, hL]
      simp
  · simp only [decide_eq_false_iff_not] at hge
    obtain rfl : n = 2 := by omega
    refine nw fun w4 hb4 hs4 hc4 => ?_
    have ho4 : OwnS kI 3 w.heap.size w4 ⟨some ⟨w3.heap.size, 0, none⟩, 0, 0⟩ [] := OwnS.lit hb3.size hc4 rfl rfl (by simp)
    refine collect (n := 256) (m := 257) (f := f) (hr3.below hb4).read (by omega) (by omega) ho4 (by have := hb3.size; omega) ?_ ?_
    · intro b o hb
      have hbk : r.bk = some b := by simp [Sl.bk, hb]
      have h1 := hr3.blk hbk
      refine ⟨by omega, fun b' hb' e => ?_⟩
      simp only [Sl.bk, Option.map_some, Option.some.injEq] at hb'
      omega
    · intro out w5 ho5 hb5
      refine hk _ _ ?_ ((hb3.trans (hb4.mono hb3.size)).trans (hb5 _ (Nat.le_refl _)))
      have : cuts la lb at_ = picks 256 f := by
        unfold cuts
        refine picks_congr fun i hi => ?_
        rw [Bool.eq_iff_iff, hf3 i (by omega)]
        simp
      rw [this]; exact ho5
/-- How many pieces, after so many bytes. -/
noncomputable def many (a b : List Rule) : Nat → Int
  | 0 => 1
  | n + 1 => IntKind.wrap .i64 (many a b n * ((cuts a b n).length : Int))
noncomputable def pieces (a b : List Rule) : Int := many a b 12
theorem impl.pieces.c {K : Int → World → Prop} (ha : SlR kRule w sa la) (hb : SlR kRule w sb lb) (hpa : RulesP la) (hpb : RulesP lb) (hk : ∀ w', Below w.heap.size w w' → K (pieces la lb) w') :
    CallT (.o (.lf (.i .i64))) P0 24 [sa.v, sb.v] w K := by
  refine impl.pieces.ok ⟨fun p i w' => ∃ n : Nat, i = n ∧ n ≤ 12 ∧ p = many la lb n ∧ Below w.heap.size w w', fun _ i _ => 12 - i.toNat, ⟨0, rfl, by omega, rfl, Below.refl _ _⟩, ?_⟩
  rintro p i w1 ⟨n, rfl, hn, rfl, hb1⟩ _
  refine And.intro (fun hlt => ?_) (fun hge => ?_)
  · simp only [decide_eq_true_eq] at hlt
    refine impl.cuts.c (ha.below hb1) (hb.below hb1) hpa hpb fun r w2 hr hb2 => ?_
    rw [i64_of (n := (n : Int) + 1) (by omega) (by omega), hr.len]
    exact ⟨⟨n + 1, by omega, by omega, rfl, hb1.trans (hb2.mono hb1.size)⟩, by simp only; omega⟩
  · simp only [decide_eq_false_iff_not] at hge
    obtain rfl : n = 12 := by omega
    exact hk _ hb1
theorem spec.l14Ways.c {K : Int → World → Prop} (ha : SlR kRule w sa la) (hb : SlR kRule w sb lb) (hpa : RulesP la) (hpb : RulesP lb) (hk : ∀ w', Below w.heap.size w w' → K (pieces la lb) w') :
    CallT (.o (.lf (.i .i64))) P0 18 [sa.v, sb.v] w K := by
  refine spec.l14Ways.ok ⟨fun p i w' => ∃ n : Nat, i = n ∧ n ≤ 12 ∧ p = many la lb n ∧ Below w.heap.size w w', fun _ i _ => 12 - i.toNat, ⟨0, rfl, by omega, rfl, Below.refl _ _⟩, ?_⟩
  rintro p i w1 ⟨n, rfl, hn, rfl, hb1⟩ _
  refine And.intro (fun hlt => ?_) (fun hge => ?_)
  · simp only [decide_eq_true_eq] at hlt
    refine nw fun w2 hb2 hs2 hc2 => ?_
    have hb12 := hb1.trans (hb2.mono hb1.size)
    refine spec.l14Cuts.c (s := ⟨some ⟨w1.heap.size, 0, none⟩, 2, 2⟩) (kSl_lit hc2) (ha.below hb12) (hb.below hb12) hpa hpb fun r w3 hr hb3 => ?_
    rw [i64_of (n := (n : Int) + 1) (by omega) (by omega), hr.len]
    exact ⟨⟨n + 1, by omega, by omega, rfl, hb12.trans (hb3.mono hb12.size)⟩, by simp only; omega⟩
  · simp only [decide_eq_false_iff_not] at hge
    obtain rfl : n = 12 := by omega
    exact hk _ hb1
noncomputable def samePieces (a b : List Rule) : Int := if RulesP a ∧ RulesP b then pieces a b else -1
theorem impl.SamePieces.c {K : Int → World → Prop} (ha : SlR kRule w sa la) (hb : SlR kRule w sb lb) (hk : ∀ w', Below w.heap.size w w' → K (samePieces la lb) w') :
    CallT (.o (.lf (.i .i64))) P0 10 [sa.v, sb.v] w K := by
  refine impl.SamePieces.ok (impl.RulesOk.c ha fun w1 hb1 => ?_)
  refine And.intro (fun hq => ?_) (fun hq => ?_)
  · simp at hq; exact kof (hk _ hb1) (by simp [samePieces, hq])
  · simp at hq
    refine impl.RulesOk.c (hb.below hb1) fun w2 hb2 => ?_
    have hb12 := hb1.trans (hb2.mono hb1.size)
    refine And.intro (fun hp => ?_) (fun hp => ?_)
    · simp at hp; exact kof (hk _ hb12) (by simp [samePieces, hp])
    · simp at hp
      refine impl.pieces.c (ha.below hb12) (hb.below hb12) hq hp fun w3 hb3 => kof (hk _ (hb12.trans (hb3.mono hb12.size))) (by simp [samePieces, hp, hq])
end
end Go.Proofs.YtdlnoabihfnmmaaGreat.V

/- Contracts: what rules say of bytes; the bytes that are looked at, in their order; the reference's search. -/
namespace Go.Proofs.YtdlnoabihfnmmaaGreat.V
open Go Go.RowKit
set_option linter.unusedVariables false
set_option linter.unusedSimpArgs false
def holdsB (op a b : Int) : Bool := if op = 12 then a == b else if op = 13 then a != b else if op = 14 then decide (a < b) else decide (a > b)
theorem impl.holds.c {op a b : Int} {w : World} {K : Bool → World → Prop} (hk : K (holdsB op a b) w) : CallT (.o (.lf .b)) P0 38 [.int .i64 op, .int .i64 a, .int .i64 b] w K := by
  refine impl.holds.ok ?_
  unfold impl.holds.vc
  unfold holdsB at hk
  refine And.intro (fun h => ?_) (fun h => And.intro (fun h2 => ?_) (fun h2 => And.intro (fun h3 => ?_) (fun h3 => ?_))) <;> simp_all
theorem spec.l2Holds.c {op a b : Int} {w : World} {K : Bool → World → Prop} (hk : K (holdsB op a b) w) : CallT (.o (.lf .b)) P0 47 [.int .i64 op, .int .i64 a, .int .i64 b] w K := by
  refine spec.l2Holds.ok ?_
  unfold spec.l2Holds.vc
  unfold holdsB at hk
  refine And.intro (fun h => ?_) (fun h => And.intro (fun h2 => ?_) (fun h2 => And.intro (fun h3 => ?_) (fun h3 => ?_))) <;> simp_all
/-- Twelve bytes. -/
def Came (cs : List Int) : Prop := cs.length = 12 ∧ ∀ x ∈ cs, 0 ≤ x ∧ x ≤ 255
/-- What rules say of bytes: a verdict and a key. -/
def ruledL : List Rule → List Int → Int × Int
  | [], _ => (1, 0)
  | r :: rs, cs => if holdsB r.op (cs.getD r.at_.toNat 0) r.num then (r.verdict, r.key) else ruledL rs cs
theorem str_get {cs : List Int} {i : Nat} {x : Int} (h : cs[i]? = some x) (hx : 0 ≤ x ∧ x ≤ 255) : ∃ b, (strOfNums cs)[i]? = some b ∧ (b.toNat : Int) = x := by
  have hl := lt_of_get h
  have hs : i < (strOfNums cs).size := by rw [strOfNums_size]; exact hl
  refine ⟨(strOfNums cs)[i], getElem?_pos (strOfNums cs) i hs, ?_⟩
  have h1 : (strOfNums cs)[i] = UInt8.ofNat x.toNat := by
    have h2 := List.getElem?_eq_getElem hl
    rw [h] at h2
    simp only [Option.some.injEq] at h2
    show (strOfNums cs).data[i]'(hs) = _
    rw [← Array.getElem_toList]
    simp only [strOfNums_data, List.getElem_map]
    rw [← h2]
  rw [h1]
  simp; omega
theorem sxCame {cs : List Int} {i : Int} {x : Int} {w : World} {K : Int → World → Prop} (hi : 0 ≤ i) (h : cs[i.toNat]? = some x) (hx : 0 ≤ x ∧ x ≤ 255) (hk : K x w) : Sx (strOfNums cs) i w K := by
  obtain ⟨b, hb, hbx⟩ := str_get h hx
  exact ⟨hi, b, hb, by rw [hbx]; exact hk⟩
theorem qsxCame {cs : List Int} {i : Int} {x : Int} {K : Int → Prop} (hi : 0 ≤ i) (h : cs[i.toNat]? = some x) (hx : 0 ≤ x ∧ x ≤ 255) (hk : K x) : QSx (strOfNums cs) i K := by
  obtain ⟨b, hb, hbx⟩ := str_get h hx
  exact ⟨hi, b, hb, by rw [hbx]; exact hk⟩
theorem qcl' {r : Rs} {P : Program} {f : FuncId} {args : List Value} {C : World → Prop} {K : r.T → Prop} (x : r.T) (h : ∀ w {K' : r.T → World → Prop}, K' x w → CallT r P f args w K') (hk : K x) : QCl r P f args C K :=
  ⟨x, fun w hw => h w ⟨rfl, hw⟩, hk⟩
section
variable {w : World} {s : Sl} {l : List Rule} {cs : List Int}
theorem ruled_at {k : Nat} {x : Rule} (hx : l[k]? = some x) : ruledL (l.drop k) cs = if holdsB x.op (cs.getD x.at_.toNat 0) x.num then (x.verdict, x.key) else ruledL (l.drop (k + 1)) cs := by
  rw [getElem?_drop_cons hx]; rfl
theorem came_at (hc : Came cs) {x : Rule} (hx : RuleP x) : cs[x.at_.toNat]? = some (cs.getD x.at_.toNat 0) ∧ 0 ≤ cs.getD x.at_.toNat 0 ∧ cs.getD x.at_.toNat 0 ≤ 255 := by
  obtain ⟨y, hy⟩ := get_some (l := cs) (k := x.at_.toNat) (by have := hx.1; have := hc.1; omega)
  rw [List.getD_eq_getElem?_getD, hy]
  exact ⟨rfl, hc.2 y (List.mem_of_getElem? hy)⟩
theorem impl.ruled.c {K : Int × Int × Unit → World → Prop} (h : SlR kRule w s l) (hp : RulesP l) (hc : Came cs) (hk : ∀ w', Below w.heap.size w w' → K ((ruledL l cs).1, (ruledL l cs).2, ()) w') :
    CallT (.n [(.lf (.i .i64)), (.lf (.i .i64))]) P0 23 [s.v, .string (strOfNums cs)] w K := by
  have hn := h.len
  have hl := hp.1
  refine impl.ruled.ok ⟨fun i w' => ∃ k : Nat, i = k ∧ k ≤ l.length ∧ ruledL (l.drop k) cs = ruledL l cs ∧ Below w.heap.size w w', fun i _ => l.length - i.toNat, ⟨0, rfl, by omega, rfl, Below.refl _ _⟩, ?_⟩
  rintro i w1 ⟨k, rfl, hk1, hr, b1⟩ _
  refine And.intro (fun hlt => ?_) (fun hge => ?_)
  · simp only [decide_eq_true_eq] at hlt
    obtain ⟨x, hx⟩ := get_some (l := l) (k := k) (by omega)
    have hxp := hp.2 x (List.mem_of_getElem? hx)
    obtain ⟨hget, hb⟩ := came_at hc hxp
    have hra := ruled_at (cs := cs) hx
    refine ixA (h.below b1) (i := k) (by omega) (x := x) (by simpa using hx) rfl ?_
    refine nwStRule (x := x) fun w2 b2 s2 c2 => ?_
    have b12 := b1.trans (b2.mono b1.size)
    refine qldB c2 (x := x.op) rfl ?_
    refine qldB c2 (x := x.at_) rfl ?_
    refine qsxCame hxp.1.1 hget hb ?_
    refine qldB c2 (x := x.num) rfl ?_
    rw [i64_of (n := cs.getD x.at_.toNat 0) (by omega) (by omega)]
    refine qcl' (holdsB x.op (cs.getD x.at_.toNat 0) x.num) (fun w K' hK => impl.holds.c hK) ?_
    intro w3 b3
    have b13 := b12.trans (b3.mono b12.size)
    have c3 := (b3.block _ (by omega)).trans c2
    refine And.intro (fun ht => ?_) (fun hf => ?_)
    · refine qldB c3 (x := x.verdict) rfl ?_
      refine qldB c3 (x := x.key) rfl ?_
      intro w4 b4
      have := hk w4 (b13.trans (b4.mono b13.size))
      rw [← hr, hra, if_pos ht] at this
      exact this
    · rw [i64_of (n := (k : Int) + 1) (by omega) (by omega)]
      refine ⟨⟨k + 1, by omega, by omega, ?_, b13⟩, by simp only; omega⟩
      rw [← hr, hra, if_neg (by rw [hf]; simp)]
  · simp only [decide_eq_false_iff_not] at hge
    obtain rfl : k = l.length := by omega
    rw [List.drop_length] at hr
    have := hk w1 b1
    rw [← hr] at this
    exact this
theorem spec.l9Of.c {K : Int × Int × Unit → World → Prop} (h : SlR kRule w s l) (hp : RulesP l) (hc : Came cs) (hk : ∀ w', Below w.heap.size w w' → K ((ruledL l cs).1, (ruledL l cs).2, ()) w') :
    CallT (.n [(.lf (.i .i64)), (.lf (.i .i64))]) P0 30 [s.v, .string (strOfNums cs)] w K := by
  have hn := h.len
  have hl := hp.1
  refine spec.l9Of.ok ⟨fun i w' => ∃ k : Nat, i = k ∧ k ≤ l.length ∧ ruledL (l.drop k) cs = ruledL l cs ∧ Below w.heap.size w w', fun i _ => l.length - i.toNat, ⟨0, rfl, by omega, rfl, Below.refl _ _⟩, ?_⟩
  rintro i w1 ⟨k, rfl, hk1, hr, b1⟩ _
  refine And.intro (fun hlt => ?_) (fun hge => ?_)
  · simp only [decide_eq_true_eq] at hlt
    obtain ⟨x, hx⟩ := get_some (l := l) (k := k) (by omega)
    have hxp := hp.2 x (List.mem_of_getElem? hx)
    obtain ⟨hget, hb⟩ := came_at hc hxp
    have hra := ruled_at (cs := cs) hx
    have h1 := h.below b1
    have hx' : l[((k : Nat) : Int).toNat]? = some x := by simpa using hx
    refine qixF h1 (i := k) (by omega) hx' rfl (v := x.op) rfl ?_
    refine qixF h1 (i := k) (by omega) hx' rfl (v := x.at_) rfl ?_
    refine qsxCame hxp.1.1 hget hb ?_
    refine qixF h1 (i := k) (by omega) hx' rfl (v := x.num) rfl ?_
    rw [i64_of (n := cs.getD x.at_.toNat 0) (by omega) (by omega)]
    refine qcl' (holdsB x.op (cs.getD x.at_.toNat 0) x.num) (fun w K' hK => spec.l2Holds.c hK) ?_
    intro w3 b3
    have b13 := b1.trans (b3.mono b1.size)
    have h3 := h1.below b3
    refine And.intro (fun ht => ?_) (fun hf => ?_)
    · refine qixF h3 (i := k) (by omega) hx' rfl (v := x.verdict) rfl ?_
      refine qixF h3 (i := k) (by omega) hx' rfl (v := x.key) rfl ?_
      intro w4 b4
      have := hk w4 (b13.trans (b4.mono b13.size))
      rw [← hr, hra, if_pos ht] at this
      exact this
    · rw [i64_of (n := (k : Int) + 1) (by omega) (by omega)]
      refine ⟨⟨k + 1, by omega, by omega, ?_, b13⟩, by simp only; omega⟩
      rw [← hr, hra, if_neg (by rw [hf]; simp)]
  · simp only [decide_eq_false_iff_not] at hge
    obtain rfl : k = l.length := by omega
    rw [List.drop_length] at hr
    have := hk w1 b1
    rw [← hr] at this
    exact this
end
/-- The bytes that are looked at, in their order. -/
noncomputable def gen (a b : List Rule) : Nat → List Int → List (List Int)
  | 0, cs => [cs]
  | n + 1, cs => (cuts a b cs.length).flatMap fun x => gen a b n (cs ++ [x])
def diffB (a b : List Rule) (cs : List Int) : Bool := ((ruledL a cs).1 != (ruledL b cs).1) || ((ruledL a cs).2 != (ruledL b cs).2)
theorem cuts_byte {a b : List Rule} {i : Int} {x : Int} (h : x ∈ cuts a b i) : 0 ≤ x ∧ x ≤ 255 := by
  unfold cuts at h
  obtain ⟨j, rfl, hj, _⟩ := mem_picks.1 h
  omega
theorem cuts_length (a b : List Rule) (i : Int) : (cuts a b i).length ≤ 256 := picks_le _ _
/-- What the search hands back. -/
noncomputable def fres (a b : List Rule) (n : Nat) (cs : List Int) : ByteArray × Bool :=
  match (gen a b n cs).find? (diffB a b) with
  | some x => (strOfNums x, true)
  | none => (if n = 0 then strOfNums cs else ⟨#[]⟩, false)
theorem str_app (cs : List Int) (x : Int) : strOfNums cs ++ strOfNums [x] = strOfNums (cs ++ [x]) := by
  apply ByteArray.ext
  apply Array.ext'
  simp [strOfNums, ByteArray.data_append]
theorem find_flat {a b : List Rule} {n : Nat} {cs : List Int} {x : Int} {xs : List Int} : ((x :: xs).flatMap fun x => gen a b n (cs ++ [x])).find? (diffB a b) =
    match (gen a b n (cs ++ [x])).find? (diffB a b) with
    | some y => some y
    | none => (xs.flatMap fun x => gen a b n (cs ++ [x])).find? (diffB a b) := by
  rw [List.flatMap_cons, List.find?_append]
  cases (gen a b n (cs ++ [x])).find? (diffB a b) <;> rfl
set_option maxHeartbeats 1000000 in
theorem spec.l14Find.c {sa sb : Sl} {la lb : List Rule} (hpa : RulesP la) (hpb : RulesP lb) : ∀ (n : Nat) {cs : List Int} {w : World} {K : ByteArray × Bool × Unit → World → Prop}, cs.length + n = 12 → (∀ x ∈ cs, 0 ≤ x ∧ x ≤ 255) → SlR kRule w sa la → SlR kRule w sb lb →
    (∀ w', Below w.heap.size w w' → K ((fres la lb n cs).1, (fres la lb n cs).2, ()) w') → CallT (.n [(.lf .s), (.lf .b)]) P0 19 [sa.v, sb.v, .string (strOfNums cs)] w K
  | 0, cs, w, K, hn, hx, ha, hb, hk => by
    have hc : Came cs := ⟨by omega, hx⟩
    refine spec.l14Find.ok ?_
    unfold spec.l14Find.vc
    rw [strOfNums_size]
    refine And.intro (fun _ => ?_) (fun hne => by rw [beq_eq_false_iff_ne] at hne; omega)
    refine spec.l9Of.c ha hpa hc fun w1 b1 => ?_
    refine spec.l9Of.c (hb.below b1) hpb hc fun w2 b2 => ?_
    have := hk w2 (b1.trans (b2.mono b1.size))
    have hg : gen la lb 0 cs = [cs] := rfl
    unfold fres at this
    rw [hg] at this
    refine And.intro (fun hd => ?_) (fun hs => ?_)
    · have hdb : diffB la lb cs = true := by unfold diffB; rw [hd]; rfl
      rw [List.find?_cons, hdb] at this
      exact this
    · cases hs2 : ((ruledL la cs).2 != (ruledL lb cs).2) with
      | true =>
        have hdb : diffB la lb cs = true := by unfold diffB; rw [hs2]; simp
        rw [List.find?_cons, hdb] at this
        exact this
      | false =>
        have hdb : diffB la lb cs = false := by unfold diffB; rw [hs, hs2]; rfl
        rw [List.find?_cons, hdb] at this
        exact this
  | n + 1, cs, w, K, hn, hx, ha, hb, hk => by
    refine spec.l14Find.ok ?_
    unfold spec.l14Find.vc
    rw [strOfNums_size]
    refine And.intro (fun he => by rw [beq_iff_eq] at he; omega) (fun _ => ?_)
    refine nw fun w1 b1 s1 c1 => ?_
    have hlit := kSl_lit (x := sa) (y := sb) c1
    refine spec.l14Cuts.c (s := ⟨some ⟨w.heap.size, 0, none⟩, 2, 2⟩) hlit (ha.below b1) (hb.below b1) hpa hpb fun r w2 ho2 b2 => ?_
    have b12 := b1.trans (b2.mono b1.size)
    have hrn := ho2.len
    have hcl := cuts_length la lb (cs.length : Int)
    refine ⟨fun i w' => ∃ k : Nat, i = k ∧ k ≤ (cuts la lb cs.length).length ∧ Below w2.heap.size w2 w' ∧ (gen la lb (n + 1) cs).find? (diffB la lb) = (((cuts la lb cs.length).drop k).flatMap fun x => gen la lb n (cs ++ [x])).find? (diffB la lb), fun i _ => (cuts la lb cs.length).length - i.toNat, ⟨0, rfl, by omega, Below.refl _ _, rfl⟩, ?_⟩
    rintro i w3 ⟨k, rfl, hk1, b3, hf⟩ _
    have b13 := b12.trans (b3.mono b12.size)
    refine And.intro (fun hlt => ?_) (fun hge => ?_)
    · simp only [decide_eq_true_eq] at hlt
      obtain ⟨x, hxk⟩ := get_some (l := cuts la lb cs.length) (k := k) (by omega)
      have hxb := cuts_byte (List.mem_of_getElem? hxk)
      refine ixL (ho2.read.below b3) (i := k) (by omega) (x := x) (by simpa using hxk) rfl (l := .i .i64) (v := x) rfl ?_
      rw [show IntKind.wrap .u8 x = x by rw [IntKind.wrap_u8]; omega]
      refine nw fun w4 b4 s4 c4 => ?_
      have hconv := run_convert_bytes_arg (P := P0) w4 22 5 (by kernel_rfl) (by kernel_rfl) w3.heap.size 0 1 1 [x] rfl (fun i hi => by
        obtain rfl : i = 0 := by omega
        rw [cell_of c4]; rfl) 9 (by kernel_rfl)
      refine ⟨_, w4, hconv, ?_⟩
      have b14 := b13.trans (b4.mono b13.size)
      dsimp only
      rw [strOfNums_size, str_app]
      refine ⟨by have : IntKind.i64.max = 9223372036854775807 := rfl; simp; omega, ?_⟩
      refine spec.l14Find.c hpa hpb n (by simp; omega) (fun y hy => by rcases List.mem_append.1 hy with h | h; exact hx y h; simp at h; subst h; exact hxb) (ha.below b14) (hb.below b14) fun w5 b5 => ?_
      have b15 := b14.trans (b5.mono b14.size)
      rw [getElem?_drop_cons hxk, find_flat] at hf
      rw [i64_of (n := (k : Int) + 1) (by omega) (by omega)]
      have hfin := hk w5 b15
      unfold fres at hfin ⊢
      cases hg : (gen la lb n (cs ++ [x])).find? (diffB la lb) with
      | some y =>
        rw [hg] at hf
        rw [hf] at hfin
        refine And.intro (fun _ => hfin) (fun h => by simp at h)
      | none =>
        rw [hg] at hf
        refine And.intro (fun h => by simp at h) (fun _ => ?_)
        exact ⟨⟨k + 1, by omega, by omega, b3.trans ((b4.trans (b5.mono b4.size)).mono b3.size), hf⟩, by omega⟩
    · simp only [decide_eq_false_iff_not] at hge
      obtain rfl : k = (cuts la lb cs.length).length := by omega
      rw [List.drop_length] at hf
      have hfin := hk w3 b13
      unfold fres at hfin
      rw [hf] at hfin
      exact hfin
end Go.Proofs.YtdlnoabihfnmmaaGreat.V

/- Contracts: the least number of a range, in the reference. -/
namespace Go.Proofs.YtdlnoabihfnmmaaGreat.V
open Go Go.RowKit
set_option linter.unusedVariables false
set_option linter.unusedSimpArgs false
theorem next_gt {j lo : Nat} (h : lo.testBit j = false) : lo < cutN (j + 1) lo ||| 2 ^ j := by
  have h1 : cutN (j + 1) lo ||| 2 ^ j = cutN (j + 1) lo + 2 ^ j := by
    unfold cutN
    rw [Nat.mul_comm, Nat.two_pow_add_eq_or_of_lt (by rw [Nat.pow_succ]; have := Nat.two_pow_pos j; omega)]
  have h2 : cutN (j + 1) lo = cutN j lo := by
    apply Nat.eq_of_testBit_eq
    intro i
    rw [cutN_bit, cutN_bit]
    rcases Nat.lt_trichotomy i j with h3 | h3 | h3
    · simp [show ¬ j + 1 ≤ i by omega, show ¬ j ≤ i by omega]
    · subst h3; simp [h]
    · simp [show j + 1 ≤ i by omega, show j ≤ i by omega]
  rw [h1, h2]
  exact cutN_lt j lo
theorem next_cut {j lo : Nat} : cutN j (cutN (j + 1) lo ||| 2 ^ j) = cutN (j + 1) lo ||| 2 ^ j := by
  apply Nat.eq_of_testBit_eq
  intro i
  rw [cutN_bit, Nat.testBit_or, cutN_bit, Nat.testBit_two_pow]
  by_cases h : j ≤ i
  · simp [h]
  · simp [h, show ¬ j + 1 ≤ i by omega, show ¬ j = i by omega]
theorem bit_one {j lo : Nat} (hlo : lo < 2 ^ 32) : ((iAnd .i64 (Int.fdiv (lo : Int) ((2 : Int) ^ j)) 1 : Int) == 1) = lo.testBit j := by
  have h1 : Int.fdiv (lo : Int) ((2 : Int) ^ j) = ((lo / 2 ^ j : Nat) : Int) := by
    rw [Int.fdiv_eq_ediv_of_nonneg _ (by have := Int.pow_nonneg (n := 2) (m := j) (by omega); exact this)]
    rw [Int.natCast_ediv]; simp
  have h2 := Nat.div_le_self lo (2 ^ j)
  have h3 := iAnd_nat (a := lo / 2 ^ j) (b := 1) (by omega) (by omega)
  rw [h1, show (1 : Int) = ((1 : Nat) : Int) from rfl, h3, Nat.and_one_is_mod, Nat.testBit_eq_decide_div_mod_eq]
  rw [Bool.eq_iff_iff]; simp only [beq_iff_eq, decide_eq_true_eq]; omega
theorem min_bits {n : Nat} (hn : n ≤ 40) : min (Int.toNat (n : Int)) (IntKind.bits .i64) = n := by
  have : IntKind.bits .i64 = 64 := rfl
  rw [this]; omega
section
variable {w : World}
set_option maxHeartbeats 2000000 in
theorem spec.l2Next.c {k x lo : Nat} {a b : Int} {K : Int → World → Prop} (hk : k ≤ 32) (hx : x < 2 ^ 32) (hlo : lo < 2 ^ 32) (h : lo / 2 ^ k = x / 2 ^ k) (hK : ∀ w', Below w.heap.size w w' → K lo w') :
    CallT (.o (.lf (.i .i64))) P0 94 [.agg (Tup.cells (R 4 (.i .i64)) (rgk k x a b)).toArray, .int .i64 lo] w K := by
  refine spec.l2Next.ok ?_
  unfold spec.l2Next.vc
  have hm := M.start w
  refine nwM' hm fun w1 ar m1 => ?_
  have hp32 : ∀ q : Nat, q ≤ 32 → 2 ^ q ≤ 2 ^ 32 := fun q hq => Nat.pow_le_pow_right (by omega) hq
  refine ⟨fun best bit w' => ∃ nb : Nat, bit = nb ∧ nb ≤ 33 ∧ best = (if nb = 0 then (-1 : Int) else (lo : Int)) ∧ M w w' [(ar, rgk k x a b)], fun _ bit _ => 40 - bit.toNat, ⟨0, rfl, by omega, rfl, m1⟩, ?_⟩
  rintro best bit w2 ⟨nb, rfl, hnb, hbest, m2⟩ _
  clear m1 hm
  refine And.intro (fun hle => ?_) (fun hge => ?_)
  · simp only [decide_eq_true_eq] at hle
    have hnb2 : nb ≤ 32 := by omega
    refine ⟨fun b' w' => b' = (lo : Int) ∧ M w w' [(ar, rgk k x a b)], ?_, ?_⟩
    · refine ⟨Below w2.heap.size, belOk _, eqG 4294967295, keptEq, eqG ((2 ^ nb : Nat) : Int), keptEq, eqG ((2 ^ nb - 1 : Nat) : Int), keptEq, fun w3 hs => ?_, fun t14 => ⟨fun w3 hs => ⟨by omega, ?_⟩, fun t16 => ⟨fun w3 hs f16 => ?_, fun t18 w3 hs f14 f16 f18 => ?_⟩⟩⟩
      · exact spec.l2Top.c (gkE rfl (Below.refl _ _))
      · rw [shl_one (by omega)]; exact gkE rfl (Below.refl _ _)
      · cases f16
        have := Nat.two_pow_pos nb
        have := hp32 nb hnb2
        refine spec.l2Mask.p (n := nb) hnb2 ?_ (gkE rfl (Below.refl _ _))
        rw [i64_of (by omega) (by omega)]; omega
      · cases f14; cases f16; cases f18
        have m3 := m2.below hs
        clear m2
        refine ⟨fun z w' => M w w' [(ar, rgk k x a b)] ∧ ((nb = 0 ∧ z = (lo : Int)) ∨ (1 ≤ nb ∧ lo.testBit (nb - 1) = false ∧ z = ((cutN nb lo ||| 2 ^ (nb - 1) : Nat) : Int))), And.intro (fun hpos => ?_) (fun hpos => ?_), ?_⟩
        · simp only [decide_eq_true_eq] at hpos
          have e1 : IntKind.wrap .i64 ((nb : Int) - 1) = ((nb - 1 : Nat) : Int) := by rw [i64_of (by omega) (by omega)]; omega
          rw [e1, min_bits (by omega), bit_one hlo]
          refine ⟨by omega, fun hb => ⟨?_, m3⟩, fun hb => ⟨by omega, m3, .inr ⟨by omega, hb, ?_⟩⟩⟩
          · rw [hbest, if_neg (by omega)]
          · have e2 := shl_one (n := nb - 1) (by omega)
            rw [min_bits (by omega)] at e2
            rw [iAnd_top hnb2 hlo, e2]
            have c := cutN_le nb lo
            have := hp32 (nb - 1) (by omega)
            exact iOr_nat (by omega) (by omega)
        · simp only [decide_eq_false_iff_not] at hpos
          have : nb = 0 := by omega
          subst this
          refine ⟨m3, .inl ⟨rfl, ?_⟩⟩
          rw [iAnd_top (by omega) hlo]
          simp [cutN]
        · rintro z w4 ⟨m4, hz⟩ _
          have over : ∀ {w5 w' : World}, Below w5.heap.size w5 w' → CallT (.o (.lf (.i .i64))) P0 114 [.int .i64 nb] w' fun y w'' => y = iXor .i64 4294967295 ((2 ^ (nb - 1) - 1 : Nat) : Int) ∧ Below w5.heap.size w5 w'' :=
            fun hw' => spec.l2Over.c (by omega) fun w'' hb => ⟨rfl, hw'.trans (hb.mono hw'.size)⟩
          have hcx : cutN k x < 2 ^ 32 := Nat.lt_of_le_of_lt (cutN_le k x) hx
          have hcl : cutN k lo = cutN k x := cut_eq h
          refine qcl' (r := .o (.lf (.i .i64))) (4294967295 : Int) (fun w K' h => spec.l2Top.c h) ?_
          refine qldM m4 (by with_unfolding_all (repeat (first | exact List.mem_cons_self | refine List.mem_cons_of_mem _ ?_))) (by with_unfolding_all rfl) ?_
          refine qcl (r := .o (.lf (.i .i64))) _ (fun w' hw' => over hw') ?_
          refine qldM m4 (by with_unfolding_all (repeat (first | exact List.mem_cons_self | refine List.mem_cons_of_mem _ ?_))) (by with_unfolding_all rfl) ?_
          refine qcl (r := .o (.lf (.i .i64))) _ (fun w' hw' => over hw') ?_
          intro w5 hb5
          have m5 := m4.below hb5
          clear m4
          rcases hz with ⟨rfl, rfl⟩ | ⟨h1, hbit, rfl⟩
          · have e1 : iAnd .i64 (iAnd .i64 (lo : Int) (iXor .i64 4294967295 ((2 ^ k - 1 : Nat) : Int))) (iXor .i64 4294967295 ((2 ^ (0 - 1) - 1 : Nat) : Int)) = ((cutN k x : Nat) : Int) := by
              rw [iAnd_top hk hlo, hcl, iAnd_top (j := 0 - 1) (by omega) hcx]
              simp [cutN]
            have e2 : iAnd .i64 ((cutN k x : Nat) : Int) (iXor .i64 4294967295 ((2 ^ (0 - 1) - 1 : Nat) : Int)) = ((cutN k x : Nat) : Int) := by
              rw [iAnd_top (j := 0 - 1) (by omega) hcx]
              simp [cutN]
            refine And.intro (fun hc => ?_) (fun _ => ?_)
            · have hc' : (iAnd .i64 (iAnd .i64 (lo : Int) (iXor .i64 4294967295 ((2 ^ k - 1 : Nat) : Int))) (iXor .i64 4294967295 ((2 ^ (0 - 1) - 1 : Nat) : Int)) != iAnd .i64 ((cutN k x : Nat) : Int) (iXor .i64 4294967295 ((2 ^ (0 - 1) - 1 : Nat) : Int))) = true := hc
              rw [e1, e2] at hc'
              simp at hc'
            · refine qcl (r := .o (.lf (.i .i64))) _ (fun w' hw' => over hw') ?_
              refine qldM m5 (by with_unfolding_all (repeat (first | exact List.mem_cons_self | refine List.mem_cons_of_mem _ ?_))) (by with_unfolding_all rfl) ?_
              refine qcl' (r := .o (.lf (.i .i64))) (4294967295 : Int) (fun w K' h => spec.l2Top.c h) ?_
              refine qcl (r := .o (.lf (.i .i64))) _ (fun w' hw' => over hw') ?_
              intro w6 hb6
              have m6 := m5.below hb6
              refine And.intro (fun _ => ⟨?_, m6⟩) (fun hc => ?_)
              · have e3 : iXor .i64 4294967295 (iXor .i64 4294967295 ((2 ^ (0 - 1) - 1 : Nat) : Int)) = 0 := by decide
                show iOr .i64 (iAnd .i64 (lo : Int) (iXor .i64 4294967295 ((2 ^ (0 - 1) - 1 : Nat) : Int))) (iAnd .i64 ((cutN k x : Nat) : Int) (iXor .i64 4294967295 (iXor .i64 4294967295 ((2 ^ (0 - 1) - 1 : Nat) : Int)))) = (lo : Int)
                rw [e3, iAnd_top (j := 0 - 1) (by omega) hlo]
                have e4 := iAnd_nat (a := cutN k x) (b := 0) (by omega) (by omega)
                rw [show (0 : Int) = ((0 : Nat) : Int) from rfl, e4, Nat.and_zero]
                have e5 := iOr_nat (a := cutN (0 - 1) lo) (b := 0) (by simp [cutN]; omega) (by omega)
                rw [e5]
                simp [cutN]
              · exfalso
                have hb2 : best = -1 := hbest
                subst hb2
                simp at hc
          · have hb2 : best = (lo : Int) := by rw [hbest, if_neg (by omega)]
            subst hb2
            obtain ⟨j, rfl⟩ : ∃ j, nb = j + 1 := ⟨nb - 1, by omega⟩
            simp only [Nat.add_sub_cancel] at hbit over ⊢
            have hX : cutN (j + 1) lo ||| 2 ^ j < 2 ^ 32 := Nat.or_lt_two_pow (Nat.lt_of_le_of_lt (cutN_le _ _) hlo) (Nat.pow_lt_pow_right (by omega) (by omega))
            have hgt := next_gt hbit
            refine And.intro (fun _ => ⟨trivial, m5⟩) (fun _ => ?_)
            refine qcl (r := .o (.lf (.i .i64))) _ (fun w' hw' => over hw') ?_
            refine qldM m5 (by with_unfolding_all (repeat (first | exact List.mem_cons_self | refine List.mem_cons_of_mem _ ?_))) (by with_unfolding_all rfl) ?_
            refine qcl' (r := .o (.lf (.i .i64))) (4294967295 : Int) (fun w K' h => spec.l2Top.c h) ?_
            refine qcl (r := .o (.lf (.i .i64))) _ (fun w' hw' => over hw') ?_
            intro w6 hb6
            have m6 := m5.below hb6
            refine And.intro (fun hc => ?_) (fun _ => And.intro (fun hc => ?_) (fun _ => ⟨trivial, m6⟩))
            · simp at hc; omega
            · exfalso
              have hp := hp32 j (by omega)
              have e0 := iXor_top (j := j) (by omega)
              have h4 : 4294967295 ^^^ (2 ^ j - 1) < 2 ^ 32 := Nat.xor_lt_two_pow (by omega) (by omega)
              have e1 := iXor_nat (a := 4294967295) (b := 4294967295 ^^^ (2 ^ j - 1)) (by omega) (by omega)
              have h5 : 4294967295 ^^^ (4294967295 ^^^ (2 ^ j - 1)) < 2 ^ 32 := Nat.xor_lt_two_pow (by omega) h4
              have e2 := iAnd_nat (a := cutN k x) (b := 4294967295 ^^^ (4294967295 ^^^ (2 ^ j - 1))) (by omega) (by omega)
              have h6 : (cutN k x &&& (4294967295 ^^^ (4294967295 ^^^ (2 ^ j - 1)))) ≤ cutN k x := Nat.and_le_left
              have hc' : decide (iOr .i64 (iAnd .i64 ((cutN (j + 1) lo ||| 2 ^ j : Nat) : Int) (iXor .i64 4294967295 ((2 ^ j - 1 : Nat) : Int))) (iAnd .i64 ((cutN k x : Nat) : Int) (iXor .i64 4294967295 (iXor .i64 4294967295 ((2 ^ j - 1 : Nat) : Int)))) < (lo : Int)) = true := hc
              rw [iAnd_top (by omega) hX, next_cut, e0, show (4294967295 : Int) = ((4294967295 : Nat) : Int) from rfl, e1, e2, iOr_nat (by omega) (by omega)] at hc'
              simp only [decide_eq_true_eq] at hc'
              have h7 : (cutN (j + 1) lo ||| 2 ^ j) ≤ (cutN (j + 1) lo ||| 2 ^ j) ||| (cutN k x &&& (4294967295 ^^^ (4294967295 ^^^ (2 ^ j - 1)))) := Nat.left_le_or
              omega
    · rintro b' w3 ⟨rfl, m3⟩ _
      refine ⟨⟨nb + 1, by rw [i64_of (by omega) (by omega)]; omega, by omega, by simp, m3⟩, ?_⟩
      rw [i64_of (by omega) (by omega)]; simp only; omega
  · simp only [decide_eq_false_iff_not] at hge
    have : nb = 33 := by omega
    subst this
    have hb2 : best = (lo : Int) := hbest
    subst hb2
    exact hK _ m2.low
end
end Go.Proofs.YtdlnoabihfnmmaaGreat.V

/- Contracts: a range and a number, in the reference. -/
namespace Go.Proofs.YtdlnoabihfnmmaaGreat.V
open Go Go.RowKit
set_option linter.unusedVariables false
set_option linter.unusedSimpArgs false
section
variable {w : World}
theorem spec.l2Some.c {k x lo : Nat} {hi : Int} {K : Bool → World → Prop} (hk : k ≤ 32) (hx : x < 2 ^ 32) (hlo : lo < 2 ^ 32) (h : lo / 2 ^ k = x / 2 ^ k) (hK : ∀ w', Below w.heap.size w w' → K (decide ((lo : Int) ≤ hi)) w') :
    CallT (.o (.lf .b)) P0 73 [.agg (Tup.cells (R 4 (.i .i64)) (rgk k x lo hi)).toArray] w K := by
  refine spec.l2Some.ok ?_
  unfold spec.l2Some.vc
  have hm := M.start w
  refine nwM' hm fun w1 b m1 => ldAM m1 (by with_unfolding_all (repeat (first | exact List.mem_cons_self | refine List.mem_cons_of_mem _ ?_))) (ldM m1 (by with_unfolding_all (repeat (first | exact List.mem_cons_self | refine List.mem_cons_of_mem _ ?_))) (by with_unfolding_all rfl) ?_)
  refine spec.l2Next.c hk hx hlo h fun w2 hb2 => ?_
  have m2 := m1.below hb2
  refine And.intro (fun _ => ?_) (fun hc => ?_)
  · exact ldM m2 (by with_unfolding_all (repeat (first | exact List.mem_cons_self | refine List.mem_cons_of_mem _ ?_))) (by with_unfolding_all rfl) (hK _ m2.low)
  · simp at hc
theorem spec.l2Ends.c {K : T4 → World → Prop} (hK : ∀ w', Below w.heap.size w w' → K (ivl 0 255) w') : CallT (.o (.ag (R 4 (.i .i64)))) P0 25 [.int .i64 0, .int .i64 255] w K := by
  refine spec.l2Ends.ok ?_
  unfold spec.l2Ends.vc
  have hm := M.start w
  refine nwZ hm fun w1 b m1 => spec.l2Top.c ?_
  refine spec.l2Tidy.c (k := 32) (x := 0) (lo := 0) (hi := 255) (by omega) (by omega) (by omega) rfl (by decide) fun w2 hb => ?_
  have m2 := m1.below hb
  clear m1
  repeat' (first | (with_reducible refine ldM (by assumption) (by with_unfolding_all (repeat (first | exact List.mem_cons_self | refine List.mem_cons_of_mem _ ?_))) (by with_unfolding_all rfl) ?_) | (with_reducible refine ldAM (by assumption) (by with_unfolding_all (repeat (first | exact List.mem_cons_self | refine List.mem_cons_of_mem _ ?_))) ?_) | (with_reducible refine nwZ (by assumption) fun _ _ _ => ?_) | (with_reducible refine nwM' (by assumption) fun _ _ _ => ?_) | (with_reducible refine stM0 (by assumption) (by with_unfolding_all (repeat (first | exact Up.head _ _ _ _ | apply Up.tail))) fun _ _ => ?_) | (with_reducible refine stM1 (by assumption) (by with_unfolding_all (repeat (first | exact Up.head _ _ _ _ | apply Up.tail))) fun _ _ => ?_) | (with_reducible refine stM2 (by assumption) (by with_unfolding_all (repeat (first | exact Up.head _ _ _ _ | apply Up.tail))) fun _ _ => ?_) | (with_reducible refine stM3 (by assumption) (by with_unfolding_all (repeat (first | exact Up.head _ _ _ _ | apply Up.tail))) fun _ _ => ?_) | (with_reducible refine stAM' (by assumption) (by with_unfolding_all (repeat (first | exact Up.head _ _ _ _ | apply Up.tail))) fun _ _ => ?_) | (with_reducible refine stAL (by assumption) (by with_unfolding_all (repeat (first | exact Up.head _ _ _ _ | apply Up.tail))) fun _ _ => ?_) | (with_reducible refine And.intro (fun _ => ?_) (fun _ => ?_)) | (refine stAM' (by assumption) (by with_unfolding_all (repeat (first | exact Up.head _ _ _ _ | apply Up.tail))) fun _ _ => ?_))
  rename_i m3
  exact hK _ m3.low
/-- A range without a number, in the reference. -/
theorem spec.l2But.c {k lo hi n : Nat} {K : T4 × Bool × Unit → World → Prop} (hk : k ≤ 32) (hle : lo ≤ hi) (hhi : hi < 2 ^ 31) (h1 : lo / 2 ^ k = hi / 2 ^ k)
    (hK : ∀ w', Below w.heap.size w w' → K (if lo = n ∧ hi = n then ((1, 0, 0, 0, ()), false, ()) else (ivl (if lo = n then n + 1 else lo) (if hi = n then n - 1 else hi), true, ())) w') :
    CallT (.n [(.ag (R 4 (.i .i64))), (.lf .b)]) P0 74 [.agg (Tup.cells (R 4 (.i .i64)) (rgk k lo lo hi)).toArray, .int .i64 n] w K := by
  refine spec.l2But.ok ?_
  unfold spec.l2But.vc
  have hm := M.start w
  refine nwM' hm fun w1 ba m1 => nwZ m1 fun w2 bt m2 => ?_
  clear hm m1
  refine ⟨fun w' => M w w' [(bt, ((0, 0, 0, 0, ()) : T4)), (ba, rgk k lo ((if lo = n then n + 1 else lo : Nat) : Int) hi)], ?_, fun w4 m4 _ => ?_⟩
  · refine ldM m2 (by with_unfolding_all (repeat (first | exact List.mem_cons_self | refine List.mem_cons_of_mem _ ?_))) (by with_unfolding_all rfl) (And.intro (fun hq => ?_) (fun hq => ?_))
    · have hq' : ((lo : Int) == (n : Int)) = true := hq
      simp only [beq_iff_eq] at hq'
      have e : lo = n := by omega
      have e2 : IntKind.wrap .i64 ((n : Int) + 1) = ((n + 1 : Nat) : Int) := by rw [i64_of (by omega) (by omega)]; omega
      rw [if_pos e, e2]
      exact stM0 m2 (by with_unfolding_all (repeat (first | exact Up.head _ _ _ _ | apply Up.tail))) fun w3 m3 => m3
    · have hq' : ((lo : Int) == (n : Int)) = false := hq
      simp only [beq_eq_false_iff_ne, ne_eq] at hq'
      rw [if_neg (by omega)]
      exact m2
  · clear m2
    generalize hL : (if lo = n then n + 1 else lo) = L at *
    have hLlo : lo ≤ L := by rw [← hL]; split <;> omega
    have hLhi : L ≤ hi + 1 := by rw [← hL]; split <;> omega
    have hpos : ∀ q : Nat, L ≤ q → q ≤ hi → L / 2 ^ k = lo / 2 ^ k ∧ q / 2 ^ k = lo / 2 ^ k := fun q hq hq2 => part_div h1 hLlo hq hq2
    refine ⟨fun w' => M w w' [(bt, ((0, 0, 0, 0, ()) : T4)), (ba, rgk k lo (L : Int) (if hi = n then (hi : Int) - 1 else hi))], ?_, fun w7 m7 _ => ?_⟩
    · refine ldM m4 (by with_unfolding_all (repeat (first | exact List.mem_cons_self | refine List.mem_cons_of_mem _ ?_))) (by with_unfolding_all rfl) (And.intro (fun hq => ?_) (fun hq => ?_))
      · have hq' : ((hi : Int) == (n : Int)) = true := hq
        simp only [beq_iff_eq] at hq'
        have e : hi = n := by omega
        have e2 : IntKind.wrap .i64 ((n : Int) - 1) = (hi : Int) - 1 := by rw [i64_of (by omega) (by omega)]; omega
        rw [if_pos e, e2]
        exact stM1 m4 (by with_unfolding_all (repeat (first | exact Up.head _ _ _ _ | apply Up.tail))) fun w3 m3 => m3
      · have hq' : ((hi : Int) == (n : Int)) = false := hq
        simp only [beq_eq_false_iff_ne, ne_eq] at hq'
        rw [if_neg (by omega)]
        exact m4
    · clear m4
      refine ldM m7 (by with_unfolding_all (repeat (first | exact List.mem_cons_self | refine List.mem_cons_of_mem _ ?_))) (by with_unfolding_all rfl) (ldM m7 (by with_unfolding_all (repeat (first | exact List.mem_cons_self | refine List.mem_cons_of_mem _ ?_))) (by with_unfolding_all rfl) (And.intro (fun hc => ?_) (fun hc => ?_)))
      · have hc' : (L : Int) > (if hi = n then (hi : Int) - 1 else hi) := of_decide_eq_true hc
        repeat' (first | (with_reducible refine ldM (by assumption) (by with_unfolding_all (repeat (first | exact List.mem_cons_self | refine List.mem_cons_of_mem _ ?_))) (by with_unfolding_all rfl) ?_) | (with_reducible refine ldAM (by assumption) (by with_unfolding_all (repeat (first | exact List.mem_cons_self | refine List.mem_cons_of_mem _ ?_))) ?_) | (with_reducible refine nwZ (by assumption) fun _ _ _ => ?_) | (with_reducible refine nwM' (by assumption) fun _ _ _ => ?_) | (with_reducible refine stM0 (by assumption) (by with_unfolding_all (repeat (first | exact Up.head _ _ _ _ | apply Up.tail))) fun _ _ => ?_) | (with_reducible refine stM1 (by assumption) (by with_unfolding_all (repeat (first | exact Up.head _ _ _ _ | apply Up.tail))) fun _ _ => ?_) | (with_reducible refine stM2 (by assumption) (by with_unfolding_all (repeat (first | exact Up.head _ _ _ _ | apply Up.tail))) fun _ _ => ?_) | (with_reducible refine stM3 (by assumption) (by with_unfolding_all (repeat (first | exact Up.head _ _ _ _ | apply Up.tail))) fun _ _ => ?_) | (with_reducible refine stAM' (by assumption) (by with_unfolding_all (repeat (first | exact Up.head _ _ _ _ | apply Up.tail))) fun _ _ => ?_) | (with_reducible refine stAL (by assumption) (by with_unfolding_all (repeat (first | exact Up.head _ _ _ _ | apply Up.tail))) fun _ _ => ?_) | (with_reducible refine And.intro (fun _ => ?_) (fun _ => ?_)) | (refine stAM' (by assumption) (by with_unfolding_all (repeat (first | exact Up.head _ _ _ _ | apply Up.tail))) fun _ _ => ?_))
        rename_i m8
        refine kof (hK _ m8.low) (if_pos ?_)
        split at hc'
        · rename_i e
          refine ⟨?_, e⟩
          by_cases h : lo = n
          · exact h
          · rw [if_neg h] at hL; omega
        · rename_i e
          have : L = hi + 1 := by omega
          by_cases h : lo = n
          · rw [if_pos h] at hL; omega
          · rw [if_neg h] at hL; omega
      · have hc' : (L : Int) ≤ (if hi = n then (hi : Int) - 1 else hi) := by
          have : ¬ ((L : Int) > (if hi = n then (hi : Int) - 1 else hi)) := of_decide_eq_false hc
          omega
        obtain ⟨q, hq⟩ : ∃ q : Nat, (if hi = n then (hi : Int) - 1 else (hi : Int)) = (q : Int) := ⟨(if hi = n then (hi : Int) - 1 else (hi : Int)).toNat, by omega⟩
        have hqhi : q ≤ hi := by split at hq <;> omega
        have hqe : (if hi = n then n - 1 else hi) = q := by split at hq <;> rename_i e <;> simp [e] <;> omega
        rw [hq] at m7 hc'
        have hLq : L ≤ q := by omega
        have hp := hpos q hLq hqhi
        refine ldAM m7 (by with_unfolding_all (repeat (first | exact List.mem_cons_self | refine List.mem_cons_of_mem _ ?_))) ?_
        refine spec.l2Some.c (k := k) (x := lo) (lo := L) (hi := (q : Int)) hk (by omega) (by omega) hp.1 fun w8 hb8 => ?_
        have m8 := m7.below hb8
        refine And.intro (fun hd => ?_) (fun _ => ?_)
        · simp at hd; omega
        · refine ldAM m8 (by with_unfolding_all (repeat (first | exact List.mem_cons_self | refine List.mem_cons_of_mem _ ?_))) ?_
          refine spec.l2Tidy.c (k := k) (x := lo) (lo := L) (hi := q) hk hLq (by omega) hp.1 hp.2 fun w9 hb9 => ?_
          have m9 := m8.below hb9
          clear m7 m8
          repeat' (first | (with_reducible refine ldM (by assumption) (by with_unfolding_all (repeat (first | exact List.mem_cons_self | refine List.mem_cons_of_mem _ ?_))) (by with_unfolding_all rfl) ?_) | (with_reducible refine ldAM (by assumption) (by with_unfolding_all (repeat (first | exact List.mem_cons_self | refine List.mem_cons_of_mem _ ?_))) ?_) | (with_reducible refine nwZ (by assumption) fun _ _ _ => ?_) | (with_reducible refine nwM' (by assumption) fun _ _ _ => ?_) | (with_reducible refine stM0 (by assumption) (by with_unfolding_all (repeat (first | exact Up.head _ _ _ _ | apply Up.tail))) fun _ _ => ?_) | (with_reducible refine stM1 (by assumption) (by with_unfolding_all (repeat (first | exact Up.head _ _ _ _ | apply Up.tail))) fun _ _ => ?_) | (with_reducible refine stM2 (by assumption) (by with_unfolding_all (repeat (first | exact Up.head _ _ _ _ | apply Up.tail))) fun _ _ => ?_) | (with_reducible refine stM3 (by assumption) (by with_unfolding_all (repeat (first | exact Up.head _ _ _ _ | apply Up.tail))) fun _ _ => ?_) | (with_reducible refine stAM' (by assumption) (by with_unfolding_all (repeat (first | exact Up.head _ _ _ _ | apply Up.tail))) fun _ _ => ?_) | (with_reducible refine stAL (by assumption) (by with_unfolding_all (repeat (first | exact Up.head _ _ _ _ | apply Up.tail))) fun _ _ => ?_) | (with_reducible refine And.intro (fun _ => ?_) (fun _ => ?_)) | (refine stAM' (by assumption) (by with_unfolding_all (repeat (first | exact Up.head _ _ _ _ | apply Up.tail))) fun _ _ => ?_))
          rename_i m10
          refine kof (hK _ m10.low) ?_
          rw [if_neg (fun h => by rw [if_pos h.1] at hL; rw [if_pos h.2] at hq; omega), hqe]
theorem spec.l2Apart.c {lo hi n : Nat} {K : T4 × Bool × Unit → World → Prop} (hle : lo ≤ hi) (hhi : hi < 2 ^ 31)
    (hK : ∀ w', Below w.heap.size w w' → K (if lo = n ∧ hi = n then (nR, false, ()) else (ivl (if lo = n then n + 1 else lo) (if hi = n then n - 1 else hi), true, ())) w') :
    CallT (.n [(.ag (R 4 (.i .i64))), (.lf .b)]) P0 63 [.agg (Tup.cells (R 4 (.i .i64)) (ivl lo hi)).toArray, .agg (Tup.cells (R 4 (.i .i64)) (ivl n n)).toArray] w K := by
  refine spec.l2Apart.ok ?_
  unfold spec.l2Apart.vc
  have hm := M.start w
  refine nwM' hm fun w1 ba m1 => nwM' m1 fun w2 bb m2 => nwZ m2 fun w3 bt m3 => ?_
  clear hm m1 m2
  refine ldM m3 (by with_unfolding_all (repeat (first | exact List.mem_cons_self | refine List.mem_cons_of_mem _ ?_))) (by with_unfolding_all rfl) (ldM m3 (by with_unfolding_all (repeat (first | exact List.mem_cons_self | refine List.mem_cons_of_mem _ ?_))) (by with_unfolding_all rfl) (And.intro (fun _ => ?_) (fun hc => ?_)))
  · refine ldAM m3 (by with_unfolding_all (repeat (first | exact List.mem_cons_self | refine List.mem_cons_of_mem _ ?_))) (ldM m3 (by with_unfolding_all (repeat (first | exact List.mem_cons_self | refine List.mem_cons_of_mem _ ?_))) (by with_unfolding_all rfl) ?_)
    refine spec.l2But.c (k := kk lo hi) (lo := lo) (hi := hi) (n := n) (kk_le (by omega) (by omega)) hle hhi (kk_same (by omega) (by omega)) fun w4 hb4 => ?_
    have m4 := m3.below hb4
    clear m3
    by_cases h : lo = n ∧ hi = n
    · rw [if_pos h] at hK ⊢
      repeat' (first | (with_reducible refine ldM (by assumption) (by with_unfolding_all (repeat (first | exact List.mem_cons_self | refine List.mem_cons_of_mem _ ?_))) (by with_unfolding_all rfl) ?_) | (with_reducible refine ldAM (by assumption) (by with_unfolding_all (repeat (first | exact List.mem_cons_self | refine List.mem_cons_of_mem _ ?_))) ?_) | (with_reducible refine nwZ (by assumption) fun _ _ _ => ?_) | (with_reducible refine nwM' (by assumption) fun _ _ _ => ?_) | (with_reducible refine stM0 (by assumption) (by with_unfolding_all (repeat (first | exact Up.head _ _ _ _ | apply Up.tail))) fun _ _ => ?_) | (with_reducible refine stM1 (by assumption) (by with_unfolding_all (repeat (first | exact Up.head _ _ _ _ | apply Up.tail))) fun _ _ => ?_) | (with_reducible refine stM2 (by assumption) (by with_unfolding_all (repeat (first | exact Up.head _ _ _ _ | apply Up.tail))) fun _ _ => ?_) | (with_reducible refine stM3 (by assumption) (by with_unfolding_all (repeat (first | exact Up.head _ _ _ _ | apply Up.tail))) fun _ _ => ?_) | (with_reducible refine stAM' (by assumption) (by with_unfolding_all (repeat (first | exact Up.head _ _ _ _ | apply Up.tail))) fun _ _ => ?_) | (with_reducible refine stAL (by assumption) (by with_unfolding_all (repeat (first | exact Up.head _ _ _ _ | apply Up.tail))) fun _ _ => ?_) | (with_reducible refine And.intro (fun _ => ?_) (fun _ => ?_)) | (refine stAM' (by assumption) (by with_unfolding_all (repeat (first | exact Up.head _ _ _ _ | apply Up.tail))) fun _ _ => ?_))
      rename_i m5
      exact hK _ m5.low
    · rw [if_neg h] at hK ⊢
      repeat' (first | (with_reducible refine ldM (by assumption) (by with_unfolding_all (repeat (first | exact List.mem_cons_self | refine List.mem_cons_of_mem _ ?_))) (by with_unfolding_all rfl) ?_) | (with_reducible refine ldAM (by assumption) (by with_unfolding_all (repeat (first | exact List.mem_cons_self | refine List.mem_cons_of_mem _ ?_))) ?_) | (with_reducible refine nwZ (by assumption) fun _ _ _ => ?_) | (with_reducible refine nwM' (by assumption) fun _ _ _ => ?_) | (with_reducible refine stM0 (by assumption) (by with_unfolding_all (repeat (first | exact Up.head _ _ _ _ | apply Up.tail))) fun _ _ => ?_) | (with_reducible refine stM1 (by assumption) (by with_unfolding_all (repeat (first | exact Up.head _ _ _ _ | apply Up.tail))) fun _ _ => ?_) | (with_reducible refine stM2 (by assumption) (by with_unfolding_all (repeat (first | exact Up.head _ _ _ _ | apply Up.tail))) fun _ _ => ?_) | (with_reducible refine stM3 (by assumption) (by with_unfolding_all (repeat (first | exact Up.head _ _ _ _ | apply Up.tail))) fun _ _ => ?_) | (with_reducible refine stAM' (by assumption) (by with_unfolding_all (repeat (first | exact Up.head _ _ _ _ | apply Up.tail))) fun _ _ => ?_) | (with_reducible refine stAL (by assumption) (by with_unfolding_all (repeat (first | exact Up.head _ _ _ _ | apply Up.tail))) fun _ _ => ?_) | (with_reducible refine And.intro (fun _ => ?_) (fun _ => ?_)) | (refine stAM' (by assumption) (by with_unfolding_all (repeat (first | exact Up.head _ _ _ _ | apply Up.tail))) fun _ _ => ?_))
      rename_i m5
      exact hK _ m5.low
  · have hc' : ((n : Int) == (n : Int)) = false := hc
    simp at hc'
/-- A number without a range that is more. -/
theorem spec.l2Apart.n {r o : T4} {K : T4 × Bool × Unit → World → Prop} (hne : o.1 ≠ o.2.1) (hK : ∀ w', Below w.heap.size w w' → K (r, true, ()) w') :
    CallT (.n [(.ag (R 4 (.i .i64))), (.lf .b)]) P0 63 [.agg (Tup.cells (R 4 (.i .i64)) r).toArray, .agg (Tup.cells (R 4 (.i .i64)) o).toArray] w K := by
  refine spec.l2Apart.ok ?_
  unfold spec.l2Apart.vc
  have hm := M.start w
  repeat' (first | (with_reducible refine ldM (by assumption) (by with_unfolding_all (repeat (first | exact List.mem_cons_self | refine List.mem_cons_of_mem _ ?_))) (by with_unfolding_all rfl) ?_) | (with_reducible refine ldAM (by assumption) (by with_unfolding_all (repeat (first | exact List.mem_cons_self | refine List.mem_cons_of_mem _ ?_))) ?_) | (with_reducible refine nwZ (by assumption) fun _ _ _ => ?_) | (with_reducible refine nwM' (by assumption) fun _ _ _ => ?_) | (with_reducible refine stM0 (by assumption) (by with_unfolding_all (repeat (first | exact Up.head _ _ _ _ | apply Up.tail))) fun _ _ => ?_) | (with_reducible refine stM1 (by assumption) (by with_unfolding_all (repeat (first | exact Up.head _ _ _ _ | apply Up.tail))) fun _ _ => ?_) | (with_reducible refine stM2 (by assumption) (by with_unfolding_all (repeat (first | exact Up.head _ _ _ _ | apply Up.tail))) fun _ _ => ?_) | (with_reducible refine stM3 (by assumption) (by with_unfolding_all (repeat (first | exact Up.head _ _ _ _ | apply Up.tail))) fun _ _ => ?_) | (with_reducible refine stAM' (by assumption) (by with_unfolding_all (repeat (first | exact Up.head _ _ _ _ | apply Up.tail))) fun _ _ => ?_) | (with_reducible refine stAL (by assumption) (by with_unfolding_all (repeat (first | exact Up.head _ _ _ _ | apply Up.tail))) fun _ _ => ?_) | (with_reducible refine And.intro (fun _ => ?_) (fun _ => ?_)) | (refine stAM' (by assumption) (by with_unfolding_all (repeat (first | exact Up.head _ _ _ _ | apply Up.tail))) fun _ _ => ?_))
  · rename_i hc; simp at hc; exact absurd hc hne
  · rename_i m; exact hK _ m.low
end
end Go.Proofs.YtdlnoabihfnmmaaGreat.V

/- Contracts: a range and a number that meet, or are one below the other, in the reference. -/
namespace Go.Proofs.YtdlnoabihfnmmaaGreat.V
open Go Go.RowKit
set_option linter.unusedVariables false
set_option linter.unusedSimpArgs false
theorem meet_bits2 {k lo n : Nat} (hk : k ≤ 32) (hlo : lo < 2 ^ 32) (hn : n < 2 ^ 32) : iAnd .i64 (iAnd .i64 (iXor .i64 4294967295 ((2 ^ k - 1 : Nat) : Int)) (iXor .i64 4294967295 0)) (iXor .i64 ((cutN k lo : Nat) : Int) (n : Int)) = ((cutN k (cutN k lo ^^^ n) : Nat) : Int) := by
  have c := cutN_le k lo
  have hp := Nat.pow_le_pow_right (n := 2) (by omega) hk
  have hx := Nat.xor_lt_two_pow (n := 32) (x := cutN k lo) (y := n) (by omega) hn
  have h4 : 4294967295 ^^^ (2 ^ k - 1) < 2 ^ 32 := Nat.xor_lt_two_pow (by omega) (by omega)
  have e1 : iXor .i64 4294967295 0 = ((4294967295 : Nat) : Int) := by decide
  have e2 : (4294967295 ^^^ (2 ^ k - 1)) &&& 4294967295 = 4294967295 ^^^ (2 ^ k - 1) := by
    rw [show (4294967295 : Nat) = 2 ^ 32 - 1 by decide, Nat.and_two_pow_sub_one_eq_mod]
    exact Nat.mod_eq_of_lt h4
  rw [iXor_top hk, e1, iAnd_nat (by omega) (by omega), e2, iXor_nat (by omega) (by omega), iAnd_nat (by omega) (by omega), Nat.and_comm, and_top hk hx]
section
variable {w : World}
theorem spec.l2Meet.c {lo hi n : Nat} {K : T4 × Bool × Unit → World → Prop} (hle : lo ≤ hi) (hhi : hi < 2 ^ 31) (hn : n < 2 ^ 31)
    (hK : ∀ w', Below w.heap.size w w' → K (if lo ≤ n ∧ n ≤ hi then (ivl n n, true, ()) else (nR, false, ())) w') :
    CallT (.n [(.ag (R 4 (.i .i64))), (.lf .b)]) P0 62 [.agg (Tup.cells (R 4 (.i .i64)) (ivl lo hi)).toArray, .agg (Tup.cells (R 4 (.i .i64)) (ivl n n)).toArray] w K := by
  refine spec.l2Meet.ok ?_
  unfold spec.l2Meet.vc
  have hm := M.start w
  have h1 := kk_same (a := lo) (b := hi) (by omega) (by omega)
  have hk : kk lo hi ≤ 32 := kk_le (by omega) (by omega)
  have hb := meet_bits2 (k := kk lo hi) (lo := lo) (n := n) hk (by omega) (by omega)
  have ev2 : (ivl n n).2.2.1 = (n : Int) := by rw [ivl_one]
  have ev3 : (ivl n n).2.2.2.1 = (0 : Int) := by rw [ivl_one]
  refine nwM' hm fun w1 ba m1 => nwM' m1 fun w2 bb m2 => nwZ m2 fun w3 bt m3 => ?_
  clear hm m1 m2
  refine qcl' (r := .o (.lf (.i .i64))) (4294967295 : Int) (fun w K' h => spec.l2Top.c h) ?_
  refine qldM m3 (by with_unfolding_all (repeat (first | exact List.mem_cons_self | refine List.mem_cons_of_mem _ ?_))) (by with_unfolding_all rfl) ?_
  intro w4 hb4
  have m4 := m3.below hb4
  clear m3
  refine qcl' (r := .o (.lf (.i .i64))) (4294967295 : Int) (fun w K' h => spec.l2Top.c h) ?_
  refine qldM m4 (by with_unfolding_all (repeat (first | exact List.mem_cons_self | refine List.mem_cons_of_mem _ ?_))) (by with_unfolding_all rfl) ?_
  refine qldM m4 (by with_unfolding_all (repeat (first | exact List.mem_cons_self | refine List.mem_cons_of_mem _ ?_))) (by with_unfolding_all rfl) ?_
  refine qldM m4 (by with_unfolding_all (repeat (first | exact List.mem_cons_self | refine List.mem_cons_of_mem _ ?_))) (by with_unfolding_all rfl) ?_
  intro w5 hb5
  have m5 := m4.below hb5
  clear m4
  refine And.intro (fun hc => ?_) (fun hc => ?_)
  · have hc' : (iAnd .i64 (iAnd .i64 (iXor .i64 4294967295 ((2 ^ kk lo hi - 1 : Nat) : Int)) (iXor .i64 4294967295 (ivl n n).2.2.2.1)) (iXor .i64 ((cutN (kk lo hi) lo : Nat) : Int) (ivl n n).2.2.1) != 0) = true := hc
    rw [ev2, ev3, hb] at hc'
    repeat' (first | (with_reducible refine ldM (by assumption) (by with_unfolding_all (repeat (first | exact List.mem_cons_self | refine List.mem_cons_of_mem _ ?_))) (by with_unfolding_all rfl) ?_) | (with_reducible refine ldAM (by assumption) (by with_unfolding_all (repeat (first | exact List.mem_cons_self | refine List.mem_cons_of_mem _ ?_))) ?_) | (with_reducible refine nwZ (by assumption) fun _ _ _ => ?_) | (with_reducible refine nwM' (by assumption) fun _ _ _ => ?_) | (with_reducible refine stM0 (by assumption) (by with_unfolding_all (repeat (first | exact Up.head _ _ _ _ | apply Up.tail))) fun _ _ => ?_) | (with_reducible refine stM1 (by assumption) (by with_unfolding_all (repeat (first | exact Up.head _ _ _ _ | apply Up.tail))) fun _ _ => ?_) | (with_reducible refine stM2 (by assumption) (by with_unfolding_all (repeat (first | exact Up.head _ _ _ _ | apply Up.tail))) fun _ _ => ?_) | (with_reducible refine stM3 (by assumption) (by with_unfolding_all (repeat (first | exact Up.head _ _ _ _ | apply Up.tail))) fun _ _ => ?_) | (with_reducible refine stAM' (by assumption) (by with_unfolding_all (repeat (first | exact Up.head _ _ _ _ | apply Up.tail))) fun _ _ => ?_) | (with_reducible refine stAL (by assumption) (by with_unfolding_all (repeat (first | exact Up.head _ _ _ _ | apply Up.tail))) fun _ _ => ?_) | (with_reducible refine And.intro (fun _ => ?_) (fun _ => ?_)) | (refine stAM' (by assumption) (by with_unfolding_all (repeat (first | exact Up.head _ _ _ _ | apply Up.tail))) fun _ _ => ?_))
    rename_i m10
    refine kof (hK _ m10.low) (if_neg fun h => ?_)
    have := (part_div h1 h.1 h.2 (Nat.le_refl _)).1
    have h0 := cut_xor.2 this
    rw [h0] at hc'
    simp at hc'
  · have hc' : (iAnd .i64 (iAnd .i64 (iXor .i64 4294967295 ((2 ^ kk lo hi - 1 : Nat) : Int)) (iXor .i64 4294967295 (ivl n n).2.2.2.1)) (iXor .i64 ((cutN (kk lo hi) lo : Nat) : Int) (ivl n n).2.2.1) != 0) = false := hc
    rw [ev2, ev3, hb] at hc'
    have h0 : cutN (kk lo hi) (cutN (kk lo hi) lo ^^^ n) = 0 := by simpa using hc'
    have hd := cut_xor.1 h0
    generalize hkk : kk lo hi = k at *
    have cl := cutN_le k lo
    have hp := Nat.pow_le_pow_right (n := 2) (by omega) hk
    have hbx : (((lo : Int), (hi : Int), iOr .i64 ((cutN k lo : Nat) : Int) (ivl n n).2.2.1, iAnd .i64 ((2 ^ k - 1 : Nat) : Int) (ivl n n).2.2.2.1, ()) : T4) = rgk 0 n lo hi := by
      have e1 := iOr_nat (a := cutN k lo) (b := n) (by omega) (by omega)
      have e2 : iAnd .i64 ((2 ^ k - 1 : Nat) : Int) 0 = 0 := by
        have := iAnd_nat (a := 2 ^ k - 1) (b := 0) (by omega) (by omega)
        simpa using this
      have e3 := cut_or (k := k) (j := 0) (Nat.zero_le _) hd.symm
      have e4 : cutN 0 n = n := by simp [cutN]
      rw [e4] at e3
      rw [ev2, ev3, e1, e3, e2]
      unfold rgk
      rw [e4]
      rfl
    have ea : ivl lo hi = rgk k lo lo hi := by unfold ivl; rw [hkk]
    rw [ea] at m5
    refine ldM m5 (by with_unfolding_all (repeat (first | exact List.mem_cons_self | refine List.mem_cons_of_mem _ ?_))) (by with_unfolding_all rfl) (ldM m5 (by with_unfolding_all (repeat (first | exact List.mem_cons_self | refine List.mem_cons_of_mem _ ?_))) (by with_unfolding_all rfl) (ldM m5 (by with_unfolding_all (repeat (first | exact List.mem_cons_self | refine List.mem_cons_of_mem _ ?_))) (by with_unfolding_all rfl) (ldM m5 (by with_unfolding_all (repeat (first | exact List.mem_cons_self | refine List.mem_cons_of_mem _ ?_))) (by with_unfolding_all rfl) (ldM m5 (by with_unfolding_all (repeat (first | exact List.mem_cons_self | refine List.mem_cons_of_mem _ ?_))) (by with_unfolding_all rfl) (ldM m5 (by with_unfolding_all (repeat (first | exact List.mem_cons_self | refine List.mem_cons_of_mem _ ?_))) (by with_unfolding_all rfl) ?_)))))
    refine nwZ m5 fun w6 bo m6 => ?_
    clear m5
    refine stAL m6 (by with_unfolding_all (repeat (first | exact Up.head _ _ _ _ | apply Up.tail))) fun w7 m7 => ?_
    replace m7 : M w w7 [(bo, (((lo : Int), (hi : Int), iOr .i64 ((cutN k lo : Nat) : Int) (ivl n n).2.2.1, iAnd .i64 ((2 ^ k - 1 : Nat) : Int) (ivl n n).2.2.2.1, ()) : T4)), (bt, ((0, 0, 0, 0, ()) : T4)), (bb, ivl n n), (ba, rgk k lo lo hi)] := m7
    rw [hbx] at m7
    clear m6 hc hc' hbx
    refine ⟨fun w' => M w w' [(bo, rgk 0 n ((if (n : Int) > (lo : Int) then (n : Int) else (lo : Int))) hi), (bt, ((0, 0, 0, 0, ()) : T4)), (bb, ivl n n), (ba, rgk k lo lo hi)], ?_, fun w8 m8 _ => ?_⟩
    · refine ldM m7 (by with_unfolding_all (repeat (first | exact List.mem_cons_self | refine List.mem_cons_of_mem _ ?_))) (by with_unfolding_all rfl) (ldM m7 (by with_unfolding_all (repeat (first | exact List.mem_cons_self | refine List.mem_cons_of_mem _ ?_))) (by with_unfolding_all rfl) (And.intro (fun hq => ?_) (fun hq => ?_)))
      · have hq' : (n : Int) > (lo : Int) := of_decide_eq_true hq
        rw [if_pos hq']
        refine ldM m7 (by with_unfolding_all (repeat (first | exact List.mem_cons_self | refine List.mem_cons_of_mem _ ?_))) (by with_unfolding_all rfl) ?_
        exact stM0 m7 (by with_unfolding_all (repeat (first | exact Up.head _ _ _ _ | apply Up.tail))) fun w3 m3 => m3
      · have hq' : ¬ (n : Int) > (lo : Int) := of_decide_eq_false hq
        rw [if_neg hq']
        exact m7
    · clear m7
      refine ⟨fun w' => M w w' [(bo, rgk 0 n ((if (n : Int) > (lo : Int) then (n : Int) else (lo : Int))) (if (n : Int) < (hi : Int) then (n : Int) else (hi : Int))), (bt, ((0, 0, 0, 0, ()) : T4)), (bb, ivl n n), (ba, rgk k lo lo hi)], ?_, fun w9 m9 _ => ?_⟩
      · refine ldM m8 (by with_unfolding_all (repeat (first | exact List.mem_cons_self | refine List.mem_cons_of_mem _ ?_))) (by with_unfolding_all rfl) (ldM m8 (by with_unfolding_all (repeat (first | exact List.mem_cons_self | refine List.mem_cons_of_mem _ ?_))) (by with_unfolding_all rfl) (And.intro (fun hq => ?_) (fun hq => ?_)))
        · have hq' : (n : Int) < (hi : Int) := of_decide_eq_true hq
          rw [if_pos hq']
          refine ldM m8 (by with_unfolding_all (repeat (first | exact List.mem_cons_self | refine List.mem_cons_of_mem _ ?_))) (by with_unfolding_all rfl) ?_
          exact stM1 m8 (by with_unfolding_all (repeat (first | exact Up.head _ _ _ _ | apply Up.tail))) fun w3 m3 => m3
        · have hq' : ¬ (n : Int) < (hi : Int) := of_decide_eq_false hq
          rw [if_neg hq']
          exact m8
      · clear m8
        refine ldM m9 (by with_unfolding_all (repeat (first | exact List.mem_cons_self | refine List.mem_cons_of_mem _ ?_))) (by with_unfolding_all rfl) (ldM m9 (by with_unfolding_all (repeat (first | exact List.mem_cons_self | refine List.mem_cons_of_mem _ ?_))) (by with_unfolding_all rfl) (And.intro (fun hq => ?_) (fun hq => ?_)))
        · have hq' : (if (n : Int) > (lo : Int) then (n : Int) else (lo : Int)) > (if (n : Int) < (hi : Int) then (n : Int) else (hi : Int)) := of_decide_eq_true hq
          repeat' (first | (with_reducible refine ldM (by assumption) (by with_unfolding_all (repeat (first | exact List.mem_cons_self | refine List.mem_cons_of_mem _ ?_))) (by with_unfolding_all rfl) ?_) | (with_reducible refine ldAM (by assumption) (by with_unfolding_all (repeat (first | exact List.mem_cons_self | refine List.mem_cons_of_mem _ ?_))) ?_) | (with_reducible refine nwZ (by assumption) fun _ _ _ => ?_) | (with_reducible refine nwM' (by assumption) fun _ _ _ => ?_) | (with_reducible refine stM0 (by assumption) (by with_unfolding_all (repeat (first | exact Up.head _ _ _ _ | apply Up.tail))) fun _ _ => ?_) | (with_reducible refine stM1 (by assumption) (by with_unfolding_all (repeat (first | exact Up.head _ _ _ _ | apply Up.tail))) fun _ _ => ?_) | (with_reducible refine stM2 (by assumption) (by with_unfolding_all (repeat (first | exact Up.head _ _ _ _ | apply Up.tail))) fun _ _ => ?_) | (with_reducible refine stM3 (by assumption) (by with_unfolding_all (repeat (first | exact Up.head _ _ _ _ | apply Up.tail))) fun _ _ => ?_) | (with_reducible refine stAM' (by assumption) (by with_unfolding_all (repeat (first | exact Up.head _ _ _ _ | apply Up.tail))) fun _ _ => ?_) | (with_reducible refine stAL (by assumption) (by with_unfolding_all (repeat (first | exact Up.head _ _ _ _ | apply Up.tail))) fun _ _ => ?_) | (with_reducible refine And.intro (fun _ => ?_) (fun _ => ?_)) | (refine stAM' (by assumption) (by with_unfolding_all (repeat (first | exact Up.head _ _ _ _ | apply Up.tail))) fun _ _ => ?_))
          rename_i m10
          refine kof (hK _ m10.low) (if_neg fun h => ?_)
          split at hq' <;> split at hq' <;> omega
        · have hq' : ¬ (if (n : Int) > (lo : Int) then (n : Int) else (lo : Int)) > (if (n : Int) < (hi : Int) then (n : Int) else (hi : Int)) := of_decide_eq_false hq
          have hin : lo ≤ n ∧ n ≤ hi := by split at hq' <;> split at hq' <;> omega
          rw [show (if (n : Int) > (lo : Int) then (n : Int) else (lo : Int)) = (n : Int) by split <;> omega, show (if (n : Int) < (hi : Int) then (n : Int) else (hi : Int)) = (n : Int) by split <;> omega] at m9
          refine ldAM m9 (by with_unfolding_all (repeat (first | exact List.mem_cons_self | refine List.mem_cons_of_mem _ ?_))) ?_
          refine spec.l2Some.c (k := 0) (x := n) (lo := n) (hi := (n : Int)) (by omega) (by omega) (by omega) rfl fun w10 hb10 => ?_
          have m10 := m9.below hb10
          refine And.intro (fun hd => ?_) (fun _ => ?_)
          · simp at hd
          · refine ldAM m10 (by with_unfolding_all (repeat (first | exact List.mem_cons_self | refine List.mem_cons_of_mem _ ?_))) ?_
            refine spec.l2Tidy.c (k := 0) (x := n) (lo := n) (hi := n) (by omega) (Nat.le_refl _) (by omega) rfl rfl fun w11 hb11 => ?_
            have m11 := m10.below hb11
            clear m9 m10
            repeat' (first | (with_reducible refine ldM (by assumption) (by with_unfolding_all (repeat (first | exact List.mem_cons_self | refine List.mem_cons_of_mem _ ?_))) (by with_unfolding_all rfl) ?_) | (with_reducible refine ldAM (by assumption) (by with_unfolding_all (repeat (first | exact List.mem_cons_self | refine List.mem_cons_of_mem _ ?_))) ?_) | (with_reducible refine nwZ (by assumption) fun _ _ _ => ?_) | (with_reducible refine nwM' (by assumption) fun _ _ _ => ?_) | (with_reducible refine stM0 (by assumption) (by with_unfolding_all (repeat (first | exact Up.head _ _ _ _ | apply Up.tail))) fun _ _ => ?_) | (with_reducible refine stM1 (by assumption) (by with_unfolding_all (repeat (first | exact Up.head _ _ _ _ | apply Up.tail))) fun _ _ => ?_) | (with_reducible refine stM2 (by assumption) (by with_unfolding_all (repeat (first | exact Up.head _ _ _ _ | apply Up.tail))) fun _ _ => ?_) | (with_reducible refine stM3 (by assumption) (by with_unfolding_all (repeat (first | exact Up.head _ _ _ _ | apply Up.tail))) fun _ _ => ?_) | (with_reducible refine stAM' (by assumption) (by with_unfolding_all (repeat (first | exact Up.head _ _ _ _ | apply Up.tail))) fun _ _ => ?_) | (with_reducible refine stAL (by assumption) (by with_unfolding_all (repeat (first | exact Up.head _ _ _ _ | apply Up.tail))) fun _ _ => ?_) | (with_reducible refine And.intro (fun _ => ?_) (fun _ => ?_)) | (refine stAM' (by assumption) (by with_unfolding_all (repeat (first | exact Up.head _ _ _ _ | apply Up.tail))) fun _ _ => ?_))
            rename_i m12
            exact kof (hK _ m12.low) (if_pos hin)
set_option maxHeartbeats 1000000 in
theorem spec.l2Below.c {la ha lb hb : Nat} {by_ : Nat} {K : T4 × T4 × Bool × Unit → World → Prop} (h31 : la ≤ ha ∧ ha < 2 ^ 31 ∧ lb ≤ hb ∧ hb < 2 ^ 31) (hy : by_ ≤ 1)
    (hK : ∀ w', Below w.heap.size w w' → K (bwT la (if (hb : Int) - by_ < ha then (hb : Int) - by_ else ha) (if (la : Int) + by_ > lb then (la : Int) + by_ else lb) hb) w') :
    CallT (.n [(.ag (R 4 (.i .i64))), (.ag (R 4 (.i .i64))), (.lf .b)]) P0 64 [.agg (Tup.cells (R 4 (.i .i64)) (ivl la ha)).toArray, .agg (Tup.cells (R 4 (.i .i64)) (ivl lb hb)).toArray, .int .i64 by_] w K := by
  refine spec.l2Below.ok ?_
  unfold spec.l2Below.vc
  have hm := M.start w
  have hk1 := kk_same (a := la) (b := ha) (by omega) (by omega)
  have hkl : kk la ha ≤ 32 := kk_le (by omega) (by omega)
  have hk2 := kk_same (a := lb) (b := hb) (by omega) (by omega)
  have hkb : kk lb hb ≤ 32 := kk_le (by omega) (by omega)
  generalize hah : (if (hb : Int) - by_ < ha then (hb : Int) - by_ else (ha : Int)) = ah at *
  generalize hbl : (if (la : Int) + by_ > lb then (la : Int) + by_ else (lb : Int)) = bl at *
  have q1 : IntKind.wrap .i64 ((hb : Int) - by_) = (hb : Int) - by_ := i64_of (by omega) (by omega)
  have q2 : IntKind.wrap .i64 ((la : Int) + by_) = (la : Int) + by_ := i64_of (by omega) (by omega)
  refine nwM' hm fun w1 ba m1 => nwM' m1 fun w2 bb m2 => nwZ m2 fun w3 b6 m3 => nwZ m3 fun w4 b7 m4 => ?_
  clear hm m1 m2 m3
  refine ⟨fun w' => M w w' [(b7, ((0, 0, 0, 0, ()) : T4)), (b6, ((0, 0, 0, 0, ()) : T4)), (bb, ivl lb hb), (ba, rgk (kk la ha) la la ah)], ?_, fun w8 m8 _ => ?_⟩
  · refine ldM m4 (by with_unfolding_all (repeat (first | exact List.mem_cons_self | refine List.mem_cons_of_mem _ ?_))) (by with_unfolding_all rfl) (ldM m4 (by with_unfolding_all (repeat (first | exact List.mem_cons_self | refine List.mem_cons_of_mem _ ?_))) (by with_unfolding_all rfl) (And.intro (fun hq => ?_) (fun hq => ?_)))
    · have hq' : (ha : Int) > IntKind.wrap .i64 ((hb : Int) - by_) := of_decide_eq_true hq
      rw [q1] at hq'
      refine ldM m4 (by with_unfolding_all (repeat (first | exact List.mem_cons_self | refine List.mem_cons_of_mem _ ?_))) (by with_unfolding_all rfl) ?_
      refine stM1 m4 (by with_unfolding_all (repeat (first | exact Up.head _ _ _ _ | apply Up.tail))) fun w5 m5 => ?_
      have e : IntKind.wrap .i64 ((hb : Int) - by_) = ah := by rw [q1, ← hah, if_pos (by omega)]
      rw [← e]
      exact m5
    · have hq' : ¬ (ha : Int) > IntKind.wrap .i64 ((hb : Int) - by_) := of_decide_eq_false hq
      rw [q1] at hq'
      have e : (ha : Int) = ah := by rw [← hah]; split <;> omega
      rw [← e]
      exact m4
  · clear m4
    refine ⟨fun w' => M w w' [(b7, ((0, 0, 0, 0, ()) : T4)), (b6, ((0, 0, 0, 0, ()) : T4)), (bb, rgk (kk lb hb) lb bl hb), (ba, rgk (kk la ha) la la ah)], ?_, fun w13 m13 _ => ?_⟩
    · refine ldM m8 (by with_unfolding_all (repeat (first | exact List.mem_cons_self | refine List.mem_cons_of_mem _ ?_))) (by with_unfolding_all rfl) (ldM m8 (by with_unfolding_all (repeat (first | exact List.mem_cons_self | refine List.mem_cons_of_mem _ ?_))) (by with_unfolding_all rfl) (And.intro (fun hq => ?_) (fun hq => ?_)))
      · have hq' : (lb : Int) < IntKind.wrap .i64 ((la : Int) + by_) := of_decide_eq_true hq
        rw [q2] at hq'
        refine ldM m8 (by with_unfolding_all (repeat (first | exact List.mem_cons_self | refine List.mem_cons_of_mem _ ?_))) (by with_unfolding_all rfl) ?_
        refine stM0 m8 (by with_unfolding_all (repeat (first | exact Up.head _ _ _ _ | apply Up.tail))) fun w5 m5 => ?_
        have e : IntKind.wrap .i64 ((la : Int) + by_) = bl := by rw [q2, ← hbl, if_pos (by omega)]
        rw [← e]
        exact m5
      · have hq' : ¬ (lb : Int) < IntKind.wrap .i64 ((la : Int) + by_) := of_decide_eq_false hq
        rw [q2] at hq'
        have e : (lb : Int) = bl := by rw [← hbl]; split <;> omega
        rw [← e]
        exact m8
    · clear m8
      have hA : (la : Int) ≤ ah → (la : Int).toNat / 2 ^ kk la ha = la / 2 ^ kk la ha ∧ ah.toNat / 2 ^ kk la ha = la / 2 ^ kk la ha := fun h => kk_in h31.1 h31.2.1 h (by omega) (by split at hah <;> omega)
      have hB : bl ≤ (hb : Int) → bl.toNat / 2 ^ kk lb hb = lb / 2 ^ kk lb hb ∧ (hb : Int).toNat / 2 ^ kk lb hb = lb / 2 ^ kk lb hb := fun h => kk_in h31.2.2.1 h31.2.2.2 h (by split at hbl <;> omega) (by omega)
      have hbl0 : 0 ≤ bl := by split at hbl <;> omega
      have hbl1 : bl ≤ 2 ^ 31 := by split at hbl <;> omega
      have hah1 : ah ≤ ha := by split at hah <;> omega
      refine ⟨fun t w' => M w w' [(b7, ((0, 0, 0, 0, ()) : T4)), (b6, ((0, 0, 0, 0, ()) : T4)), (bb, rgk (kk lb hb) lb bl hb), (ba, rgk (kk la ha) la la ah)] ∧ t = !decide ((la : Int) ≤ ah ∧ bl ≤ hb), ?_, ?_⟩
      · refine ldM m13 (by with_unfolding_all (repeat (first | exact List.mem_cons_self | refine List.mem_cons_of_mem _ ?_))) (by with_unfolding_all rfl) (ldM m13 (by with_unfolding_all (repeat (first | exact List.mem_cons_self | refine List.mem_cons_of_mem _ ?_))) (by with_unfolding_all rfl) (And.intro (fun hq => ?_) (fun hq => ?_)))
        · have hq' : (la : Int) > ah := of_decide_eq_true hq
          exact ⟨m13, by simp; omega⟩
        · have hq' : ¬ (la : Int) > ah := of_decide_eq_false hq
          refine ldM m13 (by with_unfolding_all (repeat (first | exact List.mem_cons_self | refine List.mem_cons_of_mem _ ?_))) (by with_unfolding_all rfl) (ldM m13 (by with_unfolding_all (repeat (first | exact List.mem_cons_self | refine List.mem_cons_of_mem _ ?_))) (by with_unfolding_all rfl) (And.intro (fun hr => ?_) (fun hr => ?_)))
          · have hr' : bl > (hb : Int) := of_decide_eq_true hr
            exact ⟨m13, by simp; omega⟩
          · have hr' : ¬ bl > (hb : Int) := of_decide_eq_false hr
            obtain ⟨nb, hnb⟩ : ∃ nb : Nat, bl = nb := ⟨bl.toNat, by omega⟩
            refine ldAM m13 (by with_unfolding_all (repeat (first | exact List.mem_cons_self | refine List.mem_cons_of_mem _ ?_))) ?_
            refine spec.l2Some.c (k := kk la ha) (x := la) (lo := la) hkl (by omega) (by omega) rfl fun w14 hb14 => ?_
            have m14 := m13.below hb14
            refine And.intro (fun hs => ?_) (fun _ => ?_)
            · simp at hs; omega
            · subst hnb
              refine ldAM m14 (by with_unfolding_all (repeat (first | exact List.mem_cons_self | refine List.mem_cons_of_mem _ ?_))) ?_
              refine spec.l2Some.c (k := kk lb hb) (x := lb) (lo := nb) hkb (by omega) (by omega) (hB (by omega)).1 fun w15 hb15 => ?_
              have m15 := m14.below hb15
              exact ⟨m15, by simp; omega⟩
      · rintro t w14 ⟨m14, rfl⟩ _
        clear m13
        refine And.intro (fun hq => ?_) (fun hq => ?_)
        · have hq' : ¬ ((la : Int) ≤ ah ∧ bl ≤ hb) := by simp at hq; omega
          repeat' (first | (with_reducible refine ldM (by assumption) (by with_unfolding_all (repeat (first | exact List.mem_cons_self | refine List.mem_cons_of_mem _ ?_))) (by with_unfolding_all rfl) ?_) | (with_reducible refine ldAM (by assumption) (by with_unfolding_all (repeat (first | exact List.mem_cons_self | refine List.mem_cons_of_mem _ ?_))) ?_) | (with_reducible refine nwZ (by assumption) fun _ _ _ => ?_) | (with_reducible refine nwM' (by assumption) fun _ _ _ => ?_) | (with_reducible refine stM0 (by assumption) (by with_unfolding_all (repeat (first | exact Up.head _ _ _ _ | apply Up.tail))) fun _ _ => ?_) | (with_reducible refine stM1 (by assumption) (by with_unfolding_all (repeat (first | exact Up.head _ _ _ _ | apply Up.tail))) fun _ _ => ?_) | (with_reducible refine stM2 (by assumption) (by with_unfolding_all (repeat (first | exact Up.head _ _ _ _ | apply Up.tail))) fun _ _ => ?_) | (with_reducible refine stM3 (by assumption) (by with_unfolding_all (repeat (first | exact Up.head _ _ _ _ | apply Up.tail))) fun _ _ => ?_) | (with_reducible refine stAM' (by assumption) (by with_unfolding_all (repeat (first | exact Up.head _ _ _ _ | apply Up.tail))) fun _ _ => ?_) | (with_reducible refine stAL (by assumption) (by with_unfolding_all (repeat (first | exact Up.head _ _ _ _ | apply Up.tail))) fun _ _ => ?_) | (with_reducible refine And.intro (fun _ => ?_) (fun _ => ?_)) | (refine stAM' (by assumption) (by with_unfolding_all (repeat (first | exact Up.head _ _ _ _ | apply Up.tail))) fun _ _ => ?_))
          rename_i m16
          exact kof (hK _ m16.low) (bwT_neg hq')
        · have hq' : (la : Int) ≤ ah ∧ bl ≤ hb := by simpa using hq
          obtain ⟨na, hna⟩ : ∃ na : Nat, ah = na := ⟨ah.toNat, by omega⟩
          obtain ⟨nb, hnb⟩ : ∃ nb : Nat, bl = nb := ⟨bl.toNat, by omega⟩
          have hA' := (hA hq'.1).2
          have hB' := (hB hq'.2).1
          clear hA hB
          subst hna hnb
          simp only [Int.toNat_natCast] at hA' hB'
          have hK' := bwT_pos hq' rfl rfl rfl rfl
          have hd : Del [(b7, ((0, 0, 0, 0, ()) : T4)), (b6, ((0, 0, 0, 0, ()) : T4)), (bb, rgk (kk lb hb) lb nb hb), (ba, rgk (kk la ha) la la na)] b6 ((0, 0, 0, 0, ()) : T4) [(b7, ((0, 0, 0, 0, ()) : T4)), (bb, rgk (kk lb hb) lb nb hb), (ba, rgk (kk la ha) la la na)] := by (repeat (first | exact Del.head _ _ _ | apply Del.tail))
          refine ⟨SpS w14.heap.size b6 (ivl la na), spsOk _ _ _, eqG (rgk (kk la ha) la la na), keptEq, eqG (ivl la na), keptEq, eqG (rgk (kk lb hb) lb nb hb), keptEq, eqG (ivl nb hb), keptEq, _, keptBx, fun w8 hs => ?_, fun t57 => ⟨fun w8 hs f => ?_, fun t58 => ⟨fun w8 hs => ?_, fun t59 => ⟨fun w8 hs f => ?_, fun t60 => ⟨fun w8 hs f47 => ?_, fun st w8 hs f46 f47 f48 f49 fs => ?_⟩⟩⟩⟩⟩
          · exact ldAM (m14.sps hd hs) (by with_unfolding_all (repeat (first | exact List.mem_cons_self | refine List.mem_cons_of_mem _ ?_))) (gkE rfl (SpS.refl _ _ _ _))
          · cases f
            refine spec.l2Tidy.c (k := kk la ha) (x := la) (lo := la) (hi := na) hkl (by omega) (by omega) rfl hA' fun w9 hb9 => gkE rfl ?_
            exact SpS.of_below (hb9.mono hs.size) (m14.box b6 _ hd.mem).2.1
          · exact ldAM (m14.sps hd hs) (by with_unfolding_all (repeat (first | exact List.mem_cons_self | refine List.mem_cons_of_mem _ ?_))) (gkE rfl (SpS.refl _ _ _ _))
          · cases f
            refine spec.l2Tidy.c (k := kk lb hb) (x := lb) (lo := nb) (hi := hb) hkb (by omega) (by omega) hB' hk2.symm fun w9 hb9 => gkE rfl ?_
            exact SpS.of_below (hb9.mono hs.size) (m14.box b6 _ hd.mem).2.1
          · cases f47
            exact stSps m14 hd hs rfl
          · cases f49
            have m8 := m14.spsB hd hs fs
            clear m14
            repeat' (first | (with_reducible refine ldM (by assumption) (by with_unfolding_all (repeat (first | exact List.mem_cons_self | refine List.mem_cons_of_mem _ ?_))) (by with_unfolding_all rfl) ?_) | (with_reducible refine ldAM (by assumption) (by with_unfolding_all (repeat (first | exact List.mem_cons_self | refine List.mem_cons_of_mem _ ?_))) ?_) | (with_reducible refine nwZ (by assumption) fun _ _ _ => ?_) | (with_reducible refine nwM' (by assumption) fun _ _ _ => ?_) | (with_reducible refine stM0 (by assumption) (by with_unfolding_all (repeat (first | exact Up.head _ _ _ _ | apply Up.tail))) fun _ _ => ?_) | (with_reducible refine stM1 (by assumption) (by with_unfolding_all (repeat (first | exact Up.head _ _ _ _ | apply Up.tail))) fun _ _ => ?_) | (with_reducible refine stM2 (by assumption) (by with_unfolding_all (repeat (first | exact Up.head _ _ _ _ | apply Up.tail))) fun _ _ => ?_) | (with_reducible refine stM3 (by assumption) (by with_unfolding_all (repeat (first | exact Up.head _ _ _ _ | apply Up.tail))) fun _ _ => ?_) | (with_reducible refine stAM' (by assumption) (by with_unfolding_all (repeat (first | exact Up.head _ _ _ _ | apply Up.tail))) fun _ _ => ?_) | (with_reducible refine stAL (by assumption) (by with_unfolding_all (repeat (first | exact Up.head _ _ _ _ | apply Up.tail))) fun _ _ => ?_) | (with_reducible refine And.intro (fun _ => ?_) (fun _ => ?_)) | (refine stAM' (by assumption) (by with_unfolding_all (repeat (first | exact Up.head _ _ _ _ | apply Up.tail))) fun _ _ => ?_))
            rename_i m9
            exact kof (hK _ m9.low) hK'
end
end Go.Proofs.YtdlnoabihfnmmaaGreat.V

/- Contracts: what is left of a range and a number, in the reference. -/
namespace Go.Proofs.YtdlnoabihfnmmaaGreat.V
open Go Go.RowKit
set_option linter.unusedVariables false
set_option linter.unusedSimpArgs false
section
variable {w0 w : World} {b8 b9 ba bb : Nat} {lo hi n : Nat} {K : T4 × T4 × Bool × Unit → World → Prop}
/-- What the second branch hands back: a box that is made for it is handed back twice. -/
theorem tailM (hm : M w0 w [(b9, ((0, 0, 0, 0, ()) : T4)), (b8, ((0, 0, 0, 0, ()) : T4)), (bb, ivl n n), (ba, ivl lo hi)]) (p : T4 × Bool × Unit) (hp : ∀ w', Below w0.heap.size w0 w' → K (p.1, p.1, p.2) w') :
    Nw (zc P0 54) 54 w fun a_m w8 => StA P0 a_m (Tup.cells (R 4 (.i .i64)) p.1) w8 fun w45 =>
        ∃ Sp : World → World → Prop, SpOk Sp w45 ∧ ∃ G1 : Tup (R 4 (.i .i64)) → World → Prop, Kept Sp G1 ∧ ∃ G2 : Tup (R 4 (.i .i64)) → World → Prop, Kept Sp G2 ∧ ∃ G3 : Unit → World → Prop, Kept Sp G3 ∧ ∃ G4 : Unit → World → Prop, Kept Sp G4 ∧
        (∀ w1, Sp w45 w1 → LdA (R 4 (.i .i64)) a_m w1 fun (t : Tup (R 4 (.i .i64))) w2 => GK (.o (.ag (R 4 (.i .i64)))) Sp w1 G1 (.agg (Tup.cells (R 4 (.i .i64)) t).toArray) w2) ∧
        ∀ (t1 : Tup (R 4 (.i .i64))), (∀ w1, Sp w45 w1 → LdA (R 4 (.i .i64)) a_m w1 fun (t : Tup (R 4 (.i .i64))) w2 => GK (.o (.ag (R 4 (.i .i64)))) Sp w1 G2 (.agg (Tup.cells (R 4 (.i .i64)) t).toArray) w2) ∧
        ∀ (t2 : Tup (R 4 (.i .i64))), (∀ w1, Sp w45 w1 → G1 t1 w1 → StA P0 ⟨b8, 0, none⟩ (Tup.cells (R 4 (.i .i64)) t1) w1 fun w2 => GK .z Sp w1 G3 (.tuple #[]) w2) ∧
        ∀ (s1 : Unit), (∀ w1, Sp w45 w1 → G2 t2 w1 → StA P0 ⟨b9, 0, none⟩ (Tup.cells (R 4 (.i .i64)) t2) w1 fun w2 => GK .z Sp w1 G4 (.tuple #[]) w2) ∧
        ∀ (s2 : Unit), ∀ w1, Sp w45 w1 → G1 t1 w1 → G2 t2 w1 → G3 s1 w1 → G4 s2 w1 → LdA (R 4 (.i .i64)) ⟨b8, 0, none⟩ w1 fun r w2 => LdA (R 4 (.i .i64)) ⟨b9, 0, none⟩ w1 fun r1 w3 => K (r, (r1, (p.2.1, ()))) w1 := by
  refine nwZ hm fun w8 bm m8 => stAM' m8 (by with_unfolding_all (repeat (first | exact Up.head _ _ _ _ | apply Up.tail))) fun w9 m9 => ?_
  replace m9 : M w0 w9 [(bm, p.1), (b9, ((0, 0, 0, 0, ()) : T4)), (b8, ((0, 0, 0, 0, ()) : T4)), (bb, ivl n n), (ba, ivl lo hi)] := m9
  exact tailT (K := fun r r1 w => K (r, (r1, (p.2.1, ()))) w) (x1 := (0, 0, 0, 0, ())) (x2 := (0, 0, 0, 0, ())) (r1 := [(bm, p.1), (b9, ((0, 0, 0, 0, ()) : T4)), (bb, ivl n n), (ba, ivl lo hi)]) (r := [(bm, p.1), (bb, ivl n n), (ba, ivl lo hi)]) m9 (by (repeat (first | exact Del.head _ _ _ | apply Del.tail))) (by (repeat (first | exact Del.head _ _ _ | apply Del.tail))) (by with_unfolding_all (repeat (first | exact List.mem_cons_self | refine List.mem_cons_of_mem _ ?_))) (by with_unfolding_all (repeat (first | exact List.mem_cons_self | refine List.mem_cons_of_mem _ ?_))) fun w12 m12 => hp _ m12.low
/-- The same with two boxes, turned. -/
theorem tailS (hm : M w0 w [(b9, ((0, 0, 0, 0, ()) : T4)), (b8, ((0, 0, 0, 0, ()) : T4)), (bb, ivl n n), (ba, ivl lo hi)]) (p : T4 × T4 × Bool × Unit) (hp : ∀ w', Below w0.heap.size w0 w' → K (swT p) w') :
    Nw (zc P0 54) 54 w fun a_y w7 => Nw (zc P0 54) 54 w7 fun a_x w8 => StA P0 a_y (Tup.cells (R 4 (.i .i64)) p.1) w8 fun w9 => StA P0 a_x (Tup.cells (R 4 (.i .i64)) p.2.1) w9 fun w45 =>
        ∃ Sp : World → World → Prop, SpOk Sp w45 ∧ ∃ G1 : Tup (R 4 (.i .i64)) → World → Prop, Kept Sp G1 ∧ ∃ G2 : Tup (R 4 (.i .i64)) → World → Prop, Kept Sp G2 ∧ ∃ G3 : Unit → World → Prop, Kept Sp G3 ∧ ∃ G4 : Unit → World → Prop, Kept Sp G4 ∧
        (∀ w1, Sp w45 w1 → LdA (R 4 (.i .i64)) a_x w1 fun (t : Tup (R 4 (.i .i64))) w2 => GK (.o (.ag (R 4 (.i .i64)))) Sp w1 G1 (.agg (Tup.cells (R 4 (.i .i64)) t).toArray) w2) ∧
        ∀ (t1 : Tup (R 4 (.i .i64))), (∀ w1, Sp w45 w1 → LdA (R 4 (.i .i64)) a_y w1 fun (t : Tup (R 4 (.i .i64))) w2 => GK (.o (.ag (R 4 (.i .i64)))) Sp w1 G2 (.agg (Tup.cells (R 4 (.i .i64)) t).toArray) w2) ∧
        ∀ (t2 : Tup (R 4 (.i .i64))), (∀ w1, Sp w45 w1 → G1 t1 w1 → StA P0 ⟨b8, 0, none⟩ (Tup.cells (R 4 (.i .i64)) t1) w1 fun w2 => GK .z Sp w1 G3 (.tuple #[]) w2) ∧
        ∀ (s1 : Unit), (∀ w1, Sp w45 w1 → G2 t2 w1 → StA P0 ⟨b9, 0, none⟩ (Tup.cells (R 4 (.i .i64)) t2) w1 fun w2 => GK .z Sp w1 G4 (.tuple #[]) w2) ∧
        ∀ (s2 : Unit), ∀ w1, Sp w45 w1 → G1 t1 w1 → G2 t2 w1 → G3 s1 w1 → G4 s2 w1 → LdA (R 4 (.i .i64)) ⟨b8, 0, none⟩ w1 fun r w2 => LdA (R 4 (.i .i64)) ⟨b9, 0, none⟩ w1 fun r1 w3 => K (r, (r1, (p.2.2.1, ()))) w1 := by
  refine nwZ hm fun w7 by_ m7 => nwZ m7 fun w8 bx_ m8 => stAM' m8 (by with_unfolding_all (repeat (first | exact Up.head _ _ _ _ | apply Up.tail))) fun w9 m9 => stAM' m9 (by with_unfolding_all (repeat (first | exact Up.head _ _ _ _ | apply Up.tail))) fun w10 m10 => ?_
  replace m10 : M w0 w10 [(bx_, p.2.1), (by_, p.1), (b9, ((0, 0, 0, 0, ()) : T4)), (b8, ((0, 0, 0, 0, ()) : T4)), (bb, ivl n n), (ba, ivl lo hi)] := m10
  exact tailT (K := fun r r1 w => K (r, (r1, (p.2.2.1, ()))) w) (x1 := (0, 0, 0, 0, ())) (x2 := (0, 0, 0, 0, ())) (r1 := [(bx_, p.2.1), (by_, p.1), (b9, ((0, 0, 0, 0, ()) : T4)), (bb, ivl n n), (ba, ivl lo hi)]) (r := [(bx_, p.2.1), (by_, p.1), (bb, ivl n n), (ba, ivl lo hi)]) m10 (by (repeat (first | exact Del.head _ _ _ | apply Del.tail))) (by (repeat (first | exact Del.head _ _ _ | apply Del.tail))) (by with_unfolding_all (repeat (first | exact List.mem_cons_self | refine List.mem_cons_of_mem _ ?_))) (by with_unfolding_all (repeat (first | exact List.mem_cons_self | refine List.mem_cons_of_mem _ ?_))) fun w12 m12 => hp _ m12.low
theorem tailP (hm : M w0 w [(b9, ((0, 0, 0, 0, ()) : T4)), (b8, ((0, 0, 0, 0, ()) : T4)), (bb, ivl n n), (ba, ivl lo hi)]) (p : T4 × T4 × Bool × Unit) (hp : ∀ w', Below w0.heap.size w0 w' → K p w') :
    StA P0 ⟨b8, 0, none⟩ (Tup.cells (R 4 (.i .i64)) p.1) w fun w19 => StA P0 ⟨b9, 0, none⟩ (Tup.cells (R 4 (.i .i64)) p.2.1) w19 fun w20 => LdA (R 4 (.i .i64)) ⟨b8, 0, none⟩ w20 fun r w21 => LdA (R 4 (.i .i64)) ⟨b9, 0, none⟩ w20 fun r1 w22 => K (r, (r1, (p.2.2.1, ()))) w20 := by
  repeat' (first | (with_reducible refine ldM (by assumption) (by with_unfolding_all (repeat (first | exact List.mem_cons_self | refine List.mem_cons_of_mem _ ?_))) (by with_unfolding_all rfl) ?_) | (with_reducible refine ldAM (by assumption) (by with_unfolding_all (repeat (first | exact List.mem_cons_self | refine List.mem_cons_of_mem _ ?_))) ?_) | (with_reducible refine nwZ (by assumption) fun _ _ _ => ?_) | (with_reducible refine nwM' (by assumption) fun _ _ _ => ?_) | (with_reducible refine stM0 (by assumption) (by with_unfolding_all (repeat (first | exact Up.head _ _ _ _ | apply Up.tail))) fun _ _ => ?_) | (with_reducible refine stM1 (by assumption) (by with_unfolding_all (repeat (first | exact Up.head _ _ _ _ | apply Up.tail))) fun _ _ => ?_) | (with_reducible refine stM2 (by assumption) (by with_unfolding_all (repeat (first | exact Up.head _ _ _ _ | apply Up.tail))) fun _ _ => ?_) | (with_reducible refine stM3 (by assumption) (by with_unfolding_all (repeat (first | exact Up.head _ _ _ _ | apply Up.tail))) fun _ _ => ?_) | (with_reducible refine stAM' (by assumption) (by with_unfolding_all (repeat (first | exact Up.head _ _ _ _ | apply Up.tail))) fun _ _ => ?_) | (with_reducible refine stAL (by assumption) (by with_unfolding_all (repeat (first | exact Up.head _ _ _ _ | apply Up.tail))) fun _ _ => ?_) | (with_reducible refine And.intro (fun _ => ?_) (fun _ => ?_)) | (refine stAM' (by assumption) (by with_unfolding_all (repeat (first | exact Up.head _ _ _ _ | apply Up.tail))) fun _ _ => ?_))
  rename_i m9
  exact hp _ m9.low
end
section
variable {w : World}
set_option maxHeartbeats 4000000 in
theorem spec.l2Branch.c {op : Int} {lo hi n : Nat} {is_ : Bool} {K : T4 × T4 × Bool × Unit → World → Prop} (ho : 12 ≤ op ∧ op ≤ 15) (hle : lo ≤ hi) (hhi : hi < 2 ^ 31) (hn : n < 2 ^ 31)
    (hK : ∀ w', Below w.heap.size w w' → K (brT op lo hi n is_) w') :
    CallT (.n [(.ag (R 4 (.i .i64))), (.ag (R 4 (.i .i64))), (.lf .b)]) P0 42 [.int .i64 op, .agg (Tup.cells (R 4 (.i .i64)) (ivl lo hi)).toArray, .agg (Tup.cells (R 4 (.i .i64)) (ivl n n)).toArray, .bool is_] w K := by
  refine spec.l2Branch.ok ?_
  unfold spec.l2Branch.vc
  have hm := M.start w
  refine nwM' hm fun w1 ba m1 => nwM' m1 fun w2 bb m2 => nwZ m2 fun w3 b8 m3 => nwZ m3 fun w4 b9 m4 => ?_
  clear hm m1 m2 m3
  refine ⟨fun t w' => M w w' [(b9, ((0, 0, 0, 0, ()) : T4)), (b8, ((0, 0, 0, 0, ()) : T4)), (bb, ivl n n), (ba, ivl lo hi)] ∧ t = decide (op ≤ 13 ∧ is_ = decide (op = 12)), ?_, ?_⟩
  · refine And.intro (fun h => ⟨m4, ?_⟩) (fun h => ⟨m4, ?_⟩)
    · rw [decide_eq_decide]
      have : (op == 12) = is_ := by simpa using h
      rw [← this]
      exact ⟨fun h => ⟨h, rfl⟩, fun h => h.1⟩
    · have : ¬ ((op == 12) = is_) := by simpa using h
      symm
      rw [decide_eq_false_iff_not]
      exact fun h2 => this h2.2.symm
  rintro t w5 ⟨m5, rfl⟩ _
  clear m4
  refine And.intro (fun h1 => ?_) (fun h1 => And.intro (fun h2 => ?_) (fun h2 => ?_))
  · simp only [decide_eq_true_eq] at h1
    have e := brT_same (lo := lo) (hi := hi) (n := n) ⟨ho.1, h1.1⟩ h1.2
    refine ldAM m5 (by with_unfolding_all (repeat (first | exact List.mem_cons_self | refine List.mem_cons_of_mem _ ?_))) (ldAM m5 (by with_unfolding_all (repeat (first | exact List.mem_cons_self | refine List.mem_cons_of_mem _ ?_))) ?_)
    refine spec.l2Meet.c hle hhi hn fun w6 hb6 => ?_
    have m6 := m5.below hb6
    refine tailM m6 _ fun w' hb' => kof (hK w' hb') ?_
    rw [e]
    split <;> rfl
  · simp only [decide_eq_true_eq] at h2
    simp only [decide_eq_false_iff_not] at h1
    have hno : ¬ is_ = decide (op = 12) := fun h => h1 ⟨h2, h⟩
    have e := brT_but (lo := lo) (hi := hi) (n := n) ⟨ho.1, h2⟩ hno
    refine ldAM m5 (by with_unfolding_all (repeat (first | exact List.mem_cons_self | refine List.mem_cons_of_mem _ ?_))) (ldAM m5 (by with_unfolding_all (repeat (first | exact List.mem_cons_self | refine List.mem_cons_of_mem _ ?_))) ?_)
    refine spec.l2Apart.c hle hhi fun w7 hb7 => ?_
    have m7 := m5.below hb7
    clear m5
    have two : ∀ {w8 : World} {Kp : T4 × Bool × Unit → World → Prop}, (∀ w' y, Below w8.heap.size w8 w' → (¬ (lo = n ∧ hi = n) → y = (ivl n n, true, ())) → Kp y w') → CallT (.n [(.ag (R 4 (.i .i64))), (.lf .b)]) P0 63 [.agg (Tup.cells (R 4 (.i .i64)) (ivl n n)).toArray, .agg (Tup.cells (R 4 (.i .i64)) (ivl lo hi)).toArray] w8 Kp := by
      intro w8 Kp hKp
      by_cases hq : lo = hi
      · subst hq
        refine spec.l2Apart.c (lo := n) (hi := n) (n := lo) (Nat.le_refl _) hn fun w9 hb9 => hKp _ _ hb9 fun hne => ?_
        rw [if_neg (by omega), if_neg (by omega), if_neg (by omega)]
      · refine spec.l2Apart.n (fun e => hq (by have e' : (lo : Int) = (hi : Int) := e; omega)) fun w9 hb9 => hKp _ _ hb9 fun _ => rfl
    by_cases hq : lo = n ∧ hi = n
    · rw [if_pos hq] at e ⊢
      refine nwZ m7 fun w8 bx_ m8 => stAM' m8 (by with_unfolding_all (repeat (first | exact Up.head _ _ _ _ | apply Up.tail))) fun w9 m9 => ?_
      replace m9 : M w w9 [(bx_, nR), (b9, ((0, 0, 0, 0, ()) : T4)), (b8, ((0, 0, 0, 0, ()) : T4)), (bb, ivl n n), (ba, ivl lo hi)] := m9
      refine ldAM m9 (by with_unfolding_all (repeat (first | exact List.mem_cons_self | refine List.mem_cons_of_mem _ ?_))) (ldAM m9 (by with_unfolding_all (repeat (first | exact List.mem_cons_self | refine List.mem_cons_of_mem _ ?_))) ?_)
      refine two fun w10 y hb10 _ => ?_
      have m10 := m9.below hb10
      refine nwZ m10 fun w11 by_ m11 => stAM' m11 (by with_unfolding_all (repeat (first | exact Up.head _ _ _ _ | apply Up.tail))) fun w12 m12 => ?_
      refine And.intro (fun _ => ?_) (fun h => by simp at h)
      clear m7 m8 m9 m10 m11
      repeat' (first | (with_reducible refine ldM (by assumption) (by with_unfolding_all (repeat (first | exact List.mem_cons_self | refine List.mem_cons_of_mem _ ?_))) (by with_unfolding_all rfl) ?_) | (with_reducible refine ldAM (by assumption) (by with_unfolding_all (repeat (first | exact List.mem_cons_self | refine List.mem_cons_of_mem _ ?_))) ?_) | (with_reducible refine nwZ (by assumption) fun _ _ _ => ?_) | (with_reducible refine nwM' (by assumption) fun _ _ _ => ?_) | (with_reducible refine stM0 (by assumption) (by with_unfolding_all (repeat (first | exact Up.head _ _ _ _ | apply Up.tail))) fun _ _ => ?_) | (with_reducible refine stM1 (by assumption) (by with_unfolding_all (repeat (first | exact Up.head _ _ _ _ | apply Up.tail))) fun _ _ => ?_) | (with_reducible refine stM2 (by assumption) (by with_unfolding_all (repeat (first | exact Up.head _ _ _ _ | apply Up.tail))) fun _ _ => ?_) | (with_reducible refine stM3 (by assumption) (by with_unfolding_all (repeat (first | exact Up.head _ _ _ _ | apply Up.tail))) fun _ _ => ?_) | (with_reducible refine stAM' (by assumption) (by with_unfolding_all (repeat (first | exact Up.head _ _ _ _ | apply Up.tail))) fun _ _ => ?_) | (with_reducible refine stAL (by assumption) (by with_unfolding_all (repeat (first | exact Up.head _ _ _ _ | apply Up.tail))) fun _ _ => ?_) | (with_reducible refine And.intro (fun _ => ?_) (fun _ => ?_)) | (refine stAM' (by assumption) (by with_unfolding_all (repeat (first | exact Up.head _ _ _ _ | apply Up.tail))) fun _ _ => ?_))
      rename_i m15
      exact kof (hK _ m15.low) e
    · rw [if_neg hq] at e ⊢
      refine nwZ m7 fun w8 bx_ m8 => stAM' m8 (by with_unfolding_all (repeat (first | exact Up.head _ _ _ _ | apply Up.tail))) fun w9 m9 => ?_
      replace m9 : M w w9 [(bx_, ivl (if lo = n then n + 1 else lo) (if hi = n then n - 1 else hi)), (b9, ((0, 0, 0, 0, ()) : T4)), (b8, ((0, 0, 0, 0, ()) : T4)), (bb, ivl n n), (ba, ivl lo hi)] := m9
      refine ldAM m9 (by with_unfolding_all (repeat (first | exact List.mem_cons_self | refine List.mem_cons_of_mem _ ?_))) (ldAM m9 (by with_unfolding_all (repeat (first | exact List.mem_cons_self | refine List.mem_cons_of_mem _ ?_))) ?_)
      refine two fun w10 y hb10 hy => ?_
      rw [hy hq]
      have m10 := m9.below hb10
      refine nwZ m10 fun w11 by_ m11 => stAM' m11 (by with_unfolding_all (repeat (first | exact Up.head _ _ _ _ | apply Up.tail))) fun w12 m12 => ?_
      replace m12 : M w w12 [(by_, ivl n n), (bx_, ivl (if lo = n then n + 1 else lo) (if hi = n then n - 1 else hi)), (b9, ((0, 0, 0, 0, ()) : T4)), (b8, ((0, 0, 0, 0, ()) : T4)), (bb, ivl n n), (ba, ivl lo hi)] := m12
      clear m7 m8 m9 m10 m11
      refine And.intro (fun h => by simp at h) (fun _ => And.intro (fun h => by simp at h) (fun _ => ?_))
      exact tailU (K := fun r r1 w => K (r, (r1, (true, ()))) w) (x1 := (0, 0, 0, 0, ())) (x2 := (0, 0, 0, 0, ())) (r := [(by_, ivl n n), (bx_, ivl (if lo = n then n + 1 else lo) (if hi = n then n - 1 else hi)), (b9, ((0, 0, 0, 0, ()) : T4)), (bb, ivl n n), (ba, ivl lo hi)]) m12 (by (repeat (first | exact Del.head _ _ _ | apply Del.tail))) (by with_unfolding_all (repeat (first | exact List.mem_cons_self | refine List.mem_cons_of_mem _ ?_))) (by with_unfolding_all (repeat (first | exact List.mem_cons_self | refine List.mem_cons_of_mem _ ?_))) (by with_unfolding_all (repeat (first | exact List.mem_cons_self | refine List.mem_cons_of_mem _ ?_))) fun w13 hb13 => kof (hK _ hb13) e
  · simp only [decide_eq_false_iff_not] at h2
    refine ⟨fun t w' => M w w' [(b9, ((0, 0, 0, 0, ()) : T4)), (b8, ((0, 0, 0, 0, ()) : T4)), (bb, ivl n n), (ba, ivl lo hi)] ∧ t = decide (op = 14 ∧ is_ = true), ?_, ?_⟩
    · refine And.intro (fun h => ⟨m5, ?_⟩) (fun h => ⟨m5, ?_⟩)
      · have : op = 14 := by simpa using h
        cases is_ <;> simp [this]
      · have : ¬ op = 14 := by simpa using h
        simp [this]
    rintro t w6 ⟨m6, rfl⟩ _
    clear m5
    refine And.intro (fun h3 => ?_) (fun h3 => ?_)
    · simp only [decide_eq_true_eq] at h3
      obtain ⟨rfl, rfl⟩ := h3
      refine ldAM m6 (by with_unfolding_all (repeat (first | exact List.mem_cons_self | refine List.mem_cons_of_mem _ ?_))) (ldAM m6 (by with_unfolding_all (repeat (first | exact List.mem_cons_self | refine List.mem_cons_of_mem _ ?_))) ?_)
      refine spec.l2Below.c (by_ := 1) ⟨hle, hhi, Nat.le_refl _, hn⟩ (by omega) fun w7 hb7 => ?_
      refine tailP (m6.below hb7) _ fun w' hb' => kof (hK w' hb') (bw14t hle).symm
    · simp only [decide_eq_false_iff_not] at h3
      refine ⟨fun t w' => M w w' [(b9, ((0, 0, 0, 0, ()) : T4)), (b8, ((0, 0, 0, 0, ()) : T4)), (bb, ivl n n), (ba, ivl lo hi)] ∧ t = decide (op = 15 ∧ is_ = false), ?_, ?_⟩
      · refine And.intro (fun h => ⟨m6, ?_⟩) (fun h => ⟨m6, ?_⟩)
        · have : op = 15 := by simpa using h
          cases is_ <;> simp [this]
        · have : ¬ op = 15 := by simpa using h
          simp [this]
      rintro t w7 ⟨m7, rfl⟩ _
      clear m6
      refine And.intro (fun h4 => ?_) (fun h4 => And.intro (fun h5 => ?_) (fun h5 => ?_))
      · simp only [decide_eq_true_eq] at h4
        obtain ⟨rfl, rfl⟩ := h4
        refine ldAM m7 (by with_unfolding_all (repeat (first | exact List.mem_cons_self | refine List.mem_cons_of_mem _ ?_))) (ldAM m7 (by with_unfolding_all (repeat (first | exact List.mem_cons_self | refine List.mem_cons_of_mem _ ?_))) ?_)
        refine spec.l2Below.c (by_ := 0) ⟨hle, hhi, Nat.le_refl _, hn⟩ (by omega) fun w8 hb8 => ?_
        refine tailP (m7.below hb8) _ fun w' hb' => kof (hK w' hb') ?_
        rw [← bw15f hle]; simp
      · have h14 : op = 14 := by simpa using h5
        subst h14
        have hf : is_ = false := by cases is_ <;> simp at h3 ⊢
        subst hf
        refine ldAM m7 (by with_unfolding_all (repeat (first | exact List.mem_cons_self | refine List.mem_cons_of_mem _ ?_))) (ldAM m7 (by with_unfolding_all (repeat (first | exact List.mem_cons_self | refine List.mem_cons_of_mem _ ?_))) ?_)
        refine spec.l2Below.c (by_ := 0) ⟨Nat.le_refl _, hn, hle, hhi⟩ (by omega) fun w8 hb8 => ?_
        refine tailS (m7.below hb8) _ fun w' hb' => kof (hK w' hb') ?_
        have e := bw14f (lo := lo) (hi := hi) (n := n) hle
        simp only [Int.natCast_zero, Int.sub_zero, Int.add_zero]
        rw [show (if (hi : Int) < (n : Int) then (hi : Int) else (n : Int)) = (if (n : Int) < (hi : Int) then (n : Int) else (hi : Int)) by split <;> split <;> omega, e]
        rfl
      · simp only [decide_eq_false_iff_not] at h4
        have h14 : ¬ op = 14 := by simpa using h5
        have h15 : op = 15 := by omega
        subst h15
        have hf : is_ = true := by cases is_ <;> simp at h4 ⊢
        subst hf
        refine ldAM m7 (by with_unfolding_all (repeat (first | exact List.mem_cons_self | refine List.mem_cons_of_mem _ ?_))) (ldAM m7 (by with_unfolding_all (repeat (first | exact List.mem_cons_self | refine List.mem_cons_of_mem _ ?_))) ?_)
        refine spec.l2Below.c (by_ := 1) ⟨Nat.le_refl _, hn, hle, hhi⟩ (by omega) fun w8 hb8 => ?_
        refine tailS (m7.below hb8) _ fun w' hb' => kof (hK w' hb') ?_
        have e := bw15t (lo := lo) (hi := hi) (n := n) hle
        show _ = swT (bwT _ _ _ _)
        rw [show ((1 : Nat) : Int) = 1 from rfl, e]
        rfl
end
end Go.Proofs.YtdlnoabihfnmmaaGreat.V

/- Words for regions that make boxes and fill them; contracts: what a rule leaves of a range. -/
namespace Go.Proofs.YtdlnoabihfnmmaaGreat.V
open Go Go.RowKit
set_option linter.unusedVariables false
set_option linter.unusedSimpArgs false
section
variable {w0 w w1 w' : World} {l : List (Nat × T4)} {H b b1 b2 : Nat} {y y1 y2 : T4}
theorem gkX {r : Rs} {x : r.T} {v : Value} (hv : v = r.emb x) (h : Below w1.heap.size w1 w') (hH : H ≤ w1.heap.size) : GK r (Sb H (Below H)) w1 (eqG x) v w' :=
  ⟨x, hv, ⟨h.mono hH, h.size, fun b _ hb => h.block b hb⟩, rfl⟩
theorem nwX {cs : Array Value} {t : TypeId} (hH : H ≤ w1.heap.size) : Nw cs t w1 fun a w2 => AXp H t cs (Below H) w1 (.pointer (some a)) w2 :=
  nw fun w2 hb hs hc => ⟨rfl, ⟨hb.mono hH, hb.size, fun b _ h => hb.block b h⟩, by omega, hc⟩
theorem stX {b : Nat} (hH : H ≤ b) (hH2 : H ≤ w1.heap.size) (hc : w1.heap[b]? = some (.cells (zc P0 54) 54 (0, 0))) :
    StA P0 ⟨b, 0, none⟩ (Tup.cells (R 4 (.i .i64)) y) w1 fun w2 => GS (.o (.ag (R 4 (.i .i64)))) (Below H) w1 (eqG y) b 54 w2 := by
  rw [zcRange] at hc
  obtain ⟨w', hr, hg, hsz, hh⟩ := run_storeCells_at' P0 (b := b) (t := 54) (Tup.cells (R 4 (.i .i64)) y) 0 [] (Tup.cells (R 4 (.i .i64)) ((0, 0, 0, 0, ()) : T4)) w1 (oneCell4 y) rfl rfl (by simpa using hc)
  exact ⟨w', hr, y, (Below.refl _ _).grown hg hH2 (fun k hk => by simp only [Option.some.injEq] at hk; omega), ⟨hg.size, fun k hk hne => hg.block k hk (by simpa using hne), (show w'.heap[b]? = some (.cells (Tup.cells (R 4 (.i .i64)) y).toArray 54 (0, 0)) by simpa using hh)⟩, rfl⟩
theorem M.bxd1 (hm : M w0 w l) (hb : Below w.heap.size w w') (h : BxD w.heap.size w' [(b, (Tup.cells (R 4 (.i .i64)) y).toArray, 54)]) : M w0 w' ((b, y) :: l) := by
  have hm' := hm.below hb
  obtain ⟨h1, _⟩ := h
  have hb1 := h1 _ List.mem_cons_self
  simp only at hb1
  refine ⟨hm'.low, fun c z hz => ?_, ?_⟩
  · rcases List.mem_cons.1 hz with e | e
    · simp only [Prod.mk.injEq] at e
      obtain ⟨rfl, rfl⟩ := e
      exact ⟨by have := hm.low.size; omega, hb1.2.1, hb1.2.2⟩
    · exact hm'.box c z e
  · simp only [List.map_cons, List.nodup_cons]
    refine ⟨fun hh => ?_, hm.one⟩
    obtain ⟨p, hp, e⟩ := List.mem_map.1 hh
    have := (hm.box p.1 p.2 hp).2.1
    omega
theorem M.bxd2 (hm : M w0 w l) (hb : Below w.heap.size w w') (h : BxD w.heap.size w' [(b1, (Tup.cells (R 4 (.i .i64)) y1).toArray, 54), (b2, (Tup.cells (R 4 (.i .i64)) y2).toArray, 54)]) : M w0 w' ((b1, y1) :: (b2, y2) :: l) := by
  have hm2 := hm.bxd1 (b := b2) (y := y2) hb ⟨fun x hx => h.1 x (List.mem_cons_of_mem _ hx), (List.nodup_cons.1 (by simpa using h.2)).2⟩
  have hb1 := h.1 _ List.mem_cons_self
  simp only at hb1
  refine ⟨hm2.low, fun c z hz => ?_, ?_⟩
  · rcases List.mem_cons.1 hz with e | e
    · simp only [Prod.mk.injEq] at e
      obtain ⟨rfl, rfl⟩ := e
      exact ⟨by have := hm.low.size; omega, hb1.2.1, hb1.2.2⟩
    · exact hm2.box c z e
  · simp only [List.map_cons, List.nodup_cons, List.mem_cons, not_or]
    refine ⟨⟨?_, fun hh => ?_⟩, List.nodup_cons.1 hm2.one⟩
    · have := h.2
      simp only [List.map_cons, List.map_nil, List.nodup_cons, List.mem_singleton] at this
      exact this.1
    · obtain ⟨p, hp, e⟩ := List.mem_map.1 hh
      have := (hm.box p.1 p.2 hp).2.1
      omega
end
section
variable {w : World}
theorem keptE {α : Type} {v : α} {Sp : World → World → Prop} : Kept Sp (eqG v) := fun _ _ _ h _ => h
/-- What a rule leaves of a range. -/
theorem spec.l9Range.c {x : Rule} {lo hi : Nat} {is_ : Bool} {K : T4 × Bool × Unit → World → Prop} (ho : 12 ≤ x.op ∧ x.op ≤ 15) (hn : 0 ≤ x.num ∧ x.num ≤ 255) (hle : lo ≤ hi) (hhi : hi < 2 ^ 31)
    (hK : ∀ w', Below w.heap.size w w' → K ((brT x.op lo hi x.num.toNat is_).1, (brN x.op lo hi x.num.toNat is_).isSome, ()) w') :
    CallT (.n [(.ag (R 4 (.i .i64))), (.lf .b)]) P0 26 [.agg (Tup.cells (R 5 (.i .i64)) x.t).toArray, .agg (Tup.cells (R 4 (.i .i64)) (ivl lo hi)).toArray, .bool is_] w K := by
  refine spec.l9Range.ok ?_
  unfold spec.l9Range.vc
  obtain ⟨n, hn'⟩ : ∃ n : Nat, x.num = n := ⟨x.num.toNat, by omega⟩
  have hn2 : x.num.toNat = n := by omega
  rw [hn2] at hK
  refine nw fun w1 hb1 hs1 hc1 => ?_
  have hm := M.start w1
  refine nwM' hm fun w2 bw m2 => nwZ m2 fun w3 b6 m3 => ?_
  clear m2 hm
  have hx : w3.heap[w.heap.size]? = some (.cells (Tup.cells (R 5 (.i .i64)) x.t).toArray 40 (0, 0)) := (m3.low.block _ (by omega)).trans hc1
  have hlt : w.heap.size < w3.heap.size := by have := m3.low.size; omega
  refine ⟨Below w3.heap.size, belOk _, eqG x.op, keptE, eqG (ivl lo hi), keptE, eqG (n : Int), keptE, eqG (ivl n n), keptE, eqG (brT x.op lo hi n is_), keptE, eqG (brT x.op lo hi n is_).1, keptE, eqG (brT x.op lo hi n is_).2.1, keptE, ?_⟩
  refine ⟨fun w4 hs => ?_, fun t13 => ⟨fun w4 hs => ?_, fun t14 => ⟨fun w4 hs => ?_, fun t16 => ⟨fun w4 hs f => ?_, fun t17 => ⟨fun w4 hs f13 f14 f17 => ?_, fun t19 => ⟨fun w4 hs => nwX hs.size, fun out => ⟨fun w4 hs => nwX hs.size, fun t9 => ⟨fun w4 hs f19 h1 h2 => ?_, fun st => ⟨fun w4 hs f19 h1 h2 => ?_, fun st1 w4 hs f13 f14 f16 f17 f19 g1 g2 hbx => ?_⟩⟩⟩⟩⟩⟩⟩⟩⟩
  · exact ldB ((hs.block _ hlt).trans hx) (j := 1) (x := x.op) rfl (gkX rfl (Below.refl _ _) hs.size)
  · exact ldAM (m3.below hs) (by with_unfolding_all (repeat (first | exact List.mem_cons_self | refine List.mem_cons_of_mem _ ?_))) (gkX rfl (Below.refl _ _) hs.size)
  · exact ldB ((hs.block _ hlt).trans hx) (j := 2) (x := (n : Int)) (by rw [← hn']; rfl) (gkX rfl (Below.refl _ _) hs.size)
  · cases f
    refine spec.l2One.c fun w5 hb5 => gkX ?_ hb5 hs.size
    rw [ivl_one]; rfl
  · cases f13; cases f14; cases f17
    exact spec.l2Branch.c ho hle hhi (by omega) fun w5 hb5 => gkX rfl hb5 hs.size
  · cases f19; exact stX h1 hs.size h2
  · cases f19; exact stX h1 hs.size h2
  · cases f19; cases g1; cases g2
    have m4 := m3.bxd2 hs hbx
    clear m3
    refine ldAM m4 (by with_unfolding_all (repeat (first | exact List.mem_cons_self | refine List.mem_cons_of_mem _ ?_))) (stAM' m4 (by with_unfolding_all (repeat (first | exact Up.head _ _ _ _ | apply Up.tail))) fun w5 m5 => ldAM m5 (by with_unfolding_all (repeat (first | exact List.mem_cons_self | refine List.mem_cons_of_mem _ ?_))) ?_)
    refine kof (hK w5 (hb1.trans (m5.low.mono hb1.size))) ?_
    rw [← brT_ok]
end
end Go.Proofs.YtdlnoabihfnmmaaGreat.V

/- A part of a row is copied over another part of a row. -/
namespace Go.Proofs.YtdlnoabihfnmmaaGreat.V
open Go Go.RowKit
set_option linter.unusedVariables false
set_option linter.unusedSimpArgs false
section
variable {α : Type} {k : Kd α} {t : TypeId} {B : Nat} {w : World} {s : Sl} {xs : List α}
theorem mul_part {L p i n : Nat} (h : i < n) {j : Nat} (hj : j < L) : p * L + (i * L + j) < (p + n) * L := by
  have h1 : (i + 1) * L ≤ n * L := Nat.mul_le_mul_right _ h
  rw [Nat.succ_mul] at h1
  rw [Nat.add_mul]; omega
/-- Elements are copied over those from a place on. -/
theorem copyW {P : Program} {dT sT e ty : TypeId} (hu : P.underlying dT = some (.slice e)) (hs : szOf P e = some k.ls.length) (h1 : ∀ l ∈ k.ls, l ≠ .any) (h0 : 0 < k.ls.length) (h : WrS k t B w s xs) {p : Nat} {d : Sl} (hda : d.a = s.a.map (·.add (p * k.ls.length))) (hdn : d.n = xs.length - p) (hp : p < xs.length) {x : Sl} {ys : List α} (hx : SlR k w x ys) (hy : ys ≠ [])
    {zs : List α} (hzl : zs.length = xs.length) (hz : ∀ i, i < xs.length → zs[i]? = if p ≤ i ∧ i - p < min ys.length (xs.length - p) then ys[i - p]? else xs[i]?) {K : Int → World → Prop}
    (hK : ∀ w', WrS k t B w' s zs → w.grownBy w' s.bk → w'.heap.size = w.heap.size → K ((min ys.length (xs.length - p) : Nat) : Int) w') :
    RunT (.o (.lf (.i .i64))) P (Builtin.copy_ #[dT, sT] ty #[d.v, x.v]) w K := by
  obtain ⟨y0, hy0⟩ := get_some (l := xs) (k := xs.length - 1) (by omega)
  obtain ⟨b, o, cur, ha, hB, hg, hc, hcs⟩ := h.at hy0 h0
  obtain ⟨b2, o2, ha2, hat⟩ : ∃ b o, x.a = some ⟨b, o, none⟩ ∧ ∀ i x, ys[i]? = some x → At w b (o + i * k.ls.length) (k.cells x) := by
    rcases hx.2.2.2 with h' | h'
    · exact absurd h' hy
    · exact h'
  generalize hn : min ys.length (xs.length - p) = n at *
  have hn1 : n ≤ ys.length := by omega
  have hn2 : p + n ≤ xs.length := by omega
  have hcl : ((ys.take n).flatMap k.cells).length = n * k.ls.length := by rw [flat_length, List.length_take, Nat.min_eq_left hn1]
  have hsrc : ∀ j v, ((ys.take n).flatMap k.cells)[j]? = some v → w.cell? ((⟨b2, o2, none⟩ : Addr).add j) = some v := by
    intro j u hu
    have hjl := lt_of_get hu
    rw [hcl] at hjl
    have hq : j / k.ls.length < n := Nat.div_lt_of_lt_mul (by rw [Nat.mul_comm]; exact hjl)
    have hr : j % k.ls.length < k.ls.length := Nat.mod_lt _ h0
    have hy : ys[j / k.ls.length]? = some (ys[j / k.ls.length]'(by omega)) := List.getElem?_eq_getElem _
    have hy' : (ys.take n)[j / k.ls.length]? = some (ys[j / k.ls.length]'(by omega)) := by rw [List.getElem?_take, if_pos hq, hy]
    have hv : (k.cells (ys[j / k.ls.length]'(by omega)))[j % k.ls.length]? = some ((k.cells (ys[j / k.ls.length]'(by omega)))[j % k.ls.length]'(by rw [k.cells_length]; exact hr)) := List.getElem?_eq_getElem _
    have h1 := flat_get k (ys.take n) _ _ hy' _ _ hv
    have hj : j / k.ls.length * k.ls.length + j % k.ls.length = j := by rw [Nat.mul_comm]; exact Nat.div_add_mod _ _
    rw [hj, hu] at h1
    simp only [Option.some.injEq] at h1
    have h2 := hat _ _ hy _ _ hv
    rw [← h1, Nat.add_assoc, hj] at h2
    rw [add_mk]
    exact h2
  have hone : ∀ u ∈ (ys.take n).flatMap k.cells, u.oneCell' = true := by
    intro u hu
    obtain ⟨y, _, hy⟩ := List.mem_flatMap.1 hu
    exact oneCell_cells k h1 y u hy
  have hfit : o + p * k.ls.length + 0 + ((ys.take n).flatMap k.cells).length ≤ cur.size := by
    rw [hcl]
    have h2 : (p + n) * k.ls.length ≤ xs.length * k.ls.length := Nat.mul_le_mul_right _ hn2
    rw [Nat.add_mul] at h2
    have h3 : (xs.length - 1) * k.ls.length + k.ls.length = xs.length * k.ls.length := by rw [← Nat.succ_mul]; congr 1; omega
    omega
  obtain ⟨w', cur', hr, hgr, hss, hh, hin, hout⟩ := run_storeCells_in P (o + p * k.ls.length) ((ys.take n).flatMap k.cells) 0 cur w hone hfit hg
  have hl := run_loadCells_list (P := P) w ⟨b2, o2, none⟩ ((ys.take n).flatMap k.cells) hsrc
  rw [hcl] at hl hout
  have hxn := hx.1
  have hrun : (Builtin.copy_ #[dT, sT] ty #[d.v, x.v]).run P w = .ok (goInt n) w' := by
    simp [Builtin.copy_, run_underlying hu, Builtin.lenOf, Builtin.firstCells, run_sizeOf hs, Sl.v, hda, hdn, ha, ha2, hxn, hn, hl, add_mk, hr]
  refine ⟨(n : Int), w', hrun, hK w' ⟨by rw [hzl]; exact h.1, h.2.1, h.2.2.1, .inr ⟨b, o, cur', ha, hB, hh, ?_⟩⟩ (by simpa [Sl.bk, ha] using hgr) hss⟩
  intro i z hi j v hj
  have hil := lt_of_get hi
  have hjl := lt_of_get hj
  rw [k.cells_length] at hjl
  rw [hz i (by omega)] at hi
  split at hi
  · rename_i hc2
    have hf := flat_get k (ys.take n) (i - p) z (by rw [List.getElem?_take, if_pos hc2.2]; exact hi) j v hj
    have := hin _ _ hf
    have e : o + p * k.ls.length + 0 + ((i - p) * k.ls.length + j) = o + i * k.ls.length + j := by
      have : p * k.ls.length + (i - p) * k.ls.length = i * k.ls.length := by rw [← Nat.add_mul]; congr 1; omega
      omega
    rw [e] at this
    exact this
  · rename_i hc2
    rw [hout _ ?_]
    · exact hc _ _ hi _ _ hj
    · rcases Nat.lt_or_ge i p with hlt | hge
      · have := idx_apart hlt hjl
        left; omega
      · right
        have : (p + n) * k.ls.length ≤ i * k.ls.length := Nat.mul_le_mul_right _ (by omega)
        rw [Nat.add_mul] at this
        omega
end
end Go.Proofs.YtdlnoabihfnmmaaGreat.V

/- Verification conditions, printed by this session's own program (wip/vc.py) and checked by the kernel. -/
namespace Go.Proofs.YtdlnoabihfnmmaaGreat.V
open Go Go.RowKit
set_option linter.unusedVariables false
/- spec.l4Bytes -/
def spec.l4Bytes.pl : Pl := (.s (.r (D 1)) (.s (.r (D 2)) (.s (.s (.r (D 1)) (.b (.l [(0, (.i .i64)), (5, .sl), (6, (.i .i64))] (.s (.s (.r (D 3)) (.c .z .z)) (.s (.b (.s (.r [.d, .d, .d, .d, .d, (.t (.o (.lf .sl))), .d]) (.r (D 3)))) (.r (D 3))))))) (.s (.r [.d, (.t (.o (.lf .s))), .d]) .z))))
def spec.l4Bytes.vc (n : Int) (size : Int) (w : World) (K : ByteArray → World → Prop) : Prop :=
Nw #[] 5 w fun a_t7 w_ =>
∃ (I : Int → Sl → Int → World → Prop) (M : Int → Sl → Int → World → Nat),
I n ⟨(some a_t7), 0, 0⟩ 0 w_ ∧
(∀ (n_1 : Int) (out : Sl) (i : Int) w__1, I n_1 out i w__1 → ∀ _ : Nat → Value,
((decide ((i : Int) < size)) = true → Nw #[(.int .u8 (IntKind.wrap .u8 (iAnd .i64 n_1 255)))] 5 w__1 fun a_t17 w__2 =>
RunT (.o (.lf .sl)) P0 (Builtin.append_ #[22, 22] 22 #[out.v, (.slice (some a_t17) 1 1)]) w__2 fun (t18 : Sl) w__3 =>
(0 : Int) ≤ 8 ∧ (I (Int.fdiv n_1 (2 ^ (min (Int.toNat 8) (IntKind.bits .i64)))) t18 (IntKind.wrap .i64 (i + 1)) w__3 ∧ M (Int.fdiv n_1 (2 ^ (min (Int.toNat 8) (IntKind.bits .i64)))) t18 (IntKind.wrap .i64 (i + 1)) w__3 < M n_1 out i w__1)) ∧
((decide ((i : Int) < size)) = false → RunT (.o (.lf .s)) P0 (convert 22 9 out.v) w__1 fun (t22 : ByteArray) w__4 =>
K t22 w__4))
theorem spec.l4Bytes.ok {n : Int} {size : Int} {w : World} {K : ByteArray → World → Prop} (h : spec.l4Bytes.vc n size w K) : CallT (.o (.lf .s)) P0 68 [(.int .i64 n), (.int .i64 size)] w K :=
  call_of Tryz.func68 rfl rfl (pl := spec.l4Bytes.pl) (show VC P0 Tryz.f68 spec.l4Bytes.pl (.o (.lf .s)) [(.int .i64 n), (.int .i64 size)] w K noP from Eq.mp (by kernel_rfl) h)
/- spec.l3Zero -/
def spec.l3Zero.pl : Pl := (.s (.r (D 1)) (.s (.r [.d, (.t (.o (.lf .sl))), (.t (.o (.lf .s))), .d]) .z))
def spec.l3Zero.vc (n : Int) (w : World) (K : ByteArray → World → Prop) : Prop :=
RunT (.o (.lf .sl)) P0 (Instr.makeSlice 22 (.int .i64 n) (.int .i64 n)) w fun (t4 : Sl) w_ =>
RunT (.o (.lf .s)) P0 (convert 22 9 t4.v) w_ fun (t5 : ByteArray) w__1 =>
K t5 w__1
theorem spec.l3Zero.ok {n : Int} {w : World} {K : ByteArray → World → Prop} (h : spec.l3Zero.vc n w K) : CallT (.o (.lf .s)) P0 105 [(.int .i64 n)] w K :=
  call_of Tryz.func105 rfl rfl (pl := spec.l3Zero.pl) (show VC P0 Tryz.f105 spec.l3Zero.pl (.o (.lf .s)) [(.int .i64 n)] w K noP from Eq.mp (by kernel_rfl) h)
/- spec.l3Shape -/
def spec.l3Shape.pl : Pl := (.s (.r (D 2)) (.s (.r [.d, (.l (.lf (.i .i64))), (.c (.o (.lf .b))), (.sp .d), .d, (.l (.lf (.i .i64))), (.c (.o (.lf .b))), .d, (.sp .d), .d, (.l (.lf (.i .i64))), (.c (.o (.lf .b))), .d, (.sp .d), .d, (.l (.lf .sl)), .d, .d, (.l (.lf .sl)), .d, .d, .d, (.sp .d), .d, (.l (.lf .sl)), .d, .d, (.l (.lf (.i .i64))), .d, .d, .d]) .z))
def spec.l3Shape.vc (m : Tup [(.i .i64), (.i .i64), (.i .i64), .sl, .sl]) (w : World) (K : Bool → World → Prop) : Prop :=
Nw (Tup.cells [(.i .i64), (.i .i64), (.i .i64), .sl, .sl] m).toArray 88 w fun a_m w_ =>
Ld (.i .i64) (Addr.add a_m 0) w_ fun (t4 : Int) w__1 =>
CallT (.o (.lf .b)) P0 46 [(.int .i64 t4), (.int .i64 1), (.int .i64 2)] w__1 fun (t5 : Bool) w__2 =>
(t5 = true → Ld (.i .i64) (Addr.add a_m 1) w__2 fun (t8 : Int) w__3 =>
CallT (.o (.lf .b)) P0 46 [(.int .i64 t8), (.int .i64 1), (.int .i64 8)] w__3 fun (t9 : Bool) w__4 =>
(t9 = true → Ld (.i .i64) (Addr.add a_m 2) w__4 fun (t13 : Int) w__5 =>
CallT (.o (.lf .b)) P0 46 [(.int .i64 t13), (.int .i64 1), (.int .i64 8)] w__5 fun (t14 : Bool) w__6 =>
(t14 = true → Ld .sl (Addr.add a_m 3) w__6 fun (t18 : Sl) w__7 =>
Ld .sl (Addr.add a_m 4) w__7 fun (t21 : Sl) w__8 =>
(((((t18.n : Nat) : Int) : Int) == ((t21.n : Nat) : Int)) = true → Ld .sl (Addr.add a_m 3) w__8 fun (t27 : Sl) w__9 =>
Ld (.i .i64) (Addr.add a_m 2) w__9 fun (t30 : Int) w__10 =>
K (decide ((((t27.n : Nat) : Int) : Int) ≤ t30)) w__10) ∧
(((((t18.n : Nat) : Int) : Int) == ((t21.n : Nat) : Int)) = false → K false w__8)) ∧
(t14 = false → K false w__6)) ∧
(t9 = false → K false w__4)) ∧
(t5 = false → K false w__2)
theorem spec.l3Shape.ok {m : Tup [(.i .i64), (.i .i64), (.i .i64), .sl, .sl]} {w : World} {K : Bool → World → Prop} (h : spec.l3Shape.vc m w K) : CallT (.o (.lf .b)) P0 106 [(.agg (Tup.cells [(.i .i64), (.i .i64), (.i .i64), .sl, .sl] m).toArray)] w K :=
  call_of Tryz.func106 rfl rfl (pl := spec.l3Shape.pl) (show VC P0 Tryz.f106 spec.l3Shape.pl (.o (.lf .b)) [(.agg (Tup.cells [(.i .i64), (.i .i64), (.i .i64), .sl, .sl] m).toArray)] w K noP from Eq.mp (by kernel_rfl) h)
/- spec.l3Ok -/
def spec.l3Ok.pl : Pl := (.s (.r (D 2)) (.j [] (.s (.r [(.l (.ag [(.i .i64), (.i .i64), (.i .i64), .sl, .sl])), (.c (.o (.lf .b))), .d, (.sp .d), .d, (.l (.lf (.i .i64))), .d, (.sp .d), .d, (.l (.lf .sl)), .d, .d, (.l (.lf (.i .i64))), .d, .d, .d]) (.c (.s (.r (D 1)) .z) .z)) (.s (.s (.r (D 1)) (.b (.l [(3, (.i .i64))] (.s (.s (.r [.d, .d, (.l (.lf .sl)), .d, .d]) (.c .z .z)) (.s (.b (.j [] (.s (.r [.d, (.l (.lf .sl)), .d, .d, (.l (.lf .s)), .d, .d, (.l (.lf (.i .i64))), .d, (.sp .d), .d, (.l (.lf .sl)), .d, .d, (.l (.lf (.i .i64))), (.c (.o (.lf (.i .i64)))), (.c (.o (.lf .b))), .d, .d, (.sp .d), .d, (.l (.lf (.i .i64))), .d, (.sp .d), .d, (.l (.lf .sl)), .d, .d, (.l (.lf (.i .i64))), .d, .d, .d, .d]) (.c (.s (.r (D 1)) .z) .z)) (.s (.r (D 1)) (.b (.l [(4, (.i .i64))] (.s (.s (.r (D 3)) (.c .z .z)) (.s (.b (.s (.r [.d, (.l (.lf .sl)), .d, .d, (.l (.lf (.i .i64))), .d, (.l (.lf .sl)), .d, .d, (.l (.lf (.i .i64))), .d]) (.c (.s (.r (D 1)) .z) .z))) (.r (D 3))))))))) (.r (D 3))))))) (.s (.r (D 1)) .z))))
def spec.l3Ok.vc (m : Tup [(.i .i64), (.i .i64), (.i .i64), .sl, .sl]) (w : World) (K : Bool → World → Prop) : Prop :=
Nw (Tup.cells [(.i .i64), (.i .i64), (.i .i64), .sl, .sl] m).toArray 88 w fun a_m w_ =>
∃ J : World → Prop,
(LdA [(.i .i64), (.i .i64), (.i .i64), .sl, .sl] a_m w_ fun (t5 : Tup [(.i .i64), (.i .i64), (.i .i64), .sl, .sl]) w__1 =>
CallT (.o (.lf .b)) P0 106 [(.agg (Tup.cells [(.i .i64), (.i .i64), (.i .i64), .sl, .sl] t5).toArray)] w__1 fun (t6 : Bool) w__2 =>
((!t6) = true → K false w__2) ∧
((!t6) = false → Ld (.i .i64) (Addr.add a_m 0) w__2 fun (t10 : Int) w__3 =>
(((t10 : Int) == 1) = true → Ld .sl (Addr.add a_m 3) w__3 fun (t14 : Sl) w__4 =>
Ld (.i .i64) (Addr.add a_m 2) w__4 fun (t17 : Int) w__5 =>
(((((t14.n : Nat) : Int) : Int) != t17) = true → K false w__5) ∧
(((((t14.n : Nat) : Int) : Int) != t17) = false → J w__5)) ∧
(((t10 : Int) == 1) = false → J w__3))) ∧
(∀  w__6, J w__6 → ∀ _ : Nat → Value,
∃ (I : Int → World → Prop) (M : Int → World → Nat),
I 0 w__6 ∧
(∀ (i : Int) w__7, I i w__7 → ∀ _ : Nat → Value,
Ld .sl (Addr.add a_m 3) w__7 fun (t23 : Sl) w__8 =>
((decide ((i : Int) < ((t23.n : Nat) : Int))) = true → ∃ J_1 : World → Prop,
(QLd .sl (Addr.add a_m 4) (fun w' => Below (World.heap w__8).size w__8 w') fun (t29 : Sl) =>
QIx t29.a t29.n i 1 fun a_t31 =>
QLd .s a_t31 (fun w' => Below (World.heap w__8).size w__8 w') fun (t32 : ByteArray) =>
QLd (.i .i64) (Addr.add a_m 1) (fun w' => Below (World.heap w__8).size w__8 w') fun (t35 : Int) =>
((((((ByteArray.size t32) : Nat) : Int) : Int) != t35) = true → ∀ w__9, Below (World.heap w__8).size w__8 w__9 →
K false w__9) ∧
((((((ByteArray.size t32) : Nat) : Int) : Int) != t35) = false → QLd .sl (Addr.add a_m 3) (fun w' => Below (World.heap w__8).size w__8 w') fun (t39 : Sl) =>
QIx t39.a t39.n i 1 fun a_t41 =>
QLd (.i .i64) a_t41 (fun w' => Below (World.heap w__8).size w__8 w') fun (t42 : Int) =>
QCl (.o (.lf (.i .i64))) P0 41 [] (fun w' => Below (World.heap w__8).size w__8 w') fun (t43 : Int) =>
QCl (.o (.lf .b)) P0 46 [(.int .i64 t42), (.int .i64 0), (.int .i64 t43)] (fun w' => Below (World.heap w__8).size w__8 w') fun (t44 : Bool) =>
((!t44) = true → ∀ w__9, Below (World.heap w__8).size w__8 w__9 →
K false w__9) ∧
((!t44) = false → QLd (.i .i64) (Addr.add a_m 0) (fun w' => Below (World.heap w__8).size w__8 w') fun (t49 : Int) =>
(((t49 : Int) == 1) = true → QLd .sl (Addr.add a_m 3) (fun w' => Below (World.heap w__8).size w__8 w') fun (t53 : Sl) =>
QIx t53.a t53.n i 1 fun a_t55 =>
QLd (.i .i64) a_t55 (fun w' => Below (World.heap w__8).size w__8 w') fun (t56 : Int) =>
∀ w__9, Below (World.heap w__8).size w__8 w__9 →
(((t56 : Int) != i) = true → K false w__9) ∧
(((t56 : Int) != i) = false → J_1 w__9)) ∧
(((t49 : Int) == 1) = false → ∀ w__9, Below (World.heap w__8).size w__8 w__9 →
J_1 w__9)))) ∧
(∀  w__10, J_1 w__10 → ∀ _ : Nat → Value,
∃ (I_1 : Int → World → Prop) (M_1 : Int → World → Nat),
I_1 0 w__10 ∧
(∀ (k : Int) w__11, I_1 k w__11 → ∀ _ : Nat → Value,
((decide ((k : Int) < i)) = true → QLd .sl (Addr.add a_m 3) (fun w' => Below (World.heap w__11).size w__11 w') fun (t67 : Sl) =>
QIx t67.a t67.n k 1 fun a_t69 =>
QLd (.i .i64) a_t69 (fun w' => Below (World.heap w__11).size w__11 w') fun (t70 : Int) =>
QLd .sl (Addr.add a_m 3) (fun w' => Below (World.heap w__11).size w__11 w') fun (t72 : Sl) =>
QIx t72.a t72.n i 1 fun a_t74 =>
QLd (.i .i64) a_t74 (fun w' => Below (World.heap w__11).size w__11 w') fun (t75 : Int) =>
∀ w__12, Below (World.heap w__11).size w__11 w__12 →
(((t70 : Int) == t75) = true → K false w__12) ∧
(((t70 : Int) == t75) = false → (I_1 (IntKind.wrap .i64 (k + 1)) w__12 ∧ M_1 (IntKind.wrap .i64 (k + 1)) w__12 < M_1 k w__11))) ∧
((decide ((k : Int) < i)) = false → (I (IntKind.wrap .i64 (i + 1)) w__11 ∧ M (IntKind.wrap .i64 (i + 1)) w__11 < M i w__7))))) ∧
((decide ((i : Int) < ((t23.n : Nat) : Int))) = false → K true w__8)))
theorem spec.l3Ok.ok {m : Tup [(.i .i64), (.i .i64), (.i .i64), .sl, .sl]} {w : World} {K : Bool → World → Prop} (h : spec.l3Ok.vc m w K) : CallT (.o (.lf .b)) P0 80 [(.agg (Tup.cells [(.i .i64), (.i .i64), (.i .i64), .sl, .sl] m).toArray)] w K :=
  call_of Tryz.func80 rfl rfl (pl := spec.l3Ok.pl) (show VC P0 Tryz.f80 spec.l3Ok.pl (.o (.lf .b)) [(.agg (Tup.cells [(.i .i64), (.i .i64), (.i .i64), .sl, .sl] m).toArray)] w K noP from Eq.mp (by kernel_rfl) h)
/- spec.l3New -/
def spec.l3New.pl : Pl := (.s (.r (D 1)) (.s (.r (D 6)) (.s (.s (.r (D 2)) (.c (.s (.r (D 1)) (.b (.l [(8, (.i .i64))] (.s (.s (.r (D 3)) (.c .z .z)) (.s (.b (.s (.r [.d, (.l (.lf .sl)), .d, .d, (.t (.o (.lf .sl))), .d, .d]) (.x [(.q, []), ((.g (.o (.lf .sl)) (.l (.lf .sl))), []), (.q, []), ((.g (.o (.lf .s)) (.c (.o (.lf .s)))), []), ((.g (.o (.lf .sl)) .d), [3]), ((.h (.o (.lf .sl)) (.t (.o (.lf .sl)))), [1, 4]), (.q, [])] [.d]))) (.r (D 3))))))) .z)) (.s (.r [(.l (.ag [(.i .i64), (.i .i64), (.i .i64), .sl, .sl])), .d]) .z))))
def spec.l3New.vc (kind : Int) (size : Int) (room : Int) (w : World) (K : Tup [(.i .i64), (.i .i64), (.i .i64), .sl, .sl] → World → Prop) : Prop :=
Nw (zc P0 88) 88 w fun a_t6 w_ =>
Nw (zc P0 88) 88 w_ fun a_m w__1 =>
StA P0 a_m [(.int .i64 kind), (.int .i64 size), (.int .i64 room), (.slice none 0 0), (.slice none 0 0)] w__1 fun w__2 =>
(((kind : Int) == 1) = true → ∃ (I : Int → World → Prop) (M : Int → World → Nat),
I 0 w__2 ∧
(∀ (i : Int) w__3, I i w__3 → ∀ _ : Nat → Value,
((decide ((i : Int) < room)) = true → Ld .sl (Addr.add a_m 3) w__3 fun (t21 : Sl) w__4 =>
Nw #[(.int .i64 i)] 3 w__4 fun a_t23 w__5 =>
RunT (.o (.lf .sl)) P0 (Builtin.append_ #[46, 46] 46 #[t21.v, (.slice (some a_t23) 1 1)]) w__5 fun (t24 : Sl) w__6 =>
St (Addr.add a_m 3) t24.v w__6 fun w__7 =>
∃ Sp : World → World → Prop, SpOk Sp w__7 ∧
∃ Sq : World → World → Prop, QOk Sp Sq ∧
∃ N : World → Prop, NOk N w__7 ∧ KeptN Sq N ∧
∃ G_t27 : Sl → World → Prop, Kept Sp G_t27 ∧
∃ G_t29 : ByteArray → World → Prop, Kept Sp G_t29 ∧
∃ G_t30 : Sl → World → Prop, Kept Sp G_t30 ∧
∃ G_t31 : Sl → World → Prop, Kept Sq G_t31 ∧
(∀ w__8, Sp w__7 w__8 → Ld .sl (Addr.add a_m 4) w__8 fun (t27 : Sl) w__9 =>
GK (.o (.lf .sl)) (Sb (World.heap w__7).size Sq) w__8 G_t27 t27.v w__9) ∧
∀ (t27_1 : Sl), (∀ w__10, Sp w__7 w__10 → CallT (.o (.lf .s)) P0 105 [(.int .i64 size)] w__10 fun (t29 : ByteArray) w__11 =>
GK (.o (.lf .s)) (Sb (World.heap w__7).size Sq) w__10 G_t29 (.string t29) w__11) ∧
∀ (t29_1 : ByteArray), (∀ w__12, Sp w__7 w__12 → G_t29 t29_1 w__12 → Nw #[(.string t29_1)] 9 w__12 fun a_t30 w__13 =>
GK (.o (.lf .sl)) (Sb (World.heap w__7).size Sq) w__12 G_t30 (.slice (some a_t30) 1 1) w__13) ∧
∀ (t30 : Sl), (∀ w__14, Sp w__7 w__14 → N w__14 → G_t27 t27_1 w__14 → G_t30 t30 w__14 → RunT (.o (.lf .sl)) P0 (Builtin.append_ #[83, 83] 83 #[t27_1.v, t30.v]) w__14 fun (t31 : Sl) w__15 =>
GK (.o (.lf .sl)) (Sb (World.heap w__7).size Sp) w__14 G_t31 t31.v w__15) ∧
∀ (t31_1 : Sl), ∀ w__16, Sp w__7 w__16 → G_t27 t27_1 w__16 → G_t29 t29_1 w__16 → G_t30 t30 w__16 → G_t31 t31_1 w__16 → BxD (World.heap w__7).size w__16 [] → 
St (Addr.add a_m 4) t31_1.v w__16 fun w__17 =>
(I (IntKind.wrap .i64 (i + 1)) w__17 ∧ M (IntKind.wrap .i64 (i + 1)) w__17 < M i w__3)) ∧
((decide ((i : Int) < room)) = false → LdA [(.i .i64), (.i .i64), (.i .i64), .sl, .sl] a_m w__3 fun (t33 : Tup [(.i .i64), (.i .i64), (.i .i64), .sl, .sl]) w__18 =>
StA P0 a_t6 (Tup.cells [(.i .i64), (.i .i64), (.i .i64), .sl, .sl] t33) w__18 fun w__19 =>
LdA [(.i .i64), (.i .i64), (.i .i64), .sl, .sl] a_t6 w__19 fun r w__20 =>
K r w__19))) ∧
(((kind : Int) == 1) = false → LdA [(.i .i64), (.i .i64), (.i .i64), .sl, .sl] a_m w__2 fun (t33_1 : Tup [(.i .i64), (.i .i64), (.i .i64), .sl, .sl]) w__21 =>
StA P0 a_t6 (Tup.cells [(.i .i64), (.i .i64), (.i .i64), .sl, .sl] t33_1) w__21 fun w__22 =>
LdA [(.i .i64), (.i .i64), (.i .i64), .sl, .sl] a_t6 w__22 fun r_1 w__23 =>
K r_1 w__22)
theorem spec.l3New.ok {kind : Int} {size : Int} {room : Int} {w : World} {K : Tup [(.i .i64), (.i .i64), (.i .i64), .sl, .sl] → World → Prop} (h : spec.l3New.vc kind size room w K) : CallT (.o (.ag [(.i .i64), (.i .i64), (.i .i64), .sl, .sl])) P0 79 [(.int .i64 kind), (.int .i64 size), (.int .i64 room)] w K :=
  call_of Tryz.func79 rfl rfl (pl := spec.l3New.pl) (show VC P0 Tryz.f79 spec.l3New.pl (.o (.ag [(.i .i64), (.i .i64), (.i .i64), .sl, .sl])) [(.int .i64 kind), (.int .i64 size), (.int .i64 room)] w K noP from Eq.mp (by kernel_rfl) h)
/- spec.TableNew -/
def spec.TableNew.pl : Pl := (.s (.r (D 1)) (.s (.s (.r [.d, (.c (.o (.lf .b))), .d, (.sp .d), .d, (.c (.o (.lf .b))), .d, .d, (.sp .d), .d, (.c (.o (.lf .b))), .d, .d]) (.c (.s (.r (D 2)) .z) .z)) (.s (.r [.d, .d, .d, (.c (.o (.ag [(.i .i64), (.i .i64), (.i .i64), .sl, .sl]))), .d]) .z)))
def spec.TableNew.vc (kind : Int) (size : Int) (room : Int) (w : World) (K : Tup [(.i .i64), (.i .i64), (.i .i64), .sl, .sl] → World → Prop) : Prop :=
Nw (zc P0 88) 88 w fun a_t6 w_ =>
CallT (.o (.lf .b)) P0 46 [(.int .i64 kind), (.int .i64 1), (.int .i64 2)] w_ fun (t8 : Bool) w__1 =>
((!t8) = true → StA P0 a_t6 [(.int .i64 0), (.int .i64 0), (.int .i64 0), (.slice none 0 0), (.slice none 0 0)] w__1 fun w__2 =>
LdA [(.i .i64), (.i .i64), (.i .i64), .sl, .sl] a_t6 w__2 fun r w__3 =>
K r w__2) ∧
((!t8) = false → CallT (.o (.lf .b)) P0 46 [(.int .i64 size), (.int .i64 1), (.int .i64 8)] w__1 fun (t12 : Bool) w__4 =>
((!t12) = true → StA P0 a_t6 [(.int .i64 0), (.int .i64 0), (.int .i64 0), (.slice none 0 0), (.slice none 0 0)] w__4 fun w__5 =>
LdA [(.i .i64), (.i .i64), (.i .i64), .sl, .sl] a_t6 w__5 fun r_1 w__6 =>
K r_1 w__5) ∧
((!t12) = false → CallT (.o (.lf .b)) P0 46 [(.int .i64 room), (.int .i64 1), (.int .i64 8)] w__4 fun (t17 : Bool) w__7 =>
((!t17) = true → StA P0 a_t6 [(.int .i64 0), (.int .i64 0), (.int .i64 0), (.slice none 0 0), (.slice none 0 0)] w__7 fun w__8 =>
LdA [(.i .i64), (.i .i64), (.i .i64), .sl, .sl] a_t6 w__8 fun r_2 w__9 =>
K r_2 w__8) ∧
((!t17) = false → CallT (.o (.ag [(.i .i64), (.i .i64), (.i .i64), .sl, .sl])) P0 79 [(.int .i64 kind), (.int .i64 size), (.int .i64 room)] w__7 fun (t24 : Tup [(.i .i64), (.i .i64), (.i .i64), .sl, .sl]) w__10 =>
StA P0 a_t6 (Tup.cells [(.i .i64), (.i .i64), (.i .i64), .sl, .sl] t24) w__10 fun w__11 =>
LdA [(.i .i64), (.i .i64), (.i .i64), .sl, .sl] a_t6 w__11 fun r_3 w__12 =>
K r_3 w__11)))
theorem spec.TableNew.ok {kind : Int} {size : Int} {room : Int} {w : World} {K : Tup [(.i .i64), (.i .i64), (.i .i64), .sl, .sl] → World → Prop} (h : spec.TableNew.vc kind size room w K) : CallT (.o (.ag [(.i .i64), (.i .i64), (.i .i64), .sl, .sl])) P0 66 [(.int .i64 kind), (.int .i64 size), (.int .i64 room)] w K :=
  call_of Tryz.func66 rfl rfl (pl := spec.TableNew.pl) (show VC P0 Tryz.f66 spec.TableNew.pl (.o (.ag [(.i .i64), (.i .i64), (.i .i64), .sl, .sl])) [(.int .i64 kind), (.int .i64 size), (.int .i64 room)] w K noP from Eq.mp (by kernel_rfl) h)
/- spec.l3Copy -/
def spec.l3Copy.pl : Pl := (.s (.r (D 2)) (.s (.r [(.l (.ag [(.i .i64), (.i .i64), (.i .i64), .sl, .sl])), .d, .d]) (.s (.r [.d, .d, (.l (.lf .sl)), (.t (.o (.lf .sl))), .d, .d]) (.s (.r [.d, .d, (.l (.lf .sl)), (.t (.o (.lf .sl))), .d, .d]) (.s (.r [(.l (.ag [(.i .i64), (.i .i64), (.i .i64), .sl, .sl])), .d]) .z)))))
def spec.l3Copy.vc (m : Tup [(.i .i64), (.i .i64), (.i .i64), .sl, .sl]) (w : World) (K : Tup [(.i .i64), (.i .i64), (.i .i64), .sl, .sl] → World → Prop) : Prop :=
Nw (Tup.cells [(.i .i64), (.i .i64), (.i .i64), .sl, .sl] m).toArray 88 w fun a_m w_ =>
Nw (zc P0 88) 88 w_ fun a_t2 w__1 =>
LdA [(.i .i64), (.i .i64), (.i .i64), .sl, .sl] a_m w__1 fun (t4 : Tup [(.i .i64), (.i .i64), (.i .i64), .sl, .sl]) w__2 =>
Nw (zc P0 88) 88 w__2 fun a_out w__3 =>
StA P0 a_out (Tup.cells [(.i .i64), (.i .i64), (.i .i64), .sl, .sl] t4) w__3 fun w__4 =>
Nw #[] 3 w__4 fun a_t5 w__5 =>
Ld .sl (Addr.add a_m 3) w__5 fun (t7 : Sl) w__6 =>
RunT (.o (.lf .sl)) P0 (Builtin.append_ #[46, 46] 46 #[(.slice (some a_t5) 0 0), t7.v]) w__6 fun (t8 : Sl) w__7 =>
St (Addr.add a_out 3) t8.v w__7 fun w__8 =>
Nw #[] 9 w__8 fun a_t10 w__9 =>
Ld .sl (Addr.add a_m 4) w__9 fun (t12 : Sl) w__10 =>
RunT (.o (.lf .sl)) P0 (Builtin.append_ #[83, 83] 83 #[(.slice (some a_t10) 0 0), t12.v]) w__10 fun (t13 : Sl) w__11 =>
St (Addr.add a_out 4) t13.v w__11 fun w__12 =>
LdA [(.i .i64), (.i .i64), (.i .i64), .sl, .sl] a_out w__12 fun (t15 : Tup [(.i .i64), (.i .i64), (.i .i64), .sl, .sl]) w__13 =>
StA P0 a_t2 (Tup.cells [(.i .i64), (.i .i64), (.i .i64), .sl, .sl] t15) w__13 fun w__14 =>
LdA [(.i .i64), (.i .i64), (.i .i64), .sl, .sl] a_t2 w__14 fun r w__15 =>
K r w__14
theorem spec.l3Copy.ok {m : Tup [(.i .i64), (.i .i64), (.i .i64), .sl, .sl]} {w : World} {K : Tup [(.i .i64), (.i .i64), (.i .i64), .sl, .sl] → World → Prop} (h : spec.l3Copy.vc m w K) : CallT (.o (.ag [(.i .i64), (.i .i64), (.i .i64), .sl, .sl])) P0 81 [(.agg (Tup.cells [(.i .i64), (.i .i64), (.i .i64), .sl, .sl] m).toArray)] w K :=
  call_of Tryz.func81 rfl rfl (pl := spec.l3Copy.pl) (show VC P0 Tryz.f81 spec.l3Copy.pl (.o (.ag [(.i .i64), (.i .i64), (.i .i64), .sl, .sl])) [(.agg (Tup.cells [(.i .i64), (.i .i64), (.i .i64), .sl, .sl] m).toArray)] w K noP from Eq.mp (by kernel_rfl) h)
/- spec.l3At -/
def spec.l3At.pl : Pl := (.s (.r (D 2)) (.s (.s (.r (D 1)) (.b (.l [(5, (.i .i64))] (.s (.s (.r [.d, .d, (.l (.lf .sl)), .d, .d]) (.c .z .z)) (.s (.b (.s (.r [.d, (.l (.lf .sl)), .d, .d, (.l (.lf (.i .i64))), .d, .d]) (.c (.s (.r (D 2)) .z) .z))) (.r (D 3))))))) (.s (.r (D 1)) .z)))
def spec.l3At.vc (m : Tup [(.i .i64), (.i .i64), (.i .i64), .sl, .sl]) (key : Int) (w : World) (K : Int → World → Prop) : Prop :=
Nw (Tup.cells [(.i .i64), (.i .i64), (.i .i64), .sl, .sl] m).toArray 88 w fun a_m w_ =>
∃ (I : Int → World → Prop) (M : Int → World → Nat),
I 0 w_ ∧
(∀ (i : Int) w__1, I i w__1 → ∀ _ : Nat → Value,
Ld .sl (Addr.add a_m 3) w__1 fun (t8 : Sl) w__2 =>
((decide ((i : Int) < ((t8.n : Nat) : Int))) = true → Ld .sl (Addr.add a_m 3) w__2 fun (t14 : Sl) w__3 =>
Ix t14.a t14.n i 1 w__3 fun a_t16 w__4 =>
Ld (.i .i64) a_t16 w__4 fun (t17 : Int) w__5 =>
(((t17 : Int) == key) = true → K i w__5) ∧
(((t17 : Int) == key) = false → (I (IntKind.wrap .i64 (i + 1)) w__5 ∧ M (IntKind.wrap .i64 (i + 1)) w__5 < M i w__1))) ∧
((decide ((i : Int) < ((t8.n : Nat) : Int))) = false → K (-1) w__2))
theorem spec.l3At.ok {m : Tup [(.i .i64), (.i .i64), (.i .i64), .sl, .sl]} {key : Int} {w : World} {K : Int → World → Prop} (h : spec.l3At.vc m key w K) : CallT (.o (.lf (.i .i64))) P0 107 [(.agg (Tup.cells [(.i .i64), (.i .i64), (.i .i64), .sl, .sl] m).toArray), (.int .i64 key)] w K :=
  call_of Tryz.func107 rfl rfl (pl := spec.l3At.pl) (show VC P0 Tryz.f107 spec.l3At.pl (.o (.lf (.i .i64))) [(.agg (Tup.cells [(.i .i64), (.i .i64), (.i .i64), .sl, .sl] m).toArray), (.int .i64 key)] w K noP from Eq.mp (by kernel_rfl) h)
/- spec.l3Put -/
def spec.l3Put.pl : Pl := (.s (.r (D 3)) (.s (.r [(.l (.ag [(.i .i64), (.i .i64), (.i .i64), .sl, .sl])), .d, (.c (.o (.lf (.i .i64)))), .d]) (.s (.s (.r (D 2)) (.c (.s (.r [.d, (.l (.lf .sl)), .d, .d, .d, .d]) (.s (.r [(.l (.ag [(.i .i64), (.i .i64), (.i .i64), .sl, .sl])), .d, .d]) .z)) .z)) (.s (.s (.r [.d, (.l (.lf (.i .i64))), .d]) (.c (.s (.r [(.l (.ag [(.i .i64), (.i .i64), (.i .i64), .sl, .sl])), .d, .d]) .z) .z)) (.s (.s (.r [.d, (.l (.lf .sl)), .d, .d, (.l (.lf (.i .i64))), .d]) (.c (.s (.r [(.l (.ag [(.i .i64), (.i .i64), (.i .i64), .sl, .sl])), .d, .d]) .z) .z)) (.s (.r [.d, (.l (.lf .sl)), .d, .d, (.t (.o (.lf .sl))), .d, .d]) (.s (.r [.d, (.l (.lf .sl)), .d, .d, (.t (.o (.lf .sl))), .d, .d]) (.s (.r [(.l (.ag [(.i .i64), (.i .i64), (.i .i64), .sl, .sl])), .d, .d]) .z))))))))
def spec.l3Put.vc (m : Tup [(.i .i64), (.i .i64), (.i .i64), .sl, .sl]) (key : Int) (val : ByteArray) (w : World) (K : (Tup [(.i .i64), (.i .i64), (.i .i64), .sl, .sl]) × (Int) × Unit → World → Prop) : Prop :=
Nw (Tup.cells [(.i .i64), (.i .i64), (.i .i64), .sl, .sl] m).toArray 88 w fun a_m w_ =>
Nw (zc P0 88) 88 w_ fun a_t6 w__1 =>
LdA [(.i .i64), (.i .i64), (.i .i64), .sl, .sl] a_m w__1 fun (t9 : Tup [(.i .i64), (.i .i64), (.i .i64), .sl, .sl]) w__2 =>
CallT (.o (.lf (.i .i64))) P0 107 [(.agg (Tup.cells [(.i .i64), (.i .i64), (.i .i64), .sl, .sl] t9).toArray), (.int .i64 key)] w__2 fun (t11 : Int) w__3 =>
((decide ((t11 : Int) ≥ 0)) = true → Ld .sl (Addr.add a_m 4) w__3 fun (t15 : Sl) w__4 =>
Ix t15.a t15.n t11 1 w__4 fun a_t18 w__5 =>
St a_t18 (.string val) w__5 fun w__6 =>
LdA [(.i .i64), (.i .i64), (.i .i64), .sl, .sl] a_m w__6 fun (t19 : Tup [(.i .i64), (.i .i64), (.i .i64), .sl, .sl]) w__7 =>
StA P0 a_t6 (Tup.cells [(.i .i64), (.i .i64), (.i .i64), .sl, .sl] t19) w__7 fun w__8 =>
LdA [(.i .i64), (.i .i64), (.i .i64), .sl, .sl] a_t6 w__8 fun r w__9 =>
K (r, (0, ())) w__8) ∧
((decide ((t11 : Int) ≥ 0)) = false → Ld (.i .i64) (Addr.add a_m 0) w__3 fun (t21 : Int) w__10 =>
(((t21 : Int) == 1) = true → LdA [(.i .i64), (.i .i64), (.i .i64), .sl, .sl] a_m w__10 fun (t23 : Tup [(.i .i64), (.i .i64), (.i .i64), .sl, .sl]) w__11 =>
StA P0 a_t6 (Tup.cells [(.i .i64), (.i .i64), (.i .i64), .sl, .sl] t23) w__11 fun w__12 =>
LdA [(.i .i64), (.i .i64), (.i .i64), .sl, .sl] a_t6 w__12 fun r_1 w__13 =>
K (r_1, (2, ())) w__12) ∧
(((t21 : Int) == 1) = false → Ld .sl (Addr.add a_m 3) w__10 fun (t25 : Sl) w__14 =>
Ld (.i .i64) (Addr.add a_m 2) w__14 fun (t28 : Int) w__15 =>
((decide ((((t25.n : Nat) : Int) : Int) ≥ t28)) = true → LdA [(.i .i64), (.i .i64), (.i .i64), .sl, .sl] a_m w__15 fun (t30 : Tup [(.i .i64), (.i .i64), (.i .i64), .sl, .sl]) w__16 =>
StA P0 a_t6 (Tup.cells [(.i .i64), (.i .i64), (.i .i64), .sl, .sl] t30) w__16 fun w__17 =>
LdA [(.i .i64), (.i .i64), (.i .i64), .sl, .sl] a_t6 w__17 fun r_2 w__18 =>
K (r_2, (3, ())) w__17) ∧
((decide ((((t25.n : Nat) : Int) : Int) ≥ t28)) = false → Ld .sl (Addr.add a_m 3) w__15 fun (t32 : Sl) w__19 =>
Nw #[(.int .i64 key)] 3 w__19 fun a_t34 w__20 =>
RunT (.o (.lf .sl)) P0 (Builtin.append_ #[46, 46] 46 #[t32.v, (.slice (some a_t34) 1 1)]) w__20 fun (t35 : Sl) w__21 =>
St (Addr.add a_m 3) t35.v w__21 fun w__22 =>
Ld .sl (Addr.add a_m 4) w__22 fun (t38 : Sl) w__23 =>
Nw #[(.string val)] 9 w__23 fun a_t40 w__24 =>
RunT (.o (.lf .sl)) P0 (Builtin.append_ #[83, 83] 83 #[t38.v, (.slice (some a_t40) 1 1)]) w__24 fun (t41 : Sl) w__25 =>
St (Addr.add a_m 4) t41.v w__25 fun w__26 =>
LdA [(.i .i64), (.i .i64), (.i .i64), .sl, .sl] a_m w__26 fun (t43 : Tup [(.i .i64), (.i .i64), (.i .i64), .sl, .sl]) w__27 =>
StA P0 a_t6 (Tup.cells [(.i .i64), (.i .i64), (.i .i64), .sl, .sl] t43) w__27 fun w__28 =>
LdA [(.i .i64), (.i .i64), (.i .i64), .sl, .sl] a_t6 w__28 fun r_3 w__29 =>
K (r_3, (0, ())) w__28)))
theorem spec.l3Put.ok {m : Tup [(.i .i64), (.i .i64), (.i .i64), .sl, .sl]} {key : Int} {val : ByteArray} {w : World} {K : (Tup [(.i .i64), (.i .i64), (.i .i64), .sl, .sl]) × (Int) × Unit → World → Prop} (h : spec.l3Put.vc m key val w K) : CallT (.n [(.ag [(.i .i64), (.i .i64), (.i .i64), .sl, .sl]), (.lf (.i .i64))]) P0 82 [(.agg (Tup.cells [(.i .i64), (.i .i64), (.i .i64), .sl, .sl] m).toArray), (.int .i64 key), (.string val)] w K :=
  call_of Tryz.func82 rfl rfl (pl := spec.l3Put.pl) (show VC P0 Tryz.f82 spec.l3Put.pl (.n [(.ag [(.i .i64), (.i .i64), (.i .i64), .sl, .sl]), (.lf (.i .i64))]) [(.agg (Tup.cells [(.i .i64), (.i .i64), (.i .i64), .sl, .sl] m).toArray), (.int .i64 key), (.string val)] w K noP from Eq.mp (by kernel_rfl) h)
/- spec.TablePut -/
def spec.TablePut.pl : Pl := (.s (.r (D 3)) (.s (.s (.r [(.l (.ag [(.i .i64), (.i .i64), (.i .i64), .sl, .sl])), (.c (.o (.lf .b))), .d]) (.c (.s (.r (D 3)) .z) .z)) (.s (.s (.r [.d, (.c (.o (.lf (.i .i64)))), (.c (.o (.lf .b))), .d, (.sp .d), .d, .d, .d, (.l (.lf (.i .i64))), .d, .d]) (.c (.s (.r [(.l (.ag [(.i .i64), (.i .i64), (.i .i64), .sl, .sl])), (.c (.o (.ag [(.i .i64), (.i .i64), (.i .i64), .sl, .sl]))), .d, .d]) .z) .z)) (.s (.r [(.l (.ag [(.i .i64), (.i .i64), (.i .i64), .sl, .sl])), (.c (.o (.ag [(.i .i64), (.i .i64), (.i .i64), .sl, .sl]))), .d, .d, (.c (.n [(.ag [(.i .i64), (.i .i64), (.i .i64), .sl, .sl]), (.lf (.i .i64))])), .d, .d, .d, .d]) .z))))
def spec.TablePut.vc (m : Tup [(.i .i64), (.i .i64), (.i .i64), .sl, .sl]) (key : Int) (val : ByteArray) (w : World) (K : (Tup [(.i .i64), (.i .i64), (.i .i64), .sl, .sl]) × (Int) × Unit → World → Prop) : Prop :=
Nw (Tup.cells [(.i .i64), (.i .i64), (.i .i64), .sl, .sl] m).toArray 88 w fun a_m w_ =>
Nw (zc P0 88) 88 w_ fun a_t6 w__1 =>
LdA [(.i .i64), (.i .i64), (.i .i64), .sl, .sl] a_m w__1 fun (t8 : Tup [(.i .i64), (.i .i64), (.i .i64), .sl, .sl]) w__2 =>
CallT (.o (.lf .b)) P0 80 [(.agg (Tup.cells [(.i .i64), (.i .i64), (.i .i64), .sl, .sl] t8).toArray)] w__2 fun (t9 : Bool) w__3 =>
((!t9) = true → StA P0 a_t6 [(.int .i64 0), (.int .i64 0), (.int .i64 0), (.slice none 0 0), (.slice none 0 0)] w__3 fun w__4 =>
LdA [(.i .i64), (.i .i64), (.i .i64), .sl, .sl] a_t6 w__4 fun r w__5 =>
K (r, (1, ())) w__4) ∧
((!t9) = false → CallT (.o (.lf (.i .i64))) P0 41 [] w__3 fun (t13 : Int) w__6 =>
CallT (.o (.lf .b)) P0 46 [(.int .i64 key), (.int .i64 0), (.int .i64 t13)] w__6 fun (t14 : Bool) w__7 =>
((!t14) = true → LdA [(.i .i64), (.i .i64), (.i .i64), .sl, .sl] a_m w__7 fun (t23 : Tup [(.i .i64), (.i .i64), (.i .i64), .sl, .sl]) w__8 =>
CallT (.o (.ag [(.i .i64), (.i .i64), (.i .i64), .sl, .sl])) P0 81 [(.agg (Tup.cells [(.i .i64), (.i .i64), (.i .i64), .sl, .sl] t23).toArray)] w__8 fun (t24 : Tup [(.i .i64), (.i .i64), (.i .i64), .sl, .sl]) w__9 =>
StA P0 a_t6 (Tup.cells [(.i .i64), (.i .i64), (.i .i64), .sl, .sl] t24) w__9 fun w__10 =>
LdA [(.i .i64), (.i .i64), (.i .i64), .sl, .sl] a_t6 w__10 fun r_1 w__11 =>
K (r_1, (1, ())) w__10) ∧
((!t14) = false → Ld (.i .i64) (Addr.add a_m 1) w__7 fun (t20 : Int) w__12 =>
((((((ByteArray.size val) : Nat) : Int) : Int) != t20) = true → LdA [(.i .i64), (.i .i64), (.i .i64), .sl, .sl] a_m w__12 fun (t23_1 : Tup [(.i .i64), (.i .i64), (.i .i64), .sl, .sl]) w__13 =>
CallT (.o (.ag [(.i .i64), (.i .i64), (.i .i64), .sl, .sl])) P0 81 [(.agg (Tup.cells [(.i .i64), (.i .i64), (.i .i64), .sl, .sl] t23_1).toArray)] w__13 fun (t24_1 : Tup [(.i .i64), (.i .i64), (.i .i64), .sl, .sl]) w__14 =>
StA P0 a_t6 (Tup.cells [(.i .i64), (.i .i64), (.i .i64), .sl, .sl] t24_1) w__14 fun w__15 =>
LdA [(.i .i64), (.i .i64), (.i .i64), .sl, .sl] a_t6 w__15 fun r_2 w__16 =>
K (r_2, (1, ())) w__15) ∧
((((((ByteArray.size val) : Nat) : Int) : Int) != t20) = false → LdA [(.i .i64), (.i .i64), (.i .i64), .sl, .sl] a_m w__12 fun (t25 : Tup [(.i .i64), (.i .i64), (.i .i64), .sl, .sl]) w__17 =>
CallT (.o (.ag [(.i .i64), (.i .i64), (.i .i64), .sl, .sl])) P0 81 [(.agg (Tup.cells [(.i .i64), (.i .i64), (.i .i64), .sl, .sl] t25).toArray)] w__17 fun (t26 : Tup [(.i .i64), (.i .i64), (.i .i64), .sl, .sl]) w__18 =>
CallT (.n [(.ag [(.i .i64), (.i .i64), (.i .i64), .sl, .sl]), (.lf (.i .i64))]) P0 82 [(.agg (Tup.cells [(.i .i64), (.i .i64), (.i .i64), .sl, .sl] t26).toArray), (.int .i64 key), (.string val)] w__18 fun (t29 : (Tup [(.i .i64), (.i .i64), (.i .i64), .sl, .sl]) × (Int) × Unit) w__19 =>
StA P0 a_t6 (Tup.cells [(.i .i64), (.i .i64), (.i .i64), .sl, .sl] t29.1) w__19 fun w__20 =>
LdA [(.i .i64), (.i .i64), (.i .i64), .sl, .sl] a_t6 w__20 fun r_3 w__21 =>
K (r_3, (t29.2.1, ())) w__20)))
theorem spec.TablePut.ok {m : Tup [(.i .i64), (.i .i64), (.i .i64), .sl, .sl]} {key : Int} {val : ByteArray} {w : World} {K : (Tup [(.i .i64), (.i .i64), (.i .i64), .sl, .sl]) × (Int) × Unit → World → Prop} (h : spec.TablePut.vc m key val w K) : CallT (.n [(.ag [(.i .i64), (.i .i64), (.i .i64), .sl, .sl]), (.lf (.i .i64))]) P0 67 [(.agg (Tup.cells [(.i .i64), (.i .i64), (.i .i64), .sl, .sl] m).toArray), (.int .i64 key), (.string val)] w K :=
  call_of Tryz.func67 rfl rfl (pl := spec.TablePut.pl) (show VC P0 Tryz.f67 spec.TablePut.pl (.n [(.ag [(.i .i64), (.i .i64), (.i .i64), .sl, .sl]), (.lf (.i .i64))]) [(.agg (Tup.cells [(.i .i64), (.i .i64), (.i .i64), .sl, .sl] m).toArray), (.int .i64 key), (.string val)] w K noP from Eq.mp (by kernel_rfl) h)
/- spec.l20Table -/
def spec.l20Table.pl : Pl := (.s (.r (D 1)) (.s (.r [.d, (.c (.o (.lf (.i .i64)))), .d, .d, .d, (.c (.o (.lf (.i .i64)))), .d, .d, (.c (.o (.lf (.i .i64)))), (.c (.o (.ag [(.i .i64), (.i .i64), (.i .i64), .sl, .sl]))), .d, .d]) (.s (.s (.r [.d, (.c (.o (.lf (.i .i64)))), .d]) (.b (.l [(4, (.i .i64))] (.s (.s (.r (D 2)) (.c .z .z)) (.s (.b (.s (.x [((.g (.o (.ag [(.i .i64), (.i .i64), (.i .i64), .sl, .sl])) (.l (.ag [(.i .i64), (.i .i64), (.i .i64), .sl, .sl]))), []), (.q, []), ((.g (.o (.lf .sl)) .d), []), ((.h (.o (.lf (.i .i64))) (.c (.o (.lf (.i .i64))))), [2]), (.q, []), ((.k (.o (.lf (.i .i64))) (.c (.o (.lf (.i .i64))))), []), (.q, []), ((.g (.o (.lf (.i .i64))) (.l (.lf (.i .i64)))), []), ((.g (.o (.lf .s)) (.c (.o (.lf .s)))), [5, 7]), ((.g (.n [(.ag [(.i .i64), (.i .i64), (.i .i64), .sl, .sl]), (.lf (.i .i64))]) (.c (.n [(.ag [(.i .i64), (.i .i64), (.i .i64), .sl, .sl]), (.lf (.i .i64))]))), [0, 3, 8]), (.q, [9]), (.q, [9]), (.q, [9]), ((.a 88), []), ((.s 13 88 (.o (.ag [(.i .i64), (.i .i64), (.i .i64), .sl, .sl])) .d), [9])] [.d]) (.r [(.l (.ag [(.i .i64), (.i .i64), (.i .i64), .sl, .sl])), .d]))) (.r (D 3))))))) (.s (.r [(.l (.ag [(.i .i64), (.i .i64), (.i .i64), .sl, .sl])), .d]) .z))))
def spec.l20Table.vc (r : Option Addr) (w : World) (K : Tup [(.i .i64), (.i .i64), (.i .i64), .sl, .sl] → World → Prop) : Prop :=
Nw (zc P0 88) 88 w fun a_t2 w_ =>
CallT (.o (.lf (.i .i64))) P0 13 [(.pointer r), (.int .i64 2)] w_ fun (t8 : Int) w__1 =>
Nw #[(.int .i64 1), (.int .i64 2), (.int .i64 4), (.int .i64 8)] 3 w__1 fun a_t11 w__2 =>
CallT (.o (.lf (.i .i64))) P0 31 [(.pointer r), (.slice (some a_t11) 4 4)] w__2 fun (t12 : Int) w__3 =>
Nw #[(.int .i64 1), (.int .i64 2), (.int .i64 4), (.int .i64 8)] 3 w__3 fun a_t14 w__4 =>
CallT (.o (.lf (.i .i64))) P0 31 [(.pointer r), (.slice (some a_t14) 4 4)] w__4 fun (t15 : Int) w__5 =>
CallT (.o (.ag [(.i .i64), (.i .i64), (.i .i64), .sl, .sl])) P0 66 [(.int .i64 (IntKind.wrap .i64 (1 + t8))), (.int .i64 t12), (.int .i64 t15)] w__5 fun (t16 : Tup [(.i .i64), (.i .i64), (.i .i64), .sl, .sl]) w__6 =>
Nw (zc P0 88) 88 w__6 fun a_m w__7 =>
StA P0 a_m (Tup.cells [(.i .i64), (.i .i64), (.i .i64), .sl, .sl] t16) w__7 fun w__8 =>
CallT (.o (.lf (.i .i64))) P0 13 [(.pointer r), (.int .i64 6)] w__8 fun (t18 : Int) w__9 =>
∃ (I : Int → World → Prop) (M : Int → World → Nat),
I t18 w__9 ∧
(∀ (n : Int) w__10, I n w__10 → ∀ _ : Nat → Value,
((decide ((n : Int) > 0)) = true → ∃ Sp : World → World → Prop, SpOk Sp w__10 ∧
∃ Sq : World → World → Prop, QOk Sp Sq ∧
∃ N : World → Prop, NOk N w__10 ∧ KeptN Sq N ∧
∃ N1 : World → Prop, KeptN Sq N1 ∧
∃ G_t24 : Tup [(.i .i64), (.i .i64), (.i .i64), .sl, .sl] → World → Prop, Kept Sp G_t24 ∧
∃ G_t26 : Sl → World → Prop, Kept Sp G_t26 ∧
∃ G_t27 : Int → World → Prop, Kept Sp G_t27 ∧
∃ G_t29 : Int → World → Prop, Kept Sq G_t29 ∧
∃ G_t31 : Int → World → Prop, Kept Sp G_t31 ∧
∃ G_t32 : ByteArray → World → Prop, Kept Sp G_t32 ∧
∃ G_t33 : (Tup [(.i .i64), (.i .i64), (.i .i64), .sl, .sl]) × (Int) × Unit → World → Prop, Kept Sp G_t33 ∧
∃ G_st : Tup [(.i .i64), (.i .i64), (.i .i64), .sl, .sl] → World → Prop, Kept Sp G_st ∧
(∀ w__11, Sp w__10 w__11 → LdA [(.i .i64), (.i .i64), (.i .i64), .sl, .sl] a_m w__11 fun (t24 : Tup [(.i .i64), (.i .i64), (.i .i64), .sl, .sl]) w__12 =>
GK (.o (.ag [(.i .i64), (.i .i64), (.i .i64), .sl, .sl])) (Sb (World.heap w__10).size Sq) w__11 G_t24 (.agg (Tup.cells [(.i .i64), (.i .i64), (.i .i64), .sl, .sl] t24).toArray) w__12) ∧
∀ (t24_1 : Tup [(.i .i64), (.i .i64), (.i .i64), .sl, .sl]), (∀ w__13, Sp w__10 w__13 → Nw #[(.int .i64 0), (.int .i64 1), (.int .i64 2), (.int .i64 3), (.int .i64 7), (.int .i64 200), (.int .i64 4294967295)] 3 w__13 fun a_t26 w__14 =>
GK (.o (.lf .sl)) (Sb (World.heap w__10).size Sq) w__13 G_t26 (.slice (some a_t26) 7 7) w__14) ∧
∀ (t26 : Sl), (∀ w__15, Sp w__10 w__15 → N w__15 → G_t26 t26 w__15 → CallT (.o (.lf (.i .i64))) P0 31 [(.pointer r), t26.v] w__15 fun (t27 : Int) w__16 =>
GK (.o (.lf (.i .i64))) (Sb (World.heap w__10).size (Sn Sp N1)) w__15 G_t27 (.int .i64 t27) w__16) ∧
∀ (t27_1 : Int), (∀ w__17, Sp w__10 w__17 → N1 w__17 → CallT (.o (.lf (.i .i64))) P0 34 [(.pointer r)] w__17 fun (t29 : Int) w__18 =>
GK (.o (.lf (.i .i64))) (Sb (World.heap w__10).size Sp) w__17 G_t29 (.int .i64 t29) w__18) ∧
∀ (t29_1 : Int), (∀ w__19, Sp w__10 w__19 → Ld (.i .i64) (Addr.add a_m 1) w__19 fun (t31 : Int) w__20 =>
GK (.o (.lf (.i .i64))) (Sb (World.heap w__10).size Sq) w__19 G_t31 (.int .i64 t31) w__20) ∧
∀ (t31_1 : Int), (∀ w__21, Sp w__10 w__21 → G_t29 t29_1 w__21 → G_t31 t31_1 w__21 → CallT (.o (.lf .s)) P0 68 [(.int .i64 t29_1), (.int .i64 t31_1)] w__21 fun (t32 : ByteArray) w__22 =>
GK (.o (.lf .s)) (Sb (World.heap w__10).size Sq) w__21 G_t32 (.string t32) w__22) ∧
∀ (t32_1 : ByteArray), (∀ w__23, Sp w__10 w__23 → G_t24 t24_1 w__23 → G_t27 t27_1 w__23 → G_t32 t32_1 w__23 → CallT (.n [(.ag [(.i .i64), (.i .i64), (.i .i64), .sl, .sl]), (.lf (.i .i64))]) P0 67 [(.agg (Tup.cells [(.i .i64), (.i .i64), (.i .i64), .sl, .sl] t24_1).toArray), (.int .i64 t27_1), (.string t32_1)] w__23 fun (t33 : (Tup [(.i .i64), (.i .i64), (.i .i64), .sl, .sl]) × (Int) × Unit) w__24 =>
GK (.n [(.ag [(.i .i64), (.i .i64), (.i .i64), .sl, .sl]), (.lf (.i .i64))]) (Sb (World.heap w__10).size Sq) w__23 G_t33 (.tuple #[(.agg (Tup.cells [(.i .i64), (.i .i64), (.i .i64), .sl, .sl] t33.1).toArray), (.int .i64 t33.2.1)]) w__24) ∧
∀ (t33_1 : (Tup [(.i .i64), (.i .i64), (.i .i64), .sl, .sl]) × (Int) × Unit), (∀ w__25, Sp w__10 w__25 → Nw (zc P0 88) 88 w__25 fun a_x w__26 =>
AXp (World.heap w__10).size 88 (zc P0 88) Sq w__25 (.pointer (some a_x)) w__26) ∧
∀ (x : Nat), (∀ w__27, Sp w__10 w__27 → G_t33 t33_1 w__27 → (World.heap w__10).size ≤ x → (World.heap w__27)[x]? = some (.cells (zc P0 88) 88 (0, 0)) → StA P0 (⟨x, 0, none⟩ : Addr) (Tup.cells [(.i .i64), (.i .i64), (.i .i64), .sl, .sl] t33_1.1) w__27 fun w__28 =>
GS (.o (.ag [(.i .i64), (.i .i64), (.i .i64), .sl, .sl])) Sq w__27 G_st x 88 w__28) ∧
∀ (st : Tup [(.i .i64), (.i .i64), (.i .i64), .sl, .sl]), ∀ w__29, Sp w__10 w__29 → G_t24 t24_1 w__29 → G_t26 t26 w__29 → G_t27 t27_1 w__29 → G_t29 t29_1 w__29 → G_t31 t31_1 w__29 → G_t32 t32_1 w__29 → G_t33 t33_1 w__29 → G_st st w__29 → BxD (World.heap w__10).size w__29 [(x, ((.agg (Tup.cells [(.i .i64), (.i .i64), (.i .i64), .sl, .sl] st).toArray) : Value).cells, 88)] → 
LdA [(.i .i64), (.i .i64), (.i .i64), .sl, .sl] (⟨x, 0, none⟩ : Addr) w__29 fun (t36 : Tup [(.i .i64), (.i .i64), (.i .i64), .sl, .sl]) w__30 =>
StA P0 a_m (Tup.cells [(.i .i64), (.i .i64), (.i .i64), .sl, .sl] t36) w__30 fun w__31 =>
(I (IntKind.wrap .i64 (n - 1)) w__31 ∧ M (IntKind.wrap .i64 (n - 1)) w__31 < M n w__10)) ∧
((decide ((n : Int) > 0)) = false → LdA [(.i .i64), (.i .i64), (.i .i64), .sl, .sl] a_m w__10 fun (t37 : Tup [(.i .i64), (.i .i64), (.i .i64), .sl, .sl]) w__32 =>
StA P0 a_t2 (Tup.cells [(.i .i64), (.i .i64), (.i .i64), .sl, .sl] t37) w__32 fun w__33 =>
LdA [(.i .i64), (.i .i64), (.i .i64), .sl, .sl] a_t2 w__33 fun r_1 w__34 =>
K r_1 w__33))
theorem spec.l20Table.ok {r : Option Addr} {w : World} {K : Tup [(.i .i64), (.i .i64), (.i .i64), .sl, .sl] → World → Prop} (h : spec.l20Table.vc r w K) : CallT (.o (.ag [(.i .i64), (.i .i64), (.i .i64), .sl, .sl])) P0 53 [(.pointer r)] w K :=
  call_of Tryz.func53 rfl rfl (pl := spec.l20Table.pl) (show VC P0 Tryz.f53 spec.l20Table.pl (.o (.ag [(.i .i64), (.i .i64), (.i .i64), .sl, .sl])) [(.pointer r)] w K noP from Eq.mp (by kernel_rfl) h)
/- spec.l20Tables -/
def spec.l20Tables.pl : Pl := (.s (.r (D 1)) (.s (.r [.d, (.c (.o (.ag [(.i .i64), (.i .i64), (.i .i64), .sl, .sl]))), .d, (.c (.o (.ag [(.i .i64), (.i .i64), (.i .i64), .sl, .sl]))), .d, .d]) (.s (.s (.r [.d, (.c (.o (.lf (.i .i64)))), .d]) (.c (.s (.r [.d, .d, (.c (.o (.lf (.i .i64)))), (.t (.o (.lf .sl))), .d]) .z) .z)) (.s (.r (D 2)) .z))))
def spec.l20Tables.vc (r : Option Addr) (w : World) (K : Sl → World → Prop) : Prop :=
CallT (.o (.ag [(.i .i64), (.i .i64), (.i .i64), .sl, .sl])) P0 53 [(.pointer r)] w fun (t5 : Tup [(.i .i64), (.i .i64), (.i .i64), .sl, .sl]) w_ =>
CallT (.o (.ag [(.i .i64), (.i .i64), (.i .i64), .sl, .sl])) P0 53 [(.pointer r)] w_ fun (t7 : Tup [(.i .i64), (.i .i64), (.i .i64), .sl, .sl]) w__1 =>
Nw #[(.int .i64 t5.1), (.int .i64 t5.2.1), (.int .i64 t5.2.2.1), t5.2.2.2.1.v, t5.2.2.2.2.1.v, (.int .i64 t7.1), (.int .i64 t7.2.1), (.int .i64 t7.2.2.1), t7.2.2.2.1.v, t7.2.2.2.2.1.v] 88 w__1 fun a_t8 w__2 =>
CallT (.o (.lf (.i .i64))) P0 13 [(.pointer r), (.int .i64 6)] w__2 fun (t10 : Int) w__3 =>
(((t10 : Int) == 0) = true → CallT (.o (.lf (.i .i64))) P0 13 [(.pointer r), (.int .i64 2)] w__3 fun (t14 : Int) w__4 =>
RunT (.o (.lf .sl)) P0 (Instr.sliceAt 45 (.slice (some a_t8) 2 2) none (some (.int .i64 t14)) none) w__4 fun (t15 : Sl) w__5 =>
K t15 w__5) ∧
(((t10 : Int) == 0) = false → K ⟨(some a_t8), 2, 2⟩ w__3)
theorem spec.l20Tables.ok {r : Option Addr} {w : World} {K : Sl → World → Prop} (h : spec.l20Tables.vc r w K) : CallT (.o (.lf .sl)) P0 33 [(.pointer r)] w K :=
  call_of Tryz.func33 rfl rfl (pl := spec.l20Tables.pl) (show VC P0 Tryz.f33 spec.l20Tables.pl (.o (.lf .sl)) [(.pointer r)] w K noP from Eq.mp (by kernel_rfl) h)
/- spec.l20Start -/
def spec.l20Start.pl : Pl := (.s (.r (D 1)) (.s (.r [.d, (.c (.o (.lf .sl))), .d, (.c (.o (.lf .sl))), .d, .d, .d]) (.s (.r (D 2)) (.s (.s (.r (D 1)) (.b (.l [(4, .sl), (5, (.i .i64))] (.s (.s (.r (D 2)) (.c .z .z)) (.s (.b (.r [.d, .d, .d, (.c (.o (.lf (.i .i64)))), .d, .d, (.t (.o (.lf .sl))), .d])) (.r (D 3))))))) (.s (.r [.d, (.t (.o (.lf .s))), .d, .d]) (.s (.s (.r [.d, (.c (.o (.lf (.i .i64)))), .d, .d]) (.b (.l [(6, (.i .i64))] (.s (.s (.r (D 2)) (.c .z .z)) (.s (.b (.x [(.q, []), ((.g (.o (.lf .sl)) (.l (.lf .sl))), []), (.q, []), ((.h (.o (.lf (.i .i64))) (.c (.o (.lf (.i .i64))))), []), ((.g (.o (.lf .sl)) .d), [3]), ((.k (.o (.lf .sl)) (.t (.o (.lf .sl)))), [1, 4]), (.q, [])] [.d])) (.r (D 3))))))) (.s (.s (.r [.d, (.c (.o (.lf (.i .i64)))), .d]) (.b (.l [(7, (.i .i64))] (.s (.s (.r (D 2)) (.c .z .z)) (.s (.b (.x [(.q, []), ((.g (.o (.lf .sl)) (.l (.lf .sl))), []), (.q, []), ((.g (.o (.lf .sl)) .d), []), ((.h (.o (.lf (.i .i64))) (.c (.o (.lf (.i .i64))))), [3]), ((.g (.o (.lf .sl)) .d), [4]), ((.k (.o (.lf .sl)) (.t (.o (.lf .sl)))), [1, 5]), (.q, [])] [.d])) (.r (D 3))))))) (.s (.r [(.l (.ag [.sl, .s, .sl, .sl, .sl])), .d]) .z))))))))
def spec.l20Start.vc (r : Option Addr) (w : World) (K : Tup [.sl, .s, .sl, .sl, .sl] → World → Prop) : Prop :=
Nw (zc P0 48) 48 w fun a_t2 w_ =>
CallT (.o (.lf .sl)) P0 32 [(.pointer r)] w_ fun (t9 : Sl) w__1 =>
CallT (.o (.lf .sl)) P0 33 [(.pointer r)] w__1 fun (t11 : Sl) w__2 =>
Nw (zc P0 48) 48 w__2 fun a_s w__3 =>
StA P0 a_s [t9.v, (.string ByteArray.empty), t11.v, (.slice none 0 0), (.slice none 0 0)] w__3 fun w__4 =>
Nw #[] 5 w__4 fun a_t13 w__5 =>
∃ (I : Sl → Int → World → Prop) (M : Sl → Int → World → Nat),
I ⟨(some a_t13), 0, 0⟩ 0 w__5 ∧
(∀ (came : Sl) (i : Int) w__6, I came i w__6 → ∀ _ : Nat → Value,
((decide ((i : Int) < 12)) = true → Nw #[(.int .i64 0), (.int .i64 1), (.int .i64 2), (.int .i64 3), (.int .i64 5), (.int .i64 7), (.int .i64 9), (.int .i64 10), (.int .i64 200), (.int .i64 255)] 3 w__6 fun a_t20 w__7 =>
CallT (.o (.lf (.i .i64))) P0 31 [(.pointer r), (.slice (some a_t20) 10 10)] w__7 fun (t21 : Int) w__8 =>
Nw #[(.int .u8 (IntKind.wrap .u8 t21))] 5 w__8 fun a_t23 w__9 =>
RunT (.o (.lf .sl)) P0 (Builtin.append_ #[22, 22] 22 #[came.v, (.slice (some a_t23) 1 1)]) w__9 fun (t24 : Sl) w__10 =>
(I t24 (IntKind.wrap .i64 (i + 1)) w__10 ∧ M t24 (IntKind.wrap .i64 (i + 1)) w__10 < M came i w__6)) ∧
((decide ((i : Int) < 12)) = false → RunT (.o (.lf .s)) P0 (convert 22 9 came.v) w__6 fun (t26 : ByteArray) w__11 =>
St (Addr.add a_s 1) (.string t26) w__11 fun w__12 =>
CallT (.o (.lf (.i .i64))) P0 13 [(.pointer r), (.int .i64 3)] w__12 fun (t29 : Int) w__13 =>
∃ (I_1 : Int → World → Prop) (M_1 : Int → World → Nat),
I_1 (IntKind.wrap .i64 (1 + t29)) w__13 ∧
(∀ (n : Int) w__14, I_1 n w__14 → ∀ _ : Nat → Value,
((decide ((n : Int) > 0)) = true → ∃ Sp : World → World → Prop, SpOk Sp w__14 ∧
∃ Sq : World → World → Prop, QOk Sp Sq ∧
∃ N : World → Prop, NOk N w__14 ∧ KeptN Sq N ∧
∃ N1 : World → Prop, KeptN Sq N1 ∧
∃ G_t36 : Sl → World → Prop, Kept Sp G_t36 ∧
∃ G_t38 : Int → World → Prop, Kept Sp G_t38 ∧
∃ G_t39 : Sl → World → Prop, Kept Sp G_t39 ∧
∃ G_t40 : Sl → World → Prop, Kept Sq G_t40 ∧
(∀ w__15, Sp w__14 w__15 → Ld .sl (Addr.add a_s 3) w__15 fun (t36 : Sl) w__16 =>
GK (.o (.lf .sl)) (Sb (World.heap w__14).size Sq) w__15 G_t36 t36.v w__16) ∧
∀ (t36_1 : Sl), (∀ w__17, Sp w__14 w__17 → N w__17 → CallT (.o (.lf (.i .i64))) P0 34 [(.pointer r)] w__17 fun (t38 : Int) w__18 =>
GK (.o (.lf (.i .i64))) (Sb (World.heap w__14).size (Sn Sp N1)) w__17 G_t38 (.int .i64 t38) w__18) ∧
∀ (t38_1 : Int), (∀ w__19, Sp w__14 w__19 → G_t38 t38_1 w__19 → Nw #[(.int .i64 t38_1)] 3 w__19 fun a_t39 w__20 =>
GK (.o (.lf .sl)) (Sb (World.heap w__14).size Sq) w__19 G_t39 (.slice (some a_t39) 1 1) w__20) ∧
∀ (t39 : Sl), (∀ w__21, Sp w__14 w__21 → N1 w__21 → G_t36 t36_1 w__21 → G_t39 t39 w__21 → RunT (.o (.lf .sl)) P0 (Builtin.append_ #[46, 46] 46 #[t36_1.v, t39.v]) w__21 fun (t40 : Sl) w__22 =>
GK (.o (.lf .sl)) (Sb (World.heap w__14).size Sp) w__21 G_t40 t40.v w__22) ∧
∀ (t40_1 : Sl), ∀ w__23, Sp w__14 w__23 → G_t36 t36_1 w__23 → G_t38 t38_1 w__23 → G_t39 t39 w__23 → G_t40 t40_1 w__23 → BxD (World.heap w__14).size w__23 [] → 
St (Addr.add a_s 3) t40_1.v w__23 fun w__24 =>
(I_1 (IntKind.wrap .i64 (n - 1)) w__24 ∧ M_1 (IntKind.wrap .i64 (n - 1)) w__24 < M_1 n w__14)) ∧
((decide ((n : Int) > 0)) = false → CallT (.o (.lf (.i .i64))) P0 13 [(.pointer r), (.int .i64 4)] w__14 fun (t43 : Int) w__25 =>
∃ (I_2 : Int → World → Prop) (M_2 : Int → World → Nat),
I_2 t43 w__25 ∧
(∀ (n_1 : Int) w__26, I_2 n_1 w__26 → ∀ _ : Nat → Value,
((decide ((n_1 : Int) > 0)) = true → ∃ Sp_1 : World → World → Prop, SpOk Sp_1 w__26 ∧
∃ Sq_1 : World → World → Prop, QOk Sp_1 Sq_1 ∧
∃ N_1 : World → Prop, NOk N_1 w__26 ∧ KeptN Sq_1 N_1 ∧
∃ N1_1 : World → Prop, KeptN Sq_1 N1_1 ∧
∃ G_t49 : Sl → World → Prop, Kept Sp_1 G_t49 ∧
∃ G_t51 : Sl → World → Prop, Kept Sp_1 G_t51 ∧
∃ G_t52 : Int → World → Prop, Kept Sp_1 G_t52 ∧
∃ G_t53 : Sl → World → Prop, Kept Sp_1 G_t53 ∧
∃ G_t54 : Sl → World → Prop, Kept Sq_1 G_t54 ∧
(∀ w__27, Sp_1 w__26 w__27 → Ld .sl (Addr.add a_s 4) w__27 fun (t49 : Sl) w__28 =>
GK (.o (.lf .sl)) (Sb (World.heap w__26).size Sq_1) w__27 G_t49 t49.v w__28) ∧
∀ (t49_1 : Sl), (∀ w__29, Sp_1 w__26 w__29 → Nw #[(.int .i64 0), (.int .i64 1), (.int .i64 2), (.int .i64 3), (.int .i64 7), (.int .i64 9)] 3 w__29 fun a_t51 w__30 =>
GK (.o (.lf .sl)) (Sb (World.heap w__26).size Sq_1) w__29 G_t51 (.slice (some a_t51) 6 6) w__30) ∧
∀ (t51 : Sl), (∀ w__31, Sp_1 w__26 w__31 → N_1 w__31 → G_t51 t51 w__31 → CallT (.o (.lf (.i .i64))) P0 31 [(.pointer r), t51.v] w__31 fun (t52 : Int) w__32 =>
GK (.o (.lf (.i .i64))) (Sb (World.heap w__26).size (Sn Sp_1 N1_1)) w__31 G_t52 (.int .i64 t52) w__32) ∧
∀ (t52_1 : Int), (∀ w__33, Sp_1 w__26 w__33 → G_t52 t52_1 w__33 → Nw #[(.int .i64 t52_1)] 3 w__33 fun a_t53 w__34 =>
GK (.o (.lf .sl)) (Sb (World.heap w__26).size Sq_1) w__33 G_t53 (.slice (some a_t53) 1 1) w__34) ∧
∀ (t53 : Sl), (∀ w__35, Sp_1 w__26 w__35 → N1_1 w__35 → G_t49 t49_1 w__35 → G_t53 t53 w__35 → RunT (.o (.lf .sl)) P0 (Builtin.append_ #[46, 46] 46 #[t49_1.v, t53.v]) w__35 fun (t54 : Sl) w__36 =>
GK (.o (.lf .sl)) (Sb (World.heap w__26).size Sp_1) w__35 G_t54 t54.v w__36) ∧
∀ (t54_1 : Sl), ∀ w__37, Sp_1 w__26 w__37 → G_t49 t49_1 w__37 → G_t51 t51 w__37 → G_t52 t52_1 w__37 → G_t53 t53 w__37 → G_t54 t54_1 w__37 → BxD (World.heap w__26).size w__37 [] → 
St (Addr.add a_s 4) t54_1.v w__37 fun w__38 =>
(I_2 (IntKind.wrap .i64 (n_1 - 1)) w__38 ∧ M_2 (IntKind.wrap .i64 (n_1 - 1)) w__38 < M_2 n_1 w__26)) ∧
((decide ((n_1 : Int) > 0)) = false → LdA [.sl, .s, .sl, .sl, .sl] a_s w__26 fun (t56 : Tup [.sl, .s, .sl, .sl, .sl]) w__39 =>
StA P0 a_t2 (Tup.cells [.sl, .s, .sl, .sl, .sl] t56) w__39 fun w__40 =>
LdA [.sl, .s, .sl, .sl, .sl] a_t2 w__40 fun r_1 w__41 =>
K r_1 w__40))))))
theorem spec.l20Start.ok {r : Option Addr} {w : World} {K : Tup [.sl, .s, .sl, .sl, .sl] → World → Prop} (h : spec.l20Start.vc r w K) : CallT (.o (.ag [.sl, .s, .sl, .sl, .sl])) P0 21 [(.pointer r)] w K :=
  call_of Tryz.func21 rfl rfl (pl := spec.l20Start.pl) (show VC P0 Tryz.f21 spec.l20Start.pl (.o (.ag [.sl, .s, .sl, .sl, .sl])) [(.pointer r)] w K noP from Eq.mp (by kernel_rfl) h)
/- spec.DrawRulesOf -/
def spec.DrawRulesOf.pl : Pl := (.s (.r (D 2)) (.s (.r [.d, (.c (.o (.lf .p))), .d]) (.s (.r [.d, (.c (.o (.lf .sl))), .d]) (.s (.r [.d, .d, (.c (.o (.ag [.sl, .s, .sl, .sl, .sl]))), .d, .d, .d]) .z))))
def spec.DrawRulesOf.vc (code : Sl) (w : World) (K : (Sl) × (ByteArray) × Unit → World → Prop) : Prop :=
CallT (.o (.lf .p)) P0 11 [code.v] w fun (t7 : Option Addr) w_ =>
CallT (.o (.lf .sl)) P0 20 [(.pointer t7)] w_ fun (t9 : Sl) w__1 =>
CallT (.o (.ag [.sl, .s, .sl, .sl, .sl])) P0 21 [(.pointer t7)] w__1 fun (t12 : Tup [.sl, .s, .sl, .sl, .sl]) w__2 =>
K (t9, (t12.2.1, ())) w__2
theorem spec.DrawRulesOf.ok {code : Sl} {w : World} {K : (Sl) × (ByteArray) × Unit → World → Prop} (h : spec.DrawRulesOf.vc code w K) : CallT (.n [(.lf .sl), (.lf .s)]) P0 8 [code.v] w K :=
  call_of Tryz.func8 rfl rfl (pl := spec.DrawRulesOf.pl) (show VC P0 Tryz.f8 spec.DrawRulesOf.pl (.n [(.lf .sl), (.lf .s)]) [code.v] w K noP from Eq.mp (by kernel_rfl) h)
end Go.Proofs.YtdlnoabihfnmmaaGreat.V

/- Contracts: a row of one range, repeated. -/
namespace Go.Proofs.YtdlnoabihfnmmaaGreat.V
open Go Go.RowKit
set_option linter.unusedVariables false
set_option linter.unusedSimpArgs false
def kRange : Kd T4 := ⟨R 4 (.i .i64), fun x => x⟩
theorem mkRange : Mk P0 52 54 kRange 32 ((0, 0, 0, 0, ()) : T4) := ⟨by kernel_rfl, ⟨_, _, Option.eq_some_of_isSome (by kernel_rfl), Option.eq_some_of_isSome (by kernel_rfl), by kernel_rfl, by kernel_rfl, by kernel_rfl⟩⟩
theorem noAnyRange : ∀ l ∈ kRange.ls, l ≠ Lf.any := by intro l hl; simp [kRange, R, List.mem_replicate] at hl; simp [hl]
/-- What a part of a row is. -/
theorem slcRun {P : Program} {tS e : TypeId} {sz : Nat} (hu : P.underlying tS = some (.slice e)) (hs : szOf P e = some sz) {w : World} {s : Sl} {lo hi : Option Int} {l h' : Nat}
    (hlo : lo.getD 0 = l) (hhi : hi.getD s.n = h') (h1 : l ≤ h') (h2 : h' ≤ s.c) (h4 : h' ≤ s.n) :
    (Instr.sliceAt tS s.v (lo.map (.int .i64)) (hi.map (.int .i64)) none).run P w = .ok (.slice (if s.c = l then s.a else s.a.map (·.add (l * sz))) (h' - l) (s.c - l)) w := by
  have ho : ∀ (x : Option Int) (d a : Nat), x.getD (d : Int) = (a : Int) → (x = none ∧ a = d) ∨ x = some (a : Int) := by
    intro x d a hx
    cases x with
    | none => left; simp only [Option.getD_none] at hx; exact ⟨rfl, by omega⟩
    | some y => right; simp only [Option.getD_some] at hx; rw [hx]
  rcases ho lo 0 l hlo with ⟨rfl, rfl⟩ | rfl <;> rcases ho hi s.n h' hhi with ⟨rfl, rfl⟩ | rfl <;>
    simp [Instr.sliceAt, Instr.slice, Sl.v, underlying, hu, Instr.sliceBounds, Instr.sliceBound, asIntOf, run_sizeOf hs, h1, h2, h4]
section
variable {w : World}
theorem cells4_inj {a b : T4} (h : Tup.cells (R 4 (.i .i64)) a = Tup.cells (R 4 (.i .i64)) b) : a = b := by
  obtain ⟨a0, a1, a2, a3, _⟩ := a
  obtain ⟨b0, b1, b2, b3, _⟩ := b
  have h0 := congrArg (·[0]?) h
  have h1 := congrArg (·[1]?) h
  have h2 := congrArg (·[2]?) h
  have h3 := congrArg (·[3]?) h
  simp [R, Tup.cells, Lf.emb] at h0 h1 h2 h3
  subst h0 h1 h2 h3
  rfl
theorem wrs_uniq {H : Nat} {t : TypeId} {s : Sl} {zs ys : List T4} (h1 : WrS kRange t H w s zs) (h2 : WrS kRange t H w s ys) : zs = ys := by
  have hl : zs.length = ys.length := by rw [← h1.1, ← h2.1]
  rcases h1.2.2.2 with e | ⟨b, o, cur, ha, hB, hg, hc⟩
  · rw [e.2] at hl
    rw [e.2, List.eq_nil_of_length_eq_zero hl.symm]
  · rcases h2.2.2.2 with e | ⟨b', o', cur', ha', hB', hg', hc'⟩
    · rw [e.1] at ha; simp at ha
    · rw [ha] at ha'
      simp only [Option.some.injEq, Addr.mk.injEq, and_true] at ha'
      obtain ⟨rfl, rfl⟩ := ha'
      rw [hg] at hg'
      simp only [Option.some.injEq, Obj.cells.injEq, and_true, true_and] at hg'
      subst hg'
      refine List.ext_getElem? fun i => ?_
      rcases Nat.lt_or_ge i zs.length with h | h
      · have e1 : zs[i]? = some zs[i] := List.getElem?_eq_getElem h
        have e2 : ys[i]? = some (ys[i]'(by omega)) := List.getElem?_eq_getElem _
        rw [e1, e2]
        congr 1
        refine cells4_inj (List.ext_getElem? fun c => ?_)
        rcases Nat.lt_or_ge c 4 with hc4 | hc4
        · have l1 : (kRange.cells zs[i])[c]? = some ((kRange.cells zs[i])[c]'(by rw [kRange.cells_length]; exact hc4)) := List.getElem?_eq_getElem _
          have l2 : (kRange.cells (ys[i]'(by omega)))[c]? = some ((kRange.cells (ys[i]'(by omega)))[c]'(by rw [kRange.cells_length]; exact hc4)) := List.getElem?_eq_getElem _
          have q1 := hc _ _ e1 _ _ l1
          have q2 := hc' _ _ e2 _ _ l2
          rw [q1] at q2
          show (kRange.cells zs[i])[c]? = (kRange.cells (ys[i]'(by omega)))[c]?
          rw [l1, l2]; exact q2
        · rw [List.getElem?_eq_none (by rw [V.cells_length]; exact hc4), List.getElem?_eq_none (by rw [V.cells_length]; exact hc4)]
      · rw [List.getElem?_eq_none h, List.getElem?_eq_none (by omega)]
/-- So many of a row of twelve are one range. -/
def RpR (H : Nat) (s : Sl) (y : T4) (j : Nat) (w : World) : Prop := ∃ zs : List T4, WrS kRange 54 H w s zs ∧ zs.length = 12 ∧ ∀ i, i < j → zs[i]? = some y
theorem RpR.drew {H : Nat} {s : Sl} {y : T4} {j : Nat} {w : World} (h : RpR H s y j w) : RpR H s y j w.drew := h
end
end Go.Proofs.YtdlnoabihfnmmaaGreat.V

/- Plain laws: rules without those that do nothing. -/
namespace Go.Proofs.YtdlnoabihfnmmaaGreat.V
open Go Go.RowKit
set_option linter.unusedVariables false
set_option linter.unusedSimpArgs false
/-- What is known of each byte, as rules go on. -/
abbrev Kn := List (Nat × Nat)
def kn0 : Kn := List.replicate 12 (0, 255)
def knAt (st : Kn) (r : Rule) : Nat × Nat := st.getD r.at_.toNat (0, 255)
/-- Rules without those that do nothing. -/
def tidyL : Kn → List Rule → List Rule
  | _, [] => []
  | st, r :: rs =>
    match brN r.op (knAt st r).1 (knAt st r).2 r.num.toNat true with
    | none => tidyL st rs
    | some _ => r :: (match brN r.op (knAt st r).1 (knAt st r).2 r.num.toNat false with
      | none => []
      | some p => tidyL (st.set r.at_.toNat p) rs)
/-- Bytes of which this is known. -/
def Fits (st : Kn) (cs : List Int) : Prop := st.length = 12 ∧ ∀ (i : Nat) (p : Nat × Nat), st[i]? = some p → ∃ x, cs[i]? = some x ∧ (p.1 : Int) ≤ x ∧ x ≤ p.2
theorem fits0 {cs : List Int} (hc : Came cs) : Fits kn0 cs := by
  refine ⟨by simp [kn0], fun i p hp => ?_⟩
  have hi := lt_of_get hp
  simp only [kn0, List.length_replicate] at hi
  obtain ⟨x, hx⟩ := get_some (l := cs) (k := i) (by have := hc.1; omega)
  refine ⟨x, hx, ?_⟩
  simp only [kn0, List.getElem?_replicate] at hp
  split at hp
  · simp only [Option.some.injEq] at hp
    subst hp
    have := hc.2 x (List.mem_of_getElem? hx)
    simp; omega
  · omega
theorem fits_at {st : Kn} {cs : List Int} (h : Fits st cs) {r : Rule} (hr : RuleP r) : st[r.at_.toNat]? = some (knAt st r) ∧ ((knAt st r).1 : Int) ≤ cs.getD r.at_.toNat 0 ∧ cs.getD r.at_.toNat 0 ≤ (knAt st r).2 := by
  obtain ⟨p, hp⟩ := get_some (l := st) (k := r.at_.toNat) (by have := hr.1; have := h.1; omega)
  have hk : knAt st r = p := by unfold knAt; rw [List.getD_eq_getElem?_getD, hp]; rfl
  obtain ⟨x, hx, h1, h2⟩ := h.2 _ p hp
  rw [hk, List.getD_eq_getElem?_getD, hx]
  exact ⟨hp, h1, h2⟩
theorem fits_set {st : Kn} {cs : List Int} (h : Fits st cs) {r : Rule} (hr : RuleP r) {p : Nat × Nat} (h1 : (p.1 : Int) ≤ cs.getD r.at_.toNat 0) (h2 : cs.getD r.at_.toNat 0 ≤ p.2) : Fits (st.set r.at_.toNat p) cs := by
  refine ⟨by simpa using h.1, fun i q hq => ?_⟩
  by_cases e : r.at_.toNat = i
  · subst e
    have hi := lt_of_get hq
    rw [List.getElem?_set_self (by simpa using hi)] at hq
    simp only [Option.some.injEq] at hq
    subst hq
    obtain ⟨p0, hp0⟩ := get_some (l := st) (k := r.at_.toNat) (by simpa using hi)
    obtain ⟨x, hx, _⟩ := h.2 _ p0 hp0
    refine ⟨x, hx, ?_⟩
    rw [List.getD_eq_getElem?_getD, hx] at h1 h2
    exact ⟨h1, h2⟩
  · rw [List.getElem?_set_ne e] at hq
    exact h.2 i q hq
theorem holds_has {r : Rule} (hr : RuleP r) {lo hi : Nat} {x : Int} {is_ : Bool} (h1 : (lo : Int) ≤ x) (h2 : x ≤ hi) (hh : holdsB r.op x r.num = is_) : ∃ a b, brN r.op lo hi r.num.toNat is_ = some (a, b) ∧ (a : Int) ≤ x ∧ x ≤ b := by
  have hn := hr.2.2.1
  have h3 : holdsX r.op (x.toNat : Int) (r.num.toNat : Int) = is_ := by
    rw [show ((x.toNat : Nat) : Int) = x by omega, show ((r.num.toNat : Nat) : Int) = r.num by omega]; exact hh
  obtain ⟨a, b, hb, h4, h5⟩ := brN_has (op := r.op) (lo := lo) (hi := hi) (n := r.num.toNat) hr.2.1 (x := x.toNat) (by omega) h3
  exact ⟨a, b, hb, by omega, by omega⟩
/-- Tidied rules say the same. -/
theorem tidy_ruled {cs : List Int} : ∀ {st : Kn} {l : List Rule}, Fits st cs → (∀ r ∈ l, RuleP r) → ruledL (tidyL st l) cs = ruledL l cs
  | _, [], _, _ => rfl
  | st, r :: rs, hf, hp => by
    have hr := hp r List.mem_cons_self
    have hrs : ∀ q ∈ rs, RuleP q := fun q hq => hp q (List.mem_cons_of_mem _ hq)
    obtain ⟨hg, h1, h2⟩ := fits_at hf hr
    unfold tidyL
    cases hh : holdsB r.op (cs.getD r.at_.toNat 0) r.num with
    | true =>
      obtain ⟨a, b, hb, _⟩ := holds_has hr h1 h2 hh
      rw [hb]
      simp only [ruledL, hh, if_true]
    | false =>
      obtain ⟨a, b, hb, h3, h4⟩ := holds_has hr h1 h2 hh
      rw [hb]
      have ih1 := tidy_ruled hf hrs
      have ih2 := tidy_ruled (fits_set hf hr (p := (a, b)) h3 h4) hrs
      cases brN r.op (knAt st r).1 (knAt st r).2 r.num.toNat true with
      | none => simp only [ruledL, hh]; exact ih1
      | some q => simp only [ruledL, hh]; exact ih2
theorem tidy_idem : ∀ (st : Kn) (l : List Rule), tidyL st (tidyL st l) = tidyL st l
  | _, [] => rfl
  | st, r :: rs => by
    cases h1 : brN r.op (knAt st r).1 (knAt st r).2 r.num.toNat true with
    | none =>
      have e : tidyL st (r :: rs) = tidyL st rs := by rw [tidyL, h1]
      rw [e]; exact tidy_idem st rs
    | some q =>
      cases h2 : brN r.op (knAt st r).1 (knAt st r).2 r.num.toNat false with
      | none =>
        have e : ∀ xs, tidyL st (r :: xs) = [r] := fun xs => by rw [tidyL, h1, h2]
        rw [e, e]
      | some p =>
        have e : ∀ xs, tidyL st (r :: xs) = r :: tidyL (st.set r.at_.toNat p) xs := fun xs => by rw [tidyL, h1, h2]
        rw [e, e, tidy_idem]
theorem tidy_sub : ∀ (st : Kn) (l : List Rule), (tidyL st l).Sublist l
  | _, [] => List.Sublist.slnil
  | st, r :: rs => by
    cases h1 : brN r.op (knAt st r).1 (knAt st r).2 r.num.toNat true with
    | none =>
      have e : tidyL st (r :: rs) = tidyL st rs := by rw [tidyL, h1]
      rw [e]; exact (tidy_sub st rs).cons r
    | some q =>
      cases h2 : brN r.op (knAt st r).1 (knAt st r).2 r.num.toNat false with
      | none =>
        have e : tidyL st (r :: rs) = [r] := by rw [tidyL, h1, h2]
        rw [e]; exact List.Sublist.cons_cons _ (List.nil_sublist _)
      | some p =>
        have e : tidyL st (r :: rs) = r :: tidyL (st.set r.at_.toNat p) rs := by rw [tidyL, h1, h2]
        rw [e]; exact List.Sublist.cons_cons _ (tidy_sub _ rs)
/-- Rules that are ok, tidied. -/
def tidyR (l : List Rule) : List Rule := if RulesP l then tidyL kn0 l else []
theorem tidy_ok {l : List Rule} (h : RulesP l) : RulesP (tidyL kn0 l) :=
  ⟨Nat.le_trans (tidy_sub kn0 l).length_le h.1, fun x hx => h.2 x ((tidy_sub kn0 l).subset hx)⟩
end Go.Proofs.YtdlnoabihfnmmaaGreat.V

/- Contracts: rules without those that do nothing, in the program. -/
namespace Go.Proofs.YtdlnoabihfnmmaaGreat.V
open Go Go.RowKit
set_option linter.unusedVariables false
set_option linter.unusedSimpArgs false
theorem mkOG {α : Type} {k : Kd α} {t tS : TypeId} {bytes : Nat} (hE : El P0 tS t k bytes) {w : World} {n : Nat} (hm : n * bytes ≤ 281474976710656) (hm2 : n ≤ 17592186044416) {K : Sl → World → Prop} (hk : ∀ s w', OwnS k t w.heap.size w' s [] → Below w.heap.size w w' → K s w') :
    RunT (.o (.lf .sl)) P0 (Instr.makeSlice tS (.int .i64 0) (.int .i64 (n : Int))) w K := by
  obtain ⟨i, z, hi, hz, hsz, hby, hzs⟩ := hE.info
  obtain ⟨w', hr, ho, hg⟩ := run_make_own (P := P0) w w.heap.size tS t i z k.ls.length hE.elem hi hz hsz .i64 .i64 n (by
    rw [hby, Nat.mul_comm]; exact hm) (by simp only [maxLen]; omega) (Nat.le_refl _)
  exact ⟨⟨_, 0, n⟩, w', hr, hk _ _ ⟨rfl, ho⟩ ((Below.refl _ _).grown hg (Nat.le_refl _) (by simp))⟩
theorem ldAt {w : World} {b o : Nat} {y : T4} (h : At w b o (Tup.cells (R 4 (.i .i64)) y)) {K : T4 → World → Prop} (hk : K y w) : LdA (R 4 (.i .i64)) ⟨b, o, none⟩ w K := ⟨y, fun j v hv => by rw [add_mk]; exact h j v hv, hk⟩
/-- An address of a range, in old memory. -/
def AtG (H : Nat) (y : T4) (a : Addr) (w : World) : Prop := ∃ b o, a = ⟨b, o, none⟩ ∧ b < H ∧ At w b o (Tup.cells (R 4 (.i .i64)) y)
theorem keptAt {H : Nat} {y : T4} : Kept (Below H) (AtG H y) := by
  rintro a x z ⟨b, o, h1, h2, h3⟩ hxz
  refine ⟨b, o, h1, h2, fun m v hv => ?_⟩
  rw [← h3 m v hv]
  unfold World.cell?
  simp only
  rw [hxz.block b h2]
theorem at_lt {w : World} {b o : Nat} {y : T4} (h : At w b o (Tup.cells (R 4 (.i .i64)) y)) : b < w.heap.size := World.block_lt_of_cell? w _ (h 0 _ (show (Tup.cells (R 4 (.i .i64)) y)[0]? = some (.int .i64 y.1) from rfl))
theorem ixRb {α : Type} {k : Kd α} {w : World} {s : Sl} {xs : List α} {i : Int} {x : α} {sz : Nat} (h : SlR k w s xs) (hi : 0 ≤ i) (hx : xs[i.toNat]? = some x) (hsz : sz = k.ls.length) {K : Addr → World → Prop}
    (hk : ∀ b o, s.bk = some b → At w b o (k.cells x) → K ⟨b, o, none⟩ w) : Ix s.a s.n i sz w K := by
  obtain ⟨b, o, ha, hA⟩ := h.at hx
  have hl : i.toNat < xs.length := by
    rcases Nat.lt_or_ge i.toNat xs.length with h | h
    · exact h
    · simp [List.getElem?_eq_none h] at hx
  refine ⟨⟨b, o, none⟩, ha, hi, by rw [h.1]; omega, ?_⟩
  rw [add_mk, hsz]
  exact hk _ _ (by simp [Sl.bk, ha]) hA
def ivlp (p : Nat × Nat) : T4 := ivl p.1 p.2
def StOk (st : Kn) : Prop := st.length = 12 ∧ ∀ p ∈ st, p.1 ≤ p.2 ∧ p.2 ≤ 255
theorem stOk0 : StOk kn0 := ⟨by simp [kn0], fun p hp => by simp only [kn0, List.mem_replicate] at hp; rw [hp.2]; simp⟩
theorem stOk_at {st : Kn} (h : StOk st) {r : Rule} (hr : RuleP r) : st[r.at_.toNat]? = some (knAt st r) ∧ (knAt st r).1 ≤ (knAt st r).2 ∧ (knAt st r).2 ≤ 255 := by
  obtain ⟨p, hp⟩ := get_some (l := st) (k := r.at_.toNat) (by have := hr.1; have := h.1; omega)
  have hk : knAt st r = p := by unfold knAt; rw [List.getD_eq_getElem?_getD, hp]; rfl
  rw [hk]
  exact ⟨hp, h.2 p (List.mem_of_getElem? hp)⟩
theorem stOk_set {st : Kn} (h : StOk st) {r : Rule} (hr : RuleP r) {is_ : Bool} {p : Nat × Nat} (hb : brN r.op (knAt st r).1 (knAt st r).2 r.num.toNat is_ = some p) : StOk (st.set r.at_.toNat p) := by
  refine ⟨by simpa using h.1, fun q hq => ?_⟩
  rcases List.mem_or_eq_of_mem_set hq with h1 | rfl
  · exact h.2 q h1
  · obtain ⟨_, h2, h3⟩ := stOk_at h hr
    have := brN_in (a := q.1) (b := q.2) h2 hb
    omega
theorem map_set {st : Kn} {i : Nat} {p : Nat × Nat} : (st.set i p).map ivlp = (st.map ivlp).set i (ivlp p) := List.map_set
section
variable {w : World} {s : Sl} {l : List Rule}
/-- What is known between two rounds. -/
structure TdI (l : List Rule) (H0 H1 : Nat) (kn : Sl) (w0 : World) (out : Sl) (n : Nat) (st : Kn) (done : List Rule) (w : World) : Prop where
  le : n ≤ l.length
  ok : StOk st
  out : OwnS kRule 40 H1 w out done
  kn : WrS kRange 54 H0 w kn (st.map ivlp)
  bel : Below w0.heap.size w0 w
  size : H1 ≤ w.heap.size
  law : tidyL kn0 l = done ++ tidyL st (l.drop n)
  few : done.length ≤ n
theorem TdI.below {H0 H1 : Nat} {kn out : Sl} {w0 w w' : World} {n : Nat} {st : Kn} {done : List Rule} (h : TdI l H0 H1 kn w0 out n st done w) (hb : Below w.heap.size w w') : TdI l H0 H1 kn w0 out n st done w' :=
  ⟨h.le, h.ok, h.out.below hb, h.kn.below hb, h.bel.trans (hb.mono h.bel.size), Nat.le_trans h.size hb.size, h.law, h.few⟩
end
end Go.Proofs.YtdlnoabihfnmmaaGreat.V

/- Contracts: RulesTidy, in the program. -/
namespace Go.Proofs.YtdlnoabihfnmmaaGreat.V
open Go Go.RowKit
set_option linter.unusedVariables false
set_option linter.unusedSimpArgs false
section
variable {w : World} {s : Sl} {l : List Rule}
/-- The rest is handed back. -/
theorem tdRet {out : Sl} {done : List Rule} {H : Nat} {t : TypeId} {w0 w1 : World} {K : Sl → World → Prop} (ho : OwnS kRule t H w1 out done) (hb : Below w0.heap.size w0 w1) (hk : ∀ r w', Below w0.heap.size w0 w' → SlR kRule w' r done → K r w') :
    RunT (.o (.lf .sl)) P0 (Instr.sliceAt 23 out.v none (some (.int .i64 ((out.n : Nat) : Int))) (some (.int .i64 ((out.n : Nat) : Int)))) w1 K := by
  have hc := ho.cap
  have hn := ho.len
  refine slcR (k := kRule) (e := 40) (by kernel_rfl) (by kernel_rfl) ho.read (lo := none) (hi := some (out.n : Int)) (mx := some (out.n : Int)) (l := 0) (h' := out.n) (m := out.n) rfl rfl rfl (by simp) (by omega) (by omega) (by omega) (by omega) fun r _ _ hr _ => ?_
  refine hk r w1 hb ?_
  rw [List.drop_zero, hn, List.take_length] at hr
  exact hr
end
end Go.Proofs.YtdlnoabihfnmmaaGreat.V

/- Contracts: RulesTidy, in the reference. -/
namespace Go.Proofs.YtdlnoabihfnmmaaGreat.V
open Go Go.RowKit
set_option linter.unusedVariables false
set_option linter.unusedSimpArgs false
theorem elRange : El P0 52 54 kRange 32 := ⟨by kernel_rfl, ⟨_, _, Option.eq_some_of_isSome (by kernel_rfl), Option.eq_some_of_isSome (by kernel_rfl), by kernel_rfl, by kernel_rfl, by kernel_rfl⟩, by decide, noAnyRange⟩
def AtV (H : Nat) (vs : List Value) (a : Addr) (w : World) : Prop := ∃ b o, a = ⟨b, o, none⟩ ∧ b < H ∧ At w b o vs
theorem keptAv {H : Nat} {vs : List Value} : Kept (Below H) (AtV H vs) := by
  rintro a x z ⟨b, o, h1, h2, h3⟩ hxz
  refine ⟨b, o, h1, h2, fun m v hv => ?_⟩
  rw [← h3 m v hv]
  unfold World.cell?
  simp only
  rw [hxz.block b h2]
theorem bk_lt {α : Type} {k : Kd α} {w : World} {s : Sl} {xs : List α} (h : SlR k w s xs) {i : Nat} {x : α} (hx : xs[i]? = some x) {v : Value} (hv : (k.cells x)[0]? = some v) {b : Nat} (hb : s.bk = some b) : b < w.heap.size := by
  obtain ⟨b', o, ha, hA⟩ := h.at hx
  have : b' = b := by simpa [Sl.bk, ha] using hb
  subst this
  exact World.block_lt_of_cell? w _ (hA 0 v hv)
theorem ldAv {w : World} {b o : Nat} {ls : List Lf} {y : Tup ls} (h : At w b o (Tup.cells ls y)) {K : Tup ls → World → Prop} (hk : K y w) : LdA ls ⟨b, o, none⟩ w K := ⟨y, fun j v hv => by rw [add_mk]; exact h j v hv, hk⟩
/-- A rule is asked of what is known. -/
theorem regT {w : World} {s kn : Sl} {l : List Rule} {ks : List T4} {i : Int} {x : Rule} {lo hi m : Nat} {is_ : Bool} {K : T4 × Bool × Unit → Nat → World → Prop} (hs : SlR kRule w s l) (hkn : SlR kRange w kn ks) (hi0 : 0 ≤ i) (hx : l[i.toNat]? = some x) (hpx : RuleP x) (hm : x.num.toNat = m) (hkat : ks[x.at_.toNat]? = some (ivl lo hi)) (hle : lo ≤ hi) (h255 : hi ≤ 255)
    (hk : ∀ b w', Below w.heap.size w w' → w'.heap[b]? = some (.cells (Tup.cells (R 4 (.i .i64)) (brT x.op lo hi m is_).1).toArray 54 (0, 0)) → w.heap.size ≤ b → K ((brT x.op lo hi m is_).1, (brN x.op lo hi m is_).isSome, ()) b w') :
    ∃ Sp : World → World → Prop, SpOk Sp w ∧ ∃ G40 : Addr → World → Prop, Kept Sp G40 ∧ ∃ G41 : Tup (R 5 (.i .i64)) → World → Prop, Kept Sp G41 ∧ ∃ G44 : Addr → World → Prop, Kept Sp G44 ∧ ∃ G45 : Tup (R 4 (.i .i64)) → World → Prop, Kept Sp G45 ∧ ∃ G46 : (Tup (R 4 (.i .i64))) × (Bool) × Unit → World → Prop, Kept Sp G46 ∧ ∃ Gs : Tup (R 4 (.i .i64)) → World → Prop, Kept Sp Gs ∧
    (∀ w1, Sp w w1 → Ix s.a s.n i 5 w1 fun a w2 => GK (.o (.lf .ad)) (Sb (World.heap w).size Sp) w1 G40 (.pointer (some a)) w2) ∧
    ∀ (t40 : Addr), (∀ w1, Sp w w1 → G40 t40 w1 → LdA (R 5 (.i .i64)) t40 w1 fun (t : Tup (R 5 (.i .i64))) w2 => GK (.o (.ag (R 5 (.i .i64)))) (Sb (World.heap w).size Sp) w1 G41 (.agg (Tup.cells (R 5 (.i .i64)) t).toArray) w2) ∧
    ∀ (t41 : Tup (R 5 (.i .i64))), (∀ w1, Sp w w1 → Ix kn.a kn.n x.at_ 4 w1 fun a w2 => GK (.o (.lf .ad)) (Sb (World.heap w).size Sp) w1 G44 (.pointer (some a)) w2) ∧
    ∀ (t44 : Addr), (∀ w1, Sp w w1 → G44 t44 w1 → LdA (R 4 (.i .i64)) t44 w1 fun (t : Tup (R 4 (.i .i64))) w2 => GK (.o (.ag (R 4 (.i .i64)))) (Sb (World.heap w).size Sp) w1 G45 (.agg (Tup.cells (R 4 (.i .i64)) t).toArray) w2) ∧
    ∀ (t45 : Tup (R 4 (.i .i64))), (∀ w1, Sp w w1 → G41 t41 w1 → G45 t45 w1 → CallT (.n [(.ag (R 4 (.i .i64))), (.lf .b)]) P0 26 [(.agg (Tup.cells (R 5 (.i .i64)) t41).toArray), (.agg (Tup.cells (R 4 (.i .i64)) t45).toArray), (.bool is_)] w1 fun (t : (Tup (R 4 (.i .i64))) × (Bool) × Unit) w2 => GK (.n [(.ag (R 4 (.i .i64))), (.lf .b)]) (Sb (World.heap w).size Sp) w1 G46 (.tuple #[(.agg (Tup.cells (R 4 (.i .i64)) t.1).toArray), (.bool t.2.1)]) w2) ∧
    ∀ (t46 : (Tup (R 4 (.i .i64))) × (Bool) × Unit), (∀ w1, Sp w w1 → Nw (zc P0 54) 54 w1 fun a w2 => AXp (World.heap w).size 54 (zc P0 54) Sp w1 (.pointer (some a)) w2) ∧
    ∀ (t8 : Nat), (∀ w1, Sp w w1 → G46 t46 w1 → (World.heap w).size ≤ t8 → (World.heap w1)[t8]? = some (.cells (zc P0 54) 54 (0, 0)) → StA P0 (⟨t8, 0, none⟩ : Addr) (Tup.cells (R 4 (.i .i64)) t46.1) w1 fun w2 => GS (.o (.ag (R 4 (.i .i64)))) Sp w1 Gs t8 54 w2) ∧
    ∀ (st : Tup (R 4 (.i .i64))), ∀ w1, Sp w w1 → G40 t40 w1 → G41 t41 w1 → G44 t44 w1 → G45 t45 w1 → G46 t46 w1 → Gs st w1 → BxD (World.heap w).size w1 [(t8, ((.agg (Tup.cells (R 4 (.i .i64)) st).toArray) : Value).cells, 54)] → K t46 t8 w1 := by
  have hsl : ∀ b, s.bk = some b → b < w.heap.size := fun b hb => bk_lt hs hx (v := .int .i64 x.at_) rfl hb
  have hkl : ∀ b, kn.bk = some b → b < w.heap.size := fun b hb => bk_lt hkn hkat (v := .int .i64 (ivl lo hi).1) rfl hb
  refine ⟨Below w.heap.size, belOk _, AtV w.heap.size (Tup.cells (R 5 (.i .i64)) x.t), keptAv, eqG x.t, keptE, AtG w.heap.size (ivl lo hi), keptAt, eqG (ivl lo hi), keptE, eqG ((brT x.op lo hi m is_).1, (brN x.op lo hi m is_).isSome, ()), keptE, eqG (brT x.op lo hi m is_).1, keptE, ?_⟩
  refine ⟨fun w' hs' => ?_, fun t40 => ⟨fun w' hs' f => ?_, fun t41 => ⟨fun w' hs' => ?_, fun t44 => ⟨fun w' hs' f => ?_, fun t45 => ⟨fun w' hs' f41 f45 => ?_, fun t46 => ⟨fun w' hs' => nwX hs'.size, fun t8 => ⟨fun w' hs' f46 q1 q2 => ?_, fun st w' hs' f40 f41 f44 f45 f46 g hbx => ?_⟩⟩⟩⟩⟩⟩⟩
  · exact ixRb (hs.below hs') hi0 hx rfl fun b o hb hA => ⟨⟨b, o, none⟩, rfl, ⟨Below.refl _ _, Nat.le_refl _, fun _ _ _ => rfl⟩, b, o, rfl, hsl b hb, hA⟩
  · obtain ⟨b, o, rfl, _, hA⟩ := f
    exact ldAv hA (gkX rfl (Below.refl _ _) hs'.size)
  · exact ixRb (hkn.below hs') hpx.1.1 hkat rfl fun b o hb hA => ⟨⟨b, o, none⟩, rfl, ⟨Below.refl _ _, Nat.le_refl _, fun _ _ _ => rfl⟩, b, o, rfl, hkl b hb, hA⟩
  · obtain ⟨b, o, rfl, _, hA⟩ := f
    exact ldAt hA (gkX rfl (Below.refl _ _) hs'.size)
  · cases f41; cases f45
    refine spec.l9Range.c hpx.2.1 hpx.2.2.1 hle (by omega) fun w5 hb5 => ?_
    rw [hm]
    exact gkX rfl hb5 hs'.size
  · cases f46; exact stX q1 hs'.size q2
  · cases f46; cases g
    have hb := hbx.1 _ List.mem_cons_self
    exact hk t8 w' hs' hb.2.2 hb.1
section
variable {w : World} {s : Sl} {l : List Rule}
set_option maxHeartbeats 4000000 in
theorem spec.RulesTidy.c {K : Sl → World → Prop} (h : SlR kRule w s l) (hk : ∀ r w', Below w.heap.size w w' → SlR kRule w' r (tidyR l) → K r w') : CallT (.o (.lf .sl)) P0 14 [s.v] w K := by
  refine spec.RulesTidy.ok ?_
  unfold spec.RulesTidy.vc
  refine nw fun w1 hb1 hs1 hc1 => ?_
  refine spec.l9Ok.c (h.below hb1) fun w2 hb2 => ?_
  have hb12 := hb1.trans (hb2.mono hb1.size)
  have ho2 : OwnS kRule 40 w.heap.size w2 ⟨some ⟨w.heap.size, 0, none⟩, 0, 0⟩ [] := (OwnS.lit (k := kRule) (B := w.heap.size) (xs := []) (n := 0) (Nat.le_refl _) hc1 rfl rfl (by simp)).below hb2
  refine And.intro (fun hq => ?_) (fun hq => ?_)
  · have hno : ¬ RulesP l := by simpa using hq
    refine hk _ w2 hb12 ?_
    have e : tidyR l = [] := by unfold tidyR; rw [if_neg hno]
    rw [e]; exact ho2.read
  · have hp : RulesP l := by simpa using hq
    have et : tidyR l = tidyL kn0 l := by unfold tidyR; rw [if_pos hp]
    rw [et] at hk
    have hl6 := hp.1
    have hsn := h.len
    have hw12 : w.heap.size < w2.heap.size := by have := hb2.size; omega
    refine nw fun w3 hb3 hs3 hc3 => ?_
    have ho3 : OwnS kRange 54 w2.heap.size w3 ⟨some ⟨w2.heap.size, 0, none⟩, 0, 0⟩ [] := OwnS.lit (k := kRange) (B := w2.heap.size) (xs := []) (n := 0) (Nat.le_refl _) hc3 rfl rfl (by simp)
    generalize hy0 : ivl 0 255 = y0
    refine ⟨fun kn t w' => ∃ n : Nat, t = n ∧ n ≤ 12 ∧ OwnS kRange 54 w2.heap.size w' kn (List.replicate n y0) ∧ Below w2.heap.size w2 w', fun _ t _ => 12 - t.toNat, ⟨0, rfl, by omega, ho3, hb3⟩, ?_⟩
    rintro kn t w4 ⟨n, rfl, hn, hkn, hb4⟩ _
    refine And.intro (fun hlt => ?_) (fun hge => ?_)
    · simp only [decide_eq_true_eq] at hlt
      refine spec.l2Ends.c fun w5 hb5 => ?_
      rw [hy0]
      refine ap1 elRange (hkn.below hb5) y0 rfl (by simp; omega) (by simp; omega) (by have := hb4.size; have := hb5.size; omega) fun kn2 w6 hkn2 hg6 _ => ?_
      have ei : IntKind.wrap .i64 ((n : Int) + 1) = ((n + 1 : Nat) : Int) := by rw [i64_of (by omega) (by omega)]; omega
      rw [ei]
      refine ⟨⟨n + 1, rfl, by omega, by rw [List.replicate_succ']; exact hkn2, (hb4.trans (hb5.mono hb4.size)).grown hg6 (by have := hb4.size; have := hb5.size; omega) (fun b hb => (hkn.blk hb).1)⟩, ?_⟩
      simp only [Int.toNat_natCast]; omega
    · simp only [decide_eq_false_iff_not] at hge
      obtain rfl : n = 12 := by omega
      have hkn0 : (List.replicate 12 y0) = kn0.map ivlp := by rw [← hy0]; simp [kn0, ivlp]
      rw [hkn0] at hkn
      have hb14 := hb12.trans (hb4.mono hb12.size)
      have hknb : ∀ b, kn.bk = some b → w2.heap.size ≤ b ∧ b < w4.heap.size := fun b hb => hkn.wr.blk hb
      refine ⟨fun out t w' => ∃ (n : Nat) (st : Kn) (done : List Rule), t = n ∧ TdI l w2.heap.size w.heap.size kn w out n st done w' ∧ w4.heap.size ≤ w'.heap.size ∧ ∀ b, (Value.slice out.a out.n out.c).ownBlock = some b → kn.bk ≠ some b, fun _ t _ => l.length - t.toNat,
        ⟨0, kn0, [], rfl, ⟨Nat.zero_le _, stOk0, ho2.below hb4, hkn.wr, hb14, hb14.size, rfl, by simp⟩, Nat.le_refl _, fun b hb e => by
          have h1 : w.heap.size = b := by simpa [Value.ownBlock] using hb
          have := (hknb b e).1
          omega⟩, ?_⟩
      rintro out t w5 ⟨n, st, done, rfl, hI, hw45, hdis⟩ _
      refine And.intro (fun hlt => ?_) (fun hge => ?_)
      · simp only [decide_eq_true_eq] at hlt
        have hnl : n < l.length := by omega
        obtain ⟨x, hx⟩ := get_some hnl
        have hpx := hp.2 x (List.mem_of_getElem? hx)
        obtain ⟨hstx, hle, h255⟩ := stOk_at hI.ok hpx
        have hxn := hpx.2.2.1
        have hdrop := getElem?_drop_cons hx
        have hls : ∀ b, s.bk = some b → b < w.heap.size := fun b hb => bk_lt h hx (v := .int .i64 x.at_) rfl hb
        have hw5 := hI.bel.size
        refine ixF (h.below hI.bel) (i := (n : Int)) (by omega) (x := x) (by simpa using hx) rfl (l := .i .i64) (v := x.at_) (j := 0) rfl ?_
        obtain ⟨m, hm⟩ : ∃ m : Nat, x.num.toNat = m := ⟨_, rfl⟩
        generalize hkx : knAt st x = px at *
        obtain ⟨lo, hi⟩ := px
        simp only at hle h255
        have hkat : (st.map ivlp)[x.at_.toNat]? = some (ivl lo hi) := by rw [List.getElem?_map, hstx]; rfl
        have hlaw : tidyL kn0 l = done ++ (match brN x.op lo hi m true with
          | none => tidyL st (l.drop (n + 1))
          | some _ => x :: (match brN x.op lo hi m false with
            | none => []
            | some p => tidyL (st.set x.at_.toNat p) (l.drop (n + 1)))) := by
          first | (rw [hI.law, hdrop, tidyL, hkx, hm]; rfl) | rw [hI.law, hdrop, tidyL, hkx, hm]
        have hfew := hI.few
        have ei : IntKind.wrap .i64 ((n : Int) + 1) = ((n + 1 : Nat) : Int) := by rw [i64_of (by omega) (by omega)]; omega
        rw [ei]
        refine regT (is_ := true) (h.below hI.bel) hI.kn.read (i := (n : Int)) (by omega) (by simpa using hx) hpx hm hkat hle h255 fun t8 w6 hb6 _ _ => ?_
        have hI6 := hI.below hb6
        refine regT (is_ := false) (h.below hI6.bel) hI6.kn.read (i := (n : Int)) (by omega) (by simpa using hx) hpx hm hkat hle h255 fun rest w7 hb7 hrest hrest2 => ?_
        have hI7 := hI6.below hb7
        have hw7 : w4.heap.size ≤ w7.heap.size := by have := hb6.size; have := hb7.size; omega
        refine And.intro (fun hc => ?_) (fun hc => ?_)
        · have hnone : brN x.op lo hi m true = none := by cases hbn : brN x.op lo hi m true with
            | none => rfl
            | some p => rw [hbn] at hc; simp at hc
          rw [hnone] at hlaw
          refine ⟨⟨n + 1, st, done, rfl, ⟨by omega, hI7.ok, hI7.out, hI7.kn, hI7.bel, hI7.size, hlaw, by omega⟩, hw7, hdis⟩, ?_⟩
          simp only [Int.toNat_natCast]; omega
        · obtain ⟨p1, hp1⟩ : ∃ p, brN x.op lo hi m true = some p := by cases hbn : brN x.op lo hi m true with
            | none => rw [hbn] at hc; simp at hc
            | some p => exact ⟨p, rfl⟩
          rw [hp1] at hlaw
          simp only at hlaw
          refine ixA (h.below hI7.bel) (i := (n : Int)) (by omega) (x := x) (by simpa using hx) rfl ?_
          refine ap1 elRule hI7.out x rfl (by omega) (by omega) hI7.size fun out2 w8 ho2' hg2 hbk2 => ?_
          have hob : ∀ b, (Value.slice out.a out.n out.c).ownBlock = some b → w.heap.size ≤ b ∧ b < w5.heap.size := fun b hb => hI.out.blk hb
          have hkn8 : WrS kRange 54 w2.heap.size w8 kn (st.map ivlp) := hI7.kn.kept hg2 (fun b hb e => hdis b hb e)
          have hbel8 : Below w.heap.size w w8 := hI7.bel.grown hg2 hI7.bel.size (fun b hb => (hob b hb).1)
          have hsz8 := hg2.size
          have hdis2 : ∀ b, (Value.slice out2.a out2.n out2.c).ownBlock = some b → kn.bk ≠ some b := fun b hb e => by
            rcases hbk2 b hb with h1 | h1
            · exact hdis b h1 e
            · have := (hknb b e).2; omega
          refine And.intro (fun hc => ?_) (fun hc => ?_)
          · have hnone : brN x.op lo hi m false = none := by cases hbn : brN x.op lo hi m false with
              | none => rfl
              | some p => rw [hbn] at hc; simp at hc
            rw [hnone] at hlaw
            rw [hlaw] at hk
            exact hk _ _ hbel8 ho2'.read
          · obtain ⟨p2, hp2⟩ : ∃ p, brN x.op lo hi m false = some p := by cases hbn : brN x.op lo hi m false with
              | none => rw [hbn] at hc; simp at hc
              | some p => exact ⟨p, rfl⟩
            rw [hp2] at hlaw
            have e1 : (brT x.op lo hi m false).1 = ivlp p2 := by rw [brT_some (a := p2.1) (b := p2.2) hp2]; rfl
            have hrl : rest < w7.heap.size := (Array.getElem?_eq_some_iff.1 hrest).1
            have hrest8 := (hg2.block rest hrl (fun e => by have := (hob _ e.symm).2; have := hb6.size; omega)).trans hrest
            refine ldAB hrest8 (x := (brT x.op lo hi m false).1) rfl ?_
            refine ixStA hkn8 (i := x.at_) hpx.1.1 hkat rfl (by decide) noAnyRange (ivlp p2) (by rw [e1]; rfl) fun w14 hkn14 hg14 hsz14 => ?_
            rw [← map_set] at hkn14
            refine ⟨⟨n + 1, st.set x.at_.toNat p2, done ++ [x], rfl, ⟨by omega, stOk_set hI.ok hpx (is_ := false) (by rw [hkx]; show brN x.op lo hi x.num.toNat false = some p2; rw [hm]; exact hp2), ho2'.kept hg14 (fun b hb e => hdis2 b e hb), hkn14, hbel8.grown hg14 hbel8.size (fun b hb => by have := (hknb b hb).1; omega), by have := hI7.size; omega, by rw [hlaw]; simp, by simp; omega⟩, by omega, hdis2⟩, ?_⟩
            simp only [Int.toNat_natCast]; omega
      · simp only [decide_eq_false_iff_not] at hge
        have hnl : n = l.length := by have := hI.le; omega
        have e := hI.law
        rw [hnl, List.drop_length, show tidyL st [] = [] from rfl, List.append_nil] at e
        rw [e] at hk
        exact hk _ _ hI.bel hI.out.read
end
end Go.Proofs.YtdlnoabihfnmmaaGreat.V

/- Contracts: the draws of rules. -/
namespace Go.Proofs.YtdlnoabihfnmmaaGreat.V
open Go Go.RowKit
set_option linter.unusedVariables false
set_option linter.unusedSimpArgs false
section
variable {B br m : Nat} {w : World}
theorem spec.l20Number.c {K : Int → World → Prop} (h : RdS B br m w) (hm : m ≤ 900000000) (hk : ∀ x w', w.grownBy w' (some br) → RdS B br (m + 3) w' → K x w') : CallT (.o (.lf (.i .i64))) P0 34 [.pointer (some ⟨br, 0, none⟩)] w K := by
  refine spec.l20Number.ok (spec.l20Rd.pick.c h (by omega) (by omega) fun t4 w1 _ _ g1 r1 => ?_)
  refine And.intro (fun _ => ?_) (fun _ => And.intro (fun _ => ?_) (fun _ => ?_))
  · exact spec.l20Imm.c r1 (by omega) fun x w2 g2 r2 => hk _ _ (grown_trans g1 g2) (r2.more (by omega))
  · exact spec.l20Rd.pick.c r1 (by omega) (by omega) fun x w2 _ _ g2 r2 => hk _ _ (grown_trans g1 g2) (r2.more (by omega))
  · refine spec.l20Rd.pick.c r1 (by omega) (by omega) fun x w2 _ _ g2 r2 => ?_
    refine oneLit (xs := [0, 4, 8, 16, 24]) r2 (by omega) rfl rfl (by decide) fun y w3 hy g3 r3 => ⟨?_, hk _ _ (grown_trans (grown_trans g1 g2) g3) (r3.more (by omega))⟩
    simp at hy; omega
def RlI (B br m : Nat) (w : World) (n : Int) (out : Sl) (w' : World) : Prop :=
  ∃ (c : Nat) (ys : List Rule), n = c ∧ ys.length + c ≤ 6 ∧ OwnS kRule 40 w.heap.size w' out ys ∧ RdS B br (m + 1 + 10 * ys.length) w' ∧ w.grownBy w' (some br)
theorem knRule : KN kRule := ⟨by intro l hl; simp [kRule, List.mem_replicate] at hl; exact hl, by decide, fun t => ⟨⟨t.1, t.2.1, t.2.2.1, t.2.2.2.1, t.2.2.2.2.1⟩, rfl⟩⟩
set_option maxHeartbeats 2000000 in
theorem spec.l20Rules.c {K : Sl → World → Prop} (h : RdS B br m w) (hm : m ≤ 800000000) (hk : ∀ r w' ys, w.grownBy w' (some br) → RdS B br (m + 100) w' → OwnS kRule 40 w.heap.size w' r ys → ys.length ≤ 6 → K r w') :
    CallT (.o (.lf .sl)) P0 20 [.pointer (some ⟨br, 0, none⟩)] w K := by
  have hlt := h.lt
  refine spec.l20Rules.ok (nw fun w1 b1 s1 c1 => ?_)
  have ho1 : OwnS kRule 40 w.heap.size w1 ⟨some ⟨w.heap.size, 0, none⟩, 0, 0⟩ [] := OwnS.lit (k := kRule) (B := w.heap.size) (xs := []) (n := 0) (Nat.le_refl _) c1 rfl rfl (by simp)
  refine oneLit (xs := [0, 1, 2, 3, 4, 6]) (h.below b1) (by omega) rfl rfl (by decide) fun n0 w2 hn0 g2 r2 => ?_
  have hn06 : 0 ≤ n0 ∧ n0 ≤ 6 := by simp at hn0; omega
  have G2 : w.grownBy w2 (some br) := grown_trans (grown_any b1) g2
  refine ⟨fun out n w' => RlI B br m w n out w', fun _ n _ => n.toNat, ⟨n0.toNat, [], by omega, by simp; omega, ho1.keptBr g2 hlt, r2.more (by simp), G2⟩, ?_⟩
  rintro out n w3 ⟨c, ys, rfl, hc, o3, r3, G3⟩ _
  have hon := o3.len
  refine And.intro (fun hpos => ?_) (fun hpos => ?_)
  · simp only [decide_eq_true_eq] at hpos
    have hc1 : 1 ≤ c := by omega
    refine oneLit (xs := [0, 0, 1, 2, 11]) r3 (by omega) rfl rfl (by decide) fun t17 w5 _ g5 r5 => ?_
    refine spec.l20Rd.pick.c r5 (by omega) (by omega) fun t19 w6 _ _ g6 r6 => ?_
    refine oneLit (xs := [0, 1, 2, 3, 7, 9, 10, 200, 254, 255]) r6 (by omega) rfl rfl (by decide) fun t23 w8 _ g8 r8 => ?_
    refine spec.l20Rd.pick.c r8 (by omega) (by omega) fun t25 w9 _ _ g9 r9 => ?_
    have g39 : w3.grownBy w9 (some br) := grown_trans (grown_trans (grown_trans g5 g6) g8) g9
    have o9 := o3.keptBr g39 hlt
    have G9 : w.grownBy w9 (some br) := grown_trans G3 g39
    refine nwStRule (x := ⟨t17, IntKind.wrap .i64 (12 + t19), t23, t25, 0⟩) fun w10 b10 s10 c10 => ?_
    have r10 := r9.below b10
    have o10 := o9.below b10
    have hH := G9.size
    have G10 : w.grownBy w10 (some br) := grown_trans G9 (grown_any b10)
    refine ldB c10 (j := 3) (x := t25) rfl ?_
    have ei : IntKind.wrap .i64 ((c : Int) - 1) = ((c - 1 : Nat) : Int) := by rw [i64_of (by omega) (by omega)]; omega
    have fin : ∀ {w15 : World} (y : Rule), w.grownBy w15 (some br) → RdS B br (m + 1 + 10 * ys.length + 9) w15 → OwnS kRule 40 w.heap.size w15 out ys → w15.heap[w9.heap.size]? = some (.cells y.cs 40 (0, 0)) →
        LdA (R 5 (.i .i64)) ⟨w9.heap.size, 0, none⟩ w15 fun (t35 : Tup (R 5 (.i .i64))) w16 => Nw #[(.int .i64 t35.1), (.int .i64 t35.2.1), (.int .i64 t35.2.2.1), (.int .i64 t35.2.2.2.1), (.int .i64 t35.2.2.2.2.1)] 40 w16 fun a_t36 w17 =>
        RunT (.o (.lf .sl)) P0 (Builtin.append_ #[23, 23] 23 #[out.v, (.slice (some a_t36) 1 1)]) w17 fun (t37 : Sl) w18 =>
        (RlI B br m w (IntKind.wrap .i64 ((c : Int) - 1)) t37 w18 ∧ (IntKind.wrap .i64 ((c : Int) - 1)).toNat < (c : Int).toNat) := by
      intro w15 y g15 r15 o15 c15
      refine ldAB (x := y.t) c15 rfl ?_
      refine ap1 elRule o15 y rfl (by omega) (by omega) g15.size fun out2 w18 o18 g18 _ => ?_
      rw [ei]
      refine ⟨⟨c - 1, ys ++ [y], rfl, by simp; omega, o18, (r15.keptO o15 g18 hlt).more (by simp; omega), grown_newO g15 g18 (fun b hb => (o15.blk hb).1)⟩, ?_⟩
      simp only [Int.toNat_natCast]; omega
    refine And.intro (fun _ => ?_) (fun _ => fin _ G10 (r10.more (by omega)) o10 c10)
    refine oneLit (xs := [0, 1, 2, 3, 7, 9, 4294967295]) r10 (by omega) rfl rfl (by decide) fun t32 w14 _ g14 r14 => ?_
    have hbr9 : br < w9.heap.size := by omega
    have c14 := keepB c10 g14 hbr9
    refine stB c14 rfl (by simp [Rule.cs]) fun w15 g15 s15 c15 => ?_
    refine fin ⟨t17, IntKind.wrap .i64 (12 + t19), t23, t25, t32⟩ (grown_new (grown_trans G10 g14) g15 (by omega)) ((r14.kept g15 (fun b hb => by simp only [Option.some.injEq] at hb; omega)).more (by omega)) ((o10.keptBr g14 hlt).kept g15 (fun b hb e => by simp only [Option.some.injEq] at hb; have := (o9.blk e).2; omega)) c15
  · have hc0 : c = 0 := by simp at hpos; omega
    subst hc0
    refine ⟨fun t w' => ∃ ys' : List Rule, (t = true → 1 ≤ ys.length) ∧ OwnS kRule 40 w.heap.size w' out ys ∧ RdS B br (m + 70) w' ∧ w.grownBy w' (some br), ?_, ?_⟩
    · refine And.intro (fun hp => ?_) (fun _ => ⟨[], fun h => by simp at h, o3, r3.more (by omega), G3⟩)
      have hp' : 1 ≤ ys.length := by simp only [decide_eq_true_eq] at hp; omega
      exact spec.l20Rd.pick.c r3 (by omega) (by omega) fun t43 w4 _ _ g4 r4 => ⟨[], fun _ => hp', o3.keptBr g4 hlt, r4.more (by omega), grown_trans G3 g4⟩
    · rintro t w4 ⟨_, hy, o4, r4, G4⟩ _
      refine And.intro (fun ht => ?_) (fun _ => hk out w4 ys G4 (r4.more (by omega)) o4 (by omega))
      have hy1 := hy ht
      refine spec.l20Rd.pick.c r4 (by omega) (by omega) fun t49 w5 k0 k1 g5 r5 => ?_
      refine spec.l20Rd.pick.c r5 (by omega) (by omega) fun t51 w6 _ _ g6 r6 => ?_
      have o6 := (o4.keptBr g5 hlt).keptBr g6 hlt
      have G6 : w.grownBy w6 (some br) := grown_trans (grown_trans G4 g5) g6
      obtain ⟨x, hx⟩ := get_some (l := ys) (k := t49.toNat) (by omega)
      have stf : ∀ {w11 : World} (j : Nat) (v : Int) (y : Rule), w6.grownBy w11 (some br) → RdS B br (m + 80) w11 → j < 5 → kRule.cells y = (kRule.cells x).set j (.int .i64 v) → Ix out.a out.n t49 5 w11 fun a w12 => St (Addr.add a j) (.int .i64 v) w12 fun w13 => K out w13 := by
        intro w11 j v y g11 r11 hj hy
        have o11 := o6.keptBr g11 hlt
        refine ixOwF o11 k0 hx rfl hj rfl y hy fun w12 o12 g12 _ => ?_
        rw [← ob_bk] at g12
        exact hk out w12 _ (grown_newO (grown_trans G6 g11) g12 (fun b hb => (o11.blk hb).1)) ((r11.keptO o11 g12 hlt).more (by omega)) o12 (by simp; omega)
      refine And.intro (fun _ => ?_) (fun _ => And.intro (fun _ => ?_) (fun _ => And.intro (fun _ => ?_) (fun _ => ?_)))
      · exact oneLit (xs := [-1, 12]) r6 (by omega) rfl rfl (by decide) fun v w11 _ g11 r11 => stf 0 v { x with at_ := v } g11 (r11.more (by omega)) (by omega) rfl
      · exact oneLit (xs := [-1, 256]) r6 (by omega) rfl rfl (by decide) fun v w11 _ g11 r11 => stf 2 v { x with num := v } g11 (r11.more (by omega)) (by omega) rfl
      · exact oneLit (xs := [11, 16]) r6 (by omega) rfl rfl (by decide) fun v w11 _ g11 r11 => stf 1 v { x with op := v } g11 (r11.more (by omega)) (by omega) rfl
      · exact stf 4 5 { x with key := 5 } (grown_refl _ _) (r6.more (by omega)) (by omega) rfl
theorem spec.l20Few.c {K : Sl → World → Prop} (h : RdS B br m w) (hm : m ≤ 800000000) (hk : ∀ r w' ys, w.grownBy w' (some br) → RdS B br (m + 100) w' → SlR kRule w' r ys → (∀ b, r.bk = some b → w.heap.size ≤ b) → ys.length ≤ 3 → K r w') :
    CallT (.o (.lf .sl)) P0 12 [.pointer (some ⟨br, 0, none⟩)] w K := by
  refine spec.l20Few.ok (spec.l20Rules.c h hm fun r w1 ys g1 r1 o1 hy => ?_)
  have hn := o1.len
  have hc := o1.cap
  have hb : ∀ b, r.bk = some b → w.heap.size ≤ b := fun b hb => (o1.blk ((ob_bk _).trans hb)).1
  refine And.intro (fun h3 => ?_) (fun h3 => hk r w1 ys g1 r1 o1.read hb (by simp at h3; omega))
  simp only [decide_eq_true_eq] at h3
  refine slcR (k := kRule) (e := 40) (by kernel_rfl) (by kernel_rfl) o1.read (lo := none) (hi := some 3) (mx := none) (l := 0) (h' := 3) (m := r.c) rfl rfl rfl (by simp) (by omega) (by omega) (by omega) (by omega) fun q _ _ hq hqb => ?_
  exact hk q w1 _ g1 r1 hq (fun b h => hb b (hqb b h)) (by simp; omega)
end
section
variable {w : World} {code : Sl} {bs : List Int}
end
end Go.Proofs.YtdlnoabihfnmmaaGreat.V

/- Contracts: the draw of two lists of rules. -/
namespace Go.Proofs.YtdlnoabihfnmmaaGreat.V
open Go Go.RowKit
set_option linter.unusedVariables false
set_option linter.unusedSimpArgs false
/-- An address in old memory that holds a rule. -/
def AtD (H br : Nat) (a : Addr) (w : World) : Prop := ∃ b o, a = ⟨b, o, none⟩ ∧ b < H ∧ b ≠ br ∧ ∃ y : Rule, At w b o (kRule.cells y)
theorem keptAd {H br : Nat} {R : World → Prop} : Kept (SpD H br R) (AtD H br) := by
  rintro a x z ⟨b, o, h1, h2, h3, y, h4⟩ hxz
  refine ⟨b, o, h1, h2, h3, y, fun m v hv => ?_⟩
  rw [← h4 m v hv]
  unfold World.cell?
  simp only
  rw [hxz.low b h2 h3]
theorem tidyR_len (l : List Rule) : (tidyR l).length ≤ l.length := by
  unfold tidyR
  split
  · exact (tidy_sub kn0 l).length_le
  · simp
section
variable {w : World} {code : Sl} {bs : List Int}
set_option maxHeartbeats 2000000 in
theorem spec.DrawSameFind.c {K : Sl × Sl × Unit → World → Prop} (h : SlR kU8 w code bs) (hb : ∀ x ∈ bs, 0 ≤ x ∧ x ≤ 255)
    (hk : ∀ r1 r2 w' xs ys, Below w.heap.size w w' → SlR kRule w' r1 xs → SlR kRule w' r2 ys → xs.length ≤ 3 → ys.length ≤ 6 → K (r1, r2, ()) w') : CallT (.n [(.lf .sl), (.lf .sl)]) P0 5 [code.v] w K := by
  refine spec.DrawSameFind.ok (spec.l20Open.c h hb fun w1 b1 r1 => ?_)
  have hbr := r1.lt
  refine spec.l20Few.c r1 (by omega) fun t9 w2 xs g2 r2 a2 hab hx3 => ?_
  have hne : ∀ b, t9.bk = some b → b ≠ w.heap.size := fun b hb e => by have := hab b hb; omega
  have kp : ∀ {w3 w4 : World} {ys : List Rule}, SlR kRule w3 t9 ys → w3.grownBy w4 (some w.heap.size) → SlR kRule w4 t9 ys := fun hs hg =>
    hs.kept2 hg (fun b o ha e => hne b (by simp [Sl.bk, ha]) (by simpa using e.symm))
  have bl : ∀ {w3 w4 : World}, Below w.heap.size w w3 → w3.grownBy w4 (some w.heap.size) → Below w.heap.size w w4 := fun hb hg => hb.grown hg hb.size (fun b hb => by simp only [Option.some.injEq] at hb; omega)
  have b2 := bl b1 g2
  refine spec.l20Rd.pick.c r2 (by omega) (by omega) fun t11 w3 _ _ g3 r3 => ?_
  have a3 := kp a2 g3
  have b3 := bl b2 g3
  have hn := a3.len
  have few : CallT (.o (.lf .sl)) P0 12 [(.pointer (some ⟨w.heap.size, 0, none⟩))] w3 fun (t43 : Sl) w23 => K (t9, (t43, ())) w23 := by
    refine spec.l20Few.c r3 (by omega) fun t43 w4 ys g4 r4 a4 _ hy3 => ?_
    exact hk _ _ _ xs ys (bl b3 g4) (kp a3 g4) a4 hx3 (by omega)
  have hw13 : w1.heap.size ≤ w3.heap.size := by have := g2.size; have := g3.size; omega
  refine And.intro (fun _ => ?_) (fun _ => And.intro (fun _ => ?_) (fun _ => And.intro (fun _ => And.intro (fun hgt => ?_) (fun _ => few)) (fun _ => few)))
  · refine spec.RulesTidy.c a3 fun t16 w4 b4 h4 => ?_
    exact hk _ _ _ xs _ (b3.trans (b4.mono b3.size)) (a3.below b4) h4 hx3 (by have := tidyR_len xs; omega)
  · refine nw fun w4 b4 s4 c4 => ?_
    have ho4 : OwnS kRule 40 w3.heap.size w4 ⟨some ⟨w3.heap.size, 0, none⟩, 0, 0⟩ [] := OwnS.lit (k := kRule) (B := w3.heap.size) (xs := []) (n := 0) (Nat.le_refl _) c4 rfl rfl (by simp)
    have a4 := a3.below b4
    refine apS (s := ⟨some ⟨w3.heap.size, 0, none⟩, 0, 0⟩) (tR := 23) elRule ho4 a4 (by simp; omega) (by simp; omega) (by omega) fun t22 w5 o5 g5 _ _ => ?_
    have r4 := r3.below b4
    have ob4 : ∀ b, (Value.slice (some (⟨w3.heap.size, 0, none⟩ : Addr)) 0 0).ownBlock = some b → b = w3.heap.size := fun b hb => by simpa [Value.ownBlock] using hb.symm
    have r5 := r4.kept g5 (fun b hb => by have := ob4 b hb; omega)
    have b5 : Below w.heap.size w w5 := (b3.trans (b4.mono b3.size)).grown g5 (by have := b3.size; omega) (fun b hb => by have := ob4 b hb; have := b3.size; omega)
    have a5 := a4.kept3 g5 (fun _ b o ha e => by
      have h1 := ob4 b e
      have h2 : b < w3.heap.size := by
        obtain ⟨x, hx⟩ : ∃ x, xs[0]? = some x := by
          cases xs with
          | nil => contradiction
          | cons x _ => exact ⟨x, rfl⟩
        exact bk_lt a3 hx (v := .int .i64 x.at_) rfl (by simp [Sl.bk, ha])
      omega)
    refine spec.l20Few.c r5 (by omega) fun t24 w6 ys g6 r6 a6 hab6 hy3 => ?_
    have o6 := o5.keptBr g6 (by omega)
    simp only [List.nil_append] at o6
    refine apS (tR := 23) elRule o6 a6 (by omega) (by omega) (by have := g5.size; have := g6.size; omega) fun t25 w7 o7 g7 _ _ => ?_
    have a6' := kp a5 g6
    have hob6 : ∀ b, (Value.slice t22.a t22.n t22.c).ownBlock = some b → w3.heap.size ≤ b := fun b hb => (o6.blk hb).1
    refine hk _ _ _ xs _ ((bl b5 g6).grown g7 (bl b5 g6).size (fun b hb => by have := hob6 b hb; have := b3.size; omega)) (a6'.kept3 g7 (fun hxn b o ha e => ?_)) o7.read hx3 (by simp; omega)
    have h1 := hob6 b e
    obtain ⟨x, hx⟩ : ∃ x, xs[0]? = some x := by
      cases xs with
      | nil => contradiction
      | cons x _ => exact ⟨x, rfl⟩
    have := bk_lt a3 hx (v := .int .i64 x.at_) rfl (b := b) (by simp [Sl.bk, ha])
    omega
  · simp only [decide_eq_true_eq] at hgt
    have hx2 : 2 ≤ xs.length := by omega
    obtain ⟨x0, hx0⟩ : ∃ x, xs[0]? = some x := get_some (by omega)
    have hbr3 : w.heap.size < w3.heap.size := by omega
    have hbk3 : ∀ b, t9.bk = some b → b < w3.heap.size ∧ b ≠ w.heap.size := fun b hb => ⟨bk_lt a3 hx0 (v := .int .i64 x0.at_) rfl hb, hne b hb⟩
    have hc3 := a3.2.1
    refine ⟨SpD w3.heap.size w.heap.size (RdS w.heap.size w.heap.size 500), spD_ok w3, IO kRule 40 w3.heap.size 0, kept_IO knRule, RO kRule w3.heap.size w.heap.size (xs.length - 1), kept_RO, IO kRule 40 w3.heap.size (xs.length - 1), kept_IO knRule, AtD w3.heap.size w.heap.size, keptAd, fun _ _ => True, keptT, IO kRule 40 w3.heap.size 1, kept_IO knRule, IO kRule 40 w3.heap.size (xs.length - 1 + 1), kept_IO knRule, ?_⟩
    have app : ∀ {w11 : World} {s x : Sl} {n1 n2 : Nat}, SpD w3.heap.size w.heap.size (RdS w.heap.size w.heap.size 500) w3 w11 → IO kRule 40 w3.heap.size n1 s w11 → (∃ zs, zs.length = n2 ∧ SlR kRule w11 x zs) → n1 + n2 ≤ 100 →
        RunT (.o (.lf .sl)) P0 (Builtin.append_ #[23, 23] 23 #[.slice s.a s.n s.c, .slice x.a x.n x.c]) w11 fun t w12 => GK (.o (.lf .sl)) (SpD w3.heap.size w.heap.size (RdS w.heap.size w.heap.size 500)) w11 (IO kRule 40 w3.heap.size (n1 + n2)) t.v w12 := by
      rintro w11 s x n1 n2 hsp ⟨zs, hz, ho⟩ ⟨us, hu, hx⟩ hle
      have h1 := apS (tR := 23) elRule ho hx (by omega) (by omega) hsp.size (K := fun s' w' => OwnS kRule 40 w3.heap.size w' s' (zs ++ us) ∧ w11.grownBy w' (Value.slice s.a s.n s.c).ownBlock) (fun s' w' h1 h2 _ _ => ⟨h1, h2⟩)
      obtain ⟨t, w12, hr, ⟨h2, h3⟩, h4⟩ := h1.and (I := Ip w3.heap.size w11) (ap_ip elRule knRule ho hx (by omega) (by omega))
      exact ⟨t, w12, hr, t, rfl, (sk_step (m2 := 500) h3 hsp.size (fun g hg => (ho.blk hg).1) h4 hbr3).1, _, by simp [hz, hu], h2⟩
    have sb : ∀ {w11 w12 : World}, Below w11.heap.size w11 w12 → w3.heap.size ≤ w11.heap.size → SpD w3.heap.size w.heap.size (RdS w.heap.size w.heap.size 500) w11 w12 := fun hb hH => (sk_below (m2 := 500) hb hH hbr3).1
    have aR : ∀ {w11 : World}, SpD w3.heap.size w.heap.size (RdS w.heap.size w.heap.size 500) w3 w11 → ∃ zs, zs.length = xs.length ∧ SlR kRule w11 t9 zs := fun hsp => by
      obtain ⟨zs, hz, hr, _⟩ := kept_RO (k := kRule) (H := w3.heap.size) (br := w.heap.size) (n := xs.length) (R := RdS w.heap.size w.heap.size 500) t9 w3 _ ⟨xs, rfl, a3, hbk3⟩ hsp
      exact ⟨zs, hz, hr⟩
    refine ⟨fun w11 hsp => ?_, fun t32 => ⟨fun w11 hsp => ?_, fun t34 => ⟨fun w11 hsp f32 f34 => ?_, fun t35 => ⟨fun w11 hsp => ?_, fun t37 => ⟨fun w11 hsp f37 => ?_, fun t38 => ⟨fun w11 hsp _ => ?_, fun t39 => ⟨fun w11 hsp f35 f39 => ?_, fun t40 w11 hsp _ _ _ _ _ _ f40 => ?_⟩⟩⟩⟩⟩⟩⟩
    · exact nw fun w12 b12 s12 c12 => ⟨⟨some ⟨w11.heap.size, 0, none⟩, 0, 0⟩, rfl, sb b12 hsp.size, [], rfl, OwnS.lit hsp.size c12 rfl rfl (by simp)⟩
    · obtain ⟨zs, hz, hr⟩ := aR hsp
      refine slcR (k := kRule) (e := 40) (by kernel_rfl) (by kernel_rfl) hr (lo := some 1) (hi := none) (mx := none) (l := 1) (h' := t9.n) (m := t9.c) rfl rfl rfl (by simp) (by omega) (by omega) (by omega) (by omega) fun r _ _ hr2 hb2 => ?_
      exact ⟨r, rfl, sb (Below.refl _ _) hsp.size, _, by simp; omega, hr2, fun b h => hbk3 b (hb2 b h)⟩
    · obtain ⟨zs, hz, hr, _⟩ := f34
      have := app (x := t34) (n2 := xs.length - 1) hsp f32 ⟨zs, hz, hr⟩ (by omega)
      rw [Nat.zero_add] at this
      exact this
    · obtain ⟨zs, hz, hr⟩ := aR hsp
      obtain ⟨y, hy⟩ := get_some (l := zs) (k := 0) (by omega)
      exact ixRb hr (i := 0) (by omega) (x := y) (by simpa using hy) rfl fun b o hbb hA => ⟨⟨b, o, none⟩, rfl, sb (Below.refl _ _) hsp.size, b, o, rfl, (hbk3 b hbb).1, (hbk3 b hbb).2, y, hA⟩
    · obtain ⟨b, o, rfl, _, _, y, hA⟩ := f37
      exact ⟨y.t, fun j v hv => by rw [add_mk]; exact hA j v hv, y.t, rfl, sb (Below.refl _ _) hsp.size, trivial⟩
    · exact nw fun w12 b12 s12 c12 => ⟨⟨some ⟨w11.heap.size, 0, none⟩, 1, 1⟩, rfl, sb b12 hsp.size, [⟨t38.1, t38.2.1, t38.2.2.1, t38.2.2.2.1, t38.2.2.2.2.1⟩], rfl, OwnS.lit hsp.size c12 rfl rfl (by simp [maxLen])⟩
    · obtain ⟨zs, hz, ho⟩ := f39
      exact app (x := t39) (n2 := 1) hsp f35 ⟨zs, hz, ho.read⟩ (by omega)
    · obtain ⟨zs, hz, ho⟩ := f40
      obtain ⟨us, hu, hr⟩ := aR hsp
      exact hk _ _ _ us zs (b3.grown (hsp.grown rfl) b3.size (fun b hb => by simp only [Option.some.injEq] at hb; omega)) hr ho.read (by omega) (by omega)
end
end Go.Proofs.YtdlnoabihfnmmaaGreat.V

/- Contracts: tables, as far as the draws ask: some table, in memory of its own. -/
namespace Go.Proofs.YtdlnoabihfnmmaaGreat.V
open Go Go.RowKit
set_option linter.unusedVariables false
set_option linter.unusedSimpArgs false
/-- A table: kind, size, room, keys, values. -/
abbrev TB : List Lf := [(.i .i64), (.i .i64), (.i .i64), .sl, .sl]
abbrev Tab := Tup TB
def kTab : Kd Tab := ⟨TB, fun x => x⟩
theorem zTab : zc P0 88 = (Tup.cells TB ((0, 0, 0, ⟨none, 0, 0⟩, ⟨none, 0, 0⟩, ()) : Tab)).toArray := by kernel_rfl
theorem noAnyTab : ∀ l ∈ kTab.ls, l ≠ Lf.any := by intro l hl; simp [kTab, TB] at hl; rcases hl with rfl | rfl <;> simp
/-- The box of a table. -/
def bT (m : Tab) : Obj := .cells (Tup.cells TB m).toArray 88 (0, 0)
theorem elU8 : El P0 22 5 kU8 1 := ⟨by kernel_rfl, ⟨_, _, Option.eq_some_of_isSome (by kernel_rfl), Option.eq_some_of_isSome (by kernel_rfl), by kernel_rfl, by kernel_rfl, by kernel_rfl⟩, by decide, by intro l hl; simp [kU8] at hl; simp [hl]⟩
section
variable {w w0 : World} {b : Nat} {m y : Tab}
theorem nwTab {K : Addr → World → Prop} (hk : ∀ w', Below w.heap.size w w' → w'.heap.size = w.heap.size + 1 → w'.heap[w.heap.size]? = some (bT m) → K ⟨w.heap.size, 0, none⟩ w') : Nw (Tup.cells TB m).toArray 88 w K := nw hk
theorem nwTz {K : Addr → World → Prop} (hk : ∀ w', Below w.heap.size w w' → w'.heap.size = w.heap.size + 1 → w'.heap[w.heap.size]? = some (bT (0, 0, 0, ⟨none, 0, 0⟩, ⟨none, 0, 0⟩, ())) → K ⟨w.heap.size, 0, none⟩ w') : Nw (zc P0 88) 88 w K := by
  rw [zTab]; exact nw hk
theorem stTab (h : w.heap[b]? = some (bT m)) {K : World → Prop} (hk : ∀ w', w.grownBy w' (some b) → w'.heap.size = w.heap.size → w'.heap[b]? = some (bT y) → K w') : StA P0 ⟨b, 0, none⟩ (Tup.cells TB y) w K := by
  obtain ⟨w', hr, hg, hsz, hh⟩ := run_storeCells_at' P0 (b := b) (t := 88) (Tup.cells TB y) 0 [] (Tup.cells TB m) w (oneCell_cells kTab noAnyTab y) rfl rfl (by simpa [bT] using h)
  exact ⟨w', hr, hk w' hg hsz (by simpa [bT] using hh)⟩
theorem ldTab (h : w.heap[b]? = some (bT m)) {K : Tab → World → Prop} (hk : K m w) : LdA TB ⟨b, 0, none⟩ w K := ldAB h rfl hk
/-- Bytes become a text. -/
theorem convB {t : TypeId} {B : Nat} {s : Sl} {xs : List Int} (h : OwnS kU8 t B w s xs) {K : ByteArray → World → Prop} (hk : ∀ r : ByteArray, r.size = xs.length → K r w) : RunT (.o (.lf .s)) P0 (convert 22 9 s.v) w K := by
  have hn := h.1
  rcases h.2.2 with ⟨hv, h0⟩ | ⟨g, cap, cur, hv, hBg, hg, hnc, hcm, hcs, htake⟩
  · have hx : xs = [] := by
      cases xs with
      | nil => rfl
      | cons x xs => rw [h0] at hn; simp at hn
    have hr := run_convert_bytes_nil (P := P0) w 22 5 (by kernel_rfl) (by kernel_rfl) 0 0 9 uStr
    refine ⟨_, w, by unfold Sl.v; rw [hv]; exact hr, hk _ ?_⟩
    subst hx; rfl
  · have holds : ∀ j u, (xs.flatMap kU8.cells)[j]? = some u → w.cell? ((⟨g, 0, none⟩ : Addr).add j) = some u := h.2.cells (g := g) (by rw [hv]; rfl)
    have hr := run_convert_bytes_arg (P := P0) w 22 5 (by kernel_rfl) (by kernel_rfl) g 0 s.n cap xs hn.symm (fun i hi => by
      obtain ⟨x, hx⟩ := get_some (l := xs) (k := i) (by omega)
      have hf := flat_get kU8 xs i x hx 0 (.int .u8 x) rfl
      have := holds _ _ hf
      rw [add_mk] at this
      rw [List.getD_eq_getElem?_getD, hx]
      have e : i * kU8.ls.length + 0 = i := by show i * 1 + 0 = i; omega
      rw [e] at this
      exact this) 9 uStr
    refine ⟨_, w, by unfold Sl.v; rw [hv]; exact hr, hk _ ?_⟩
    rw [strOfNums_size]
/-- Bytes, one by one. -/
theorem spec.l4Bytes.c {n size : Int} (hs : size ≤ 100) {K : ByteArray → World → Prop} (hk : ∀ r w', Below w.heap.size w w' → K r w') : CallT (.o (.lf .s)) P0 68 [.int .i64 n, .int .i64 size] w K := by
  refine spec.l4Bytes.ok (nw fun w1 b1 s1 c1 => ?_)
  have ho1 : OwnS kU8 5 w.heap.size w1 ⟨some ⟨w.heap.size, 0, none⟩, 0, 0⟩ [] := OwnS.lit (k := kU8) (B := w.heap.size) (xs := []) (n := 0) (Nat.le_refl _) c1 rfl rfl (by simp)
  refine ⟨fun _ out i w' => ∃ (c : Nat) (ys : List Int), i = c ∧ c ≤ 100 ∧ ys.length = c ∧ OwnS kU8 5 w.heap.size w' out ys ∧ Below w.heap.size w w', fun _ _ i _ => 200 - i.toNat, ⟨0, [], rfl, by omega, rfl, ho1, b1⟩, ?_⟩
  rintro n1 out i w2 ⟨c, ys, rfl, hc, hl, o2, b2⟩ _
  refine And.intro (fun hlt => ?_) (fun _ => ?_)
  · simp only [decide_eq_true_eq] at hlt
    refine ap1 elU8 o2 (IntKind.wrap .u8 (iAnd .i64 n1 255)) rfl (by omega) (by omega) b2.size fun out2 w3 o3 g3 _ => ⟨by omega, ?_⟩
    have ei : IntKind.wrap .i64 ((c : Int) + 1) = ((c + 1 : Nat) : Int) := by rw [i64_of (by omega) (by omega)]; omega
    rw [ei]
    refine ⟨⟨c + 1, _, rfl, by omega, by simp; omega, o3, b2.grown g3 b2.size (fun b hb => (o2.blk hb).1)⟩, ?_⟩
    simp only [Int.toNat_natCast]; omega
  · exact convB o2 fun r _ => hk r w2 b2
theorem mkU8' : Mk P0 22 5 kU8 1 0 := ⟨by kernel_rfl, ⟨_, _, Option.eq_some_of_isSome (by kernel_rfl), Option.eq_some_of_isSome (by kernel_rfl), by kernel_rfl, by kernel_rfl, by kernel_rfl⟩⟩
theorem convW {t : TypeId} {B : Nat} {s : Sl} {xs : List Int} (h : WrS kU8 t B w s xs) (hx : xs ≠ []) {K : ByteArray → World → Prop} (hk : ∀ r : ByteArray, K r w) : RunT (.o (.lf .s)) P0 (convert 22 9 s.v) w K := by
  obtain ⟨y, hy⟩ : ∃ y, xs[0]? = some y := by
    cases xs with
    | nil => contradiction
    | cons x _ => exact ⟨x, rfl⟩
  obtain ⟨b, o, cur, ha, hB, hg, hc, hcs⟩ := h.at hy (by decide)
  have hn := h.1
  have hr := run_convert_bytes_arg (P := P0) w 22 5 (by kernel_rfl) (by kernel_rfl) b o s.n s.c xs hn.symm (fun i hi => by
    obtain ⟨x, hx⟩ := get_some (l := xs) (k := i) (by omega)
    have h1 := hc i x hx 0 (.int .u8 x) rfl
    rw [List.getD_eq_getElem?_getD, hx, cell_of hg]
    have e : o + i * kU8.ls.length + 0 = o + i := by show o + i * 1 + 0 = o + i; omega
    rw [e] at h1
    exact h1) 9 uStr
  exact ⟨_, w, by unfold Sl.v; rw [ha]; exact hr, hk _⟩
theorem spec.l3Zero.c {n : Nat} (hn : 1 ≤ n ∧ n ≤ 100) {K : ByteArray → World → Prop} (hk : ∀ r w', Below w.heap.size w w' → K r w') : CallT (.o (.lf .s)) P0 105 [.int .i64 (n : Int)] w K := by
  refine spec.l3Zero.ok (mkS mkU8' (n := n) (by omega) (by simp only [maxLen]; omega) fun s w1 b1 h1 => ?_)
  exact convW h1 (fun h => by have := congrArg List.length h; simp at this; omega) fun r => hk r w1 b1
end
/-- What a table reads as. -/
def TbR (m : Tab) (ks : List Int) (vs : List ByteArray) (w : World) : Prop := SlR kI w m.2.2.2.1 ks ∧ SlR kS w m.2.2.2.2.1 vs
theorem TbR.below {m : Tab} {ks : List Int} {vs : List ByteArray} {w w' : World} (h : TbR m ks vs w) (hb : Below w.heap.size w w') : TbR m ks vs w' := ⟨h.1.below hb, h.2.below hb⟩
section
variable {w : World} {m : Tab} {ks : List Int} {vs : List ByteArray}
theorem spec.l3Shape.c {K : Bool → World → Prop} (h : TbR m ks vs w) (hk : ∀ b w', Below w.heap.size w w' → (b = true → ks.length = vs.length) → K b w') : CallT (.o (.lf .b)) P0 106 [.agg (Tup.cells TB m).toArray] w K := by
  refine spec.l3Shape.ok (nwTab fun w1 b1 s1 c1 => ?_)
  have no : ∀ {p : Prop}, false = true → p := fun h => by simp at h
  refine ldB0 c1 (l := .i .i64) (x := m.1) rfl (spec.l1In.c ?_)
  refine And.intro (fun _ => ?_) (fun _ => hk _ _ b1 no)
  refine ldB c1 (j := 1) (l := .i .i64) (x := m.2.1) rfl (spec.l1In.c ?_)
  refine And.intro (fun _ => ?_) (fun _ => hk _ _ b1 no)
  refine ldB c1 (j := 2) (l := .i .i64) (x := m.2.2.1) rfl (spec.l1In.c ?_)
  refine And.intro (fun _ => ?_) (fun _ => hk _ _ b1 no)
  refine ldB c1 (j := 3) (l := .sl) (x := m.2.2.2.1) rfl (ldB c1 (j := 4) (l := .sl) (x := m.2.2.2.2.1) rfl ?_)
  refine And.intro (fun he => ?_) (fun _ => hk _ _ b1 no)
  refine ldB c1 (j := 3) (l := .sl) (x := m.2.2.2.1) rfl (ldB c1 (j := 2) (l := .i .i64) (x := m.2.2.1) rfl ?_)
  refine hk _ _ b1 fun _ => ?_
  have h1 := h.1.len
  have h2 := h.2.len
  simp only [beq_iff_eq] at he
  omega
theorem spec.l3At.c {key : Int} {K : Int → World → Prop} (h : TbR m ks vs w) (hl : ks.length ≤ 1000) (hk : ∀ i w', Below w.heap.size w w' → (i < 0 ∨ i.toNat < ks.length) → K i w') : CallT (.o (.lf (.i .i64))) P0 107 [.agg (Tup.cells TB m).toArray, .int .i64 key] w K := by
  refine spec.l3At.ok (nwTab fun w1 b1 s1 c1 => ?_)
  have hn := h.1.len
  refine ⟨fun i w' => ∃ n : Nat, i = n ∧ n ≤ ks.length ∧ w' = w1, fun i _ => ks.length - i.toNat, ⟨0, rfl, by omega, rfl⟩, ?_⟩
  rintro i w2 ⟨n, rfl, hn2, rfl⟩ _
  refine ldB c1 (j := 3) (l := .sl) (x := m.2.2.2.1) rfl ?_
  refine And.intro (fun hlt => ?_) (fun _ => hk _ _ b1 (.inl (by omega)))
  simp only [decide_eq_true_eq] at hlt
  refine ldB c1 (j := 3) (l := .sl) (x := m.2.2.2.1) rfl ?_
  obtain ⟨x, hx⟩ := get_some (l := ks) (k := n) (by omega)
  refine ixL (h.1.below b1) (i := (n : Int)) (by omega) (x := x) (by simpa using hx) rfl (l := .i .i64) (v := x) rfl ?_
  refine And.intro (fun _ => hk _ _ b1 (.inr (by simp; omega))) (fun _ => ?_)
  have ei : IntKind.wrap .i64 ((n : Int) + 1) = ((n + 1 : Nat) : Int) := by rw [i64_of (by omega) (by omega)]; omega
  rw [ei]
  exact ⟨⟨n + 1, rfl, by omega, rfl⟩, by simp only [Int.toNat_natCast]; omega⟩
set_option maxHeartbeats 1000000 in
theorem spec.l3Ok.c {K : Bool → World → Prop} (h : TbR m ks vs w) (hl : ks.length ≤ 1000) (hk : ∀ b w', Below w.heap.size w w' → (b = true → ks.length = vs.length) → K b w') : CallT (.o (.lf .b)) P0 80 [.agg (Tup.cells TB m).toArray] w K := by
  refine spec.l3Ok.ok (nwTab fun w1 b1 s1 c1 => ?_)
  have no : ∀ {p : Prop}, false = true → p := fun h => by simp at h
  have h1 := h.below b1
  have hn := h1.1.len
  have hv := h1.2.len
  refine ⟨fun w' => Below w1.heap.size w1 w' ∧ ks.length = vs.length, ?_, ?_⟩
  · refine ldTab c1 (spec.l3Shape.c h1 fun b w2 b2 hb => ?_)
    have c2 := (b2.block _ (by omega)).trans c1
    have b12 := b1.trans (b2.mono b1.size)
    refine And.intro (fun _ => hk _ _ b12 no) (fun hc => ?_)
    have hb' : b = true := by simpa using hc
    have he := hb hb'
    refine ldB0 c2 (l := .i .i64) (x := m.1) rfl (And.intro (fun _ => ?_) (fun _ => ⟨b2, he⟩))
    exact ldB c2 (j := 3) (l := .sl) (x := m.2.2.2.1) rfl (ldB c2 (j := 2) (l := .i .i64) (x := m.2.2.1) rfl (And.intro (fun _ => hk _ _ b12 no) (fun _ => ⟨b2, he⟩)))
  · rintro w2 ⟨b2, he⟩ _
    refine ⟨fun i w' => ∃ n : Nat, i = n ∧ n ≤ ks.length ∧ Below w1.heap.size w1 w', fun i _ => ks.length - i.toNat, ⟨0, rfl, by omega, b2⟩, ?_⟩
    rintro i w3 ⟨n, rfl, hn2, b3⟩ _
    have kp : ∀ {w' : World}, Below w1.heap.size w1 w' → w'.heap[w.heap.size]? = some (bT m) := fun hb => (hb.block _ (by omega)).trans c1
    have c3 := kp b3
    have b13 := b1.trans (b3.mono b1.size)
    have h3 := h1.below b3
    refine ldB c3 (j := 3) (l := .sl) (x := m.2.2.2.1) rfl ?_
    refine And.intro (fun hlt => ?_) (fun _ => hk _ _ b13 fun _ => he)
    simp only [decide_eq_true_eq] at hlt
    obtain ⟨x, hx⟩ := get_some (l := ks) (k := n) (by omega)
    obtain ⟨y, hy⟩ := get_some (l := vs) (k := n) (by omega)
    have fin : ∀ w', Below w3.heap.size w3 w' → Below w.heap.size w w' := fun w' hb => b13.trans (hb.mono b13.size)
    refine ⟨fun w' => Below w3.heap.size w3 w', ?_, ?_⟩
    · refine qldB c3 (j := 4) (l := .sl) (x := m.2.2.2.2.1) rfl (qixL h3.2 (i := (n : Int)) (by omega) (x := y) (by simpa using hy) rfl (l := .s) (v := y) rfl ?_)
      refine qldB c3 (j := 1) (l := .i .i64) (x := m.2.1) rfl (And.intro (fun _ w' hb => hk _ _ (fin w' hb) no) (fun _ => ?_))
      refine qldB c3 (j := 3) (l := .sl) (x := m.2.2.2.1) rfl (qixL h3.1 (i := (n : Int)) (by omega) (x := x) (by simpa using hx) rfl (l := .i .i64) (v := x) rfl ?_)
      refine qcl' (r := .o (.lf (.i .i64))) (4294967295 : Int) (fun w K' h => spec.l2Top.c h) ?_
      refine qcl' (r := .o (.lf .b)) _ (fun w K' h => spec.l1In.c h) ?_
      refine And.intro (fun _ w' hb => hk _ _ (fin w' hb) no) (fun _ => ?_)
      refine qldB c3 (j := 0) (l := .i .i64) (x := m.1) rfl (And.intro (fun _ => ?_) (fun _ w' hb => hb))
      refine qldB c3 (j := 3) (l := .sl) (x := m.2.2.2.1) rfl (qixL h3.1 (i := (n : Int)) (by omega) (x := x) (by simpa using hx) rfl (l := .i .i64) (v := x) rfl ?_)
      exact fun w' hb => And.intro (fun _ => hk _ _ (fin w' hb) no) (fun _ => hb)
    · intro w4 b4 _
      have b14 := b3.trans (b4.mono b3.size)
      refine ⟨fun k w' => ∃ c : Nat, k = c ∧ c ≤ n ∧ Below w1.heap.size w1 w', fun k _ => n - k.toNat, ⟨0, rfl, by omega, b14⟩, ?_⟩
      rintro k w5 ⟨c, rfl, hc, b5⟩ _
      have c5 := kp b5
      have h5 := h1.below b5
      refine And.intro (fun hlt2 => ?_) (fun _ => ?_)
      · simp only [decide_eq_true_eq] at hlt2
        obtain ⟨z, hz⟩ := get_some (l := ks) (k := c) (by omega)
        refine qldB c5 (j := 3) (l := .sl) (x := m.2.2.2.1) rfl (qixL h5.1 (i := (c : Int)) (by omega) (x := z) (by simpa using hz) rfl (l := .i .i64) (v := z) rfl ?_)
        refine qldB c5 (j := 3) (l := .sl) (x := m.2.2.2.1) rfl (qixL h5.1 (i := (n : Int)) (by omega) (x := x) (by simpa using hx) rfl (l := .i .i64) (v := x) rfl ?_)
        intro w6 b6
        have b16 := b5.trans (b6.mono b5.size)
        refine And.intro (fun _ => hk _ _ (b1.trans (b16.mono b1.size)) no) (fun _ => ?_)
        have ei : IntKind.wrap .i64 ((c : Int) + 1) = ((c + 1 : Nat) : Int) := by rw [i64_of (by omega) (by omega)]; omega
        rw [ei]
        exact ⟨⟨c + 1, rfl, by omega, b16⟩, by simp only [Int.toNat_natCast]; omega⟩
      · have ei : IntKind.wrap .i64 ((n : Int) + 1) = ((n + 1 : Nat) : Int) := by rw [i64_of (by omega) (by omega)]; omega
        rw [ei]
        exact ⟨⟨n + 1, rfl, by omega, b5⟩, by simp only [Int.toNat_natCast]; omega⟩
end
end Go.Proofs.YtdlnoabihfnmmaaGreat.V
