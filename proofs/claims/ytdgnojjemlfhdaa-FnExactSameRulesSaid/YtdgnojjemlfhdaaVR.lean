/- Words for rows: what an input's memory says of its lists. -/
import Derived.Test.YtdgnojjemlfhdaaVT
import Derived.WalkKit
import Derived.ProofKit
import Derived.OpenShut
import Derived.ShutString
import Derived.ChangeOld
import Derived.Below
import Derived.SizedLaws
import Derived.Deep.Slices
namespace Go.Proofs.Ytdgnojjemlfhdaa.V
open Go Go.RowKit Go.ChangeShapes Go.WideShapes Go.ChangeAt Go.Deep
set_option linter.unusedVariables false

theorem own : ownKnob P0.godebug = none := by kernel_rfl
theorem laidOut : laidOutB P0 = true := by kernel_rfl
def intFields (P : Program) (fs : Array Field) (n : Nat) : Bool :=
  (List.range n).all fun i => match fs[i]? with
    | some f => f.offset == i && P.cellsOf f.type == 1 && (match P.underlying f.type with | some (.int .i64) => true | _ => false)
    | none => false
section
variable {H : Type} {enc : TypeId × Value → H} {P : Program} {w : World} {base : Nat} {spare : Nat → Bool} {held : Bool}
theorem trod_intFields {t : TypeId} {fs : Array Field} {n fuel : Nat} {cs : List Value} {x : DataW H × List MemPlace} (ht : P.underlying t = some (.struct fs)) (hn : P.cellsOf t = n) (hf : intFields P fs n = true)
    (h : DataW.trod enc P w base spare held fuel t cs = some x) : ∃ zs : List Int, zs.length = n ∧ cs = zs.map (.int .i64) := by
  obtain ⟨xs, m, _, rfl, hl, hlen, hg⟩ := DataW.trod_struct ht h
  have each : ∀ i, i < n → ∃ z : Int, cs[i]? = some (.int .i64 z) := by
    intro i hi
    have h1 := List.all_eq_true.1 hf i (List.mem_range.2 hi)
    split at h1
    · rename_i f hfi
      simp only [Bool.and_eq_true, beq_iff_eq] at h1
      obtain ⟨⟨ho, hc⟩, hu⟩ := h1
      have h2 := hg i f hfi
      rw [ho, hc] at h2
      have hi' : i < xs.length := by rw [hlen]; exact (Array.getElem?_eq_some_iff.1 hfi).1
      rw [List.getElem?_eq_getElem hi'] at h2
      split at hu
      · rename_i hu'
        obtain ⟨z, hz, _, _⟩ := DataW.trod_int hu' h2
        refine ⟨z, ?_⟩
        have h3 := congrArg (·[0]?) hz
        simpa [List.getElem?_take] using h3
      · simp at hu
    · simp at h1
  have hl' : cs.length = n := by rw [hl, hn]
  refine ⟨cs.map fun v => match v with | .int _ z => z | _ => 0, by simpa using hl', ?_⟩
  refine List.ext_getElem? fun i => ?_
  simp only [List.getElem?_map]
  rcases Nat.lt_or_ge i n with hi | hi
  · obtain ⟨z, hz⟩ := each i hi
    simp [hz]
  · rw [List.getElem?_eq_none (by omega)]; rfl
theorem choose_list {α : Type} {p : Nat → α → Prop} : ∀ (n : Nat), (∀ i, i < n → ∃ x, p i x) → ∃ l : List α, l.length = n ∧ ∀ i x, l[i]? = some x → p i x
  | 0, _ => ⟨[], rfl, by simp⟩
  | n + 1, h => by
    obtain ⟨l, hl, hx⟩ := choose_list n fun i hi => h i (by omega)
    obtain ⟨y, hy⟩ := h n (by omega)
    refine ⟨l ++ [y], by simp [hl], fun i x hi => ?_⟩
    rcases Nat.lt_or_ge i n with h1 | h1
    · rw [List.getElem?_append_left (by omega)] at hi
      exact hx i x hi
    · have hlt : i < (l ++ [y]).length := (List.getElem?_eq_some_iff.1 hi).1
      simp [hl] at hlt
      have : i = n := by omega
      subst this
      rw [List.getElem?_append_right (by omega), hl] at hi
      simp at hi
      exact hi ▸ hy
/-- A list of structs of whole numbers, as an input brings it. -/
theorem open_list {α : Type} (k : Kd α) {t e : TypeId} {n fuel : Nat} {a : Option Addr} {len cap : Nat} {x : DataW H × List MemPlace} (ht : P.underlying t = some (.slice e)) (hn : P.cellsOf e = n) (hk : k.ls.length = n) (hp : 0 < n)
    (each : ∀ (fuel : Nat) (cs : List Value) (y : DataW H × List MemPlace), DataW.trod enc P w base spare held fuel e cs = some y → ∃ x : α, cs = k.cells x)
    (h : DataW.trod enc P w base spare held fuel t [.slice a len cap] = some x) : ∃ l : List α, SlR k w ⟨a, len, cap⟩ l := by
  rcases open_slice ht h with ⟨hcs, _⟩ | ⟨b, l, c, m, q, D, Pl, hcs, _, hl, hm, hmm, _, hx⟩
  · simp only [List.cons.injEq, Value.slice.injEq, and_true] at hcs
    obtain ⟨rfl, rfl, rfl⟩ := hcs
    exact ⟨[], SlR.nil k w⟩
  · simp only [List.cons.injEq, Value.slice.injEq, and_true] at hcs
    obtain ⟨rfl, rfl, rfl⟩ := hcs
    have hle : len ≤ m := by rw [hmm]; split <;> omega
    obtain ⟨L, hL, hE⟩ := choose_list (α := α) (p := fun i x => w.cells? base (b.add (i * n)) n = some (k.cells x)) len (fun i hi => by
      obtain ⟨cs', h1, h2⟩ := hx i (by omega)
      rw [hn] at h1
      obtain ⟨x, rfl⟩ := each _ _ _ h2
      exact ⟨x, h1⟩)
    refine ⟨L, hL.symm, hl, hm, ?_⟩
    rcases L with _ | ⟨x0, L⟩
    · exact .inl rfl
    · have h0 := (World.cells?_some (hE 0 x0 rfl)).2.2 0 hp
      have hc0 : (k.cells x0)[0]? ≠ none := by
        have := k.cells_length x0
        simp only [ne_eq, List.getElem?_eq_none_iff]; omega
      obtain ⟨v, hv⟩ := Option.ne_none_iff_exists'.1 hc0
      rw [hv] at h0
      have hs : b.spot = none := by simpa [Addr.add] using World.cell?_spot h0
      obtain ⟨bb, bo, bs⟩ := b
      simp only at hs; subst hs
      refine .inr ⟨bb, bo, rfl, fun i x hi j v hj => ?_⟩
      have h1 := (World.cells?_some (hE i x hi)).2.2 j (by have := (List.getElem?_eq_some_iff.1 hj).1; rw [k.cells_length] at this; omega)
      rw [add_mk, add_mk, hj] at h1
      rw [hk]
      exact h1
/-- A list of numbers, as an input brings it. -/
theorem open_nums {t e : TypeId} {k : IntKind} {fuel : Nat} {a : Option Addr} {len cap : Nat} {x : DataW H × List MemPlace} (ht : P.underlying t = some (.slice e)) (he : P.underlying e = some (.int k)) (hc : P.cellsOf e = 1)
    (h : DataW.trod enc P w base spare held fuel t [.slice a len cap] = some x) : ∃ l : List Int, SlR ⟨[.i k], fun x => (x, ())⟩ w ⟨a, len, cap⟩ l ∧ ∀ x ∈ l, (Lit.int k x).wf = true := by
  rcases open_ints ht he hc h with ⟨hcs, _⟩ | ⟨b, l, c, zs, hcs, _, hl, hm, hz, _, hget, hwf⟩
  · simp only [List.cons.injEq, Value.slice.injEq, and_true] at hcs
    obtain ⟨rfl, rfl, rfl⟩ := hcs
    exact ⟨[], SlR.nil _ w, by simp⟩
  · simp only [List.cons.injEq, Value.slice.injEq, and_true] at hcs
    obtain ⟨rfl, rfl, rfl⟩ := hcs
    have hle : len ≤ zs.length := by rw [hz]; split <;> omega
    have hlen : (zs.take len).length = len := by rw [List.length_take]; omega
    refine ⟨zs.take len, ⟨hlen.symm, hl, hm, ?_⟩, fun x hx => hwf x (List.mem_of_mem_take hx)⟩
    by_cases h0 : zs.take len = []
    · exact .inl h0
    · have hpos : 0 < zs.length := by
        rcases Nat.eq_zero_or_pos zs.length with h1 | h1
        · exact absurd (by rw [List.eq_nil_of_length_eq_zero h1]; simp) h0
        · exact h1
      have hs : b.spot = none := by simpa [Addr.add] using World.cell?_spot (hget 0 hpos)
      obtain ⟨bb, bo, bs⟩ := b
      simp only at hs; subst hs
      refine .inr ⟨bb, bo, rfl, fun i x hi j v hj => ?_⟩
      have hil := (List.getElem?_eq_some_iff.1 hi).1
      rw [List.getElem?_take] at hi
      split at hi
      · have h1 := hget i (by omega)
        rw [add_mk] at h1
        have hj0 : j = 0 := by
          have := (List.getElem?_eq_some_iff.1 hj).1
          rw [Kd.cells_length] at this; simpa using this
        subst hj0
        have hv : v = .int k x := by simpa [Kd.cells, Tup.cells, Lf.emb] using hj.symm
        have hx : zs.getD i 0 = x := by rw [List.getD_eq_getElem?_getD, hi]; rfl
        rw [hx] at h1
        rw [hv]; simpa using h1
      · simp at hi
end
end Go.Proofs.Ytdgnojjemlfhdaa.V
