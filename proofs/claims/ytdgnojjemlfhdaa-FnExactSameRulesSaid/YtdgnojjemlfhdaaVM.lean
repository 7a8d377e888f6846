/- Sets of whole numbers: maps from int to bool, all of whose values are true. -/
import Derived.Test.YtdgnojjemlfhdaaVW
import Derived.Maps.Range
import Derived.Lib.SlKeysI
namespace Go.Proofs.Ytdgnojjemlfhdaa.V
open Go Go.RowKit Go.Maps
set_option linter.unusedSimpArgs false
set_option linter.unusedVariables false

theorem keyI : Keyed P0 3 := int_keyed (q := .i64) (by kernel_rfl)
theorem zeroB (w : World) : (zeroValue 4).run P0 w = .ok (.bool false) w := by kernel_rfl
theorem plainElem_bool_inv {H : Type} {P : Program} {e : TypeId} (he : P.underlying e = some .bool) {v : Value} {z : DataW H × List MemPlace} (h : plainElem P e v = some z) : ∃ t, v = .bool t ∧ z = (.lit (.bool t), []) := by
  unfold plainElem at h
  rw [he] at h
  cases v <;> simp at h
  exact ⟨_, rfl, h.symm⟩
abbrev uM : P0.underlying 69 = some (.map 3 4) := by kernel_rfl
abbrev uB : P0.underlying 4 = some .bool := by kernel_rfl
abbrev uI : P0.underlying 3 = some (.int .i64) := by kernel_rfl
/-- The map's keys are the list's members. -/
def Keys (D : DataW Unit) (S : List Int) : Prop := S.Nodup ∧ (∀ x, x ∈ S ↔ has D (.int .i64 x) = true) ∧ ∀ x, D.atKey (.int .i64 x) (.lit (.bool false)) = .lit (.bool (decide (x ∈ S)))
theorem renorm {w : World} {b n : Nat} {D : DataW Unit} {S : List Int} (h : w.ownsMap P0 3 (plainElem P0 4) b n D) (hS : Keys D S) : w.ownsMap P0 3 (plainElem P0 4) b S.length D := by
  obtain ⟨es, hD, hpw, _⟩ := h.entries keyI
  obtain ⟨es', hD', hko⟩ := h.keysOf
  obtain rfl : es = es' := by rw [hD] at hD'; simpa using hD'
  subst hD
  have hp := perm_intKeys (H := Unit) hpw (fun p hp => by obtain ⟨v, hv⟩ := hko p hp; obtain ⟨x, _, hx, _⟩ := keyOf_i64 uI hv; exact ⟨x, hx⟩) hS.1 hS.2.1
  have hl : S.length = es.length := by rw [hp.length_eq]; simp [intKeys]
  obtain ⟨ens, clock, hb, F, hs, hE⟩ := h
  refine ⟨ens, clock, hb, F, ?_, hE⟩
  rw [hl]
  simp only [DataW.map.injEq] at hE
  rw [hE, length_sorted]; simp
def SetM (B : Nat) (w : World) (m : Option Nat) (S : List Int) : Prop :=
  ∃ b D, m = some b ∧ B ≤ b ∧ w.ownsMap (H := Unit) P0 3 (plainElem P0 4) b S.length D ∧ Keys D S
theorem SetM.kept {B : Nat} {w w' : World} {m row : Option Nat} {S : List Int} (h : SetM B w m S) (hg : w.grownBy w' row) (hne : m ≠ row) : SetM B w' m S := by
  obtain ⟨b, D, rfl, hB, ho, hk⟩ := h
  exact ⟨b, D, rfl, hB, ho.kept hg hne, hk⟩
theorem SetM.below {B : Nat} {w w' : World} {m : Option Nat} {S : List Int} (h : SetM B w m S) (hb : Below w.heap.size w w') : SetM B w' m S := h.kept (grown_of_below hb) (by obtain ⟨b, D, rfl, _⟩ := h; simp)
theorem SetM.low {B B' : Nat} {w : World} {m : Option Nat} {S : List Int} (h : SetM B w m S) (hB : B' ≤ B) : SetM B' w m S := by
  obtain ⟨b, D, rfl, hB', r⟩ := h
  exact ⟨b, D, rfl, Nat.le_trans hB hB', r⟩
theorem SetM.blk {B : Nat} {w : World} {m : Option Nat} {S : List Int} (h : SetM B w m S) {b : Nat} (hb : m = some b) : B ≤ b ∧ b < w.heap.size := by
  obtain ⟨b', D, rfl, hB', ho, _⟩ := h
  simp only [Option.some.injEq] at hb; subst hb
  exact ⟨hB', ho.lt⟩
theorem SetM.nodup {B : Nat} {w : World} {m : Option Nat} {S : List Int} (h : SetM B w m S) : S.Nodup := by
  obtain ⟨b, D, rfl, hB', ho, hk⟩ := h
  exact hk.1
/-- Put into a set. -/
def ins (x : Int) (S : List Int) : List Int := if x ∈ S then S else S ++ [x]
theorem mem_ins {x y : Int} {S : List Int} : y ∈ ins x S ↔ y = x ∨ y ∈ S := by
  unfold ins
  split
  · rename_i h
    constructor
    · exact .inr
    · rintro (rfl | h')
      · exact h
      · exact h'
  · simp [or_comm]
theorem nodup_ins {x : Int} {S : List Int} (h : S.Nodup) : (ins x S).Nodup := by
  unfold ins
  split
  · exact h
  · rename_i hx
    exact List.nodup_append.2 ⟨h, by simp, fun a ha b hb => by simp at hb; subst hb; exact fun e => hx (e ▸ ha)⟩
theorem mapNew {w : World} {K : Option Nat → World → Prop} (hk : ∀ m w', SetM w.heap.size w' m [] → Below w.heap.size w w' → w'.heap.size = w.heap.size + 1 → K m w') : RunT (.o (.lf .m)) P0 (Instr.makeMap 69 none) w K :=
  ⟨some w.heap.size, _, run_makeMap _ w, hk _ _ ⟨_, .map [], rfl, Nat.le_refl _, World.ownsMap_made w P0 _ _, by simp [Keys, has, DataW.atKey]⟩ ((Below.refl _ _).alloc (Nat.le_refl _) _) (by simp)⟩
section
variable {B : Nat} {w : World} {m : Option Nat} {S : List Int}
theorem mapPut {x : Int} (h : SetM B w m S) (hx : (Lit.int .i64 x).wf = true) (hS : S.length < maxLen) {K : World → Prop} (hk : ∀ w', SetM B w' m (ins x S) → w.grownBy w' m → K w') :
    RunU P0 (Instr.mapUpdate 69 (.map m) (.int .i64 x) (.bool true)) w K := by
  obtain ⟨b, D, rfl, hB, ho, hK⟩ := h
  obtain ⟨w', hr, ho', hg⟩ := ho.update keyI uM hS (keyOf_int_mk uI hx) (plainElem_bool uB true)
  have hkey : WideAt.IsKeyLit (.int .i64 x) := keyI.key (keyOf_int_mk uI hx)
  have hK' : Keys (D.put (.int .i64 x) (.lit (.bool true))) (ins x S) := by
    refine ⟨nodup_ins hK.1, fun y => ?_, fun y => ?_⟩
    · rw [mem_ins]
      by_cases hy : y = x
      · subst hy; simp [has_put_same ho.isMap hkey]
      · rw [has_put_other (by simpa using hy), ← hK.2.1 y]; simp [hy]
    · by_cases hy : y = x
      · subst hy; rw [atKey_put_same ho.isMap hkey]; simp [mem_ins]
      · rw [atKey_put_other (by simpa using hy), hK.2.2 y]; simp [mem_ins, hy]
  exact ⟨w', hr, hk _ ⟨b, _, rfl, hB, renorm ho' hK', hK'⟩ hg⟩
theorem mapGet {x : Int} (h : SetM B w m S) (hx : (Lit.int .i64 x).wf = true) {K : Bool → World → Prop} (hk : K (decide (x ∈ S)) w) :
    RunT (.o (.lf .b)) P0 (Instr.lookup 69 (.map m) (.int .i64 x) false) w K := by
  obtain ⟨b, D, rfl, hB, ho, hK⟩ := h
  obtain ⟨v, ps, hr, hv⟩ := ho.lookup keyI uM (zeroB w) (plainElem_bool uB false) (keyOf_int_mk uI hx)
  rw [hK.2.2 x] at hv
  obtain ⟨t, rfl, ht⟩ := plainElem_bool_inv uB hv
  simp only [Prod.mk.injEq, DataW.lit.injEq, Lit.bool.injEq] at ht
  obtain ⟨rfl, _⟩ := ht
  exact ⟨_, _, hr, hk⟩
theorem mapLen (h : SetM B w m S) {t : TypeId} {K : Int → World → Prop} (hk : K (S.length : Int) w) : RunT (.o (.lf (.i .i64))) P0 (Builtin.len_ #[69] t #[.map m]) w K := by
  obtain ⟨b, D, rfl, hB, ho, hK⟩ := h
  have hsz : size D = S.length := by
    obtain ⟨es, hD, hpw, _⟩ := ho.entries keyI
    obtain ⟨es', hD', hko⟩ := ho.keysOf
    obtain rfl : es = es' := by rw [hD] at hD'; simpa using hD'
    subst hD
    have hp := perm_intKeys (H := Unit) hpw (fun p hp => by obtain ⟨v, hv⟩ := hko p hp; obtain ⟨x, _, hx, _⟩ := keyOf_i64 uI hv; exact ⟨x, hx⟩) hK.1 hK.2.1
    rw [hp.length_eq]; simp [intKeys, size]
  have := ho.len uM t
  rw [hsz] at this
  exact ⟨_, _, this, hk⟩
/-- A loop over a set: the members that have come. -/
def RgM (B Br : Nat) (w : World) (m : Option Nat) (a : Addr) (S ss : List Int) : Prop :=
  ∃ b r D left cnt, m = some b ∧ B ≤ b ∧ a = ⟨r, 0, none⟩ ∧ Br ≤ r ∧ w.ranges (H := Unit) P0 3 (plainElem P0 4) b r S.length D left cnt ∧ Keys D S ∧ CollectedI D left ss
def rgl (w : World) (m : Option Nat) (a : Addr) : Nat := w.rangeLeft (m.getD 0) a.block
theorem RgM.set {Br : Nat} {a : Addr} {ss : List Int} (h : RgM B Br w m a S ss) : SetM B w m S := by
  obtain ⟨b, r, D, left, cnt, rfl, hB, rfl, hBr, hr, hK, hc⟩ := h
  exact ⟨b, D, rfl, hB, hr.owns, hK⟩
theorem RgM.kept {Br : Nat} {a : Addr} {ss : List Int} {w' : World} {row : Option Nat} (h : RgM B Br w m a S ss) (hg : w.grownBy w' row) (h1 : m ≠ row) (h2 : some a.block ≠ row) : RgM B Br w' m a S ss ∧ rgl w' m a = rgl w m a := by
  obtain ⟨b, r, D, left, cnt, rfl, hB, rfl, hBr, hr, hK, hc⟩ := h
  have hr' := hr.kept hg h1 h2
  exact ⟨⟨b, r, D, left, cnt, rfl, hB, rfl, hBr, hr', hK, hc⟩, by show w'.rangeLeft b r = w.rangeLeft b r; rw [hr.left_eq, hr'.left_eq]⟩
theorem RgM.blk {Br : Nat} {a : Addr} {ss : List Int} (h : RgM B Br w m a S ss) : Br ≤ a.block ∧ a.block < w.heap.size := by
  obtain ⟨b, r, D, left, cnt, rfl, hB, rfl, hBr, hr, hK, hc⟩ := h
  exact ⟨hBr, hr.lt⟩
theorem RgM.nodup {Br : Nat} {a : Addr} {ss : List Int} (h : RgM B Br w m a S ss) : ss.Nodup ∧ ∀ x ∈ ss, x ∈ S := by
  obtain ⟨b, r, D, left, cnt, rfl, hB, rfl, hBr, hr, hK, hc⟩ := h
  exact ⟨hc.1, fun x hx => (hK.2.1 x).2 ((hc.2 x).1 hx).1⟩
theorem mapRange (h : SetM B w m S) {K : Addr → World → Prop} (hk : ∀ a w', RgM B w.heap.size w' m a S [] → Below w.heap.size w w' → K a w') : RunT (.o (.lf .ad)) P0 (Instr.range 69 (.map m)) w K := by
  obtain ⟨b, D, rfl, hB, ho, hK⟩ := h
  obtain ⟨w', hr, hrg, hg, hs⟩ := ho.range keyI uM
  exact ⟨_, w', hr, hk _ _ ⟨b, _, D, _, _, rfl, hB, rfl, Nat.le_refl _, hrg, hK, CollectedI.start D⟩ ((Below.refl _ _).grown hg (Nat.le_refl _) (by simp))⟩
theorem mapNext {Br : Nat} {a : Addr} {ss : List Int} (h : RgM B Br w m a S ss) {t : TypeId} {Kt : (Int × Bool × Unit) → World → Prop} {Kf : World → Prop}
    (ht : ∀ x u w', x ∈ S → x ∉ ss → (Lit.int .i64 x).wf = true → RgM B Br w' m a S (ss ++ [x]) → w.grownBy w' (some a.block) → rgl w' m a < rgl w m a → Kt (x, u, ()) w') (hf : ss.Perm S → Kf w) :
    Nx P0 (.pointer (some a)) false t w (fun more rest w' => (more = true → RunT (.n [(.lf (.i .i64)), (.lf .b)]) P0 (Instr.entry (.pointer (some a))) w' Kt) ∧ (more = false → Kf w')) := by
  obtain ⟨b, r, D, left, cnt, rfl, hB, rfl, hBr, hr, hK, hc⟩ := h
  rcases hr.next keyI t with ⟨_, hl, hrun⟩ | ⟨key, v, kl, y, w', cnt', hkey, hlk, hv, hat, hrun, hr', hlt, hg, hs, hent⟩
  · refine ⟨false, [], w, hrun, by simp, fun _ => hf ?_⟩
    refine (List.perm_ext_iff_of_nodup hc.1 hK.1).2 fun x => ?_
    rw [hc.2 x, hl, ← hK.2.1 x]; simp
  · obtain ⟨x, rfl, rfl, hw⟩ := keyOf_i64 uI hkey
    obtain ⟨u, rfl, _⟩ := plainElem_bool_inv uB hv
    refine ⟨true, [.int .i64 x, .bool u], w', hrun, fun _ => ⟨(x, u, ()), w', hent, ht x u w' ?_ ?_ hw ⟨b, r, D, _, cnt', rfl, hB, rfl, hBr, hr', hK, hc.step hlk hat⟩ hg ?_⟩, by simp⟩
    · exact (hK.2.1 x).2 (has_true_of_atKey hat)
    · intro hx
      have := ((hc.2 x).1 hx).2
      rw [hlk] at this; simp at this
    · show w'.rangeLeft b r < w.rangeLeft b r
      rw [hr.left_eq, hr'.left_eq]; exact hlt
end
/-- make of no element, with room. -/
theorem mkO {w : World} {n : Nat} (hm : n ≤ 17592186044416) {K : Sl → World → Prop} (hk : ∀ s w', OwnS kI 3 w.heap.size w' s [] → Below w.heap.size w w' → K s w') :
    RunT (.o (.lf .sl)) P0 (Instr.makeSlice 31 (.int .i64 0) (.int .i64 (n : Int))) w K := by
  obtain ⟨i, z, hi, hz, hsz, hby, hzs⟩ := elI.info
  obtain ⟨w', hr, ho, hg⟩ := run_make_own (P := P0) w w.heap.size 31 3 i z kI.ls.length elI.elem hi hz hsz .i64 .i64 n (by rw [hby]; omega) (by simp only [maxLen]; omega) (Nat.le_refl _)
  exact ⟨⟨_, 0, n⟩, w', hr, hk _ _ ⟨rfl, ho⟩ ((Below.refl _ _).grown hg (Nat.le_refl _) (by simp))⟩
end Go.Proofs.Ytdgnojjemlfhdaa.V
