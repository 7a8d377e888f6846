/- The verification-condition generator: soundness, operation by operation. -/
import Derived.Test.YtdgnojjemlfhdaaV2
namespace Go.Proofs.Ytdgnojjemlfhdaa.V
open Go Go.RowKit

section
variable {P : Program} {ds : List Deferred} {o : Oper} {env : Env} {w : World} {K : EV → World → Prop} {Q : List PanicEntry → World → Prop}
variable {next : Act → World → Prop} {Q' : Exit → Act → World → Prop}

theorem upon_val {v : Value} {w' : World} (hr : (execOp (rho env) o).run P w = .ok (.value v) w') (h : K (.v v) w')
    (hK : ∀ v w', K v w' → next (act ds (put env o.dst v)) w') : o.wp P (act ds env) w next Q' := by
  unfold Oper.wp
  rw [act_eval, hr, Oper.upon_value]
  have := act_put ds env o.dst (.v v)
  simp only [EV.val] at this
  rw [this]
  exact hK _ _ h
theorem upon_ev {v : EV} {w' : World} (hr : (execOp (rho env) o).run P w = .ok (.value v.val) w') (h : K v w')
    (hK : ∀ v w', K v w' → next (act ds (put env o.dst v)) w') : o.wp P (act ds env) w next Q' := by
  unfold Oper.wp
  rw [act_eval, hr, Oper.upon_value, act_put]
  exact hK _ _ h
theorem upon_skip {w' : World} (hr : (execOp (rho env) o).run P w = .ok .skip w') (h : K u0 w')
    (hK : ∀ v w', K v w' → next (act ds (put env o.dst v)) w') : o.wp P (act ds env) w next Q' := by
  unfold Oper.wp
  rw [act_eval, hr, Oper.upon_skip]
  have := act_put ds env o.dst u0
  simp only [EV.val, u0] at this
  rw [this]
  exact hK _ _ h

theorem run_typeInfo {t : TypeId} {i : TypeInfo} (h : P.info? t = some i) : (typeInfo t).run P w = .ok i w := by simp [typeInfo, h]
theorem run_sizeOf {t : TypeId} {n : Nat} (h : szOf P t = some n) : (sizeOf t).run P w = .ok n w := by
  simp only [szOf, Option.map_eq_some_iff] at h
  obtain ⟨i, hi, rfl⟩ := h
  simp [sizeOf, typeInfo, hi]
theorem run_isAgg {t : TypeId} {b : Bool} (h : aggT P t = some b) : (isAgg t).run P w = .ok b w := by
  unfold aggT at h
  unfold isAgg
  split at h
  · rename_i hu; simp only [Option.some.injEq] at h; subst h; simp [underlying, hu]
  · rename_i hu; simp only [Option.some.injEq] at h; subst h; simp [underlying, hu]
  · rename_i d h1 h2 hu
    simp only [Option.some.injEq] at h
    subst h
    simp only [Sem.run_bind, underlying, run_program, Result.andThen_ok, hu, Sem.run_pure]
  · simp at h
theorem run_zeroValue {t : TypeId} (h : zok P t = true) : ∃ v, (zeroValue t).run P w = .ok v w ∧ v.cells = zc P t := by
  unfold zok at h
  split at h
  · rename_i i hi
    cases hz : i.zero with
    | none => simp [hz] at h
    | some v => exact ⟨v, by simp [zeroValue, typeInfo, hi, hz], by simp [zc, hi, hz]⟩
  · simp at h
theorem run_loadCellsFrom {a : Addr} : ∀ (vs : List Value) (i : Nat) (acc : Array Value), (∀ j v, vs[j]? = some v → w.cell? (a.add (i + j)) = some v) →
    (loadCellsFrom a i vs.length acc).run P w = .ok (acc ++ vs.toArray) w := by
  intro vs
  induction vs with
  | nil => intro i acc _; simp [loadCellsFrom]
  | cons v vs ih =>
    intro i acc h
    have h0 := h 0 v rfl
    simp only [Nat.add_zero] at h0
    have h1 := ih (i + 1) (acc.push v) (fun j u hj => by have := h (j + 1) u (by simpa using hj); rw [show i + 1 + j = i + (j + 1) by omega]; exact this)
    simp only [List.length_cons, loadCellsFrom, Sem.run_bind, run_load, h0, Result.andThen_ok, h1]
    simp
theorem run_loadLf {t : TypeId} {a : Addr} {v : Value} (ht : aggT P t = some false) (h : w.cell? a = some v) : (loadVar t a).run P w = .ok v w := by
  simp [loadVar, run_isAgg ht, h]
theorem run_loadAg {t : TypeId} {a : Addr} {vs : List Value} (ht : aggT P t = some true) (hs : szOf P t = some vs.length)
    (h : ∀ j v, vs[j]? = some v → w.cell? (a.add j) = some v) : (loadVar t a).run P w = .ok (.agg vs.toArray) w := by
  have := run_loadCellsFrom (P := P) (w := w) (a := a) vs 0 #[] (by simpa using h)
  simp [loadVar, run_isAgg ht, run_sizeOf hs, loadCells, this]
theorem run_storeLf {t : TypeId} {a : Addr} {v old : Value} (hs : szOf P t = some 1) (hv : v.oneCell' = true) (h : w.cell? a = some old) (hf : w.frozen? a = false) :
    (storeVar t a v).run P w = .ok () (w.setCell a v) := by
  have hc : v.cells = #[v] := by cases v <;> simp_all [Value.cells, Value.oneCell']
  have ha : a.add 0 = a := by simp [Addr.add]
  simp [storeVar, run_sizeOf hs, hc, storeCells, ha, run_store P w a v .plain hv, h, hf]
theorem run_indexAt {t e : TypeId} {s : Option Addr} {n c : Nat} {k : IntKind} {i : Int} {sz : Nat} {a : Addr} (he : elemOf P t = some e) (hs : szOf P e = some sz) (ha : s = some a) (h0 : 0 ≤ i) (h1 : i < n) :
    (Instr.indexAt t (.slice s n c) (.int k i)).run P w = .ok (.pointer (some (a.add (i.toNat * sz)))) w := by
  unfold elemOf at he
  split at he
  · rename_i e' hu
    simp only [Option.some.injEq] at he
    subst he ha
    simp [Instr.indexAt, asIntOf, underlying, hu, h0, h1, run_sizeOf hs]
  · simp at he
theorem over_eq : ∀ (vs : List Value) (cells : List Value) (off : Nat), over cells off vs = (vs.zipIdx off).foldl (fun cs (c, j) => cs.set j c) cells
  | [], _, _ => rfl
  | v :: vs, cells, off => by simp [over, over_eq vs, List.zipIdx_cons]
theorem over_length : ∀ (vs : List Value) (cells : List Value) (off : Nat), (over cells off vs).length = cells.length
  | [], _, _ => rfl
  | v :: vs, cells, off => by simp [over, over_length vs]
theorem foldl_set (off : Nat) : ∀ (vs : List Value) (k : Nat) (cells : Array Value), (vs.zipIdx k).foldl (fun cs x => cs.setIfInBounds (off + x.2) x.1) cells = (over cells.toList (off + k) vs).toArray
  | [], _, _ => by simp [over]
  | v :: vs, k, cells => by
    simp only [List.zipIdx_cons, List.foldl_cons, over]
    rw [foldl_set off vs (k + 1)]
    simp [Nat.add_assoc]
theorem fillL_fill {place : Nat → Option (Nat × Nat)} : ∀ {parts : List (Nat × Value)} {cells r : List Value}, fillL place cells parts = some r → Instr.fill place cells.toArray parts = some r.toArray
  | [], cells, r, h => by simp only [fillL, Option.some.injEq] at h; subst h; rfl
  | (i, v) :: rest, cells, r, h => by
    simp only [fillL] at h
    simp only [Instr.fill]
    cases hp : place i with
    | none => simp [hp] at h
    | some x =>
      obtain ⟨off, size⟩ := x
      simp only [hp] at h
      split at h
      · simp at h
      · rename_i hc
        simp only [Array.length_toList] at hc
        have hc' : ¬ ((v.cells.size ≠ size || off + v.cells.size > cells.toArray.size) = true) := by simpa using hc
        have hc2 : ¬ (v.cells.size ≠ size || decide (off + v.cells.size > cells.toArray.size)) = true := hc'
        simp only [ne_eq, List.size_toArray] at hc2 ⊢
        rw [if_neg (by simpa using hc2)]
        have := fillL_fill h
        rw [← this]
        congr 1
        rw [← Array.foldl_toList, Array.toList_zipIdx, foldl_set off v.cells.toList 0 cells.toArray]
        simp
theorem rep_length (z : List Value) : ∀ n, (rep z n).length = n * z.length
  | 0 => by simp [rep]
  | n + 1 => by simp [rep, rep_length z n, Nat.succ_mul, Nat.add_comm]
theorem rep_get (z : List Value) : ∀ (n i : Nat), i < n * z.length → (rep z n)[i]? = z[i % z.length]?
  | 0, i, h => by simp at h
  | n + 1, i, h => by
    simp only [rep]
    by_cases hi : i < z.length
    · rw [List.getElem?_append_left hi, Nat.mod_eq_of_lt hi]
    · have hle : z.length ≤ i := by omega
      rw [List.getElem?_append_right hle, rep_get z n (i - z.length) (by rw [Nat.succ_mul] at h; omega)]
      congr 1
      conv => rhs; rw [show i = i - z.length + z.length by omega, Nat.add_mod_right]
theorem rep_range (z : Array Value) (n : Nat) (hz : 0 < z.size) : (Array.range (n * z.size)).map (fun i => z[i % z.size]!) = (rep z.toList n).toArray := by
  apply Array.ext
  · simp [rep_length]
  · intro i h1 h2
    simp only [Array.size_map, Array.size_range] at h1
    have hr := rep_get z.toList n i (by simpa using h1)
    have hl : i < (rep z.toList n).length := by rw [rep_length]; simpa using h1
    rw [List.getElem?_eq_getElem hl] at hr
    have hm : i % z.size < z.size := Nat.mod_lt _ hz
    simp only [Array.getElem_map, Array.getElem_range, List.getElem_toArray]
    rw [getElem!_pos z (i % z.size) hm]
    simp only [Array.length_toList] at hr
    rw [List.getElem?_eq_getElem (by simpa using hm)] at hr
    simp only [Option.some.injEq] at hr
    rw [hr]; simp
theorem run_buildSlice {t e : TypeId} {sz len : Nat} {parts : Array (Nat × Value)} {cs : List Value} (he : elemOf P t = some e) (hs : szOf P e = some sz) (hl : len * sz ≤ 2 ^ 24) (hz : zok P e = true)
    (hzl : (zc P e).toList.length = sz) (hf : fillL (fun i => some (i * sz, sz)) (rep (zc P e).toList len) parts.toList = some cs) :
    (Instr.buildSlice t len parts).run P w = .ok (.slice (some ⟨w.heap.size, 0, none⟩) len len) (w.alloc (.cells cs.toArray e)) := by
  unfold elemOf at he
  split at he
  · rename_i e' hu
    simp only [Option.some.injEq] at he
    subst he
    obtain ⟨v, hv, hvc⟩ := run_zeroValue (w := w) hz
    have hff := fillL_fill hf
    simp only [Array.length_toList] at hzl
    have hsz : ¬ len * sz > 2 ^ 24 := by omega
    by_cases h0 : len * sz = 0
    · have hrep : rep (zc P e').toList len = [] := by
        apply List.eq_nil_of_length_eq_zero; rw [rep_length]; simp [hzl, h0]
      rw [hrep] at hff
      have e0 : Array.map (fun _ : Nat => (default : Value)) (Array.range 0) = #[] := by apply Array.eq_empty_of_size_eq_zero; simp
      simp [Instr.buildSlice, underlying, hu, run_sizeOf hs, h0, newRow]
      rw [e0, hff]
      simp
    · have hzp : 0 < (zc P e').size := by rw [hzl]; exact Nat.pos_of_ne_zero (fun hh => h0 (by simp [hh]))
      have hr := rep_range (zc P e') len hzp
      rw [hzl] at hr
      have hr2 : (Array.range (len * sz)).map (fun i => (zc P e')[i % (zc P e').size]!) = (rep (zc P e').toList len).toArray := by rw [hzl]; exact hr
      simp [Instr.buildSlice, underlying, hu, run_sizeOf hs, hsz, h0, hv, hvc, newRow, hr2, hff]
  · simp at he
theorem mapM_places {fs : List Field} {ps : List (Nat × Nat)} (h : placesOf P fs = some ps) : (fs.mapM fun f => (do pure (f.offset, ← sizeOf f.type) : Sem (Nat × Nat))).run P w = .ok ps w := by
  induction fs generalizing ps with
  | nil => simp only [placesOf, Option.some.injEq] at h; subst h; simp
  | cons f fs ih =>
    simp only [placesOf] at h
    split at h
    · rename_i n r h1 h2
      simp only [Option.some.injEq] at h
      subst h
      simp only [List.mapM_cons, Sem.run_bind, run_sizeOf h1, Result.andThen_ok, Sem.run_pure, ih h2]
    · simp at h
theorem run_build {t : TypeId} {fs : List Field} {ps : List (Nat × Nat)} {parts : Array (Nat × Value)} {cs : List Value} (hfs : fieldsOf P t = some fs) (hps : placesOf P fs = some ps) (hz : zok P t = true)
    (hf : fillL (fun i => ps[i]?) (zc P t).toList parts.toList = some cs) : (Instr.build t parts).run P w = .ok (.agg cs.toArray) w := by
  unfold fieldsOf at hfs
  split at hfs
  · rename_i fa hu
    simp only [Option.some.injEq] at hfs
    subst hfs
    obtain ⟨v, hv, hvc⟩ := run_zeroValue (w := w) hz
    have hff := fillL_fill hf
    have hm := mapM_places (w := w) hps
    have hm2 : (fa.mapM fun f => (do pure (f.offset, ← sizeOf f.type) : Sem (Nat × Nat))).run P w = .ok ps.toArray w := by
      rw [← Array.toArray_toList (xs := fa), List.mapM_toArray]
      simp only [Sem.run_map]
      rw [Array.toArray_toList, hm]; rfl
    have hff2 : Instr.fill (fun x => ps.toArray[x]?) (zc P t) parts.toList = some cs.toArray := by simpa using hff
    simp only [Instr.build, Sem.run_bind, hv, Result.andThen_ok, underlying, run_program, hu, Sem.run_pure]
    rw [hm2]
    simp only [Result.andThen_ok, hvc, hff2, Sem.run_pure]
  · simp at hfs
end
end Go.Proofs.Ytdgnojjemlfhdaa.V
