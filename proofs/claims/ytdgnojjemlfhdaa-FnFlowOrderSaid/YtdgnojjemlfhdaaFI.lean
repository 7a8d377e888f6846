/- Contracts: the draws of programs, and rows whose cells stay numbers. -/
import Derived.Test.YtdgnojjemlfhdaaFH
namespace Go.Proofs.Ytdgnojjemlfhdaa.V
open Go Go.RowKit
set_option linter.unusedVariables false
set_option linter.unusedSimpArgs false
theorem chooseL {α : Type} {p : Nat → α → Prop} : ∀ (n : Nat), (∀ i, i < n → ∃ x, p i x) → ∃ l : List α, l.length = n ∧ ∀ i x, l[i]? = some x → p i x
  | 0, _ => ⟨[], rfl, by simp⟩
  | n + 1, h => by
    obtain ⟨l, hl, hp⟩ := chooseL n fun i hi => h i (by omega)
    obtain ⟨x, hx⟩ := h n (by omega)
    refine ⟨l ++ [x], by simp [hl], fun i y hy => ?_⟩
    rcases Nat.lt_trichotomy i n with hi | hi | hi
    · rw [List.getElem?_append_left (by omega)] at hy; exact hp i y hy
    · subst hi; rw [List.getElem?_append_right (by omega)] at hy; simp [hl] at hy; subst hy; exact hx
    · rw [List.getElem?_eq_none (by simp; omega)] at hy; simp at hy
section
variable {α : Type} {k : Kd α} {t : TypeId} {B : Nat} {w w' : World} {s : Sl} {xs : List α} {i : Int} {sz : Nat}
theorem take_flat {ys : List α} {cur : List Value} (hp : 0 < k.ls.length) (h : ∀ i x, ys[i]? = some x → ∀ j v, (k.cells x)[j]? = some v → cur[i * k.ls.length + j]? = some v) : cur.take (ys.flatMap k.cells).length = ys.flatMap k.cells := by
  refine List.ext_getElem? fun p => ?_
  rw [List.getElem?_take]
  split
  · rename_i hlt
    rw [flat_length] at hlt
    have hq : p / k.ls.length < ys.length := Nat.div_lt_of_lt_mul (by rw [Nat.mul_comm]; exact hlt)
    have hr : p % k.ls.length < k.ls.length := Nat.mod_lt _ hp
    have hy : ys[p / k.ls.length]? = some ys[p / k.ls.length] := List.getElem?_eq_getElem hq
    have hv : (k.cells ys[p / k.ls.length])[p % k.ls.length]? = some ((k.cells ys[p / k.ls.length])[p % k.ls.length]'(by rw [k.cells_length]; exact hr)) := List.getElem?_eq_getElem _
    have h1 := flat_get k ys _ _ hy _ _ hv
    have h2 := h _ _ hy _ _ hv
    have hj : p / k.ls.length * k.ls.length + p % k.ls.length = p := by rw [Nat.mul_comm]; exact Nat.div_add_mod _ _
    rw [hj] at h1 h2
    rw [h1, h2]
  · rename_i hge
    rw [List.getElem?_eq_none (by omega)]
theorem take_flat' {ys : List α} {cur : List Value} {n : Nat} (hp : 0 < k.ls.length) (hn : n = ys.length) (h : ∀ i x, ys[i]? = some x → ∀ j v, (k.cells x)[j]? = some v → cur[i * k.ls.length + j]? = some v) : cur.take (n * k.ls.length) = ys.flatMap k.cells := by
  have := take_flat hp h
  rwa [flat_length, ← hn] at this
/-- Cells that are numbers stay numbers. -/
def Ip (H : Nat) (a b : World) : Prop := ∀ g, H ≤ g → ∀ cur t, a.heap[g]? = some (.cells cur t (0, 0)) → ∃ cur', b.heap[g]? = some (.cells cur' t (0, 0)) ∧ cur'.size = cur.size ∧ ∀ (i : Nat) (n : Int), cur[i]? = some (.int .i64 n) → ∃ n', cur'[i]? = some (.int .i64 n')
theorem Ip.refl (H : Nat) (a : World) : Ip H a a := fun g _ cur t h => ⟨cur, h, rfl, fun i n hi => ⟨n, hi⟩⟩
theorem Ip.trans {H : Nat} {a b c : World} (h1 : Ip H a b) (h2 : Ip H b c) : Ip H a c := fun g hg cur t h => by
  obtain ⟨c1, hc1, hs1, hi1⟩ := h1 g hg cur t h
  obtain ⟨c2, hc2, hs2, hi2⟩ := h2 g hg c1 t hc1
  exact ⟨c2, hc2, by omega, fun i n hi => by obtain ⟨n1, h1⟩ := hi1 i n hi; exact hi2 i n1 h1⟩
theorem Ip.of_same {H : Nat} {a b : World} (h : ∀ g, H ≤ g → g < a.heap.size → b.heap[g]? = a.heap[g]?) : Ip H a b := fun g hg cur t hc =>
  ⟨cur, (h g hg (Array.getElem?_eq_some_iff.1 hc).1).trans hc, rfl, fun i n hi => ⟨n, hi⟩⟩
/-- A kind of whole numbers. -/
structure KN (k : Kd α) : Prop where
  all : ∀ l ∈ k.ls, l = .i .i64
  pos : 0 < k.ls.length
  sur : ∀ t : Tup k.ls, ∃ y, k.t y = t
theorem tup_ints : ∀ (ls : List Lf), (∀ l ∈ ls, l = .i .i64) → ∀ vs : Nat → Int, ∃ t : Tup ls, ∀ j, j < ls.length → (Tup.cells ls t)[j]? = some (.int .i64 (vs j))
  | [], _, _ => ⟨(), by simp⟩
  | l :: ls, h, vs => by
    obtain rfl := h l List.mem_cons_self
    obtain ⟨t, ht⟩ := tup_ints ls (fun l' hl' => h l' (List.mem_cons_of_mem _ hl')) (fun j => vs (j + 1))
    refine ⟨(vs 0, t), fun j hj => ?_⟩
    cases j with
    | zero => rfl
    | succ j => simpa [Tup.cells] using ht j (by simpa using hj)
theorem cells_ints : ∀ (ls : List Lf), (∀ l ∈ ls, l = .i .i64) → ∀ (t : Tup ls) (j : Nat) (v : Value), (Tup.cells ls t)[j]? = some v → ∃ n, v = .int .i64 n
  | [], _, _, j, v, h => by simp [Tup.cells] at h
  | l :: ls, h, t, j, v, hv => by
    obtain rfl := h l List.mem_cons_self
    cases j with
    | zero => simp only [Tup.cells, List.getElem?_cons_zero, Option.some.injEq] at hv; exact ⟨_, hv.symm⟩
    | succ j => exact cells_ints ls (fun l' hl' => h l' (List.mem_cons_of_mem _ hl')) t.2 j v (by simpa [Tup.cells] using hv)
/-- What was owned is owned, with other numbers. -/
theorem OwnS.ip (hk : KN k) (h : OwnS k t B w s xs) (hi : Ip B w w') : ∃ ys, ys.length = xs.length ∧ OwnS k t B w' s ys := by
  rcases h.2.2 with ⟨hv, hn⟩ | ⟨g, cap, cur, hv, hB, hg, hnc, hcm, hcs, ht⟩
  · have hx : xs = [] := List.eq_nil_of_length_eq_zero (by rw [← h.1]; exact hn)
    subst hx
    exact ⟨[], rfl, h.1, by rw [hn]; simp, .inl ⟨hv, hn⟩⟩
  · obtain ⟨cur', hg', hs', hint⟩ := hi g hB cur t hg
    have hcell : ∀ (i : Nat) (x : α), xs[i]? = some x → ∀ j, j < k.ls.length → ∃ n : Int, cur[i * k.ls.length + j]? = some (.int .i64 n) := by
      intro i x hx j hj
      have hv : (k.cells x)[j]? = some ((k.cells x)[j]'(by rw [k.cells_length]; exact hj)) := List.getElem?_eq_getElem _
      obtain ⟨n, hn⟩ := cells_ints k.ls hk.all (k.t x) j _ hv
      have h1 := flat_get k xs i x hx j _ hv
      rw [← ht, List.getElem?_take] at h1
      split at h1
      · refine ⟨n, ?_⟩
        rw [← hn]; simpa using h1
      · simp at h1
    obtain ⟨ys, hyl, hy⟩ := chooseL (p := fun i y => ∀ j v, (k.cells y)[j]? = some v → cur'[i * k.ls.length + j]? = some v) xs.length (fun i hi => by
      obtain ⟨x, hx⟩ := get_some (l := xs) (k := i) hi
      have h1 : ∀ j, ∃ n : Int, j < k.ls.length → cur'[i * k.ls.length + j]? = some (.int .i64 n) := fun j => by
        by_cases hj : j < k.ls.length
        · obtain ⟨n, hn⟩ := hcell i x hx j hj
          obtain ⟨n', hn'⟩ := hint _ n hn
          exact ⟨n', fun _ => hn'⟩
        · exact ⟨0, fun h => absurd h hj⟩
      obtain ⟨t, ht⟩ := tup_ints k.ls hk.all (fun j => (h1 j).choose)
      obtain ⟨y, rfl⟩ := hk.sur t
      refine ⟨y, fun j v hv => ?_⟩
      have hj : j < k.ls.length := by have := lt_of_get hv; rw [k.cells_length] at this; exact this
      have h2 : (k.cells y)[j]? = _ := ht j hj
      rw [h2] at hv
      simp only [Option.some.injEq] at hv
      rw [← hv]
      exact (h1 j).choose_spec hj)
    refine ⟨ys, hyl, by rw [hyl]; exact h.1, by rw [flat_length, hyl, h.1], .inr ⟨g, cap, cur', hv, hB, hg', hnc, hcm, by omega, take_flat' hk.pos (by rw [hyl]; exact h.1) fun i x hx j v hv => by simpa using hy i x hx j v hv⟩⟩
theorem heap_setRow {w : World} {g : Nat} {cur vs : Array Value} {t : TypeId} (h : w.heap[g]? = some (.cells cur t (0, 0))) : (w.setRow g vs).heap[g]? = some (.cells vs t (0, 0)) := by
  simp [World.setRow, Array.getElem?_modify, h]
theorem heap_setRow_ne {w : World} {g j : Nat} {vs : Array Value} (h : j ≠ g) : (w.setRow g vs).heap[j]? = w.heap[j]? := by
  simp [World.setRow, Array.getElem?_modify, Ne.symm h]
theorem RunT.and {r : Rs} {P : Program} {sm : Sem Value} {K : r.T → World → Prop} {I : World → Prop} (h : RunT r P sm w K) (hI : ∀ v w', sm.run P w = .ok v w' → I w') : RunT r P sm w (fun x w' => K x w' ∧ I w') := by
  obtain ⟨x, w', hr, hk⟩ := h
  exact ⟨x, w', hr, hk, hI _ _ hr⟩
/-- What an append leaves of numbers. -/
theorem ap_ip {P : Program} {tS tR : TypeId} {bytes : Nat} (hE : El P tS t k bytes) (hk : KN k) {H : Nat} (h : OwnS k t B w s xs) {x : Sl} {ys : List α} (hx : SlR k w x ys) (hb : (xs.length + ys.length) * bytes ≤ 140737488355328) (hm : xs.length + ys.length ≤ 140737488355328) :
    ∀ v w', (Builtin.append_ #[tS, tS] tR #[.slice s.a s.n s.c, .slice x.a x.n x.c]).run P w = .ok v w' → Ip H w w' := by
  intro v w' hr
  obtain ⟨i, z, hi, hz, hsz, hby, hzs⟩ := hE.info
  by_cases hne : ys = []
  · subst hne
    have hxn : x.n = 0 := by rw [hx.1]; rfl
    have hr' : (Builtin.append_ #[tS, tS] tR #[.slice s.a s.n s.c, .slice x.a x.n x.c]).run P w = .ok (.slice s.a s.n s.c) w := by
      rw [hxn]
      have hc := h.cap
      cases hxa : x.a <;> cases hsa : s.a <;> simp [Builtin.append_, run_underlying hE.elem, sizeOf, typeInfo, hi, Builtin.lenOf, Builtin.firstCells, hc.1, storeCells, loadCells, loadCellsFrom]
    rw [hr'] at hr
    simp only [Result.ok.injEq] at hr
    rw [← hr.2]; exact Ip.refl _ _
  · rcases hx.2.2.2 with h0 | ⟨b, o, ha, hat⟩
    · exact absurd h0 hne
    · have hnews : ∀ j u, (ys.flatMap k.cells)[j]? = some u → w.cell? ((⟨b, o, none⟩ : Addr).add j) = some u := by
        intro j u hu
        have hjl : j < ys.length * k.ls.length := by
          rcases Nat.lt_or_ge j (ys.length * k.ls.length) with h | h
          · exact h
          · rw [List.getElem?_eq_none (by rw [flat_length]; exact h)] at hu; simp at hu
        have hq : j / k.ls.length < ys.length := Nat.div_lt_of_lt_mul (by rw [Nat.mul_comm]; exact hjl)
        have hr : j % k.ls.length < k.ls.length := Nat.mod_lt _ hE.pos
        have hy : ys[j / k.ls.length]? = some ys[j / k.ls.length] := List.getElem?_eq_getElem hq
        have hv : (k.cells ys[j / k.ls.length])[j % k.ls.length]? = some ((k.cells ys[j / k.ls.length])[j % k.ls.length]'(by rw [k.cells_length]; exact hr)) := List.getElem?_eq_getElem _
        have h1 := flat_get k ys _ _ hy _ _ hv
        have hj : j / k.ls.length * k.ls.length + j % k.ls.length = j := by rw [Nat.mul_comm]; exact Nat.div_add_mod _ _
        rw [hj, hu] at h1
        simp only [Option.some.injEq] at h1
        have h2 := hat _ _ hy _ _ hv
        rw [← h1, Nat.add_assoc, hj] at h2
        rw [add_mk]
        exact h2
      have h1 : ∀ u ∈ ys.flatMap k.cells, u.oneCell' = true := by
        intro u hu
        obtain ⟨y, _, hy⟩ := List.mem_flatMap.1 hu
        exact oneCell_cells k hE.one y u hy
      have hint : ∀ (j : Nat) u, (ys.flatMap k.cells)[j]? = some u → ∃ n : Int, u = .int .i64 n := by
        intro j u hu
        obtain ⟨y, _, hy⟩ := List.mem_flatMap.1 (List.mem_of_getElem? hu)
        obtain ⟨q, hq⟩ := List.getElem?_of_mem hy
        exact cells_ints k.ls hk.all (k.t y) q u hq
      have hxn : 0 < x.n := by rw [hx.1]; exact List.length_pos_iff.2 hne
      have hlen : (ys.flatMap k.cells).length = x.n * i.size := by rw [flat_length, hx.1, hsz]
      rw [ha] at hr
      rcases h.2.2 with ⟨hv, hn⟩ | ⟨g, cap, cur, hv, hBg, hg, hnc, hcm, hcs, htake⟩
      · rw [hv, run_append_nil (P := P) w tS tR t i z hE.elem hi hz ⟨b, o, none⟩ x.n x.c _ hlen hnews hxn (by rw [hx.1]; omega) (by
          rw [hx.1, hby]
          have : ys.length * bytes ≤ (xs.length + ys.length) * bytes := Nat.mul_le_mul_right _ (by omega)
          omega)] at hr
        simp only [Result.ok.injEq] at hr
        rw [← hr.2]
        exact Ip.of_same fun j _ hj => (((Below.refl w.heap.size w).drew).alloc (Nat.le_refl _) _).block j hj
      · rw [hv] at hr
        by_cases hroom : s.n + x.n ≤ cap
        · have hfit : s.n * i.size + (ys.flatMap k.cells).length ≤ cur.size := by rw [hlen, hcs, ← Nat.add_mul, hsz]; exact Nat.mul_le_mul_right _ hroom
          rw [run_append_room (P := P) w tS tR t i hE.elem hi g s.n cap cur hg ⟨b, o, none⟩ x.n x.c _ hlen hnews h1 hroom hfit] at hr
          simp only [Result.ok.injEq] at hr
          rw [← hr.2]
          intro q _ cq tq hq
          by_cases hqg : q = g
          · subst hqg
            rw [hg] at hq
            simp only [Option.some.injEq, Obj.cells.injEq] at hq
            obtain ⟨rfl, rfl, _⟩ := hq
            have e0 : (cur.toList.take (s.n * i.size)).length = s.n * i.size := by rw [List.length_take, Array.length_toList]; omega
            refine ⟨_, heap_setRow hg, ?_, fun p n hp => ?_⟩
            · simp only [List.size_toArray, List.length_append, List.length_drop, e0, Array.length_toList]; omega
            rw [List.getElem?_toArray]
            rcases Nat.lt_or_ge p (s.n * i.size) with h2 | h2
            · refine ⟨n, ?_⟩
              rw [List.append_assoc, List.getElem?_append_left (by omega), List.getElem?_take, if_pos h2]
              simpa using hp
            · rw [List.append_assoc, List.getElem?_append_right (by omega), e0]
              rcases Nat.lt_or_ge (p - s.n * i.size) (ys.flatMap k.cells).length with h3 | h3
              · rw [List.getElem?_append_left h3]
                obtain ⟨n', hn'⟩ := hint _ _ (List.getElem?_eq_getElem h3)
                exact ⟨n', by rw [List.getElem?_eq_getElem h3, hn']⟩
              · refine ⟨n, ?_⟩
                rw [List.getElem?_append_right h3, List.getElem?_drop, show s.n * i.size + (ys.flatMap k.cells).length + (p - s.n * i.size - (ys.flatMap k.cells).length) = p by omega]
                simpa using hp
          · exact ⟨cq, by rw [heap_setRow_ne hqg]; exact hq, rfl, fun i n hi => ⟨n, hi⟩⟩
        · have holds : ∀ j u, (xs.flatMap k.cells)[j]? = some u → w.cell? ((⟨g, 0, none⟩ : Addr).add j) = some u := h.2.cells (g := g) (by rw [hv]; rfl)
          rw [run_append_grow (P := P) w tS tR t i z hE.elem hi hz ⟨g, 0, none⟩ s.n cap (xs.flatMap k.cells) (by rw [flat_length, h.1, hsz]) holds ⟨b, o, none⟩ x.n x.c _ hlen hnews (by omega) (by rw [h.1, hx.1]; omega) (growslice_fits (by omega) (by rw [h.1, hx.1, hby]; exact hb))] at hr
          simp only [Result.ok.injEq] at hr
          rw [← hr.2]
          exact Ip.of_same fun j _ hj => (((Below.refl w.heap.size w).drew).alloc (Nat.le_refl _) _).block j hj
/-- Write a field of an element of what is owned. -/
theorem ixOwF (h : OwnS k t B w s xs) (hi : 0 ≤ i) {x : α} (hx : xs[i.toNat]? = some x) (hsz : sz = k.ls.length) {j : Nat} (hj : j < k.ls.length) {v : Value} (hv : v.oneCell' = true) (y : α) (hy : k.cells y = (k.cells x).set j v) {K : World → Prop}
    (hK : ∀ w', OwnS k t B w' s (xs.set i.toNat y) → w.grownBy w' s.bk → w'.heap.size = w.heap.size → K w') : Ix s.a s.n i sz w (fun a w1 => St (Addr.add a j) v w1 K) := by
  have hl := lt_of_get hx
  rcases h.2.2 with ⟨_, hn⟩ | ⟨g, cap, cur, hvv, hB, hg, hnc, hcm, hcs, ht⟩
  · rw [h.1] at hn; omega
  simp only [Value.slice.injEq] at hvv
  have hc : ∀ i x, xs[i]? = some x → ∀ j v, (k.cells x)[j]? = some v → cur[0 + i * k.ls.length + j]? = some v := fun i x hi j v hm => by
    have hm := flat_get k xs i x hi j v hm
    rw [← ht, List.getElem?_take] at hm
    split at hm
    · simpa using hm
    · simp at hm
  have hcap : (i.toNat + 1) * k.ls.length ≤ cap * k.ls.length := Nat.mul_le_mul_right _ (by rw [h.1] at hnc; omega)
  rw [Nat.succ_mul] at hcap
  subst hsz
  refine ⟨_, hvv.1, hi, by rw [h.1]; omega, hv, ⟨cur[i.toNat * k.ls.length + j]'(by omega), ?_⟩, ?_, ?_⟩
  · rw [add_mk, add_mk, cell_of hg, Nat.zero_add]; exact Array.getElem?_eq_getElem _
  · simp [add_mk, World.frozen?, hg]
  · rw [add_mk, add_mk]
    have hu := upd (cur' := cur.setIfInBounds (0 + i.toNat * k.ls.length + j) v) (y := y) hc (i := i.toNat) ?_ ?_
    · refine hK _ ⟨by simpa using h.1, by rw [flat_length]; simp [h.1], .inr ⟨g, cap, _, by simp [hvv], hB, setCell_heap hg v, hnc, hcm, by simpa using hcs, take_flat' (by omega) (by simpa using h.1) fun i x hx j v hv => by have h2 := hu i x hx j v hv; rw [Nat.zero_add (i * _)] at h2; rw [Array.getElem?_toList]; exact h2⟩⟩ (by simpa [Sl.bk, hvv.1] using grown_setCell w g _ v) (by simp)
    · intro j' u hu
      rw [hy] at hu
      by_cases he : j' = j
      · subst he
        rw [List.getElem?_set_self (by rw [k.cells_length]; exact hj)] at hu
        rw [Array.getElem?_setIfInBounds_self_of_lt (by omega)]; exact hu
      · rw [List.getElem?_set_ne (by omega)] at hu
        rw [Array.getElem?_setIfInBounds_ne (by omega)]
        exact hc _ _ hx _ _ hu
    · intro p hp
      exact Array.getElem?_setIfInBounds_ne (by omega)
end
theorem knIns : KN kIns := ⟨by intro l hl; simp [kIns] at hl; exact hl, by decide, fun t => ⟨insOf t, rfl⟩⟩
end Go.Proofs.Ytdgnojjemlfhdaa.V
