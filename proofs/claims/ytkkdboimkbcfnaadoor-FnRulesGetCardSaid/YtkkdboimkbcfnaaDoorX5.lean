/- The tied row of FnRulesGet: where the listed variables of the library's are as its text lays them, it returns true and leaves its input as it was, whatever the input. PRINTED by rowt.py out of the law of the same name. -/
import Derived.Test.YtkkdboimkbcfnaaDoorRows
import Derived.Test.YtkkdboimkbcfnaaDoorCards
import Derived.Test.YtkkdboimkbcfnaaDoorTie
import Derived.Lay
import Derived.SevenTiedAt
import Derived.Test.YtkkdboimkbcfnaaDoorX4
/- Contracts: rules are read, in the reference. -/
namespace Go.Proofs.YtkkdboimkbcfnaaDoor.V
open Go Go.RowKit
set_option linter.unusedVariables false
set_option linter.unusedSimpArgs false
/-- The box of a rule. -/
def bR (x : Rule) : Obj := .cells x.cs 53 (0, 0)
def rule0 : Rule := ⟨0, 0, 0, 0, 0⟩
theorem zR : zc P0 53 = rule0.cs := by kernel_rfl
section
variable {w : World} {b : Nat} {m y : Rule}
theorem nwRz {K : Addr → World → Prop} (hk : ∀ w', Below w.heap.size w w' → w'.heap.size = w.heap.size + 1 → w'.heap[w.heap.size]? = some (bR rule0) → K ⟨w.heap.size, 0, none⟩ w') : Nw (zc P0 53) 53 w K := by
  rw [zR]; exact nw hk
theorem stR (h : w.heap[b]? = some (bR m)) {K : World → Prop} (hk : ∀ w', w.grownBy w' (some b) → w'.heap.size = w.heap.size → w'.heap[b]? = some (bR y) → K w') : StA P0 ⟨b, 0, none⟩ (Tup.cells (R 5 (.i .i64)) y.t) w K := by
  obtain ⟨w', hr, hg, hsz, hh⟩ := run_storeCells_at' P0 (b := b) (t := 53) (Tup.cells (R 5 (.i .i64)) y.t) 0 [] (Tup.cells (R 5 (.i .i64)) m.t) w (oneCell_cells kRule noAnyRule y) rfl rfl h
  exact ⟨w', hr, hk w' hg hsz hh⟩
theorem ldR (h : w.heap[b]? = some (bR m)) {K : Tup (R 5 (.i .i64)) → World → Prop} (hk : K m.t w) : LdA (R 5 (.i .i64)) ⟨b, 0, none⟩ w K := ldAB h rfl hk
theorem heapG {w w' : World} {c : Nat} {o : Obj} {row : Option Nat} (h : w.heap[c]? = some o) (hg : w.grownBy w' row) (hne : row ≠ some c) : w'.heap[c]? = some o :=
  (hg.block c (Array.getElem?_eq_some_iff.1 h).1 (fun e => hne e.symm)).trans h
end
/-- One box may become this. -/
def SpC (c : Nat) (o : Obj) (a b : World) : Prop := a.grownBy b (some c) ∧ (b.heap[c]? = a.heap[c]? ∨ b.heap[c]? = some o)
theorem spcOk (c : Nat) (o : Obj) (w : World) : SpOk (SpC c o) w := by
  refine ⟨fun a => ⟨grown_refl _ _, .inl rfl⟩, fun a b d h1 h2 => ⟨grown_trans h1.1 h2.1, ?_⟩, ⟨grown_any (Below.refl _ _).drew, .inl rfl⟩⟩
  rcases h2.2 with h | h
  · rcases h1.2 with h' | h'
    · exact .inl (h.trans h')
    · exact .inr (h.trans h')
  · exact .inr h
theorem SpC.below {c : Nat} {o : Obj} {a b : World} (h : Below a.heap.size a b) (hc : c < a.heap.size) : SpC c o a b := ⟨grown_any h, .inl (h.block c hc)⟩
set_option maxHeartbeats 1000000 in
/-- A rule that was read is looked at. -/
theorem l9Tail {w : World} {c b : Nat} {l : By} {tt m : Rule} {K : Tup (R 5 (.i .i64)) × Bool × Unit → World → Prop} (hl : l.length ≤ 1099511627776) (hb : w.heap[b]? = some (bR tt)) (hc : w.heap[c]? = some (bR m)) (hcb : c ≠ b)
    (hk : ∀ w', w.grownBy w' (some c) → K (tt.t, decide (RuleP tt ∧ lineL tt = l), ()) w') :
    ∃ Sp_1 : World → World → Prop, SpOk Sp_1 w ∧ ∃ G_t44 : Tup (R 5 (.i .i64)) → World → Prop, Kept Sp_1 G_t44 ∧ ∃ G_t45 : Tup (R 5 (.i .i64)) → World → Prop, Kept Sp_1 G_t45 ∧ ∃ G_t46 : Bool → World → Prop, Kept Sp_1 G_t46 ∧ ∃ G_t48 : Tup (R 5 (.i .i64)) → World → Prop, Kept Sp_1 G_t48 ∧ ∃ G_t49 : ByteArray → World → Prop, Kept Sp_1 G_t49 ∧ ∃ G_t51 : ByteArray → World → Prop, Kept Sp_1 G_t51 ∧ ∃ G_st : Unit → World → Prop, Kept Sp_1 G_st ∧
    (∀ w1, Sp_1 w w1 → LdA (R 5 (.i .i64)) ⟨b, 0, none⟩ w1 fun (t44 : Tup (R 5 (.i .i64))) w2 => GK (.o (.ag (R 5 (.i .i64)))) Sp_1 w1 G_t44 (.agg (Tup.cells (R 5 (.i .i64)) t44).toArray) w2) ∧
    ∀ (t44_1 : Tup (R 5 (.i .i64))), (∀ w1, Sp_1 w w1 → LdA (R 5 (.i .i64)) ⟨b, 0, none⟩ w1 fun (t45 : Tup (R 5 (.i .i64))) w2 => GK (.o (.ag (R 5 (.i .i64)))) Sp_1 w1 G_t45 (.agg (Tup.cells (R 5 (.i .i64)) t45).toArray) w2) ∧
    ∀ (t45_1 : Tup (R 5 (.i .i64))), (∀ w1, Sp_1 w w1 → G_t45 t45_1 w1 → CallT (.o (.lf .b)) P0 62 [(.agg (Tup.cells (R 5 (.i .i64)) t45_1).toArray)] w1 fun (t46 : Bool) w2 => GK (.o (.lf .b)) Sp_1 w1 G_t46 (.bool t46) w2) ∧
    ∀ (t46_1 : Bool), (t46_1 = true → (∀ w1, Sp_1 w w1 → G_t46 t46_1 w1 → LdA (R 5 (.i .i64)) ⟨b, 0, none⟩ w1 fun (t48 : Tup (R 5 (.i .i64))) w2 => GK (.o (.ag (R 5 (.i .i64)))) Sp_1 w1 G_t48 (.agg (Tup.cells (R 5 (.i .i64)) t48).toArray) w2) ∧
    ∀ (t48_1 : Tup (R 5 (.i .i64))), (∀ w1, Sp_1 w w1 → G_t46 t46_1 w1 → G_t48 t48_1 w1 → CallT (.o (.lf .s)) P0 33 [(.agg (Tup.cells (R 5 (.i .i64)) t48_1).toArray)] w1 fun (t49 : ByteArray) w2 => GK (.o (.lf .s)) Sp_1 w1 G_t49 (.string t49) w2) ∧
    ∀ (t49_1 : ByteArray), (∀ w1, Sp_1 w w1 → G_t46 t46_1 w1 → (((ByteArray.size (bs l) + ByteArray.size (⟨#[10]⟩ : ByteArray) : Nat) : Int) ≤ IntKind.i64.max) ∧ GK (.o (.lf .s)) Sp_1 w1 G_t51 (.string (bs l ++ (⟨#[10]⟩ : ByteArray))) w1) ∧
    ∀ (t51 : ByteArray), (∀ w1, Sp_1 w w1 → G_t44 t44_1 w1 → StA P0 ⟨c, 0, none⟩ (Tup.cells (R 5 (.i .i64)) t44_1) w1 fun w2 => GK .z Sp_1 w1 G_st (.tuple #[]) w2) ∧
    ∀ (st : Unit), ∀ w1, Sp_1 w w1 → G_t44 t44_1 w1 → G_t45 t45_1 w1 → G_t46 t46_1 w1 → G_t48 t48_1 w1 → G_t49 t49_1 w1 → G_t51 t51 w1 → G_st st w1 → LdA (R 5 (.i .i64)) ⟨c, 0, none⟩ w1 fun r_3 w2 => K (r_3, ((ByteArray.toList t49_1 == ByteArray.toList t51), ())) w1) ∧
    (t46_1 = false → (∀ w1, Sp_1 w w1 → G_t44 t44_1 w1 → StA P0 ⟨c, 0, none⟩ (Tup.cells (R 5 (.i .i64)) t44_1) w1 fun w2 => GK .z Sp_1 w1 G_st (.tuple #[]) w2) ∧
    ∀ (st_1 : Unit), ∀ w1, Sp_1 w w1 → G_t44 t44_1 w1 → G_t45 t45_1 w1 → G_t46 t46_1 w1 → fT w1 → fT w1 → fT w1 → G_st st_1 w1 → LdA (R 5 (.i .i64)) ⟨c, 0, none⟩ w1 fun r_4 w2 => K (r_4, (false, ())) w1) := by
  have hbl := (Array.getElem?_eq_some_iff.1 hb).1
  have hcl := (Array.getElem?_eq_some_iff.1 hc).1
  have kb : ∀ {w' : World}, SpC c (bR tt) w w' → w'.heap[b]? = some (bR tt) := fun hs => heapG hb hs.1 (by simpa using hcb)
  have kc : ∀ {w' : World}, SpC c (bR tt) w w' → ∃ m', w'.heap[c]? = some (bR m') := fun hs => hs.2.elim (fun e => ⟨m, e.trans hc⟩) (fun e => ⟨tt, e⟩)
  have sb : ∀ {w1 w2 : World}, SpC c (bR tt) w w1 → Below w1.heap.size w1 w2 → SpC c (bR tt) w1 w2 := fun hs hb => SpC.below hb (Nat.lt_of_lt_of_le hcl hs.1.size)
  have sr : ∀ {w1 : World}, SpC c (bR tt) w1 w1 := ⟨grown_refl _ _, .inl rfl⟩
  have st : ∀ {w1 : World}, SpC c (bR tt) w w1 → StA P0 ⟨c, 0, none⟩ (Tup.cells (R 5 (.i .i64)) tt.t) w1 fun w2 => GK .z (SpC c (bR tt)) w1 (fun _ w' => w'.heap[c]? = some (bR tt)) (.tuple #[]) w2 := by
    intro w1 hs
    obtain ⟨m', hm⟩ := kc hs
    exact stR hm fun w2 hg hsz hh => ⟨(), rfl, ⟨hg, .inr hh⟩, hh⟩
  refine ⟨SpC c (bR tt), spcOk _ _ _, eqG tt.t, keptE, eqG tt.t, keptE, eqG (decide (RuleP tt)), keptE, eqG tt.t, keptE, eqG (bs (lineL tt ++ [10])), keptE, eqG (bs (l ++ [10])), keptE, fun _ w' => w'.heap[c]? = some (bR tt), ?_, ?_⟩
  · rintro u a d h hs
    rcases hs.2 with e | e
    · exact e.trans h
    · exact e
  refine ⟨fun w1 hs => ldR (kb hs) (gkE rfl sr), fun t44 => ⟨fun w1 hs => ldR (kb hs) (gkE rfl sr), fun t45 => ⟨fun w1 hs f45 => ?_, fun t46 => And.intro (fun h46 => ?_) (fun h46 => ?_)⟩⟩⟩
  · cases f45
    exact spec.l9RuleOk.c (x := tt) fun w2 hb2 => gkE rfl (sb hs hb2)
  · refine ⟨fun w1 hs _ => ldR (kb hs) (gkE rfl sr), fun t48 => ⟨fun w1 hs f46 f48 => ?_, fun t49 => ⟨fun w1 hs _ => ?_, fun t51 => ⟨fun w1 hs f44 => ?_, fun u w1 hs f44 f45 f46 f48 f49 f51 fst => ?_⟩⟩⟩⟩
    · cases f48; cases f46
      have hp : RuleP tt := by simpa using h46
      exact spec.l9Line.t hp fun w2 hb2 => gkE rfl (sb hs hb2)
    · refine ⟨szB (b := [10]) (by simp; omega), ?_⟩
      rw [show (⟨#[10]⟩ : ByteArray) = bs [10] from rfl, bs_app]
      exact gkE rfl sr
    · cases f44; exact st hs
    · cases f46; cases f49; cases f51
      have hp : RuleP tt := by simpa using h46
      refine ldR fst ?_
      have := hk w1 hs.1
      rw [bs_toList, bs_toList]
      have e : ((lineL tt ++ [10]) == (l ++ [10])) = decide (RuleP tt ∧ lineL tt = l) := by
        rw [Bool.eq_iff_iff]; simp [hp]
      rw [e]; exact this
  · refine ⟨fun w1 hs f44 => ?_, fun u w1 hs f44 f45 f46 _ _ _ fst => ?_⟩
    · cases f44; exact st hs
    · cases f46
      have hp : ¬ RuleP tt := by simpa using h46
      refine ldR fst ?_
      have := hk w1 hs.1
      rw [decide_eq_false (fun c => hp c.1)] at this
      exact this
/-- What is known of words that are read. -/
def Num1 (z : By) (v : Int) : Prop := ∀ u : Nat, u < 10000000000 → z = Lib.decDigits u → v = u
theorem num1 {z : By} {v n : Int} (h : Num1 z v) (h0 : 0 ≤ n) (h1 : n ≤ 4294967295) (e : z = Lib.itoa n) : v = n := by
  have := h n.toNat (by omega) (by rw [e, itoa_fig h0]); omega
section
variable {w : World}
set_option maxHeartbeats 4000000 in
theorem spec.l9Read.t {l : By} {K : Tup (R 5 (.i .i64)) × Bool × Unit → World → Prop} (hl : l.length ≤ 1048576)
    (hk : ∀ (r : Rule) ok w', Below w.heap.size w w' → (ok = true → RuleP r ∧ lineL r = l) → (∀ x, RuleP x → l = lineL x → ok = true ∧ r = x) → K (r.t, ok, ()) w') : CallT (.n [(.ag (R 5 (.i .i64))), (.lf .b)]) P0 41 [.string (bs l)] w K := by
  refine spec.l9Read.ok (nwRz fun w1 b1 s1 c1 => ?_)
  refine spec.l1Cut.t (c := 32) (most := 6) (by omega) (by omega) fun t7 w2 b2' o2 => ?_
  have b2 := b1.trans (b2'.mono b1.size)
  have c2 := (b2'.block _ (by omega)).trans c1
  have hn := o2.len
  rw [List.length_map] at hn
  have hnx : ∀ x, RuleP x → l = lineL x → cutN 32 6 l = wordsR x := fun x hx e => by rw [e]; exact line_words hx
  have no : (t7.n < 5 ∨ t7.n > 6) → StA P0 ⟨w.heap.size, 0, none⟩ [(.int .i64 0), (.int .i64 0), (.int .i64 0), (.int .i64 0), (.int .i64 0)] w2 fun w3 => LdA (R 5 (.i .i64)) ⟨w.heap.size, 0, none⟩ w3 fun r w4 => K (r, (false, ())) w3 := by
    intro h
    refine stR (y := rule0) c2 fun w3 g3 s3 c3 => ldR c3 ?_
    refine hk rule0 false w3 (b2.grown g3 b2.size (fun g hg => by simp only [Option.some.injEq] at hg; omega)) (fun h => by simp at h) fun x hx e => ?_
    exfalso
    have h1 := congrArg List.length (hnx x hx e)
    rw [wordsR_len] at h1
    split at h1 <;> omega
  refine ⟨fun w' => w' = w2 ∧ 5 ≤ t7.n ∧ t7.n ≤ 6, And.intro (fun h => no (by simp only [decide_eq_true_eq] at h; omega)) (fun h1 => And.intro (fun h => no (by simp only [decide_eq_true_eq] at h; omega)) (fun h2 => ⟨rfl, ?_, ?_⟩)), ?_⟩
  · simp only [decide_eq_false_iff_not] at h1; omega
  · simp only [decide_eq_false_iff_not] at h2; omega
  rintro w3 ⟨rfl, hn5, hn6⟩ _
  generalize hzs : cutN 32 6 l = zs at hn o2 hnx
  have hz : ∀ i : Nat, i < zs.length → zs[i]? = some (zs.getD i []) := fun i hi => by
    obtain ⟨x, hx⟩ := get_some (l := zs) (k := i) hi
    rw [List.getD_eq_getElem?_getD, hx]; rfl
  have hzl : ∀ i : Nat, (zs.getD i []).length ≤ 1048576 := by
    intro i
    by_cases hi : i < zs.length
    · have hm := List.mem_of_getElem? (hz i hi)
      have key : ∀ (k : Nat) (l y : By), y ∈ cutN 32 k l → y.length ≤ l.length := by
        intro k
        induction k with
        | zero => intro l y hy; simp [cutN] at hy; rw [hy]; exact Nat.le_refl _
        | succ k ih =>
          intro l y hy
          unfold cutN at hy
          cases h : cut1 32 l with
          | none => rw [h] at hy; simp at hy; rw [hy]; exact Nat.le_refl _
          | some p =>
            obtain ⟨a, b⟩ := p
            rw [h] at hy
            have he := (cut1_some h).1
            rcases List.mem_cons.1 hy with e | e
            · rw [e, he]; simp
            · have := ih _ _ e
              rw [he]; simp; omega
      rw [← hzs] at hm
      have := key 6 l _ hm
      rw [hzs] at this; omega
    · rw [List.getD_eq_getElem?_getD, List.getElem?_eq_none (by omega)]; simp
  refine ⟨StR, stOk w3, AtW [.string (bs (zs.getD 1 []))], keptAw, eqG (bs (zs.getD 1 [])), keptE, fun v _ => Num1 (zs.getD 1 []) v, fun _ _ _ h _ => h, fun s w' => OwnS kS 9 0 w' s (opW.map bs), keptOw,
    AtW [.string (bs (zs.getD 2 []))], keptAw, eqG (bs (zs.getD 2 [])), keptE, eqG (Lib.idxOfS (opW.map bs) (bs (zs.getD 2 []))), keptE, AtW [.string (bs (zs.getD 3 []))], keptAw, eqG (bs (zs.getD 3 [])), keptE, fun v _ => Num1 (zs.getD 3 []) v, fun _ _ _ h _ => h, fun s w' => OwnS kS 9 0 w' s (vW.map bs), keptOw,
    AtW [.string (bs (zs.getD 4 []))], keptAw, eqG (bs (zs.getD 4 [])), keptE, eqG (Lib.idxOfS (vW.map bs) (bs (zs.getD 4 []))), keptE,
    fun t _ => Num1 (zs.getD 1 []) t.1 ∧ t.2.1 = Lib.idxOfS (opW.map bs) (bs (zs.getD 2 [])) ∧ Num1 (zs.getD 3 []) t.2.2.1 ∧ t.2.2.2.1 = Lib.idxOfS (vW.map bs) (bs (zs.getD 4 [])) ∧ t.2.2.2.2.1 = 0, fun _ _ _ h _ => h,
    fun a w' => ∃ b, a = ⟨b, 0, none⟩ ∧ w3.heap.size ≤ b ∧ w'.heap[b]? = some (bR rule0), ?_, ?_⟩
  · rintro a x y ⟨b, h1, h2, h3⟩ hs
    exact ⟨b, h1, h2, (hs.block b (Array.getElem?_eq_some_iff.1 h3).1).trans h3⟩
  have wd : ∀ {w' : World} (i : Nat), i < zs.length → StR w3 w' → Ix t7.a t7.n (i : Int) 1 w' fun a w'' => GK (.o (.lf .ad)) StR w' (AtW [.string (bs (zs.getD i []))]) (.pointer (some a)) w'' := by
    intro w' i hi hs
    exact wordAt (o2.below hs) (by omega) (by simpa using hi) rfl fun a ha => ⟨a, rfl, Below.refl _ _, by simpa using ha⟩
  refine ⟨fun w' hs => wd 1 (by omega) hs, fun t18 => ⟨fun w' hs f => wordLd f (gkE rfl (Below.refl _ _)), fun t19 => ⟨fun w' hs f => ?_, fun t20 => ⟨fun w' hs => spec.l1Words.t fun s w'' hb ho => ⟨s, rfl, hb, ho.low (Nat.zero_le _)⟩, fun t21 => ⟨fun w' hs => wd 2 (by omega) hs, fun t23 => ⟨fun w' hs f => wordLd f (gkE rfl (Below.refl _ _)), fun t24 => ⟨fun w' hs f21 f24 => ?_, fun t25 => ⟨fun w' hs => wd 3 (by omega) hs, fun t27 => ⟨fun w' hs f => wordLd f (gkE rfl (Below.refl _ _)), fun t28 => ⟨fun w' hs f => ?_, fun t29 => ⟨fun w' hs => spec.l9Words.t fun s w'' hb ho => ⟨s, rfl, hb, ho.low (Nat.zero_le _)⟩, fun t30 => ⟨fun w' hs => wd 4 (by omega) hs, fun t32 => ⟨fun w' hs f => wordLd f (gkE rfl (Below.refl _ _)), fun t33 => ⟨fun w' hs f30 f33 => ?_, fun t34 => ⟨fun w' hs f20 f25 f29 f34 => ?_, fun t35 => ⟨fun w' hs => nwRz fun w'' hb _ hc => ⟨_, rfl, hb, w'.heap.size, rfl, hs.size, hc⟩, fun a w4 hs _ _ _ _ _ _ _ _ _ _ _ _ _ _ f35 fr => ?_⟩⟩⟩⟩⟩⟩⟩⟩⟩⟩⟩⟩⟩⟩⟩⟩
  · cases f; exact spec.l1Num.t (by have := hzl 1; omega) fun v hv => ⟨v, rfl, Below.refl _ _, hv⟩
  · cases f24; exact spec.l1Find.t f21.read (gkE rfl (Below.refl _ _))
  · cases f; exact spec.l1Num.t (by have := hzl 3; omega) fun v hv => ⟨v, rfl, Below.refl _ _, hv⟩
  · cases f33; exact spec.l1Find.t f30.read (gkE rfl (Below.refl _ _))
  · exact ⟨(t20, t25, t29, t34, 0, ()), rfl, Below.refl _ _, f20, f25, f29, f34, rfl⟩
  · obtain ⟨b, rfl, hbw, cb⟩ := fr
    have hs : Below w3.heap.size w3 w4 := hs
    obtain ⟨t1, t2, t3, t4, t5, _⟩ := t35
    obtain ⟨q1, q2, q3, q4, q5⟩ := f35
    simp only at q1 q2 q3 q4 q5
    have hbl := (Array.getElem?_eq_some_iff.1 cb).1
    have hw3 : w.heap.size < w3.heap.size := (Array.getElem?_eq_some_iff.1 c2).1
    have c4 := (hs.block _ hw3).trans c2
    have b4 := b2.trans (hs.mono b2.size)
    have known : ∀ x, RuleP x → l = lineL x → t1 = x.at_ ∧ t2 = x.op ∧ t3 = x.num ∧ t4 = x.verdict ∧ (x.verdict = 2 → zs.getD 5 [] = Lib.itoa x.key) ∧ (if x.verdict = 2 then zs.length = 6 else zs.length = 5) := by
      intro x hx e
      have hw := hnx x hx e
      have hlen := congrArg List.length hw
      rw [wordsR_len] at hlen
      have e1 : zs.getD 1 [] = Lib.itoa x.at_ := by rw [hw]; rfl
      have e2 : zs.getD 2 [] = opA x.op := by rw [hw]; rfl
      have e3 : zs.getD 3 [] = Lib.itoa x.num := by rw [hw]; rfl
      have e4 : zs.getD 4 [] = vA x.verdict := by rw [hw]; rfl
      refine ⟨num1 q1 hx.1.1 (by have := hx.1; omega) e1, ?_, num1 q3 hx.2.2.1.1 (by have := hx.2.2.1; omega) e3, ?_, fun hv => by rw [hw]; simp [wordsR, hv], by split <;> rename_i hv <;> simp [hv] at hlen <;> omega⟩
      · rw [q2, e2]; exact opIdx hx.2.1
      · rw [q4, e4]; exact vIdx hx.2.2.2.1
    refine stR (m := rule0) (y := ⟨t1, t2, t3, t4, t5⟩) cb fun w5 g5 s5 c5 => ?_
    have cz5 := heapG c4 g5 (fun e => by simp only [Option.some.injEq] at e; omega)
    have B5 : Below w.heap.size w w5 := b4.grown g5 b4.size (fun g hg => by simp only [Option.some.injEq] at hg; omega)
    have fin : ∀ {w6 : World} {tt m : Rule}, Below w.heap.size w w6 → w6.heap[b]? = some (bR tt) → w6.heap[w.heap.size]? = some (bR m) → (∀ x, RuleP x → l = lineL x → tt = x) → ∀ w7, w6.grownBy w7 (some w.heap.size) → K (tt.t, decide (RuleP tt ∧ lineL tt = l), ()) w7 := by
      intro w6 tt m hb6 _ _ hx w7 hg
      refine hk tt _ w7 (hb6.grown hg hb6.size (fun g hg => by simp only [Option.some.injEq] at hg; omega)) (fun h => by simpa using h) fun x hp e => ?_
      have := hx x hp e
      subst this
      exact ⟨by simp [hp, e], rfl⟩
    refine And.intro (fun h6 => ?_) (fun h6 => ?_)
    · have h6 : zs.length = 6 := by simp at h6; omega
      have o5 : OwnS kS 9 w1.heap.size w5 t7 (zs.map bs) := (o2.below hs).kept g5 (fun g hg e => by simp only [Option.some.injEq] at hg; have := (o2.blk e).2; omega)
      refine wordAt o5 (i := 5) (by omega) (by omega) rfl fun a ha => ?_
      refine wordLd ha (spec.l1Num.t (by have := hzl 5; exact Nat.le_trans this (by omega)) fun v hv => ?_)
      refine stB c5 rfl (by simp [Rule.cs]) fun w6 g6 s6 c6 => ?_
      have c6 : w6.heap[b]? = some (bR ⟨t1, t2, t3, t4, v⟩) := c6
      have cz6 := heapG cz5 g6 (fun e => by simp only [Option.some.injEq] at e; omega)
      have B6 : Below w.heap.size w w6 := B5.grown g6 B5.size (fun g hg => by simp only [Option.some.injEq] at hg; omega)
      refine l9Tail (by omega) c6 cz6 (by omega) (fin B6 c6 cz6 fun x hx e => ?_)
      obtain ⟨k1, k2, k3, k4, k5, k6⟩ := known x hx e
      have hv2 : x.verdict = 2 := by
        by_cases h : x.verdict = 2
        · exact h
        · rw [if_neg h] at k6; omega
      have k7 := num1 hv hx.2.2.2.2.1.1 hx.2.2.2.2.1.2 (k5 hv2)
      rcases x with ⟨x0, x1, x2, x3, x4⟩
      simp only at k1 k2 k3 k4 k7
      rw [k1, k2, k3, k4, k7]
    · have h6 : zs.length = 5 := by simp at h6; omega
      refine l9Tail (by omega) c5 cz5 (by omega) (fin B5 c5 cz5 fun x hx e => ?_)
      obtain ⟨k1, k2, k3, k4, k5, k6⟩ := known x hx e
      have hv2 : x.verdict ≠ 2 := by
        intro h
        rw [if_pos h] at k6; omega
      have k7 := hx.2.2.2.2.2.resolve_right hv2
      rcases x with ⟨x0, x1, x2, x3, x4⟩
      simp only at k1 k2 k3 k4 k7
      rw [k1, k2, k3, k4, q5, k7]
end
end Go.Proofs.YtkkdboimkbcfnaaDoor.V

/- Contracts: a rule is read, in the program. -/
namespace Go.Proofs.YtkkdboimkbcfnaaDoor.V
open Go Go.RowKit
set_option linter.unusedVariables false
set_option linter.unusedSimpArgs false
section
variable {w : World}
theorem sliceOps {b : Nat} (h : w.heap[b]? = some (.cells (Tup.cells (R 21 .s) opT).toArray 87 (0, 0))) {K : Sl → World → Prop} (hk : ∀ s, SlR kS w s (opW.map bs) → K s w) :
    RunT (.o (.lf .sl)) P0 (Instr.sliceAt 87 (.pointer (some ⟨b, 0, none⟩)) none none none) w K := by
  have hs : szOf P0 9 = some 1 := by kernel_rfl
  refine ⟨⟨some ⟨b, 0, none⟩, 21, 21⟩, w, ?_, hk _ ⟨by simp [opW], by simp, by simp [maxLen], .inr ⟨b, 0, rfl, fun i x hx m v hv => ?_⟩⟩⟩
  · simp [Instr.sliceAt, underlying, uOps, Instr.sureAddr, Instr.sliceBounds, run_sizeOf hs, Rs.emb, Ty.emb, Lf.emb, Sl.v, Addr.add]
  · rw [List.getElem?_map] at hx
    obtain ⟨y, hy, rfl⟩ := Option.map_eq_some_iff.1 hx
    have hm : m = 0 := by
      cases m with
      | zero => rfl
      | succ m => simp [kS, Kd.cells, Tup.cells] at hv
    subst hm
    have e : 0 + i * kS.ls.length + 0 = i := by show 0 + i * 1 + 0 = i; omega
    rw [e, cell_of h, opT_cells]
    have hv2 : v = Value.string (bs y) := by simpa [kS, Kd.cells, Tup.cells, Lf.emb] using hv.symm
    simp [hy, hv2]
set_option maxHeartbeats 4000000 in
theorem impl.readRule.t {l : By} {K : Tup (R 5 (.i .i64)) × Bool × Unit → World → Prop} (ht : Te w) (hl : l.length ≤ 1048576)
    (hk : ∀ (r : Rule) ok w', Below w.heap.size w w' → (∀ x, RuleP x → l = lineL x → ok = true ∧ r = x) → K (r.t, ok, ()) w') : CallT (.n [(.ag (R 5 (.i .i64))), (.lf .b)]) P0 38 [.string (bs l)] w K := by
  refine impl.readRule.ok (nwRz fun w1 b1 s1 c1 => ?_)
  refine split.c (c := 32) (ht.below b1) (by omega) fun t8 zs w2 b2' o2 hzn hzl hzw => ?_
  have b2 := b1.trans (b2'.mono b1.size)
  have c2 := (b2'.block _ (by omega)).trans c1
  have hn := o2.len
  have hnx : ∀ x, RuleP x → l = lineL x → zs = (wordsR x).map bs := fun x hx e => hzw (wordsR x) (wordsR_ne x) (words_no hx (by decide)) e
  refine impl.within.c (And.intro (fun h => ?_) (fun h => ?_))
  · refine stR (y := rule0) c2 fun w3 g3 s3 c3 => ldR c3 ?_
    refine hk rule0 false w3 (b2.grown g3 b2.size (fun g hg => by simp only [Option.some.injEq] at hg; omega)) fun x hx e => ?_
    exfalso
    have h1 := congrArg List.length (hnx x hx e)
    rw [List.length_map, wordsR_len] at h1
    simp at h
    split at h1 <;> omega
  · have h5 : 5 ≤ zs.length ∧ zs.length ≤ 6 := by simp at h; omega
    refine impl.opWords.t fun w3 b3' => ?_
    have b3 := b2.trans (b3'.mono b2.size)
    rw [zOps]
    refine nw fun w4 b4' s4 c4 => ?_
    have b4 := b3.trans (b4'.mono b3.size)
    obtain ⟨w5, hr, hg, hsz, hh⟩ := run_storeCells_at' P0 (b := w3.heap.size) (t := 87) (Tup.cells (R 21 .s) opT) 0 [] (Tup.cells (R 21 .s) op0) w4 (by rw [opT_cells]; intro v hv; simp only [List.mem_map] at hv; obtain ⟨x, _, rfl⟩ := hv; rfl) rfl rfl (by simpa using c4)
    refine ⟨w5, hr, ?_⟩
    have hh : w5.heap[w3.heap.size]? = some (.cells (Tup.cells (R 21 .s) opT).toArray 87 (0, 0)) := hh
    have hw2 := b2.size
    have hw3 := b3'.size
    have B5 : Below w.heap.size w w5 := b4.grown hg b4.size (fun g hg => by simp only [Option.some.injEq] at hg; omega)
    have hlt2 : w.heap.size < w2.heap.size := (Array.getElem?_eq_some_iff.1 c2).1
    have k5 : ∀ {g : Nat} {o : Obj}, w2.heap[g]? = some o → w5.heap[g]? = some o := fun {g o} hgo => by
      have hgl := (Array.getElem?_eq_some_iff.1 hgo).1
      exact heapG (((b4'.block _ (by omega)).trans ((b3'.block _ hgl).trans hgo))) hg (fun e => by simp only [Option.some.injEq] at e; omega)
    have c5 := k5 c2
    have o5 : OwnS kS 9 w1.heap.size w5 t8 zs := ((o2.below b3').below b4').kept hg (fun g hg e => by simp only [Option.some.injEq] at hg; have := (o2.blk e).2; omega)
    have hz : ∀ i : Nat, i < zs.length → zs[i]? = some (zs.getD i (bs [])) := fun i hi => by
      obtain ⟨x, hx⟩ := get_some (l := zs) (k := i) hi
      rw [List.getD_eq_getElem?_getD, hx]; rfl
    let z (i : Nat) : By := (zs.getD i (bs [])).data.toList
    have hzi : ∀ i, zs.getD i (bs []) = bs (z i) := fun i => (bs_of _).symm
    have hzs : ∀ i, i < zs.length → (z i).length ≤ 1048576 := fun i hi => by
      have h1 := hzl _ (List.mem_of_getElem? (hz i hi))
      have : (z i).length = (zs.getD i (bs [])).size := Array.length_toList
      omega
    refine ⟨StR, stOk w5, AtW [.string (bs (z 1))], keptAw, eqG (bs (z 1)), keptE, eqG (numA (z 1)), keptE, fun s w' => SlR kS w' s (opW.map bs), keptSl,
      AtW [.string (bs (z 2))], keptAw, eqG (bs (z 2)), keptE, eqG (Lib.idxOfS (opW.map bs) (bs (z 2))), keptE, AtW [.string (bs (z 3))], keptAw, eqG (bs (z 3)), keptE, eqG (numA (z 3)), keptE, fun s w' => OwnS kS 9 0 w' s (vW.map bs), keptOw,
      AtW [.string (bs (z 4))], keptAw, eqG (bs (z 4)), keptE, eqG (Lib.idxOfS (vW.map bs) (bs (z 4))), keptE,
      eqG (numA (z 1), Lib.idxOfS (opW.map bs) (bs (z 2)), numA (z 3), Lib.idxOfS (vW.map bs) (bs (z 4)), 0, ()), keptE,
      fun a w' => ∃ b, a = ⟨b, 0, none⟩ ∧ w5.heap.size ≤ b ∧ w'.heap[b]? = some (bR rule0), ?_, ?_⟩
    · rintro a x y ⟨b, h1, h2, h3⟩ hs
      exact ⟨b, h1, h2, (hs.block b (Array.getElem?_eq_some_iff.1 h3).1).trans h3⟩
    have wd : ∀ {w' : World} (i : Nat), i < zs.length → OwnS kS 9 w1.heap.size w' t8 zs → ∀ {K : Addr → World → Prop}, (∀ a, AtW [.string (bs (z i))] a w' → K a w') → Ix t8.a t8.n (i : Int) 1 w' K := by
      intro w' i hi ho K hK
      have hm := hz i hi
      refine ixRb ho.read (by omega) (x := zs.getD i (bs [])) (by simpa using hm) rfl fun b o hb hA => hK _ ⟨b, o, rfl, bk_lt ho.read hm (v := .string (zs.getD i (bs []))) rfl hb, ?_⟩
      rw [← hzi]; exact hA
    have wg : ∀ {w' : World} (i : Nat), i < zs.length → StR w5 w' → Ix t8.a t8.n (i : Int) 1 w' fun a w'' => GK (.o (.lf .ad)) StR w' (AtW [.string (bs (z i))]) (.pointer (some a)) w'' := fun {w'} i hi hs =>
      wd i hi (o5.below hs) fun a ha => ⟨a, rfl, Below.refl _ _, ha⟩
    have ht5 := ht.below B5
    refine ⟨fun w' hs => wg 1 (by omega) hs, fun t18 => ⟨fun w' hs f => wordLd f (gkE rfl (Below.refl _ _)), fun t19 => ⟨fun w' hs f => ?_, fun t20 => ⟨fun w' hs => ?_, fun t21 => ⟨fun w' hs => wg 2 (by omega) hs, fun t23 => ⟨fun w' hs f => wordLd f (gkE rfl (Below.refl _ _)), fun t24 => ⟨fun w' hs f21 f24 => ?_, fun t25 => ⟨fun w' hs => wg 3 (by omega) hs, fun t27 => ⟨fun w' hs f => wordLd f (gkE rfl (Below.refl _ _)), fun t28 => ⟨fun w' hs f => ?_, fun t29 => ⟨fun w' hs => impl.verdictWords.t fun s w'' hb ho => ⟨s, rfl, hb, ho.low (Nat.zero_le _)⟩, fun t30 => ⟨fun w' hs => wg 4 (by omega) hs, fun t32 => ⟨fun w' hs f => wordLd f (gkE rfl (Below.refl _ _)), fun t33 => ⟨fun w' hs f30 f33 => ?_, fun t34 => ⟨fun w' hs f20 f25 f29 f34 => ?_, fun t35 => ⟨fun w' hs => nwRz fun w'' hb _ hc => ⟨_, rfl, hb, w'.heap.size, rfl, hs.size, hc⟩, fun a w6 hs _ _ _ _ _ _ _ _ _ _ _ _ _ _ f35 fr => ?_⟩⟩⟩⟩⟩⟩⟩⟩⟩⟩⟩⟩⟩⟩⟩⟩
    · cases f; exact impl.number.c (ht5.below hs) (by have := hzs 1 (by omega); omega) fun w'' hb => gkE rfl hb
    · exact sliceOps ((hs.block _ (Array.getElem?_eq_some_iff.1 hh).1).trans hh) fun s hS => ⟨s, rfl, Below.refl _ _, hS⟩
    · cases f24; exact index.c f21 (gkE rfl (Below.refl _ _))
    · cases f; exact impl.number.c (ht5.below hs) (by have := hzs 3 (by omega); omega) fun w'' hb => gkE rfl hb
    · cases f33; exact index.c f30.read (gkE rfl (Below.refl _ _))
    · cases f20; cases f25; cases f29; cases f34
      exact gkE rfl (Below.refl _ _)
    · obtain ⟨b, rfl, hbw, cb⟩ := fr
      cases f35
      have hs : Below w5.heap.size w5 w6 := hs
      have h5l : w.heap.size < w5.heap.size := (Array.getElem?_eq_some_iff.1 c5).1
      have c6 := (hs.block _ h5l).trans c5
      have B6 := B5.trans (hs.mono B5.size)
      have num : ∀ n : Int, 0 ≤ n → n ≤ 4294967295 → numA (Lib.itoa n) = n := fun n h0 h1 => by rw [itoa_fig h0, numA_dec (by omega)]; omega
      have known : ∀ x, RuleP x → l = lineL x → numA (z 1) = x.at_ ∧ Lib.idxOfS (opW.map bs) (bs (z 2)) = x.op ∧ numA (z 3) = x.num ∧ Lib.idxOfS (vW.map bs) (bs (z 4)) = x.verdict ∧ (x.verdict = 2 → numA (z 5) = x.key) ∧ (if x.verdict = 2 then zs.length = 6 else zs.length = 5) := by
        intro x hx e
        have hw := hnx x hx e
        have hlen := congrArg List.length hw
        rw [List.length_map, wordsR_len] at hlen
        have e1 : z 1 = Lib.itoa x.at_ := by show (zs.getD 1 (bs [])).data.toList = _; rw [hw]; rfl
        have e2 : z 2 = opA x.op := by show (zs.getD 2 (bs [])).data.toList = _; rw [hw]; rfl
        have e3 : z 3 = Lib.itoa x.num := by show (zs.getD 3 (bs [])).data.toList = _; rw [hw]; rfl
        have e4 : z 4 = vA x.verdict := by show (zs.getD 4 (bs [])).data.toList = _; rw [hw]; rfl
        refine ⟨by rw [e1]; exact num _ hx.1.1 (by have := hx.1; omega), by rw [e2]; exact opIdx hx.2.1, by rw [e3]; exact num _ hx.2.2.1.1 (by have := hx.2.2.1; omega), by rw [e4]; exact vIdx hx.2.2.2.1, fun hv => ?_, by split <;> rename_i hv <;> simp [hv] at hlen <;> omega⟩
        have e5 : z 5 = Lib.itoa x.key := by show (zs.getD 5 (bs [])).data.toList = _; rw [hw]; simp [wordsR, hv, bs]
        rw [e5]; exact num _ hx.2.2.2.2.1.1 hx.2.2.2.2.1.2
      refine stR (m := rule0) (y := ⟨numA (z 1), Lib.idxOfS (opW.map bs) (bs (z 2)), numA (z 3), Lib.idxOfS (vW.map bs) (bs (z 4)), 0⟩) cb fun w7 g7 s7 c7 => ?_
      have cz7 := heapG c6 g7 (fun e => by simp only [Option.some.injEq] at e; omega)
      have B7 : Below w.heap.size w w7 := B6.grown g7 B6.size (fun g hg => by simp only [Option.some.injEq] at hg; omega)
      have fin : ∀ {w8 : World} {tt m : Rule}, Below w.heap.size w w8 → w8.heap[b]? = some (bR tt) → w8.heap[w.heap.size]? = some (bR m) → (∀ x, RuleP x → l = lineL x → tt = x) →
          LdA (R 5 (.i .i64)) ⟨b, 0, none⟩ w8 fun (t42 : Tup (R 5 (.i .i64))) w9 => StA P0 ⟨w.heap.size, 0, none⟩ (Tup.cells (R 5 (.i .i64)) t42) w9 fun w10 => LdA (R 5 (.i .i64)) ⟨w.heap.size, 0, none⟩ w10 fun r_2 w11 => K (r_2, (true, ())) w10 := by
        intro w8 tt m hb8 hbx hcx hx
        refine ldR hbx (stR hcx fun w9 g9 s9 c9 => ldR c9 ?_)
        exact hk tt true w9 (hb8.grown g9 hb8.size (fun g hg => by simp only [Option.some.injEq] at hg; omega)) fun x hp e => ⟨rfl, hx x hp e⟩
      refine And.intro (fun h6 => ?_) (fun h6 => ?_)
      · have h6 : zs.length = 6 := by simp at h6; omega
        have o7 : OwnS kS 9 w1.heap.size w7 t8 zs := (o5.below hs).kept g7 (fun g hg e => by simp only [Option.some.injEq] at hg; have := (o5.blk e).2; omega)
        refine wd 5 (by omega) o7 fun a ha => ?_
        refine wordLd ha (impl.number.c ((ht.below B7)) (by have := hzs 5 (by omega); omega) fun w8 b8 => ?_)
        have c8 := (b8.block _ (Array.getElem?_eq_some_iff.1 c7).1).trans c7
        have cz8 := (b8.block _ (Array.getElem?_eq_some_iff.1 cz7).1).trans cz7
        have B8 := B7.trans (b8.mono B7.size)
        refine stB c8 rfl (by simp [Rule.cs]) fun w9 g9 s9 c9 => ?_
        have c9 : w9.heap[b]? = some (bR ⟨numA (z 1), Lib.idxOfS (opW.map bs) (bs (z 2)), numA (z 3), Lib.idxOfS (vW.map bs) (bs (z 4)), numA (z 5)⟩) := c9
        have cz9 := heapG cz8 g9 (fun e => by simp only [Option.some.injEq] at e; omega)
        have B9 : Below w.heap.size w w9 := B8.grown g9 B8.size (fun g hg => by simp only [Option.some.injEq] at hg; omega)
        refine fin B9 c9 cz9 fun x hx e => ?_
        obtain ⟨k1, k2, k3, k4, k5, k6⟩ := known x hx e
        have hv2 : x.verdict = 2 := by
          by_cases h : x.verdict = 2
          · exact h
          · rw [if_neg h] at k6; omega
        have k7 := k5 hv2
        rw [k1, k2, k3, k4, k7]
      · have h6 : zs.length = 5 := by simp at h6; omega
        refine fin B7 c7 cz7 fun x hx e => ?_
        obtain ⟨k1, k2, k3, k4, k5, k6⟩ := known x hx e
        have hv2 : x.verdict ≠ 2 := by
          intro h
          rw [if_pos h] at k6; omega
        have k7 := hx.2.2.2.2.2.resolve_right hv2
        rw [k1, k2, k3, k4]
        rcases x with ⟨x0, x1, x2, x3, x4⟩
        simp only at k7
        rw [k7]
end
end Go.Proofs.YtkkdboimkbcfnaaDoor.V

/- Contracts: rules are read, on both sides. -/
namespace Go.Proofs.YtkkdboimkbcfnaaDoor.V
open Go Go.RowKit
set_option linter.unusedVariables false
set_option linter.unusedSimpArgs false
theorem own_ty {α : Type} {k : Kd α} {t : TypeId} {B g : Nat} {w : World} {s : Sl} {xs : List α} (h : OwnS k t B w s xs) (hg : (Value.slice s.a s.n s.c).ownBlock = some g) : ∃ cur, w.heap[g]? = some (.cells cur t (0, 0)) := by
  rcases h.2.2 with ⟨hv, h0⟩ | ⟨g', cap, cur, hv, hB, hg', r⟩
  · rw [hv] at hg; simp [Value.ownBlock] at hg
  · rw [hv] at hg
    have : g' = g := by simpa [Value.ownBlock] using hg
    subst this
    exact ⟨cur, hg'⟩
theorem own_ne {α β : Type} {k : Kd α} {k' : Kd β} {t t' : TypeId} {B B' g : Nat} {w : World} {s s' : Sl} {xs : List α} {ys : List β} (h : OwnS k t B w s xs) (h' : OwnS k' t' B' w s' ys) (ht : t ≠ t') (hg : (Value.slice s.a s.n s.c).ownBlock = some g) : (Value.slice s'.a s'.n s'.c).ownBlock ≠ some g := fun e => by
  obtain ⟨c1, e1⟩ := own_ty h hg
  obtain ⟨c2, e2⟩ := own_ty h' e
  rw [e1] at e2
  simp only [Option.some.injEq, Obj.cells.injEq] at e2
  exact ht e2.2.1
theorem tRS : (53 : TypeId) ≠ 9 := by decide
section
variable {w : World} {l : By}
theorem eqEmpty {l : By} : (ByteArray.toList (bs l) == ByteArray.toList (⟨#[]⟩ : ByteArray)) = decide (l = []) := by
  rw [bs_toList, show (⟨#[]⟩ : ByteArray) = bs [] from rfl, bs_toList, Bool.eq_iff_iff]; simp
set_option maxHeartbeats 2000000 in
theorem spec.RulesGet.t {K : Sl × Bool × Unit → World → Prop} (hl : l.length ≤ 1048576)
    (hk : ∀ s ok w' out, Below w.heap.size w w' → SlR kRule w' s out → (ok = true → RulesP out ∧ textL out = l) → (ok = false → out = [] ∧ ∀ L, RulesP L → textL L ≠ l) → K (s, ok, ()) w') :
    CallT (.n [(.lf .sl), (.lf .b)]) P0 15 [.string (bs l)] w K := by
  refine spec.RulesGet.ok (nw fun w1 b1 s1 c1 => ?_)
  have o1 : OwnS kRule 53 w.heap.size w1 ⟨some ⟨w.heap.size, 0, none⟩, 0, 0⟩ [] := OwnS.lit (k := kRule) (B := w.heap.size) (xs := []) (n := 0) (Nat.le_refl _) c1 rfl rfl (by simp)
  rw [eqEmpty, bs_size]
  have noK : ∀ {w' : World}, Below w.heap.size w w' → (∀ L, RulesP L → textL L ≠ l) → K (⟨none, 0, 0⟩, (false, ())) w' := fun hb h => hk _ false _ [] hb (SlR.nil _ _) (fun h => by simp at h) (fun _ => ⟨rfl, h⟩)
  refine And.intro (fun h => ?_) (fun h => ?_)
  · have h : l = [] := by simpa using h
    subst h
    exact hk _ true w1 [] b1 o1.read (fun _ => ⟨⟨by simp, by simp⟩, rfl⟩) (fun h => by simp at h)
  · have h : l ≠ [] := by simpa using h
    have hpos := List.length_pos_iff.2 h
    have ew : IntKind.wrap .i64 ((l.length : Int) - 1) = ((l.length - 1 : Nat) : Int) := by rw [i64_of (by omega) (by omega)]; omega
    rw [ew]
    obtain ⟨c, hc⟩ := get_some (l := l) (k := l.length - 1) (by omega)
    have hlast : l.getLast? = some c := by rw [List.getLast?_eq_getElem?]; exact hc
    refine sxB (by omega) (by simpa using hc) (And.intro (fun hne => noK b1 fun L hp he => ?_) (fun heq => ?_))
    · have hL : L ≠ [] := fun e => h (by rw [← he, e]; rfl)
      have := text_last hL
      rw [he, hlast] at this
      simp only [Option.some.injEq] at this
      subst this
      simp at hne
    · have hc10 : c = 10 := by apply UInt8.toNat_inj.1; simp at heq; show c.toNat = 10; omega
      subst hc10
      have hdl : l.dropLast ++ [10] = l := by
        have := List.dropLast_concat_getLast h
        have e : l.getLast h = 10 := by rw [List.getLast?_eq_some_getLast h] at hlast; simpa using hlast
        rw [e] at this; exact this
      refine slS (lo := none) (hi := some ((l.length - 1 : Nat) : Int)) (f := 0) (k := l.length - 1) rfl rfl (by omega) (by omega) ?_
      have ed : (l.drop 0).take (l.length - 1 - 0) = l.dropLast := by rw [List.dropLast_eq_take]; rfl
      rw [ed]
      refine spec.l1Cut.t (c := 10) (most := l.length) (by simp; omega) (by omega) fun t26 w2 b2' o2 => ?_
      have b2 := b1.trans (b2'.mono b1.size)
      have hn := o2.len
      rw [List.length_map] at hn
      have hjoin := join_cut 10 l.length l.dropLast
      have hL : ∀ L, RulesP L → textL L = l → cutN 10 l.length l.dropLast = L.map lineL := by
        intro L hp he
        have hne : L ≠ [] := fun e => h (by rw [← he, e]; rfl)
        rw [← he]
        exact text_lines hp.2 hne (by
          have : L.length ≤ (textL L).length := by
            have key : ∀ L : List Rule, L.length ≤ (textL L).length := by
              intro L
              induction L with
              | nil => simp
              | cons x xs ih =>
                have e : textL (x :: xs) = (lineL x ++ [10]) ++ textL xs := rfl
                rw [e]; simp; omega
            exact key L
          omega)
      have hzl : ∀ z ∈ cutN 10 l.length l.dropLast, z.length ≤ 1048576 := by
        have key : ∀ (k : Nat) (l y : By), y ∈ cutN 10 k l → y.length ≤ l.length := by
          intro k
          induction k with
          | zero => intro l y hy; simp [cutN] at hy; rw [hy]; exact Nat.le_refl _
          | succ k ih =>
            intro l y hy
            unfold cutN at hy
            cases hh : cut1 10 l with
            | none => rw [hh] at hy; simp at hy; rw [hy]; exact Nat.le_refl _
            | some p =>
              obtain ⟨a, b⟩ := p
              rw [hh] at hy
              have he := (cut1_some hh).1
              rcases List.mem_cons.1 hy with e | e
              · rw [e, he]; simp
              · have := ih _ _ e
                rw [he]; simp; omega
        intro z hz
        have := key _ _ _ hz
        simp at this; omega
      have hzn : (cutN 10 l.length l.dropLast).length ≤ l.length + 1 := by
        have key : ∀ (k : Nat) (l : By), (cutN 10 k l).length ≤ k + 1 := by
          intro k
          induction k with
          | zero => intro l; simp [cutN]
          | succ k ih =>
            intro l
            unfold cutN
            split
            · simp
            · simp; exact ih _
        exact key _ _
      have hzne : cutN 10 l.length l.dropLast ≠ [] := by cases l.length with | zero => simp [cutN] | succ k => unfold cutN; split <;> simp
      generalize cutN 10 l.length l.dropLast = zs at hn o2 hjoin hL hzl hzn hzne
      refine ⟨fun out i w' => ∃ ys : List Rule, i = (ys.length : Int) ∧ ys.length ≤ zs.length ∧ ys.length ≤ 6 ∧ (∀ y ∈ ys, RuleP y) ∧ zs.take ys.length = ys.map lineL ∧ OwnS kRule 53 w.heap.size w' out ys ∧ OwnS kS 9 w1.heap.size w' t26 (zs.map bs) ∧ Below w.heap.size w w',
        fun _ i _ => zs.length - i.toNat, ⟨[], rfl, by simp, by simp, by simp, by simp, o1.below b2', o2, b2⟩, ?_⟩
      rintro out i w3 ⟨ys, rfl, hy1, hy6, hyp, htk, o3, q3, b3⟩ _
      refine And.intro (fun hlt => ?_) (fun hge => ?_)
      · simp only [decide_eq_true_eq] at hlt
        obtain ⟨z, hz⟩ := get_some (l := zs) (k := ys.length) (by omega)
        have hzm : (zs.map bs)[ys.length]? = some (bs z) := by rw [List.getElem?_map, hz]; rfl
        refine ixL q3.read (i := (ys.length : Int)) (by omega) (x := bs z) (by simpa using hzm) rfl (l := .s) (v := bs z) rfl ?_
        refine spec.l9Read.t (hzl z (List.mem_of_getElem? hz)) fun r ok w4 b4' hok hno => ?_
        have b4 := b3.trans (b4'.mono b3.size)
        have atL : ∀ L, RulesP L → textL L = l → ∃ x, L[ys.length]? = some x ∧ RuleP x ∧ z = lineL x := by
          intro L hp he
          have e := hL L hp he
          rw [e, List.getElem?_map] at hz
          obtain ⟨x, hx, hxe⟩ := Option.map_eq_some_iff.1 hz
          exact ⟨x, hx, hp.2 x (List.mem_of_getElem? hx), hxe.symm⟩
        refine nwStRule (x := r) fun w5 b5' s5 c5 => ?_
        have b5 := b4.trans (b5'.mono b4.size)
        refine And.intro (fun h1 => noK b5 fun L hp he => ?_) (fun h1 => And.intro (fun h2 => noK b5 fun L hp he => ?_) (fun h2 => ?_))
        · obtain ⟨x, _, hxp, hxe⟩ := atL L hp he
          have := (hno x hxp hxe).1
          rw [this] at h1; simp at h1
        · simp only [decide_eq_true_eq] at h2
          have e := hL L hp he
          have := hp.1
          have h3 := congrArg List.length e
          rw [List.length_map] at h3
          omega
        · simp only [decide_eq_false_iff_not] at h2
          have hok1 : ok = true := by simpa using h1
          obtain ⟨hrp, hrl⟩ := hok hok1
          refine ldAB c5 (x := r.t) rfl ?_
          have o5 := (o3.below b4').below b5'
          refine ap1 elRule o5 r rfl (by omega) (by omega) b5.size fun out2 w6 o6 g6 _ => ?_
          have B6 : Below w.heap.size w w6 := b5.grown g6 b5.size (fun g hg => (o5.blk hg).1)
          have q5 := (q3.below b4').below b5'
          have q6 := q5.kept g6 (fun g hg e => own_ne o5 q5 tRS hg e)
          have ei : IntKind.wrap .i64 ((ys.length : Int) + 1) = ((ys.length + 1 : Nat) : Int) := by rw [i64_of (by omega) (by omega)]; omega
          rw [ei]
          refine ⟨⟨ys ++ [r], by simp, by simp; omega, by simp; omega, ?_, ?_, o6, q6, B6⟩, by simp only [Int.toNat_natCast]; omega⟩
          · intro y hy
            rcases List.mem_append.1 hy with hy | hy
            · exact hyp y hy
            · simp only [List.mem_singleton] at hy; subst hy; exact hrp
          · rw [List.length_append, List.length_cons, List.length_nil, Nat.zero_add, List.take_add_one, hz, htk, List.map_append]
            simp [hrl]
      · simp only [decide_eq_false_iff_not] at hge
        have hfull : ys.length = zs.length := by omega
        rw [hfull, List.take_length] at htk
        have hyn : ys ≠ [] := fun e => hzne (by rw [htk, e]; rfl)
        refine hk out true w3 ys b3 o3.read (fun _ => ⟨⟨hy6, hyp⟩, ?_⟩) (fun h => by simp at h)
        rw [text_join hyn, ← htk, hjoin, hdl]
theorem slices.ClipR.c {s : Sl} (hc : s.n ≤ s.c) {K : Sl → World → Prop} (hk : K ⟨s.a, s.n, s.n⟩ w) : CallT (.o (.lf .sl)) P0 39 [s.v] w K :=
  slices.Clip_Rule.ok ⟨⟨s.a, s.n, s.n⟩, w, run_clip (e := 53) (sz := 5) (by kernel_rfl) (by kernel_rfl) hc, hk⟩
theorem WrS.clipR {B : Nat} {s : Sl} {xs : List Rule} {t : TypeId} (h : WrS kRule t B w s xs) : WrS kRule t B w ⟨s.a, s.n, s.n⟩ xs :=
  ⟨h.1, Nat.le_refl _, Nat.le_trans h.2.1 h.2.2.1, h.2.2.2⟩
set_option maxHeartbeats 2000000 in
theorem impl.RulesGet.t {K : Sl × Bool × Unit → World → Prop} (ht : Tb w) (hte : Te w) (hl : l.length ≤ 1048576)
    (hk : ∀ s ok w' out, Below w.heap.size w w' → WrS kRule 53 w.heap.size w' s out → (ok = true → RulesP out ∧ textL out = l) → (ok = false → out = [] ∧ ∀ L, RulesP L → textL L ≠ l) → K (s, ok, ()) w') :
    CallT (.n [(.lf .sl), (.lf .b)]) P0 13 [.string (bs l)] w K := by
  refine impl.RulesGet.ok (nw fun w1 b1 s1 c1 => ?_)
  have o1 : OwnS kRule 53 w.heap.size w1 ⟨some ⟨w.heap.size, 0, none⟩, 0, 0⟩ [] := OwnS.lit (k := kRule) (B := w.heap.size) (xs := []) (n := 0) (Nat.le_refl _) c1 rfl rfl (by simp)
  have noK : ∀ {w' : World}, Below w.heap.size w w' → (∀ L, RulesP L → textL L ≠ l) → K (⟨none, 0, 0⟩, (false, ())) w' := fun hb h => hk _ false _ [] hb (WrS.nil _ _ _ _) (fun h => by simp at h) (fun _ => ⟨rfl, h⟩)
  refine ⟨fun list w' => ∃ ys : List Rule, ys.length ≤ 7 ∧ (∀ L, RulesP L → textL L = l → ys = L) ∧ OwnS kRule 53 w.heap.size w' list ys ∧ Below w.heap.size w w', ?_, ?_⟩
  · refine ⟨fun list rest w' => ∃ (ys : List Rule) (m : By), rest = bs m ∧ m.length ≤ l.length ∧ ys.length ≤ 7 ∧ (∀ L, RulesP L → textL L = l → ∃ k, k ≤ L.length ∧ ys = L.take k ∧ m = textL (L.drop k)) ∧ OwnS kRule 53 w.heap.size w' list ys ∧ Below w.heap.size w w',
      fun _ rest _ => rest.size, ⟨[], l, rfl, Nat.le_refl _, by simp, fun L _ he => ⟨0, by simp, by simp, by simpa using he.symm⟩, o1, b1⟩, ?_⟩
    rintro list rest w2 ⟨ys, m, rfl, hm, hy7, hL, o2, b2⟩ _
    have hn := o2.len
    have fin : (m = [] ∨ ys.length = 7) → ∀ L, RulesP L → textL L = l → ys = L := by
      intro h L hp he
      obtain ⟨k, hk1, hk2, hk3⟩ := hL L hp he
      have hlen := hp.1
      rcases h with h | h
      · have hd : L.drop k = [] := by
          refine Classical.byContradiction fun hne => ?_
          exact text_ne hne (by rw [← hk3, h])
        rw [hk2]
        exact List.take_of_length_le (List.drop_eq_nil_iff.1 hd)
      · rw [hk2, List.length_take] at h; omega
    rw [eqEmpty]
    refine ⟨fun w' => w' = w2 ∧ m ≠ [] ∧ ys.length ≤ 6, And.intro (fun h => And.intro (fun h2 => ⟨rfl, by simpa using h, ?_⟩) (fun h2 => ⟨ys, hy7, fin (.inr ?_), o2, b2⟩)) (fun h => ⟨ys, hy7, fin (.inl (by simpa using h)), o2, b2⟩), ?_⟩
    · simp only [decide_eq_true_eq] at h2; omega
    · simp only [decide_eq_false_iff_not] at h2; omega
    rintro w3 ⟨rfl, hne, hy6⟩ _
    refine cut.c (c := 10) (hte.below b2) (by omega) fun w4 b4' => ?_
    have b4 := b2.trans (b4'.mono b2.size)
    have hc1 := cut_len1 m 10
    have hc2 := cut_len m 10 hne
    refine impl.readRule.t (hte.below b4) (by omega) fun r ok w5 b5' hrd => ?_
    have b5 := b4.trans (b5'.mono b4.size)
    have atL : ∀ L, RulesP L → textL L = l → ∃ x, L[ys.length]? = some x ∧ ok = true ∧ r = x ∧ (Lib.cut m [10]).2.1 = textL (L.drop (ys.length + 1)) ∧ ys = L.take ys.length := by
      intro L hp he
      obtain ⟨k, hk1, hk2, hk3⟩ := hL L hp he
      have hkl : ys.length = k := by rw [hk2, List.length_take]; omega
      have hkL : k < L.length := by
        refine Classical.byContradiction fun h => hne ?_
        rw [hk3, List.drop_eq_nil_of_le (by omega)]; rfl
      obtain ⟨x, hx⟩ := get_some (l := L) (k := k) hkL
      have hxp := hp.2 x (List.mem_of_getElem? hx)
      have hmx : m = lineL x ++ 10 :: textL (L.drop (k + 1)) := by rw [hk3, text_drop hx]
      have hcut := cut_cut (b := textL (L.drop (k + 1))) (line_no hxp)
      rw [← hmx] at hcut
      obtain ⟨h1, h2⟩ := hrd x hxp (by rw [hcut])
      exact ⟨x, by rw [hkl]; exact hx, h1, h2, by rw [hcut, hkl], by rw [hkl]; exact hk2⟩
    refine nwStRule (x := r) fun w6 b6' s6 c6 => ?_
    have b6 := b5.trans (b6'.mono b5.size)
    refine And.intro (fun h1 => noK b6 fun L hp he => ?_) (fun h1 => ?_)
    · obtain ⟨x, _, h2, _⟩ := atL L hp he
      rw [h2] at h1; simp at h1
    · refine ldAB c6 (x := r.t) rfl ?_
      have o6 := ((o2.below b4').below b5').below b6'
      refine ap1 elRule o6 r rfl (by omega) (by omega) b6.size fun out2 w7 o7 g7 _ => ?_
      refine ⟨⟨ys ++ [r], (Lib.cut m [10]).2.1, rfl, by omega, by simp; omega, fun L hp he => ?_, o7, b6.grown g7 b6.size (fun g hg => (o6.blk hg).1)⟩, by show (bs (Lib.cut m [10]).2.1).size < (bs m).size; rw [bs_size, bs_size]; exact hc2⟩
      obtain ⟨x, hx, _, hr, hm2, hys⟩ := atL L hp he
      subst hr
      refine ⟨ys.length + 1, by have := lt_of_get hx; omega, ?_, hm2⟩
      rw [List.take_add_one, hx, ← hys]; rfl
  · rintro list w2 ⟨ys, hy7, hL, o2, b2⟩ _
    refine impl.RulesOk.c o2.read fun w3 b3' => ?_
    have b3 := b2.trans (b3'.mono b2.size)
    refine And.intro (fun h => noK b3 fun L hp he => ?_) (fun h => ?_)
    · have := hL L hp he
      subst this
      simp at h; exact h hp
    · have hp : RulesP ys := by simpa using h
      have hput : putL ys = textL ys := by unfold putL; rw [if_pos hp]
      refine impl.RulesPut.t (ht.below b3) (o2.below b3').read fun w4 b4' => ?_
      have b4 := b3.trans (b4'.mono b3.size)
      rw [hput, bs_toList, bs_toList]
      refine And.intro (fun h2 => noK b4 fun L hp2 he => ?_) (fun h2 => ?_)
      · have := hL L hp2 he
        subst this
        rw [he] at h2; simp at h2
      · have he : textL ys = l := by simpa using h2
        have o4 := (o2.below b3').below b4'
        refine slices.ClipR.c o4.cap.1 ?_
        exact hk _ true w4 ys b4 o4.wr.clipR (fun _ => ⟨hp, he⟩) (fun h => by simp at h)
end
end Go.Proofs.YtkkdboimkbcfnaaDoor.V

/- Contracts: rules are marked; the laws RulesPut and RulesGet (exact). -/
namespace Go.Proofs.YtkkdboimkbcfnaaDoor.V
open Go Go.RowKit
set_option linter.unusedVariables false
set_option linter.unusedSimpArgs false
def markR (k : Int) (i : Nat) : Rule := ⟨k + 5 * i, k + 5 * i + 1, k + 5 * i + 1 + 1, k + 5 * i + 1 + 1 + 1, k + 5 * i + 1 + 1 + 1 + 1⟩
def marksR (k : Int) (n : Nat) : List Rule := (List.range n).map (markR k)
theorem marksR_len (k : Int) (n : Nat) : (marksR k n).length = n := by simp [marksR]
theorem marksR_get (k : Int) {n i : Nat} (h : i < n) : (marksR k n)[i]? = some (markR k i) := by simp [marksR, h]
theorem marksR_succ (k : Int) (n : Nat) : marksR k (n + 1) = marksR k n ++ [markR k n] := by simp [marksR, List.range_succ]
section
variable {w : World} {a b : Sl} {xs ys : List Rule}
theorem laws.markRuleS.c {t : TypeId} {B : Nat} {k : Int} {K : Int → World → Prop} (ha : WrS kRule t B w a xs) (hk0 : 0 ≤ k ∧ k ≤ 1099511627776) (hl : xs.length ≤ 1099511627776)
    (hk : ∀ w', WrS kRule t B w' a (marksR k xs.length) → w.grownBy w' a.bk → K (k + 5 * xs.length) w') : CallT (.o (.lf (.i .i64))) P0 17 [a.v, .int .i64 k] w K := by
  have hna := ha.len
  refine laws.markRuleS.ok ⟨fun k' i w' => ∃ (n : Nat) (zs : List Rule), i = n ∧ k' = k + 5 * n ∧ n ≤ xs.length ∧ zs.length = xs.length - n ∧ WrS kRule t B w' a (marksR k n ++ zs) ∧ w.grownBy w' a.bk, fun _ i _ => xs.length - i.toNat,
    ⟨0, xs, rfl, by omega, by omega, by omega, by simpa [marksR] using ha, grown_refl _ _⟩, ?_⟩
  rintro k' i w1 ⟨n, zs, rfl, rfl, hn, hz, ha1, hg1⟩ _
  refine And.intro (fun hlt => ?_) (fun hge => ?_)
  · simp only [decide_eq_true_eq] at hlt
    simp (disch := omega) only [i64_of]
    have step : ∀ (w2 : World) (l : List Rule) (x : Rule) (j : Nat) (v : Int) (y : Rule) (K : World → Prop), WrS kRule t B w2 a l → l[n]? = some x → w.grownBy w2 a.bk → j < 5 → kRule.cells y = (kRule.cells x).set j (.int .i64 v) →
        (∀ w', WrS kRule t B w' a (l.set n y) → w.grownBy w' a.bk → K w') → Ix a.a a.n n 5 w2 (fun ad w1 => St (Addr.add ad j) (.int .i64 v) w1 K) := by
      intro w2 l x j v y K ha2 hx hg2 hj hf hK
      exact ixStF ha2 (i := n) (by omega) (x := x) (by simpa using hx) rfl hj rfl y hf fun w3 ha3 hg3 hs3 => hK w3 (by simpa using ha3) (grown_trans hg2 hg3)
    match zs, hz with
    | [], hz => simp at hz; omega
    | z :: zs, hz =>
      have hset : ∀ y : Rule, (marksR k n ++ z :: zs).set n y = marksR k n ++ y :: zs := fun y => by
        rw [List.set_append_right _ _ (by rw [marksR_len]; exact Nat.le_refl _), marksR_len, Nat.sub_self, List.set_cons_zero]
      have hset2 : ∀ u y : Rule, (marksR k n ++ u :: zs).set n y = marksR k n ++ y :: zs := fun u y => by
        rw [List.set_append_right _ _ (by rw [marksR_len]; exact Nat.le_refl _), marksR_len, Nat.sub_self, List.set_cons_zero]
      have hget : ∀ u : Rule, (marksR k n ++ u :: zs)[n]? = some u := fun u => by
        rw [List.getElem?_append_right (by rw [marksR_len]; exact Nat.le_refl _), marksR_len, Nat.sub_self]; rfl
      refine step w1 _ z 0 _ { z with at_ := k + 5 * n } _ ha1 (hget z) hg1 (by decide) rfl fun w2 ha2 hg2 => ?_
      rw [hset2] at ha2
      refine step w2 _ _ 1 _ { z with at_ := k + 5 * n, op := k + 5 * n + 1 } _ ha2 (hget _) hg2 (by decide) rfl fun w3 ha3 hg3 => ?_
      rw [hset2] at ha3
      refine step w3 _ _ 2 _ { z with at_ := k + 5 * n, op := k + 5 * n + 1, num := k + 5 * n + 1 + 1 } _ ha3 (hget _) hg3 (by decide) rfl fun w4 ha4 hg4 => ?_
      rw [hset2] at ha4
      refine step w4 _ _ 3 _ { z with at_ := k + 5 * n, op := k + 5 * n + 1, num := k + 5 * n + 1 + 1, verdict := k + 5 * n + 1 + 1 + 1 } _ ha4 (hget _) hg4 (by decide) rfl fun w5 ha5 hg5 => ?_
      rw [hset2] at ha5
      refine step w5 _ _ 4 _ (markR k n) _ ha5 (hget _) hg5 (by decide) rfl fun w6 ha6 hg6 => ?_
      rw [hset2] at ha6
      refine ⟨⟨n + 1, zs, by omega, by omega, by omega, by simp at hz ⊢; omega, ?_, hg6⟩, by omega⟩
      rw [marksR_succ, List.append_assoc]; exact ha6
  · simp only [decide_eq_false_iff_not] at hge
    obtain rfl : n = xs.length := by omega
    have : zs = [] := List.eq_nil_of_length_eq_zero (by omega)
    subst this
    rw [List.append_nil] at ha1
    exact hk _ ha1 hg1
theorem laws.heldRuleS.c {k : Int} {n : Nat} {K : Int → World → Prop} (ha : SlR kRule w a (marksR k n)) (hk0 : 0 ≤ k ∧ k ≤ 1099511627776) (hl : n ≤ 1099511627776)
    (hk : K (k + 5 * n) w) : CallT (.o (.lf (.i .i64))) P0 18 [a.v, .int .i64 k] w K := by
  have hna := ha.len
  rw [marksR_len] at hna
  refine laws.heldRuleS.ok ⟨fun k' i w' => ∃ (m : Nat), i = m ∧ k' = k + 5 * m ∧ m ≤ n ∧ w' = w, fun _ i _ => n - i.toNat, ⟨0, rfl, by omega, by omega, rfl⟩, ?_⟩
  rintro k' i w1 ⟨m, rfl, rfl, hm, rfl⟩ _
  refine And.intro (fun hlt => ?_) (fun hge => ?_)
  · simp only [decide_eq_true_eq] at hlt
    simp (disch := omega) only [i64_of]
    have hx := marksR_get k (n := n) (i := m) (by omega)
    refine ixF ha (i := m) (by omega) (x := markR k m) (by simpa using hx) rfl (l := .i .i64) (j := 0) (v := k + 5 * m) rfl (And.intro (fun hne => by simp at hne) (fun _ => ?_))
    refine ixF ha (i := m) (by omega) (x := markR k m) (by simpa using hx) rfl (l := .i .i64) (j := 1) (v := k + 5 * m + 1) rfl (And.intro (fun hne => by simp at hne) (fun _ => ?_))
    refine ixF ha (i := m) (by omega) (x := markR k m) (by simpa using hx) rfl (l := .i .i64) (j := 2) (v := k + 5 * m + 1 + 1) rfl (And.intro (fun hne => by simp at hne) (fun _ => ?_))
    refine ixF ha (i := m) (by omega) (x := markR k m) (by simpa using hx) rfl (l := .i .i64) (j := 3) (v := k + 5 * m + 1 + 1 + 1) rfl (And.intro (fun hne => by simp at hne) (fun _ => ?_))
    refine ixF ha (i := m) (by omega) (x := markR k m) (by simpa using hx) rfl (l := .i .i64) (j := 4) (v := k + 5 * m + 1 + 1 + 1 + 1) rfl (And.intro (fun hne => by simp at hne) (fun _ => ?_))
    exact ⟨⟨m + 1, by omega, by omega, by omega, rfl⟩, by omega⟩
  · simp only [decide_eq_false_iff_not] at hge
    obtain rfl : m = n := by omega
    exact hk
end
/-- Both readers agree. -/
theorem read_agree {l : By} {o1 o2 : Bool} {x y : List Rule} (h1 : o1 = true → RulesP x ∧ textL x = l) (h2 : o1 = false → x = [] ∧ ∀ L, RulesP L → textL L ≠ l) (h3 : o2 = true → RulesP y ∧ textL y = l) (h4 : o2 = false → y = [] ∧ ∀ L, RulesP L → textL L ≠ l) : o1 = o2 ∧ x = y := by
  cases o1 <;> cases o2
  · exact ⟨rfl, by rw [(h2 rfl).1, (h4 rfl).1]⟩
  · exact absurd (h3 rfl).2 ((h2 rfl).2 y (h3 rfl).1)
  · exact absurd (h1 rfl).2 ((h4 rfl).2 x (h1 rfl).1)
  · exact ⟨rfl, text_inj (h1 rfl).1.2 (h3 rfl).1.2 ((h1 rfl).2.trans (h3 rfl).2.symm)⟩
theorem spec.RulesOk.t {w : World} {s : Sl} {L : List Rule} {K : Bool → World → Prop} (h : SlR kRule w s L) (hk : ∀ w', Below w.heap.size w w' → K (decide (RulesP L)) w') : CallT (.o (.lf .b)) P0 12 [s.v] w K := spec.RulesOk.ok (spec.l9Ok.c h hk)
theorem put_len (L : List Rule) : (putL L).length ≤ 606 := by
  unfold putL
  split
  · rename_i h
    have h1 := text_len h.2
    have h2 := h.1
    omega
  · simp
set_option maxHeartbeats 1000000 in
theorem laws.FnExactRulesGet.pure {w : World} (ht : Tb w) (hte : Te w) (a : ByteArray) (hsz : a.size ≤ 140737488351232) :
    CallT (.o (.lf .b)) P0 4 [.string a] w fun b w' => b = true ∧ Below w.heap.size w w' := by
  rw [← bs_of a]
  generalize a.data.toList = l
  refine laws.FnExactRulesGet.ok (And.intro (fun _ => ⟨rfl, Below.refl _ _⟩) (fun hl => ?_))
  rw [bs_size] at hl
  have hl : l.length ≤ 1048576 := by simp only [decide_eq_false_iff_not] at hl; omega
  refine spec.RulesGet.t hl fun s1 ok1 w1 x b1 r1 h1 h2 => ?_
  refine impl.RulesGet.t (ht.below b1) (hte.below b1) hl fun s2 ok2 w2 y b2' r2 h3 h4 => ?_
  have b2 := b1.trans (b2'.mono b1.size)
  obtain ⟨rfl, rfl⟩ := read_agree h3 h4 h1 h2
  have q2 := r1.below b2'
  refine ⟨fun w' => Below w2.heap.size w2 w', ?_, ?_⟩
  · refine laws.eqRuleS.c r2.read q2 fun w3 b3' => And.intro (fun hc => by simp at hc) (fun _ => And.intro (fun hc => by simp at hc) (fun _ => b3'))
  rintro w3 b3' _
  have b3 := b2.trans (b3'.mono b2.size)
  have r3 := r2.below b3'
  have q3 := q2.below b3'
  have hxl : y.length ≤ 1048576 := by
    cases ok2 with
    | true => have := (h1 rfl).1.1; omega
    | false => rw [(h2 rfl).1]; simp
  refine laws.markRuleS.c (k := 1) r3 (by omega) (by omega) fun w4 r4 g4 => ?_
  have hblk : ∀ g, s2.bk = some g → w1.heap.size ≤ g := fun g hg => (r3.blk hg).1
  have hlt : ∀ {i : Nat} {z : Rule} {g : Nat}, y[i]? = some z → s1.bk = some g → g < w1.heap.size := fun hz hg => bk_lt r1 hz (v := .int .i64 _) rfl hg
  have q4 : SlR kRule w4 s1 y := q3.kept3 g4 (fun hne b o ha e => by
    obtain ⟨z, hz⟩ : ∃ z, y[0]? = some z := by cases y with | nil => contradiction | cons z _ => exact ⟨z, rfl⟩
    have h5 := hlt hz (g := b) (by simp [Sl.bk, ha])
    have h6 := hblk b e
    omega)
  have b4 : Below w.heap.size w w4 := b3.grown g4 b3.size (fun g hg => Nat.le_trans b1.size (hblk g hg))
  refine laws.heldRuleS.c r4.read (by omega) (by omega) ?_
  refine And.intro (fun hc => by simp only [decide_eq_true_eq] at hc; omega) (fun _ => And.intro (fun hc => by simp at hc) (fun _ => ?_))
  refine impl.RulesGet.t (ht.below b4) (hte.below b4) hl fun s5 ok5 w5 z b5' r5 h5 h6 => ?_
  have b5 := b4.trans (b5'.mono b4.size)
  obtain ⟨rfl, rfl⟩ := read_agree h5 h6 h1 h2
  refine ⟨fun w' => Below w5.heap.size w5 w', ?_, ?_⟩
  · refine laws.eqRuleS.c r5.read (q4.below b5') fun w6 b6' => And.intro (fun hc => by simp at hc) (fun _ => And.intro (fun hc => by simp at hc) (fun _ => b6'))
  rintro w6 b6' _
  have b6 := b5.trans (b6'.mono b5.size)
  refine laws.heldRuleS.c ((r4.below b5').below b6').read (by omega) (by omega) ?_
  exact And.intro (fun hc => by simp only [decide_eq_true_eq] at hc; omega) (fun _ => And.intro (fun hc => by simp at hc) (fun _ => ⟨rfl, b6⟩))
section
variable {w : World} {code : Sl} {bs0 : List Int}
theorem spec.DrawRulesPut.c {K : Sl → World → Prop} (h : SlR kU8 w code bs0) (hb : ∀ x ∈ bs0, 0 ≤ x ∧ x ≤ 255) (hk : ∀ r w' ys, Below w.heap.size w w' → SlR kRule w' r ys → ys.length ≤ 6 → K r w') : CallT (.o (.lf .sl)) P0 8 [code.v] w K := by
  refine spec.DrawRulesPut.ok (spec.l20Open.c h hb fun w1 b1 r1 => ?_)
  refine spec.l20Rules.c r1 (by omega) fun r w2 ys g2 r2 o2 h1 => ?_
  exact hk r w2 ys (b1.grown g2 b1.size (fun b hb => by simp only [Option.some.injEq] at hb; omega)) o2.read h1
end
theorem u8_all' {bs : List Int} (h : ∀ x ∈ bs, (Lit.int .u8 x).wf = true) : ∀ x ∈ bs, 0 ≤ x ∧ x ≤ 255 := fun x hx => by
  have := h x hx
  simp only [Lit.wf, Bool.and_eq_true, decide_eq_true_eq] at this
  exact this
set_option maxHeartbeats 1000000 in
theorem laws.FnRulesPut.pure {w : World} (ht : Tb w) (hte : Te w) (s : Sl) (cs : List Int) (h : SlR kU8 w s cs ∧ ∀ x ∈ cs, (Lit.int .u8 x).wf = true) :
    CallT (.o (.lf .b)) P0 3 [s.v] w fun b w' => b = true ∧ Below w.heap.size w w' := by
  refine laws.FnRulesPut.ok (And.intro (fun _ => ⟨rfl, Below.refl _ _⟩) (fun _ => ?_))
  refine spec.DrawRulesPut.c h.1 (u8_all' h.2) fun r w1 ys b1 hr hy6 => ?_
  refine impl.RulesPut.t (ht.below b1) hr fun w2 b2' => ?_
  have b2 := b1.trans (b2'.mono b1.size)
  have hr2 := hr.below b2'
  refine ⟨fun t w' => Below w2.heap.size w2 w' ∧ t = decide (putL ys = []), ?_, ?_⟩
  · refine spec.RulesPut.t hr2 fun w3 b3' => And.intro (fun hc => by simp at hc) (fun _ => ?_)
    refine impl.RulesOk.c (hr2.below b3') fun w4 b4' => ?_
    have b34 := b3'.trans (b4'.mono b3'.size)
    refine spec.RulesOk.t (hr2.below b34) fun w5 b5' => And.intro (fun hc => by simp at hc) (fun _ => ⟨b34.trans (b5'.mono b34.size), eqEmpty⟩)
  rintro t w3 ⟨b3', rfl⟩ _
  have b3 := b2.trans (b3'.mono b2.size)
  have hr3 := hr2.below b3'
  refine And.intro (fun _ => ?_) (fun hne => ?_)
  · refine spec.RulesPut.t hr3 fun w4 b4' => And.intro (fun _ => ?_) (fun hc => by simp at hc)
    refine impl.RulesOk.c (hr3.below b4') fun w5 b5' => ?_
    have b45 := b4'.trans (b5'.mono b4'.size)
    refine spec.RulesOk.t (hr3.below b45) fun w6 b6' => ⟨by simp, b3.trans ((b45.trans (b6'.mono b45.size)).mono b3.size)⟩
  · have hne : putL ys ≠ [] := by simpa using hne
    have hp : RulesP ys := Classical.byContradiction fun hp => hne (by unfold putL; rw [if_neg hp])
    have hput : putL ys = textL ys := by unfold putL; rw [if_pos hp]
    refine impl.RulesGet.t (ht.below b3) (hte.below b3) (by have := put_len ys; omega) fun s4 ok w4 x b4' r4 h1 h2 => ?_
    have hok : ok = true := by
      cases ok with
      | true => rfl
      | false => exact absurd hput.symm ((h2 rfl).2 ys hp)
    subst hok
    obtain ⟨hxp, hxt⟩ := h1 rfl
    have hxy : x = ys := text_inj hxp.2 hp.2 (hxt.trans hput)
    subst hxy
    refine And.intro (fun _ => ?_) (fun hc => by simp at hc)
    refine laws.sgRules.c r4.read (hr3.below b4') fun w5 b5' => ⟨by simp, b3.trans ((b4'.trans (b5'.mono b4'.size)).mono b3.size)⟩
end Go.Proofs.YtkkdboimkbcfnaaDoor.V

/- Contracts: a drawn text; the law RulesGet: what is read as rules is written just so. -/
namespace Go.Proofs.YtkkdboimkbcfnaaDoor.V
open Go Go.RowKit
set_option linter.unusedVariables false
set_option linter.unusedSimpArgs false
section
variable {B br m : Nat} {w : World}
theorem spec.l20Rd.of.c {l : Sl} {xs : List ByteArray} {K : ByteArray → World → Prop} (h : RdS B br m w) (hm : m ≤ 1000000000) (hl : SlR kS w l xs) (h1 : 1 ≤ xs.length) (hb : ∀ b o, l.a = some ⟨b, o, none⟩ → b ≠ br)
    (hk : ∀ x w', x ∈ xs → w.grownBy w' (some br) → RdS B br (m + 1) w' → K x w') : CallT (.o (.lf .s)) P0 76 [.pointer (some ⟨br, 0, none⟩), l.v] w K := by
  have hn := hl.len
  refine spec.l20Rd.of.ok (spec.l20Rd.pick.c h hm (by omega) fun x w1 h0 hx hg hr => ?_)
  have hl1 := hl.kept2 hg (fun b o ha e => hb b o ha (by simpa using e.symm))
  obtain ⟨y, hy⟩ := get_some (l := xs) (k := x.toNat) (by omega)
  exact ixL hl1 (i := x) h0 (x := y) hy rfl (l := .s) (v := y) rfl (hk y w1 (List.mem_of_getElem? hy) hg hr)
/-- All stays but the reader. -/
def SpB (br : Nat) (a b : World) : Prop := a.grownBy b (some br)
theorem spbOk (br : Nat) (w : World) : SpOk (SpB br) w := ⟨fun a => grown_refl _ _, fun a b c h1 h2 => grown_trans h1 h2, grown_any (Below.refl _ _).drew⟩
theorem spec.l20Bent.c {l : By} {K : ByteArray → World → Prop} (h : RdS B br m w) (hm : m ≤ 800000000) (hl : l.length ≤ 1000000) (hk : ∀ (r : By) w', r.length ≤ l.length + 1 → w.grownBy w' (some br) → K (bs r) w') :
    CallT (.o (.lf .s)) P0 44 [.pointer (some ⟨br, 0, none⟩), .string (bs l)] w K := by
  have hlt := h.lt
  have ew : IntKind.wrap .i64 ((l.length : Int) + 1) = ((l.length + 1 : Nat) : Int) := by rw [i64_of (by omega) (by omega)]; omega
  refine spec.l20Bent.ok ?_
  unfold spec.l20Bent.vc
  rw [bs_size, ew]
  refine spec.l20Rd.pick.c h (by omega) (by omega) fun t10 w1 h0 h1 g1 r1 => spec.l20Rd.pick.c r1 (by omega) (by omega) fun t12 w2 _ _ g2 r2 => ?_
  have G2 := grown_trans g1 g2
  have hw2 := G2.size
  refine And.intro (fun _ => And.intro (fun hlt10 => ?_) (fun _ => hk l w2 (by omega) G2)) (fun _ => And.intro (fun _ => ?_) (fun _ => And.intro (fun _ => ?_) (fun _ => hk l w2 (by omega) G2)))
  · simp only [decide_eq_true_eq] at hlt10
    obtain ⟨k, hk10⟩ : ∃ k : Nat, t10 = k := ⟨t10.toNat, by omega⟩
    subst hk10
    have ek : IntKind.wrap .i64 ((k : Int) + 1) = ((k + 1 : Nat) : Int) := by rw [i64_of (by omega) (by omega)]; omega
    rw [ek]
    have sk : ∀ {a b : World}, Below a.heap.size a b → Sk (SpB br) (RdS B br (m + 2)) a b := fun hb => ⟨grown_any hb, fun hN => hN.below hb⟩
    refine ⟨SpB br, spbOk br w2, RdS B br (m + 2), r2.below (Below.refl _ _).drew, eqG (bs (l.take k)), keptE, fun s w' => OwnS kS 9 w2.heap.size w' s ([[0], [49], [255], [32], [114], [16]].map bs), fun s a b ho hs => ho.keptBr hs (by omega),
      fun x _ => ∃ y : By, x = bs y ∧ y.length = 1, fun _ _ _ h _ => h, fun x _ => ∃ y : By, x = bs y ∧ y.length = k + 1, fun _ _ _ h _ => h, eqG (bs (l.drop (k + 1))), keptE, fun x _ => ∃ y : By, x = bs y ∧ y.length = l.length, fun _ _ _ h _ => h, ?_⟩
    refine ⟨fun w' hs => ?_, fun t21 => ⟨fun w' hs => ?_, fun t23 => ⟨fun w' hs hN f23 => ?_, fun t24 => ⟨fun w' hs f21 f24 => ?_, fun t25 => ⟨fun w' hs => ?_, fun t29 => ⟨fun w' hs f25 f29 => ?_, fun t30 w3 hs _ _ _ _ _ f30 => ?_⟩⟩⟩⟩⟩⟩
    · refine slS (lo := none) (hi := some (k : Int)) (f := 0) (k := k) rfl rfl (by omega) (by omega) ?_
      exact gkE rfl (sk (Below.refl _ _))
    · exact nw fun w'' hb hs2 hc2 => ⟨⟨some ⟨w'.heap.size, 0, none⟩, 6, 6⟩, rfl, sk hb, OwnS.lit (k := kS) (B := w2.heap.size) (n := 6) hs.size hc2 rfl rfl (by simp [maxLen])⟩
    · refine spec.l20Rd.of.c hN (by omega) f23.read (by simp) (fun b o e => ?_) fun x w'' hx hg _ => ⟨x, rfl, hg, ?_⟩
      · have := (f23.blk (b := b) (by rw [ob_bk]; simp [Sl.bk, e])).1
        omega
      · simp only [List.map_cons, List.map_nil, List.mem_cons, List.mem_nil_iff, or_false] at hx
        rcases hx with rfl | rfl | rfl | rfl | rfl | rfl <;> exact ⟨_, rfl, rfl⟩
    · cases f21
      obtain ⟨y, rfl, hy⟩ := f24
      refine ⟨szB (by simp; omega), _, rfl, sk (Below.refl _ _), l.take k ++ y, bs_app _ _, by simp; omega⟩
    · refine slS (lo := some ((k + 1 : Nat) : Int)) (hi := none) (f := k + 1) (k := l.length) rfl rfl (by omega) (Nat.le_refl _) ?_
      have e : (l.drop (k + 1)).take (l.length - (k + 1)) = l.drop (k + 1) := List.take_of_length_le (by simp)
      rw [e]
      exact gkE rfl (sk (Below.refl _ _))
    · cases f29
      obtain ⟨y, rfl, hy⟩ := f25
      refine ⟨szB (by simp; omega), _, rfl, sk (Below.refl _ _), y ++ l.drop (k + 1), bs_app _ _, by simp; omega⟩
    · obtain ⟨y, rfl, hy⟩ := f30
      exact hk y w3 (by omega) (grown_trans G2 hs)
  · obtain ⟨k, hk10⟩ : ∃ k : Nat, t10 = k := ⟨t10.toNat, by omega⟩
    subst hk10
    refine slS (lo := none) (hi := some (k : Int)) (f := 0) (k := k) rfl rfl (by omega) (by omega) ?_
    exact hk _ w2 (by simp; omega) G2
  · refine nw fun w3 b3 s3 c3 => ?_
    have o3 : OwnS kS 9 w2.heap.size w3 ⟨some ⟨w2.heap.size, 0, none⟩, 3, 3⟩ ([[0], [32], [48]].map bs) := OwnS.lit (k := kS) (B := w2.heap.size) (n := 3) (Nat.le_refl _) c3 rfl rfl (by simp [maxLen])
    refine spec.l20Rd.of.c (l := ⟨some ⟨w2.heap.size, 0, none⟩, 3, 3⟩) (r2.below b3) (by omega) o3.read (by simp) (fun b o e => by simp only [Option.some.injEq, Addr.mk.injEq] at e; omega) fun x w4 hx g4 r4 => ?_
    have hx1 : ∃ y : By, x = bs y ∧ y.length = 1 := by
      simp only [List.map_cons, List.map_nil, List.mem_cons, List.mem_nil_iff, or_false] at hx
      rcases hx with rfl | rfl | rfl <;> exact ⟨_, rfl, rfl⟩
    obtain ⟨y, rfl, hy⟩ := hx1
    refine ⟨szB (by omega), ?_⟩
    rw [bs_app]
    exact hk _ w4 (by simp; omega) (grown_trans (grown_trans G2 (grown_any b3)) g4)
end
section
variable {w : World} {code : Sl} {cs : List Int}
theorem spec.DrawRulesGet.c {K : ByteArray → World → Prop} (h : SlR kU8 w code cs) (hb : ∀ x ∈ cs, 0 ≤ x ∧ x ≤ 255) (hk : ∀ (r : By) w', r.length ≤ 1000 → Below w.heap.size w w' → K (bs r) w') : CallT (.o (.lf .s)) P0 19 [code.v] w K := by
  refine spec.DrawRulesGet.ok (spec.l20Open.c h hb fun w1 b1 r1 => ?_)
  have hbr := r1.lt
  refine spec.l20Rules.c r1 (by omega) fun r w2 ys g2 r2 o2 h1 => ?_
  have b2 : Below w.heap.size w w2 := b1.grown g2 b1.size (fun b hb => by simp only [Option.some.injEq] at hb; omega)
  have hp := put_len ys
  refine spec.RulesPut.t o2.read fun w3 b3' => ?_
  have b3 := b2.trans (b3'.mono b2.size)
  refine spec.l20Rd.pick.c (r2.below b3') (by omega) (by omega) fun t11 w4 _ _ g4 r4 => ?_
  have b4 : Below w.heap.size w w4 := b3.grown g4 b3.size (fun b hb => by simp only [Option.some.injEq] at hb; omega)
  refine And.intro (fun _ => hk _ w4 (by omega) b4) (fun _ => ?_)
  refine spec.l20Bent.c r4 (by omega) (by omega) fun r' w5 hl g5 => ?_
  exact hk _ w5 (by omega) (b4.grown g5 b4.size (fun b hb => by simp only [Option.some.injEq] at hb; omega))
end
set_option maxHeartbeats 1000000 in
theorem laws.FnRulesGet.pure {w : World} (ht : Tb w) (hte : Te w) (s : Sl) (cs : List Int) (h : SlR kU8 w s cs ∧ ∀ x ∈ cs, (Lit.int .u8 x).wf = true) :
    CallT (.o (.lf .b)) P0 5 [s.v] w fun b w' => b = true ∧ Below w.heap.size w w' := by
  refine laws.FnRulesGet.ok (And.intro (fun _ => ⟨rfl, Below.refl _ _⟩) (fun _ => ?_))
  refine spec.DrawRulesGet.c h.1 (u8_all' h.2) fun l w1 hl b1 => ?_
  refine impl.RulesGet.t (ht.below b1) (hte.below b1) (by omega) fun s2 ok2 w2 y b2' r2 h3 h4 => ?_
  have b2 := b1.trans (b2'.mono b1.size)
  refine spec.RulesGet.t (by omega) fun s1 ok1 w3 x b3' r1 h1 h2 => ?_
  have b3 := b2.trans (b3'.mono b2.size)
  obtain ⟨rfl, rfl⟩ := read_agree h3 h4 h1 h2
  have r3 := (r2.below b3').read
  refine ⟨fun t w' => Below w3.heap.size w3 w' ∧ (t = false → ok2 = true), ?_, ?_⟩
  · refine And.intro (fun hc => by simp at hc) (fun _ => ?_)
    refine laws.sgRules.c r3 r1 fun w4 b4' => And.intro (fun hc => by simp at hc) (fun _ => ⟨b4', fun h => by simpa using h⟩)
  rintro t w4 ⟨b4', hto⟩ _
  have b4 := b3.trans (b4'.mono b3.size)
  have r4 := r3.below b4'
  refine And.intro (fun _ => And.intro (fun _ => ?_) (fun hc => by simp at hc)) (fun h0 => ?_)
  · refine laws.sgRules.c r4 (r1.below b4') fun w5 b5' => ⟨by simp, b4.trans (b5'.mono b4.size)⟩
  · obtain ⟨hp, he⟩ := h1 (hto h0)
    have hput : putL y = l := by unfold putL; rw [if_pos hp]; exact he
    refine impl.RulesPut.t (ht.below b4) r4 fun w5 b5' => ?_
    rw [hput]
    refine And.intro (fun _ => impl.RulesOk.c (r4.below b5') fun w6 b6' => ⟨by simp [hp], b4.trans ((b5'.trans (b6'.mono b5'.size)).mono b4.size)⟩) (fun hc => by simp at hc)
end Go.Proofs.YtkkdboimkbcfnaaDoor.V

/- The tied row of FnRulesGet: where the listed variables of the library's are as its text lays them, it returns true and leaves its input as it was, whatever the input. PRINTED by rowt.py out of the law of the same name. -/
namespace Go.Proofs.YtkkdboimkbcfnaaDoor.V
open Go Go.RowKit Go.ChangeShapes Go.WideShapes Go.ChangeAt
open Go.ChangeMaps (open_string shut_string)
set_option linter.unusedVariables false
set_option maxRecDepth 100000 in
theorem FnRulesGet.lifted (os : Os) (started : os.Started) (H : Type) (enc : TypeId × Value → H) :
    ReturnsInHanded {} Tryd.checked os 5 .any (fun w args => (Rows.fnRulesGetSpec.pre enc P0 Tryd.f5 [] false w args ∧ laidMetH P0 Rows.fnRulesGetRow.laid w) ∧ sizedMet enc P0 Tryd.f5 (OpenSpec.ofChange Rows.fnRulesGetSpec) false w args) (Rows.fnRulesGetSpec.post enc P0 Tryd.f5 false true false false) := by
  refine handed_and_shaped (C := Tryd.checked) (X := fun w _ => laidMetH P0 Rows.fnRulesGetRow.laid w) (fun _ _ _ hh h => h.of_heap hh) own started (by kernel_rfl) Tryd.func5
    (ChangeSpec.witness_shaped (enc := enc) (C := Tryd.checked) (os := os) (X := fun w _ => laidMetH P0 Rows.fnRulesGetRow.laid w) false (World.laidAll P0 os Rows.fnRulesGetRow.laid) #[.slice none 0 0] 8 (World.laidAll_os _ _ _)
      (World.shaped_of_ZipB (by kernel_rfl) (by kernel_rfl)) (by kernel_rfl) (by kernel_rfl) (by kernel_rfl)
      (by rw [MakeChecks.laidMetH_plain _ _ _ (by kernel_rfl)]; exact laidMet_laidAll _ (by kernel_rfl) (by kernel_rfl))) ?_
  intro W base args ds gs before hval0 hW hcnd hsz0 hL hsh _
  rw [MakeChecks.laidMetH_plain _ _ _ (by kernel_rfl)] at hL
  have hL1 : laidMet P0 (("math/bits.deBruijn32tab", Rows.laid_math_bits_deBruijn32tab) :: ("math/bits.deBruijn64tab", Rows.laid_math_bits_deBruijn64tab) :: ("internal/strconv.uint64pow10", Rows.laid_internal_strconv_uint64pow10) :: ("unicode/utf8.acceptRanges", Rows.laid_unicode_utf8_acceptRanges) :: ("strconv.ErrRange", Rows.laid_strconv_ErrRange) :: ("strconv.ErrSyntax", Rows.laid_strconv_ErrSyntax) :: ("unicode/utf8.first", Rows.laid_unicode_utf8_first) :: []) W := hL
  have hTb : Tb W := tab_of hL1.tail.tail
  have hTe : Te W := ⟨Tryd.laysM145.s1_3 W hsh, err_of (g := 2) (by kernel_rfl) (by kernel_rfl) hL1.tail.tail.tail.tail.tail, err_of (g := 3) (by kernel_rfl) (by kernel_rfl) hL1.tail.tail.tail.tail⟩
  clear hL hL1 hsh
  have hsz : (DataW.weightsEach P0 (Tryd.f5.params.toList ++ Rows.fnRulesGetSpec.plain.varTypes P0) (ds ++ gs)).all (· ≤ reachBytes) = true := hsz0
  have hval : ∀ (j : Nat) t v, Tryd.f5.params[j]? = some t → args[j]? = some v → Value.okWide P0 W .any base t v := hval0
  have hW' := hW
  obtain ⟨p, q, hA0, hV, rfl, hfz, hnd⟩ := hW
  have hA : DataW.TrodAll enc P0 W 0 (fun _ => true) true Tryd.f5.params.toList args.toList ds p := hA0
  rw [Tryd.params5] at hA hval hsz
  obtain ⟨v0, vs0, d0, ds0, p0, q0, hargs, rfl, rfl, h0, r0⟩ := trodAll_cons hA
  obtain ⟨rfl, rfl, rfl⟩ := trodAll_nil r0
  obtain rfl : args = #[v0] := by cases args; simp_all
  obtain ⟨rfl, rfl⟩ := trodVars_none hV
  obtain ⟨a0, len0, cap0, rfl⟩ := okWide_slice Tryd.underlying22 (hval 0 22 v0 rfl rfl)
  have k0 := h0
  have lt0 : ∀ x ∈ p0, x.block < W.heap.size := by obtain ⟨m, hm⟩ := k0; exact DataW.trod_lt m _ _ _ hm
  obtain ⟨l0, w0⟩ : ∃ l, SlR kU8 W ⟨a0, len0, cap0⟩ l ∧ ∀ x ∈ l, (Lit.int .u8 x).wf = true := by
    obtain ⟨fuel, hf⟩ := h0
    exact open_nums (e := 5) Tryd.underlying22 Tryd.underlying5 (by kernel_rfl) hf
  clear hA0 hval0 hsz0 hsz
  refine Calls.mono (laws.FnRulesGet.pure (w := W) hTb hTe ⟨a0, len0, cap0⟩ l0 w0) fun e W' he => ?_
  obtain ⟨x, he, hx, bel⟩ := he
  subst hx
  subst he
  exact ⟨_, rfl, _, _, _, [], _, [], hW', trodAll_mk1 (shut_bool Tryd.underlying4 _), (trodAll_cons_mk (Below.trod laidOut (by kernel_rfl) (of_decide_eq_true (by kernel_rfl)) k0 bel lt0) trodAll_mk0), rfl, bel.frame _, fun h => by cases h⟩
theorem FnRulesGet.over : Rows.fnRulesGetRow.holds Tryd.pinned (OpenSpec.ofChange Rows.fnRulesGetSpec) :=
  OpenClaim.holds_of_wide 5 Tryd.f5 rfl rfl rfl rfl rfl rfl rfl ⟨rfl, rfl, rfl, rfl, rfl⟩ rfl rfl rfl rfl rfl (by kernel_rfl) Tryd.func5 (by kernel_rfl)
    (of_decide_eq_true (by kernel_rfl)) (by unfold Func.isWrapper; first | (rw [if_pos (by decide +kernel)]; kernel_rfl) | (rw [if_neg (by decide +kernel)]; exact ⟨rfl, rfl⟩))
    (fun os started H enc _ => FnRulesGet.lifted os started H enc)
end Go.Proofs.YtkkdboimkbcfnaaDoor.V
namespace Go.Proofs.YtkkdboimkbcfnaaDoor
open Go
/-- The tied card, under a short name, for the claim. -/
theorem fnRulesGet_holds : Rows.FnRulesGetCardSaid :=
  Claim7.holds_tied_plain_at .later [] [.data, .data, .data, .data, .sentinel, .sentinel, .pinned] true (true, "c8b1638670baff05ec0d69b5462afe5779a0c11326419bc5b65c4c57f58dbdb5") true
    V.FnRulesGet.over (fun _ h => by cases h) (by kernel_rfl) (fun _ h => by cases h) fnRulesGet_row_tie rfl ⟨rfl, rfl⟩ (by kernel_rfl) rfl
    (fun f fn hf hfn => by
      obtain rfl : f = 5 := Option.some.inj ((show Tryd.prog.funcNamed "loop.example/steerage/laws.FnRulesGet" = some 5 by kernel_rfl).symm.trans hf) |>.symm
      obtain rfl : fn = Tryd.f5 := (Option.some.inj (Tryd.func5.symm.trans hfn)).symm
      exact ⟨by kernel_rfl, fun j t ht => by
        rw [Tryd.params5] at ht
        have h3 : t = 22 := by
          rcases j with _ | j
          · simpa using ht.symm
          · simp at ht
        subst h3
        exact (show Tryd.prog.wantsStandIn 22 = false by kernel_rfl)⟩)
    (by kernel_rfl)
#print axioms fnRulesGet_holds
end Go.Proofs.YtkkdboimkbcfnaaDoor
