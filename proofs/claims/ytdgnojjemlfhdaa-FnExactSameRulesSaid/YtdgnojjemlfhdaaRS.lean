/- Contracts: what rules say of bytes; the bytes that are looked at, in their order; the reference's search. -/
import Derived.Test.YtdgnojjemlfhdaaRR
import Derived.Laws.BytesArg
namespace Go.Proofs.Ytdgnojjemlfhdaa.V
open Go Go.RowKit
set_option linter.unusedVariables false
set_option linter.unusedSimpArgs false
def holdsB (op a b : Int) : Bool := if op = 12 then a == b else if op = 13 then a != b else if op = 14 then decide (a < b) else decide (a > b)
theorem impl.holds.c {op a b : Int} {w : World} {K : Bool → World → Prop} (hk : K (holdsB op a b) w) : CallT (.o (.lf .b)) P0 111 [.int .i64 op, .int .i64 a, .int .i64 b] w K := by
  refine impl.holds.ok ?_
  unfold impl.holds.vc
  unfold holdsB at hk
  refine And.intro (fun h => ?_) (fun h => And.intro (fun h2 => ?_) (fun h2 => And.intro (fun h3 => ?_) (fun h3 => ?_))) <;> simp_all
theorem spec.l2Holds.c {op a b : Int} {w : World} {K : Bool → World → Prop} (hk : K (holdsB op a b) w) : CallT (.o (.lf .b)) P0 108 [.int .i64 op, .int .i64 a, .int .i64 b] w K := by
  refine spec.l2Holds.ok ?_
  unfold spec.l2Holds.vc
  unfold holdsB at hk
  refine And.intro (fun h => ?_) (fun h => And.intro (fun h2 => ?_) (fun h2 => And.intro (fun h3 => ?_) (fun h3 => ?_))) <;> simp_all
/-- Twelve bytes. -/
def Came (cs : List Int) : Prop := cs.length = 12 ∧ ∀ x ∈ cs, 0 ≤ x ∧ x ≤ 255
/-- What rules say of bytes: a verdict and a key. -/
def ruledL : List Rule → List Int → Int × Int
  | [], _ => (1, 0)
  | r :: rs, cs => if holdsB r.op (cs.getD r.at_.toNat 0) r.num then (r.verdict, r.key) else ruledL rs cs
theorem str_get {cs : List Int} {i : Nat} {x : Int} (h : cs[i]? = some x) (hx : 0 ≤ x ∧ x ≤ 255) : ∃ b, (strOfNums cs)[i]? = some b ∧ (b.toNat : Int) = x := by
  have hl := lt_of_get h
  have hs : i < (strOfNums cs).size := by rw [strOfNums_size]; exact hl
  refine ⟨(strOfNums cs)[i], getElem?_pos (strOfNums cs) i hs, ?_⟩
  have h1 : (strOfNums cs)[i] = UInt8.ofNat x.toNat := by
    have h2 := List.getElem?_eq_getElem hl
    rw [h] at h2
    simp only [Option.some.injEq] at h2
    show (strOfNums cs).data[i]'(hs) = _
    rw [← Array.getElem_toList]
    simp only [strOfNums_data, List.getElem_map]
    rw [← h2]
  rw [h1]
  simp; omega
theorem sxCame {cs : List Int} {i : Int} {x : Int} {w : World} {K : Int → World → Prop} (hi : 0 ≤ i) (h : cs[i.toNat]? = some x) (hx : 0 ≤ x ∧ x ≤ 255) (hk : K x w) : Sx (strOfNums cs) i w K := by
  obtain ⟨b, hb, hbx⟩ := str_get h hx
  exact ⟨hi, b, hb, by rw [hbx]; exact hk⟩
theorem qsxCame {cs : List Int} {i : Int} {x : Int} {K : Int → Prop} (hi : 0 ≤ i) (h : cs[i.toNat]? = some x) (hx : 0 ≤ x ∧ x ≤ 255) (hk : K x) : QSx (strOfNums cs) i K := by
  obtain ⟨b, hb, hbx⟩ := str_get h hx
  exact ⟨hi, b, hb, by rw [hbx]; exact hk⟩
theorem qcl' {r : Rs} {P : Program} {f : FuncId} {args : List Value} {C : World → Prop} {K : r.T → Prop} (x : r.T) (h : ∀ w {K' : r.T → World → Prop}, K' x w → CallT r P f args w K') (hk : K x) : QCl r P f args C K :=
  ⟨x, fun w hw => h w ⟨rfl, hw⟩, hk⟩
section
variable {w : World} {s : Sl} {l : List Rule} {cs : List Int}
theorem ruled_at {k : Nat} {x : Rule} (hx : l[k]? = some x) : ruledL (l.drop k) cs = if holdsB x.op (cs.getD x.at_.toNat 0) x.num then (x.verdict, x.key) else ruledL (l.drop (k + 1)) cs := by
  rw [getElem?_drop_cons hx]; rfl
theorem came_at (hc : Came cs) {x : Rule} (hx : RuleP x) : cs[x.at_.toNat]? = some (cs.getD x.at_.toNat 0) ∧ 0 ≤ cs.getD x.at_.toNat 0 ∧ cs.getD x.at_.toNat 0 ≤ 255 := by
  obtain ⟨y, hy⟩ := get_some (l := cs) (k := x.at_.toNat) (by have := hx.1; have := hc.1; omega)
  rw [List.getD_eq_getElem?_getD, hy]
  exact ⟨rfl, hc.2 y (List.mem_of_getElem? hy)⟩
theorem impl.ruled.c {K : Int × Int × Unit → World → Prop} (h : SlR kRule w s l) (hp : RulesP l) (hc : Came cs) (hk : ∀ w', Below w.heap.size w w' → K ((ruledL l cs).1, (ruledL l cs).2, ()) w') :
    CallT (.n [(.lf (.i .i64)), (.lf (.i .i64))]) P0 90 [s.v, .string (strOfNums cs)] w K := by
  have hn := h.len
  have hl := hp.1
  refine impl.ruled.ok ⟨fun i w' => ∃ k : Nat, i = k ∧ k ≤ l.length ∧ ruledL (l.drop k) cs = ruledL l cs ∧ Below w.heap.size w w', fun i _ => l.length - i.toNat, ⟨0, rfl, by omega, rfl, Below.refl _ _⟩, ?_⟩
  rintro i w1 ⟨k, rfl, hk1, hr, b1⟩ _
  refine And.intro (fun hlt => ?_) (fun hge => ?_)
  · simp only [decide_eq_true_eq] at hlt
    obtain ⟨x, hx⟩ := get_some (l := l) (k := k) (by omega)
    have hxp := hp.2 x (List.mem_of_getElem? hx)
    obtain ⟨hget, hb⟩ := came_at hc hxp
    have hra := ruled_at (cs := cs) hx
    refine ixA (h.below b1) (i := k) (by omega) (x := x) (by simpa using hx) rfl ?_
    refine nwStRule (x := x) fun w2 b2 s2 c2 => ?_
    have b12 := b1.trans (b2.mono b1.size)
    refine qldB c2 (x := x.op) rfl ?_
    refine qldB c2 (x := x.at_) rfl ?_
    refine qsxCame hxp.1.1 hget hb ?_
    refine qldB c2 (x := x.num) rfl ?_
    rw [i64_of (n := cs.getD x.at_.toNat 0) (by omega) (by omega)]
    refine qcl' (holdsB x.op (cs.getD x.at_.toNat 0) x.num) (fun w K' hK => impl.holds.c hK) ?_
    intro w3 b3
    have b13 := b12.trans (b3.mono b12.size)
    have c3 := (b3.block _ (by omega)).trans c2
    refine And.intro (fun ht => ?_) (fun hf => ?_)
    · refine qldB c3 (x := x.verdict) rfl ?_
      refine qldB c3 (x := x.key) rfl ?_
      intro w4 b4
      have := hk w4 (b13.trans (b4.mono b13.size))
      rw [← hr, hra, if_pos ht] at this
      exact this
    · rw [i64_of (n := (k : Int) + 1) (by omega) (by omega)]
      refine ⟨⟨k + 1, by omega, by omega, ?_, b13⟩, by simp only; omega⟩
      rw [← hr, hra, if_neg (by rw [hf]; simp)]
  · simp only [decide_eq_false_iff_not] at hge
    obtain rfl : k = l.length := by omega
    rw [List.drop_length] at hr
    have := hk w1 b1
    rw [← hr] at this
    exact this
theorem spec.l9Of.c {K : Int × Int × Unit → World → Prop} (h : SlR kRule w s l) (hp : RulesP l) (hc : Came cs) (hk : ∀ w', Below w.heap.size w w' → K ((ruledL l cs).1, (ruledL l cs).2, ()) w') :
    CallT (.n [(.lf (.i .i64)), (.lf (.i .i64))]) P0 88 [s.v, .string (strOfNums cs)] w K := by
  have hn := h.len
  have hl := hp.1
  refine spec.l9Of.ok ⟨fun i w' => ∃ k : Nat, i = k ∧ k ≤ l.length ∧ ruledL (l.drop k) cs = ruledL l cs ∧ Below w.heap.size w w', fun i _ => l.length - i.toNat, ⟨0, rfl, by omega, rfl, Below.refl _ _⟩, ?_⟩
  rintro i w1 ⟨k, rfl, hk1, hr, b1⟩ _
  refine And.intro (fun hlt => ?_) (fun hge => ?_)
  · simp only [decide_eq_true_eq] at hlt
    obtain ⟨x, hx⟩ := get_some (l := l) (k := k) (by omega)
    have hxp := hp.2 x (List.mem_of_getElem? hx)
    obtain ⟨hget, hb⟩ := came_at hc hxp
    have hra := ruled_at (cs := cs) hx
    have h1 := h.below b1
    have hx' : l[((k : Nat) : Int).toNat]? = some x := by simpa using hx
    refine qixF h1 (i := k) (by omega) hx' rfl (v := x.op) rfl ?_
    refine qixF h1 (i := k) (by omega) hx' rfl (v := x.at_) rfl ?_
    refine qsxCame hxp.1.1 hget hb ?_
    refine qixF h1 (i := k) (by omega) hx' rfl (v := x.num) rfl ?_
    rw [i64_of (n := cs.getD x.at_.toNat 0) (by omega) (by omega)]
    refine qcl' (holdsB x.op (cs.getD x.at_.toNat 0) x.num) (fun w K' hK => spec.l2Holds.c hK) ?_
    intro w3 b3
    have b13 := b1.trans (b3.mono b1.size)
    have h3 := h1.below b3
    refine And.intro (fun ht => ?_) (fun hf => ?_)
    · refine qixF h3 (i := k) (by omega) hx' rfl (v := x.verdict) rfl ?_
      refine qixF h3 (i := k) (by omega) hx' rfl (v := x.key) rfl ?_
      intro w4 b4
      have := hk w4 (b13.trans (b4.mono b13.size))
      rw [← hr, hra, if_pos ht] at this
      exact this
    · rw [i64_of (n := (k : Int) + 1) (by omega) (by omega)]
      refine ⟨⟨k + 1, by omega, by omega, ?_, b13⟩, by simp only; omega⟩
      rw [← hr, hra, if_neg (by rw [hf]; simp)]
  · simp only [decide_eq_false_iff_not] at hge
    obtain rfl : k = l.length := by omega
    rw [List.drop_length] at hr
    have := hk w1 b1
    rw [← hr] at this
    exact this
end
/-- The bytes that are looked at, in their order. -/
noncomputable def gen (a b : List Rule) : Nat → List Int → List (List Int)
  | 0, cs => [cs]
  | n + 1, cs => (cuts a b cs.length).flatMap fun x => gen a b n (cs ++ [x])
def diffB (a b : List Rule) (cs : List Int) : Bool := ((ruledL a cs).1 != (ruledL b cs).1) || ((ruledL a cs).2 != (ruledL b cs).2)
theorem cuts_byte {a b : List Rule} {i : Int} {x : Int} (h : x ∈ cuts a b i) : 0 ≤ x ∧ x ≤ 255 := by
  unfold cuts at h
  obtain ⟨j, rfl, hj, _⟩ := mem_picks.1 h
  omega
theorem cuts_length (a b : List Rule) (i : Int) : (cuts a b i).length ≤ 256 := picks_le _ _
/-- What the search hands back. -/
noncomputable def fres (a b : List Rule) (n : Nat) (cs : List Int) : ByteArray × Bool :=
  match (gen a b n cs).find? (diffB a b) with
  | some x => (strOfNums x, true)
  | none => (if n = 0 then strOfNums cs else ⟨#[]⟩, false)
theorem str_app (cs : List Int) (x : Int) : strOfNums cs ++ strOfNums [x] = strOfNums (cs ++ [x]) := by
  apply ByteArray.ext
  apply Array.ext'
  simp [strOfNums, ByteArray.data_append]
theorem find_flat {a b : List Rule} {n : Nat} {cs : List Int} {x : Int} {xs : List Int} : ((x :: xs).flatMap fun x => gen a b n (cs ++ [x])).find? (diffB a b) =
    match (gen a b n (cs ++ [x])).find? (diffB a b) with
    | some y => some y
    | none => (xs.flatMap fun x => gen a b n (cs ++ [x])).find? (diffB a b) := by
  rw [List.flatMap_cons, List.find?_append]
  cases (gen a b n (cs ++ [x])).find? (diffB a b) <;> rfl
set_option maxHeartbeats 1000000 in
theorem spec.l14Find.c {sa sb : Sl} {la lb : List Rule} (hpa : RulesP la) (hpb : RulesP lb) : ∀ (n : Nat) {cs : List Int} {w : World} {K : ByteArray × Bool × Unit → World → Prop}, cs.length + n = 12 → (∀ x ∈ cs, 0 ≤ x ∧ x ≤ 255) → SlR kRule w sa la → SlR kRule w sb lb →
    (∀ w', Below w.heap.size w w' → K ((fres la lb n cs).1, (fres la lb n cs).2, ()) w') → CallT (.n [(.lf .s), (.lf .b)]) P0 68 [sa.v, sb.v, .string (strOfNums cs)] w K
  | 0, cs, w, K, hn, hx, ha, hb, hk => by
    have hc : Came cs := ⟨by omega, hx⟩
    refine spec.l14Find.ok ?_
    unfold spec.l14Find.vc
    rw [strOfNums_size]
    refine And.intro (fun _ => ?_) (fun hne => by rw [beq_eq_false_iff_ne] at hne; omega)
    refine spec.l9Of.c ha hpa hc fun w1 b1 => ?_
    refine spec.l9Of.c (hb.below b1) hpb hc fun w2 b2 => ?_
    have := hk w2 (b1.trans (b2.mono b1.size))
    have hg : gen la lb 0 cs = [cs] := rfl
    unfold fres at this
    rw [hg] at this
    refine And.intro (fun hd => ?_) (fun hs => ?_)
    · have hdb : diffB la lb cs = true := by unfold diffB; rw [hd]; rfl
      rw [List.find?_cons, hdb] at this
      exact this
    · cases hs2 : ((ruledL la cs).2 != (ruledL lb cs).2) with
      | true =>
        have hdb : diffB la lb cs = true := by unfold diffB; rw [hs2]; simp
        rw [List.find?_cons, hdb] at this
        exact this
      | false =>
        have hdb : diffB la lb cs = false := by unfold diffB; rw [hs, hs2]; rfl
        rw [List.find?_cons, hdb] at this
        exact this
  | n + 1, cs, w, K, hn, hx, ha, hb, hk => by
    refine spec.l14Find.ok ?_
    unfold spec.l14Find.vc
    rw [strOfNums_size]
    refine And.intro (fun he => by rw [beq_iff_eq] at he; omega) (fun _ => ?_)
    refine nw fun w1 b1 s1 c1 => ?_
    have hlit := kSl_lit (x := sa) (y := sb) c1
    refine spec.l14Cuts.c (s := ⟨some ⟨w.heap.size, 0, none⟩, 2, 2⟩) hlit (ha.below b1) (hb.below b1) hpa hpb fun r w2 ho2 b2 => ?_
    have b12 := b1.trans (b2.mono b1.size)
    have hrn := ho2.len
    have hcl := cuts_length la lb (cs.length : Int)
    refine ⟨fun i w' => ∃ k : Nat, i = k ∧ k ≤ (cuts la lb cs.length).length ∧ Below w2.heap.size w2 w' ∧ (gen la lb (n + 1) cs).find? (diffB la lb) = (((cuts la lb cs.length).drop k).flatMap fun x => gen la lb n (cs ++ [x])).find? (diffB la lb), fun i _ => (cuts la lb cs.length).length - i.toNat, ⟨0, rfl, by omega, Below.refl _ _, rfl⟩, ?_⟩
    rintro i w3 ⟨k, rfl, hk1, b3, hf⟩ _
    have b13 := b12.trans (b3.mono b12.size)
    refine And.intro (fun hlt => ?_) (fun hge => ?_)
    · simp only [decide_eq_true_eq] at hlt
      obtain ⟨x, hxk⟩ := get_some (l := cuts la lb cs.length) (k := k) (by omega)
      have hxb := cuts_byte (List.mem_of_getElem? hxk)
      refine ixL (ho2.read.below b3) (i := k) (by omega) (x := x) (by simpa using hxk) rfl (l := .i .i64) (v := x) rfl ?_
      rw [show IntKind.wrap .u8 x = x by rw [IntKind.wrap_u8]; omega]
      refine nw fun w4 b4 s4 c4 => ?_
      have hconv := run_convert_bytes_arg (P := P0) w4 46 5 (by kernel_rfl) (by kernel_rfl) w3.heap.size 0 1 1 [x] rfl (fun i hi => by
        obtain rfl : i = 0 := by omega
        rw [cell_of c4]; rfl) 9 (by kernel_rfl)
      refine ⟨_, w4, hconv, ?_⟩
      have b14 := b13.trans (b4.mono b13.size)
      dsimp only
      rw [strOfNums_size, str_app]
      refine ⟨by have : IntKind.i64.max = 9223372036854775807 := rfl; simp; omega, ?_⟩
      refine spec.l14Find.c hpa hpb n (by simp; omega) (fun y hy => by rcases List.mem_append.1 hy with h | h; exact hx y h; simp at h; subst h; exact hxb) (ha.below b14) (hb.below b14) fun w5 b5 => ?_
      have b15 := b14.trans (b5.mono b14.size)
      rw [getElem?_drop_cons hxk, find_flat] at hf
      rw [i64_of (n := (k : Int) + 1) (by omega) (by omega)]
      have hfin := hk w5 b15
      unfold fres at hfin ⊢
      cases hg : (gen la lb n (cs ++ [x])).find? (diffB la lb) with
      | some y =>
        rw [hg] at hf
        rw [hf] at hfin
        refine And.intro (fun _ => hfin) (fun h => by simp at h)
      | none =>
        rw [hg] at hf
        refine And.intro (fun h => by simp at h) (fun _ => ?_)
        exact ⟨⟨k + 1, by omega, by omega, b3.trans ((b4.trans (b5.mono b4.size)).mono b3.size), hf⟩, by omega⟩
    · simp only [decide_eq_false_iff_not] at hge
      obtain rfl : k = (cuts la lb cs.length).length := by omega
      rw [List.drop_length] at hf
      have hfin := hk w3 b13
      unfold fres at hfin
      rw [hf] at hfin
      exact hfin
end Go.Proofs.Ytdgnojjemlfhdaa.V
