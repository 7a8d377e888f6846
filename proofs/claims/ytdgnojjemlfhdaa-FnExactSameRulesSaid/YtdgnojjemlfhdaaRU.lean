/- Contracts: the search through an iterator; SameFind and SameRules on both sides. -/
import Derived.Test.YtdgnojjemlfhdaaRT
namespace Go.Proofs.Ytdgnojjemlfhdaa.V
open Go Go.RowKit
set_option linter.unusedVariables false
set_option linter.unusedSimpArgs false
theorem mkU8 : Mk P0 46 5 kU8 1 0 := ⟨by kernel_rfl, ⟨_, _, Option.eq_some_of_isSome (by kernel_rfl), Option.eq_some_of_isSome (by kernel_rfl), by kernel_rfl, by kernel_rfl, by kernel_rfl⟩⟩
theorem zSl8 : zc P0 46 = #[.slice none 0 0] := by kernel_rfl
theorem zFn : zc P0 65 = #[.nilFunc] := by kernel_rfl
theorem rd_lt {la : List Rule} {s : Sl} {w : World} (h : SlR kRule w s la) (hne : la ≠ []) {b o : Nat} (ha : s.a = some ⟨b, o, none⟩) : b < w.heap.size := by
  rcases h.2.2.2 with h0 | ⟨b', o', ha', hat⟩
  · exact absurd h0 hne
  · rw [ha] at ha'
    simp only [Option.some.injEq, Addr.mk.injEq] at ha'
    obtain ⟨x, hx⟩ := get_some (l := la) (k := 0) (List.length_pos_iff.2 hne)
    have := hat 0 x hx 0 (.int .i64 x.at_) rfl
    have := World.block_lt_of_cell? w _ this
    simp only at this; omega
section
variable {la lb : List Rule} (hpa : RulesP la) (hpb : RulesP lb) {sa sb : Sl} {l pa pb : Nat} {J Jx : List (List Int) → World → Prop} {W : World}
  (hJ : ∀ s A B, J s A → Below W.heap.size A B → J s B)
  (hY : ∀ pre x W1, Came x → J pre W1 → W.heap.size ≤ W1.heap.size → YieldAt Fence.wide 0 P0 l #[.string (strOfNums x)] W1 fun e W' => (e = .returned (.bool true) ∧ J (pre ++ [x]) W' ∧ Below W1.heap.size W1 W') ∨ (e = .returned (.bool false) ∧ Jx (pre ++ [x]) W'))
include hpa hpb hJ hY
theorem impl.everyPiece_1.c (h1 : ∃ t, W.heap[pa]? = some (.cells #[sa.v] t (0, 0))) (h2 : ∃ t, W.heap[pb]? = some (.cells #[sb.v] t (0, 0))) (ha : SlR kRule W sa la) (hb : SlR kRule W sb lb) (h0 : J [] W) :
    CallT .z P0 109 [.func (.yield l) #[] #[], .pointer (some ⟨pa, 0, none⟩), .pointer (some ⟨pb, 0, none⟩)] W fun _ W' => J (gen la lb 12 []) W' ∨ ∃ q, q <+: gen la lb 12 [] ∧ Jx q W' := by
  obtain ⟨ta, h1⟩ := h1
  obtain ⟨tb, h2⟩ := h2
  have hpa' := (Array.getElem?_eq_some_iff.1 h1).1
  have hpb' := (Array.getElem?_eq_some_iff.1 h2).1
  refine impl.everyPiece_1.ok (nw fun w1 b1 s1 c1 => ?_)
  refine mkS (n := 12) mkU8 (by omega) (by simp [maxLen]) fun sc w2 b2 hz2 => ?_
  have b12 := b1.trans (b2.mono b1.size)
  have hs2 := b2.size
  obtain ⟨bb, o, cur, hsa, hbbH, hbbw, _, _⟩ := hz2.at (i := 0) (x := 0) (by simp) (by decide)
  have hbb2 := (Array.getElem?_eq_some_iff.1 hbbw).1
  refine nw fun w3 b3 s3 c3 => ?_
  rw [zSl8] at c3
  have b13 := b12.trans (b3.mono b12.size)
  refine stB0 c3 rfl (by simp) fun w4 g4 s4 c4 => ?_
  have b14 : Below W.heap.size W w4 := b13.grown g4 b13.size (fun b hb => by simp only [Option.some.injEq] at hb; have := b12.size; omega)
  refine nw fun w5 b5 s5 c5 => ?_
  rw [zFn] at c5
  have b15 := b14.trans (b5.mono b14.size)
  refine stB0 c5 rfl (by simp) fun w6 g6 s6 c6 => ?_
  have hs12 := b12.size
  have b16 : Below W.heap.size W w6 := b15.grown g6 b15.size (fun b hb => by simp only [Option.some.injEq] at hb; omega)
  have k36 : ∀ {k : Nat} {o : Obj}, k < w4.heap.size → w4.heap[k]? = some o → w6.heap[k]? = some o := fun hk h => by
    have h5 := (b5.block _ hk).trans h
    exact blk_kept h5 g6 (by omega)
  have k24 : ∀ {k : Nat} {o : Obj}, k < w2.heap.size → w2.heap[k]? = some o → w4.heap[k]? = some o := fun hk h => by
    have h5 := (b3.block _ hk).trans h
    exact blk_kept h5 g4 (by omega)
  have hz6 : WrS kU8 5 W.heap.size w6 sc (List.replicate 12 0) := by
    have z3 := hz2.below b3
    have z4 := z3.kept g4 (fun b hb e => by simp only [Option.some.injEq] at hb; rw [Sl.bk, hsa] at e; simp only [Option.map_some, Option.some.injEq] at e; omega)
    have z5 := z4.below b5
    exact (z5.kept g6 (fun b hb e => by simp only [Option.some.injEq] at hb; rw [Sl.bk, hsa] at e; simp only [Option.map_some, Option.some.injEq] at e; omega)).low b1.size
  have hm : PcM la lb sa sb sc l W.heap.size w2.heap.size pa pb w4.heap.size bb W.heap.size [] w6 := by
    refine ⟨⟨_, k36 (by omega) (k24 (by omega) ((b2.block _ (by omega)).trans c1))⟩, ⟨_, k36 (by omega) c4⟩, ⟨ta, (b16.block _ hpa').trans h1⟩, ⟨tb, (b16.block _ hpb').trans h2⟩, ⟨_, c6⟩, ha.below b16, hb.below b16,
      fun hne b o e => ?_, fun hne b o e => ?_, ⟨by omega, by omega, by omega, by omega, by omega⟩, ⟨by simp [Sl.bk, hsa], by omega⟩, ⟨_, hz6, by simp, by simp, by simp⟩⟩
    · have := rd_lt ha hne e; omega
    · have := rd_lt hb hne e; omega
  refine ldB0 c6 (l := .fn 110 5) (x := (⟨W.heap.size, 0, none⟩, ⟨w2.heap.size, 0, none⟩, ⟨pa, 0, none⟩, ⟨pb, 0, none⟩, ⟨w4.heap.size, 0, none⟩, ())) rfl ?_
  refine impl.everyPiece_1_1.c hpa hpb hJ hY 12 (cs := []) (pre := []) rfl hm (hJ _ _ _ h0 b16) b16.size (fun w' hj _ _ => .inl (by simpa using hj)) (fun w' q hq hx => .inr ⟨q, hq, by simpa using hx⟩)
end
/-! ### the code of the search -/
noncomputable def dC : Code := code Try.f70
noncomputable def dR0 : Code := cL dC
noncomputable def dX : Code := cR dC
noncomputable def dR1 : Code := cL (cL dX)
noncomputable def dRf : Code := cB (cR (cL dX))
noncomputable def dAs : Code := cAs dRf
noncomputable def dBd : Code := cBd dRf
noncomputable def dR7 : Code := cL (cR dX)
set_option maxRecDepth 100000 in
theorem differ_code : Try.f70.body = some (.seq dR0 (.seq (.seq dR1 (.block 0 (.rangeFunc (.tmp 13) #[14] dAs dBd))) (.seq dR7 .ret))) := by kernel_rfl
def dEnv (sa sb : Sl) (p2 p3 p4 p5 : Addr) (v6 v11 v12 v13 v14 : Value) : Env :=
  [.v sa.v, .v sb.v, .v (.pointer (some p2)), .v (.pointer (some p3)), .v (.pointer (some p4)), .v (.pointer (some p5)), .v v6, u0, u0, u0, u0, .v v11, .v v12, .v v13, .v v14] ++ List.replicate 21 u0
section
variable {sa sb : Sl} {p2 p3 p4 p5 : Addr} {v6 v11 v12 v13 v14 : Value} {w : World} {Kn : Env → World → Prop}
set_option maxRecDepth 100000 in
theorem differ_r0 (h : Nw #[sa.v] 25 w fun p2 w1 => Nw #[sb.v] 25 w1 fun p3 w2 => Nw (zc P0 9) 9 w2 fun p4 w3 => Nw (zc P0 4) 4 w3 fun p5 w4 => Kn (dEnv sa sb p2 p3 p4 p5 undef undef undef undef undef) w4) :
    evI P0 (.r (D 4)) dR0 (nK Kn) ([sa.v, sb.v].map EV.v ++ List.replicate (Try.f70.ntmps - [sa.v, sb.v].length) u0) w := Eq.mp (by kernel_rfl) h
set_option maxRecDepth 100000 in
theorem differ_r1 (h : Ld .sl p2 w fun x w1 => Ld .sl p3 w1 fun y w2 => CallT (.o (.lf .any)) P0 89 [x.v, y.v] w2 fun f w3 => Kn (dEnv sa sb p2 p3 p4 p5 undef x.v y.v f undef) w3) :
    evI P0 (.r [.l (.lf .sl), .l (.lf .sl), .c (.o (.lf .any))]) dR1 (nK Kn) (dEnv sa sb p2 p3 p4 p5 undef undef undef undef undef) w := Eq.mp (by kernel_rfl) h
set_option maxRecDepth 100000 in
theorem differ_as (h : Kn (dEnv sa sb p2 p3 p4 p5 v14 v11 v12 v13 v14) w) : evI P0 (.r (D 1)) dAs (nK Kn) (dEnv sa sb p2 p3 p4 p5 v6 v11 v12 v13 v14) w := Eq.mp (by kernel_rfl) h
set_option maxRecDepth 100000 in
theorem differ_r7 (h : St p4 (.string ⟨#[]⟩) w fun w1 => St p5 (.bool false) w1 fun w2 => Kn (dEnv sa sb p2 p3 p4 p5 v6 v11 v12 v13 v14) w2) : evI P0 (.r (D 2)) dR7 (nK Kn) (dEnv sa sb p2 p3 p4 p5 v6 v11 v12 v13 v14) w := Eq.mp (by kernel_rfl) h
def differ.body.pl : Pl := (.b (.s (.r [(.l (.lf .sl)), .d, (.c (.n [(.lf (.i .i64)), (.lf (.i .i64))])), .d, .d, .d, .d, .d]) (.s (.r [(.l (.lf .sl)), .d, (.c (.n [(.lf (.i .i64)), (.lf (.i .i64))])), .d, .d, .d, .d, .d]) (.s (.r [.d, .d, .d, (.sp .d), .d, .d, .d, .d]) (.c (.s (.r (D 3)) .z) .z)))))
def differ.body.vc (t2 : Addr) (t3 : Addr) (t4 : Addr) (t5 : Addr) (came : ByteArray) (w : World) (K : Bool → World → Prop) : Prop :=
Ld .sl t2 w fun (t16 : Sl) w_ =>
CallT (.n [(.lf (.i .i64)), (.lf (.i .i64))]) P0 90 [t16.v, (.string came)] w_ fun (t18 : (Int) × (Int) × Unit) w__1 =>
Ld .sl t3 w__1 fun (t22 : Sl) w__2 =>
CallT (.n [(.lf (.i .i64)), (.lf (.i .i64))]) P0 90 [t22.v, (.string came)] w__2 fun (t24 : (Int) × (Int) × Unit) w__3 =>
(((t18.1 : Int) != t24.1) = true → St t4 (.string came) w__3 fun w__4 =>
St t5 (.bool true) w__4 fun w__5 =>
K false w__5) ∧
(((t18.1 : Int) != t24.1) = false → (((t18.2.1 : Int) != t24.2.1) = true → St t4 (.string came) w__3 fun w__6 =>
St t5 (.bool true) w__6 fun w__7 =>
K false w__7) ∧
(((t18.2.1 : Int) != t24.2.1) = false → K true w__3))
set_option maxRecDepth 100000 in
theorem differ_yield {u : Value} : ({ tmps := ((#[14] : Array Tmp).zip #[u]).foldl (fun t (p, v) => t.setIfInBounds p v) (act [] (dEnv sa sb p2 p3 p4 p5 v6 v11 v12 v13 v14)).tmps, defers := [] } : Act) = act [] (dEnv sa sb p2 p3 p4 p5 v6 v11 v12 v13 u) := by kernel_rfl
set_option maxRecDepth 100000 in
theorem differ_body {s : ByteArray} {K : Bool → World → Prop} (h : differ.body.vc p2 p3 p4 p5 s w K) : evI P0 differ.body.pl dBd (bK K) (dEnv sa sb p2 p3 p4 p5 (.string s) v11 v12 v13 v14) w := Eq.mp (by kernel_rfl) h
set_option maxRecDepth 100000 in
theorem differ_res {x : ByteArray} {b : Bool} {k : ByteArray × Bool × Unit → World → Prop} (h1 : w.cell? p4 = some (.string x)) (h2 : w.cell? p5 = some (.bool b)) (hk : k (x, b, ()) w) :
    resK P0 Try.f70.results.toList [(.lf .s), (.lf .b)] (dEnv sa sb p2 p3 p4 p5 v6 v11 v12 v13 v14) w fun t => k t w :=
  Eq.mp (by kernel_rfl) (show Ld .s p4 w fun x _ => Ld .b p5 w fun y _ => k (x, y, ()) w from ⟨x, h1, b, h2, hk⟩)
end
end Go.Proofs.Ytdgnojjemlfhdaa.V
