/- Texts of one proof, put together in build order by pack.py (the last one states what is proved). -/
import Derived.Lib.AppendZerosOnto
import Derived.Lib.SlicesCompact
import Derived.Laws.BytesArg
import Derived.Test.YtdlnoabihfnmmaaB3
/- Contracts: what tidies a range. -/
namespace Go.Proofs.Ytdlnoabihfnmmaa.V
open Go Go.RowKit
set_option linter.unusedVariables false
set_option linter.unusedSimpArgs false
theorem bitsLen.c {w : World} {x : Nat} {v : Int} {K : Int → World → Prop} (hx : x < 2 ^ 63) (hv : v = (x : Int)) (hk : K (Lib.bitLen x) w) : CallT (.o (.lf (.i .i64))) P0 65 [.int .u64 v] w K := by
  subst hv
  refine Calls.mono (Try.bits_Len x w (by omega) (by omega)) fun e w' h => ?_
  obtain ⟨rfl, rfl⟩ := h
  exact ⟨(Lib.bitLen x : Int), rfl, by simpa using hk⟩
section
variable {w0 w w1 : World} {l r : List (Nat × T4)} {b : Nat} {x : T4} {v : Int}
theorem M.sps0 (hm : M w0 w l) (hd : Del l b x r) (hs : SpS w.heap.size b (v, x.2) w w1) : ∃ z : T4, z.2 = x.2 ∧ w1.heap[b]? = some (bx z) := by
  have hb := hm.box b x hd.mem
  rcases hs.box with e | e
  · exact ⟨x, rfl, e.trans hb.2.2⟩
  · exact ⟨(v, x.2), rfl, e⟩
theorem ldSps2 {K : Int → World → Prop} (hm : M w0 w l) (hd : Del l b x r) (hs : SpS w.heap.size b (v, x.2) w w1) (hk : K x.2.2.1 w1) : Ld (.i .i64) (Addr.add ⟨b, 0, none⟩ 2) w1 K := by
  obtain ⟨z, hz, hb⟩ := hm.sps0 hd hs
  exact ldB hb (x := x.2.2.1) (by rw [← hz]; rfl) hk
theorem ldSps3 {K : Int → World → Prop} (hm : M w0 w l) (hd : Del l b x r) (hs : SpS w.heap.size b (v, x.2) w w1) (hk : K x.2.2.2.1 w1) : Ld (.i .i64) (Addr.add ⟨b, 0, none⟩ 3) w1 K := by
  obtain ⟨z, hz, hb⟩ := hm.sps0 hd hs
  exact ldB hb (x := x.2.2.2.1) (by rw [← hz]; rfl) hk
end
theorem keptEq {α : Type} {v : α} {Sp : World → World → Prop} : Kept Sp (eqG v) := fun _ _ _ h _ => h
/-- What a range is, tidied, if its ends share so many bits. -/
def tdO (o : Int) (low : Int) : Int := iAnd .i64 o low
def tdB (r : T4) (low : Int) : Int := iAndNot .i64 (iOr .i64 r.2.2.1 (iAndNot .i64 r.1 low)) (tdO r.2.2.2.1 low)
def tdF (r : T4) (low : Int) : T4 := (if tdB r low > r.1 then tdB r low else r.1, if iOr .i64 (tdB r low) (tdO r.2.2.2.1 low) < r.2.1 then iOr .i64 (tdB r low) (tdO r.2.2.2.1 low) else r.2.1, tdB r low, tdO r.2.2.2.1 low, ())
section
variable {w : World}
theorem impl.Range.tidy.g {r : T4} {x : Nat} {K : T4 → World → Prop} (hx : x < 2 ^ 32) (hr : iXor .i64 r.1 r.2.1 = (x : Int)) (hk : ∀ w', Below w.heap.size w w' → K (tdF r ((2 ^ Lib.bitLen x - 1 : Nat) : Int)) w') :
    CallT (.o (.ag (R 4 (.i .i64)))) P0 40 [.agg (Tup.cells (R 4 (.i .i64)) r).toArray] w K := by
  refine impl.Range.tidy.ok ?_
  unfold impl.Range.tidy.vc
  have hm := M.start w
  have hL : Lib.bitLen x ≤ 32 := (bl_spec x (by omega) 32).2 hx
  have hp : 2 ^ Lib.bitLen x ≤ 2 ^ 32 := Nat.pow_le_pow_right (by omega) hL
  have hlow : IntKind.wrap .i64 ((IntKind.wrap .i64 (1 * 2 ^ (min (Int.toNat (Lib.bitLen x : Int)) (IntKind.bits .i64)))) - 1) = ((2 ^ Lib.bitLen x - 1 : Nat) : Int) := by
    have h1 : min (Int.toNat (Lib.bitLen x : Int)) (IntKind.bits .i64) = Lib.bitLen x := by
      have : IntKind.bits .i64 = 64 := rfl
      rw [this]; omega
    have h2 : (1 * 2 ^ Lib.bitLen x : Int) = ((2 ^ Lib.bitLen x : Nat) : Int) := by simp
    have h3 := Nat.two_pow_pos (Lib.bitLen x)
    rw [h1, h2, i64_nat (by omega), show (((2 ^ Lib.bitLen x : Nat) : Int) - 1) = ((2 ^ Lib.bitLen x - 1 : Nat) : Int) by omega]
    exact i64_nat (by omega)
  repeat' (first | (with_reducible refine ldM (by assumption) (by with_unfolding_all (repeat (first | exact List.mem_cons_self | refine List.mem_cons_of_mem _ ?_))) (by with_unfolding_all rfl) ?_) | (with_reducible refine ldAM (by assumption) (by with_unfolding_all (repeat (first | exact List.mem_cons_self | refine List.mem_cons_of_mem _ ?_))) ?_) | (with_reducible refine nwZ (by assumption) fun _ _ _ => ?_) | (with_reducible refine nwM' (by assumption) fun _ _ _ => ?_) | (with_reducible refine stM0 (by assumption) (by with_unfolding_all (repeat (first | exact Up.head _ _ _ _ | apply Up.tail))) fun _ _ => ?_) | (with_reducible refine stM1 (by assumption) (by with_unfolding_all (repeat (first | exact Up.head _ _ _ _ | apply Up.tail))) fun _ _ => ?_) | (with_reducible refine stM2 (by assumption) (by with_unfolding_all (repeat (first | exact Up.head _ _ _ _ | apply Up.tail))) fun _ _ => ?_) | (with_reducible refine stM3 (by assumption) (by with_unfolding_all (repeat (first | exact Up.head _ _ _ _ | apply Up.tail))) fun _ _ => ?_) | (with_reducible refine stAM' (by assumption) (by with_unfolding_all (repeat (first | exact Up.head _ _ _ _ | apply Up.tail))) fun _ _ => ?_) | (with_reducible refine stAL (by assumption) (by with_unfolding_all (repeat (first | exact Up.head _ _ _ _ | apply Up.tail))) fun _ _ => ?_) | (with_reducible refine And.intro (fun _ => ?_) (fun _ => ?_)) | (refine stAM' (by assumption) (by with_unfolding_all (repeat (first | exact Up.head _ _ _ _ | apply Up.tail))) fun _ _ => ?_))
  refine bitsLen.c (x := x) (by omega) ?_ ?_
  · show IntKind.wrap .u64 (iXor .i64 r.1 r.2.1) = _
    rw [hr]
    exact IntWalk.u64_in x (by omega)
  refine ⟨by omega, ?_⟩
  rw [hlow]
  repeat' (first | (with_reducible refine ldM (by assumption) (by with_unfolding_all (repeat (first | exact List.mem_cons_self | refine List.mem_cons_of_mem _ ?_))) (by with_unfolding_all rfl) ?_) | (with_reducible refine ldAM (by assumption) (by with_unfolding_all (repeat (first | exact List.mem_cons_self | refine List.mem_cons_of_mem _ ?_))) ?_) | (with_reducible refine nwZ (by assumption) fun _ _ _ => ?_) | (with_reducible refine nwM' (by assumption) fun _ _ _ => ?_) | (with_reducible refine stM0 (by assumption) (by with_unfolding_all (repeat (first | exact Up.head _ _ _ _ | apply Up.tail))) fun _ _ => ?_) | (with_reducible refine stM1 (by assumption) (by with_unfolding_all (repeat (first | exact Up.head _ _ _ _ | apply Up.tail))) fun _ _ => ?_) | (with_reducible refine stM2 (by assumption) (by with_unfolding_all (repeat (first | exact Up.head _ _ _ _ | apply Up.tail))) fun _ _ => ?_) | (with_reducible refine stM3 (by assumption) (by with_unfolding_all (repeat (first | exact Up.head _ _ _ _ | apply Up.tail))) fun _ _ => ?_) | (with_reducible refine stAM' (by assumption) (by with_unfolding_all (repeat (first | exact Up.head _ _ _ _ | apply Up.tail))) fun _ _ => ?_) | (with_reducible refine stAL (by assumption) (by with_unfolding_all (repeat (first | exact Up.head _ _ _ _ | apply Up.tail))) fun _ _ => ?_) | (with_reducible refine And.intro (fun _ => ?_) (fun _ => ?_)) | (refine stAM' (by assumption) (by with_unfolding_all (repeat (first | exact Up.head _ _ _ _ | apply Up.tail))) fun _ _ => ?_))
  rename_i wa ba ma wb bb mb wc bc mc wd md we me
  clear ma mb mc md hlow
  generalize ((2 ^ Lib.bitLen x - 1 : Nat) : Int) = low at *
  replace me : M w we [(bc, ((0, 0, tdB r low, tdO r.2.2.2.1 low, ()) : T4)), (bb, ((0, 0, 0, 0, ()) : T4)), (ba, r)] := me
  have hd : Del [(bc, ((0, 0, tdB r low, tdO r.2.2.2.1 low, ()) : T4)), (bb, ((0, 0, 0, 0, ()) : T4)), (ba, r)] bc ((0, 0, tdB r low, tdO r.2.2.2.1 low, ()) : T4) [(bb, ((0, 0, 0, 0, ()) : T4)), (ba, r)] := Del.head _ _ _
  refine ⟨SpS we.heap.size bc (((tdF r low).1, 0, tdB r low, tdO r.2.2.2.1 low, ()) : T4), spsOk _ _ _, eqG r.1, keptEq, eqG (tdB r low), keptEq, eqG (tdF r low).1, keptEq, eqG r.2.1, keptEq, eqG (tdB r low), keptEq, eqG (tdO r.2.2.2.1 low), keptEq, eqG (tdF r low).2.1, keptEq, _, keptBx, ?_⟩
  refine ⟨fun w1 hs => ?_, fun t31 => ⟨fun w1 hs => ?_, fun t33 => ⟨fun w1 hs f31 f33 => ?_, fun t34 => ⟨fun w1 hs => ?_, fun t36 => ⟨fun w1 hs => ?_, fun t38 => ⟨fun w1 hs => ?_, fun t40 => ⟨fun w1 hs f36 f38 f40 => ?_, fun t42 => ⟨fun w1 hs f34 => ?_, fun st w1 hs f31 f33 f34 f36 f38 f40 f42 fs => ?_⟩⟩⟩⟩⟩⟩⟩⟩
  · have hm1 := me.sps hd hs
    exact ldM hm1 (by with_unfolding_all (repeat (first | exact List.mem_cons_self | refine List.mem_cons_of_mem _ ?_))) rfl (gkE rfl (SpS.refl _ _ _ _))
  · exact ldSps2 me hd hs (gkE rfl (SpS.refl _ _ _ _))
  · cases f31; cases f33
    exact gkE rfl (SpS.refl _ _ _ _)
  · have hm1 := me.sps hd hs
    exact ldM hm1 (by with_unfolding_all (repeat (first | exact List.mem_cons_self | refine List.mem_cons_of_mem _ ?_))) rfl (gkE rfl (SpS.refl _ _ _ _))
  · exact ldSps2 me hd hs (gkE rfl (SpS.refl _ _ _ _))
  · exact ldSps3 me hd hs (gkE rfl (SpS.refl _ _ _ _))
  · cases f36; cases f38; cases f40
    exact gkE rfl (SpS.refl _ _ _ _)
  · cases f34
    exact stSps0 me hd hs
  · cases f42
    have hm1 := me.spsB hd hs fs
    repeat' (first | (with_reducible refine ldM (by assumption) (by with_unfolding_all (repeat (first | exact List.mem_cons_self | refine List.mem_cons_of_mem _ ?_))) (by with_unfolding_all rfl) ?_) | (with_reducible refine ldAM (by assumption) (by with_unfolding_all (repeat (first | exact List.mem_cons_self | refine List.mem_cons_of_mem _ ?_))) ?_) | (with_reducible refine nwZ (by assumption) fun _ _ _ => ?_) | (with_reducible refine nwM' (by assumption) fun _ _ _ => ?_) | (with_reducible refine stM0 (by assumption) (by with_unfolding_all (repeat (first | exact Up.head _ _ _ _ | apply Up.tail))) fun _ _ => ?_) | (with_reducible refine stM1 (by assumption) (by with_unfolding_all (repeat (first | exact Up.head _ _ _ _ | apply Up.tail))) fun _ _ => ?_) | (with_reducible refine stM2 (by assumption) (by with_unfolding_all (repeat (first | exact Up.head _ _ _ _ | apply Up.tail))) fun _ _ => ?_) | (with_reducible refine stM3 (by assumption) (by with_unfolding_all (repeat (first | exact Up.head _ _ _ _ | apply Up.tail))) fun _ _ => ?_) | (with_reducible refine stAM' (by assumption) (by with_unfolding_all (repeat (first | exact Up.head _ _ _ _ | apply Up.tail))) fun _ _ => ?_) | (with_reducible refine stAL (by assumption) (by with_unfolding_all (repeat (first | exact Up.head _ _ _ _ | apply Up.tail))) fun _ _ => ?_) | (with_reducible refine And.intro (fun _ => ?_) (fun _ => ?_)) | (refine stAM' (by assumption) (by with_unfolding_all (repeat (first | exact Up.head _ _ _ _ | apply Up.tail))) fun _ _ => ?_))
    exact hk _ (by assumption : M w _ _).low
end
/-! ### the law -/
theorem tdF_rgk {k x lo hi : Nat} (hk : k ≤ 32) (hle : lo ≤ hi) (hhi : hi < 2 ^ 32) (h1 : lo / 2 ^ k = x / 2 ^ k) (h2 : hi / 2 ^ k = x / 2 ^ k) : tdF (rgk k x lo hi) ((2 ^ kk lo hi - 1 : Nat) : Int) = ivl lo hi := by
  have hj : kk lo hi ≤ k := kk_part (h1.trans h2.symm) (by omega) (by omega)
  have hs := kk_same (a := lo) (b := hi) (by omega) (by omega)
  unfold ivl
  generalize kk lo hi = j at *
  have hlt : ∀ q : Nat, q ≤ 32 → 2 ^ q - 1 < 2 ^ 63 := fun q hq => by
    have := Nat.pow_le_pow_right (n := 2) (by omega) hq
    omega
  have eO : tdO ((2 ^ k - 1 : Nat) : Int) ((2 ^ j - 1 : Nat) : Int) = ((2 ^ j - 1 : Nat) : Int) := by
    unfold tdO
    rw [iAnd_nat (hlt k hk) (hlt j (by omega)), mask_and hj]
  have c1 := cutN_le k x
  have c2 := cutN_le j lo
  have ce := cut_eq h1
  have c3 := cutN_le k lo
  have eB : tdB (rgk k x lo hi) ((2 ^ j - 1 : Nat) : Int) = ((cutN j lo : Nat) : Int) := by
    show iAndNot .i64 (iOr .i64 ((cutN k x : Nat) : Int) (iAndNot .i64 (lo : Int) ((2 ^ j - 1 : Nat) : Int))) (tdO ((2 ^ k - 1 : Nat) : Int) ((2 ^ j - 1 : Nat) : Int)) = _
    rw [eO, iAndNot_mask (by omega) (by omega), iOr_nat (by omega) (by omega), cut_or hj h1.symm, iAndNot_mask (by omega) (by omega), cut_cut]
  have eM : iOr .i64 ((cutN j lo : Nat) : Int) ((2 ^ j - 1 : Nat) : Int) = ((cutN j lo + (2 ^ j - 1) : Nat) : Int) := by
    rw [iOr_nat (by omega) (hlt j (by omega)), cut_mask]
  have c4 := cutN_lt j hi
  have c5 := cut_eq hs
  unfold tdF
  rw [eB]
  show ((if ((cutN j lo : Nat) : Int) > (lo : Int) then ((cutN j lo : Nat) : Int) else (lo : Int)), (if iOr .i64 ((cutN j lo : Nat) : Int) (tdO ((2 ^ k - 1 : Nat) : Int) ((2 ^ j - 1 : Nat) : Int)) < (hi : Int) then iOr .i64 ((cutN j lo : Nat) : Int) (tdO ((2 ^ k - 1 : Nat) : Int) ((2 ^ j - 1 : Nat) : Int)) else (hi : Int)), ((cutN j lo : Nat) : Int), tdO ((2 ^ k - 1 : Nat) : Int) ((2 ^ j - 1 : Nat) : Int), ()) = ((lo : Int), (hi : Int), ((cutN j lo : Nat) : Int), ((2 ^ j - 1 : Nat) : Int), ())
  rw [eO, eM, if_neg (by omega), if_neg (by omega)]
section
variable {w : World}
/-- A range of which the ends share what is known, tidied. -/
theorem impl.Range.tidy.c {k x lo hi : Nat} {K : T4 → World → Prop} (hk : k ≤ 32) (hle : lo ≤ hi) (hhi : hi < 2 ^ 32) (h1 : lo / 2 ^ k = x / 2 ^ k) (h2 : hi / 2 ^ k = x / 2 ^ k) (hK : ∀ w', Below w.heap.size w w' → K (ivl lo hi) w') :
    CallT (.o (.ag (R 4 (.i .i64)))) P0 40 [.agg (Tup.cells (R 4 (.i .i64)) (rgk k x lo hi)).toArray] w K := by
  refine impl.Range.tidy.g (x := lo ^^^ hi) (Nat.xor_lt_two_pow (by omega) hhi) (iXor_nat (by omega) (by omega)) fun w' hb => ?_
  have := tdF_rgk hk hle hhi h1 h2
  unfold kk at this
  rw [this]
  exact hK w' hb
end
end Go.Proofs.Ytdlnoabihfnmmaa.V

/- Verification conditions, printed by this session's own program (wip/vc.py) and checked by the kernel. -/
namespace Go.Proofs.Ytdlnoabihfnmmaa.V
open Go Go.RowKit
set_option linter.unusedVariables false
/- (impl.Rule).valid -/
def impl.Rule.valid.pl : Pl := (.s (.r (D 2)) (.s (.r [.d, (.l (.lf (.i .i64))), (.c (.o (.lf .b))), (.sp .d), .d, (.l (.lf (.i .i64))), (.c (.o (.lf .b))), .d, (.sp .d), .d, (.l (.lf (.i .i64))), (.c (.o (.lf .b))), .d, (.sp .d), .d, (.l (.lf (.i .i64))), (.c (.o (.lf .b))), .d, (.sp .d), .d, (.l (.lf (.i .i64))), (.c (.o (.lf .b))), .d, (.sp .d), .d, (.l (.lf (.i .i64))), .d, (.sp .d), .d, (.l (.lf (.i .i64))), .d, .d, .d, .d]) .z))
def impl.Rule.valid.vc (r : Tup (R 5 (.i .i64))) (w : World) (K : Bool → World → Prop) : Prop :=
Nw (Tup.cells (R 5 (.i .i64)) r).toArray 48 w fun a_r w_ =>
Ld (.i .i64) (Addr.add a_r 0) w_ fun (t4 : Int) w__1 =>
CallT (.o (.lf .b)) P0 52 [(.int .i64 t4), (.int .i64 0), (.int .i64 11)] w__1 fun (t5 : Bool) w__2 =>
(t5 = true → Ld (.i .i64) (Addr.add a_r 1) w__2 fun (t8 : Int) w__3 =>
CallT (.o (.lf .b)) P0 53 [(.int .i64 t8)] w__3 fun (t9 : Bool) w__4 =>
(t9 = true → Ld (.i .i64) (Addr.add a_r 2) w__4 fun (t13 : Int) w__5 =>
CallT (.o (.lf .b)) P0 52 [(.int .i64 t13), (.int .i64 0), (.int .i64 255)] w__5 fun (t14 : Bool) w__6 =>
(t14 = true → Ld (.i .i64) (Addr.add a_r 3) w__6 fun (t18 : Int) w__7 =>
CallT (.o (.lf .b)) P0 52 [(.int .i64 t18), (.int .i64 0), (.int .i64 2)] w__7 fun (t19 : Bool) w__8 =>
(t19 = true → Ld (.i .i64) (Addr.add a_r 4) w__8 fun (t23 : Int) w__9 =>
CallT (.o (.lf .b)) P0 41 [(.int .i64 t23)] w__9 fun (t24 : Bool) w__10 =>
(t24 = true → Ld (.i .i64) (Addr.add a_r 4) w__10 fun (t28 : Int) w__11 =>
(((t28 : Int) == 0) = true → K true w__11) ∧
(((t28 : Int) == 0) = false → Ld (.i .i64) (Addr.add a_r 3) w__11 fun (t32 : Int) w__12 =>
K ((t32 : Int) == 2) w__12)) ∧
(t24 = false → K false w__10)) ∧
(t19 = false → K false w__8)) ∧
(t14 = false → K false w__6)) ∧
(t9 = false → K false w__4)) ∧
(t5 = false → K false w__2)
theorem impl.Rule.valid.ok {r : Tup (R 5 (.i .i64))} {w : World} {K : Bool → World → Prop} (h : impl.Rule.valid.vc r w K) : CallT (.o (.lf .b)) P0 28 [(.agg (Tup.cells (R 5 (.i .i64)) r).toArray)] w K :=
  call_of Try.func28 rfl rfl (pl := impl.Rule.valid.pl) (show VC P0 Try.f28 impl.Rule.valid.pl (.o (.lf .b)) [(.agg (Tup.cells (R 5 (.i .i64)) r).toArray)] w K noP from Eq.mp (by kernel_rfl) h)
/- impl.RulesOk$1 -/
def impl.RulesOk_1.pl : Pl := (.s (.r (D 2)) (.s (.r [(.l (.ag (R 5 (.i .i64)))), (.c (.o (.lf .b))), .d, .d]) .z))
def impl.RulesOk_1.vc (r : Tup (R 5 (.i .i64))) (w : World) (K : Bool → World → Prop) : Prop :=
Nw (Tup.cells (R 5 (.i .i64)) r).toArray 48 w fun a_r w_ =>
LdA (R 5 (.i .i64)) a_r w_ fun (t3 : Tup (R 5 (.i .i64))) w__1 =>
CallT (.o (.lf .b)) P0 28 [(.agg (Tup.cells (R 5 (.i .i64)) t3).toArray)] w__1 fun (t4 : Bool) w__2 =>
K (!t4) w__2
theorem impl.RulesOk_1.ok {r : Tup (R 5 (.i .i64))} {w : World} {K : Bool → World → Prop} (h : impl.RulesOk_1.vc r w K) : CallT (.o (.lf .b)) P0 27 [(.agg (Tup.cells (R 5 (.i .i64)) r).toArray)] w K :=
  call_of Try.func27 rfl rfl (pl := impl.RulesOk_1.pl) (show VC P0 Try.f27 impl.RulesOk_1.pl (.o (.lf .b)) [(.agg (Tup.cells (R 5 (.i .i64)) r).toArray)] w K noP from Eq.mp (by kernel_rfl) h)
/- slices.IndexFunc[[]impl.Rule,impl.Rule] -/
def slices.IndexFunc_Rule_ok.pl : Pl := (.s (.r (D 1)) (.s (.s (.r (D 3)) (.b (.l [(8, (.i .i64))] (.s (.r (D 1)) (.s (.c .z .z) (.s (.b (.s (.r (D 2)) (.s (.r [.d, .d, .d, .d, (.l (.ag (R 5 (.i .i64)))), (.c (.o (.lf .b)))]) (.c (.s (.r (D 2)) .z) .z)))) (.r (D 2)))))))) (.s (.r (D 1)) .z)))
def slices.IndexFunc_Rule_ok.vc (s : Sl) (w : World) (K : Int → World → Prop) : Prop :=
∃ (I : Int → World → Prop) (M : Int → World → Nat),
I 0 w ∧
(∀ (t8 : Int) w_, I t8 w_ → ∀ _ : Nat → Value,
((decide ((t8 : Int) < ((s.n : Nat) : Int))) = true → Ix s.a s.n t8 5 w_ fun a_t14 w__1 =>
LdA (R 5 (.i .i64)) a_t14 w__1 fun (t15 : Tup (R 5 (.i .i64))) w__2 =>
CallT (.o (.lf .b)) P0 27 [(.agg (Tup.cells (R 5 (.i .i64)) t15).toArray)] w__2 fun (t16 : Bool) w__3 =>
(t16 = true → K t8 w__3) ∧
(t16 = false → (I (IntKind.wrap .i64 (t8 + 1)) w__3 ∧ M (IntKind.wrap .i64 (t8 + 1)) w__3 < M t8 w_))) ∧
((decide ((t8 : Int) < ((s.n : Nat) : Int))) = false → K (-1) w_))
theorem slices.IndexFunc_Rule_ok.ok {s : Sl} {w : World} {K : Int → World → Prop} (h : slices.IndexFunc_Rule_ok.vc s w K) : CallT (.o (.lf (.i .i64))) P0 51 [s.v, (.func (.func 27) #[] #[])] w K :=
  call_of Try.func51 rfl rfl (pl := slices.IndexFunc_Rule_ok.pl) (show VC P0 Try.f51 slices.IndexFunc_Rule_ok.pl (.o (.lf (.i .i64))) [s.v, (.func (.func 27) #[] #[])] w K noP from Eq.mp (by kernel_rfl) h)
/- slices.ContainsFunc[[]impl.Rule,impl.Rule] -/
def slices.ContainsFunc_Rule_ok.pl : Pl := (.s (.r (D 1)) (.s (.r [.d, .d, (.c (.o (.lf (.i .i64)))), .d, .d]) .z))
def slices.ContainsFunc_Rule_ok.vc (s : Sl) (w : World) (K : Bool → World → Prop) : Prop :=
CallT (.o (.lf (.i .i64))) P0 51 [s.v, (.func (.func 27) #[] #[])] w fun (t7 : Int) w_ =>
K (decide ((t7 : Int) ≥ 0)) w_
theorem slices.ContainsFunc_Rule_ok.ok {s : Sl} {w : World} {K : Bool → World → Prop} (h : slices.ContainsFunc_Rule_ok.vc s w K) : CallT (.o (.lf .b)) P0 26 [s.v, (.func (.func 27) #[] #[])] w K :=
  call_of Try.func26 rfl rfl (pl := slices.ContainsFunc_Rule_ok.pl) (show VC P0 Try.f26 slices.ContainsFunc_Rule_ok.pl (.o (.lf .b)) [s.v, (.func (.func 27) #[] #[])] w K noP from Eq.mp (by kernel_rfl) h)
/- impl.RulesOk -/
def impl.RulesOk.pl : Pl := (.s (.r (D 1)) (.s (.r [.d, .d, .d, (.sp .d), .d, (.c (.o (.lf .b))), .d, .d, .d]) .z))
def impl.RulesOk.vc (list : Sl) (w : World) (K : Bool → World → Prop) : Prop :=
((decide ((((list.n : Nat) : Int) : Int) ≤ 6)) = true → CallT (.o (.lf .b)) P0 26 [list.v, (.func (.func 27) #[] #[])] w fun (t8 : Bool) w_ =>
K (!t8) w_) ∧
((decide ((((list.n : Nat) : Int) : Int) ≤ 6)) = false → K false w)
theorem impl.RulesOk.ok {list : Sl} {w : World} {K : Bool → World → Prop} (h : impl.RulesOk.vc list w K) : CallT (.o (.lf .b)) P0 9 [list.v] w K :=
  call_of Try.func9 rfl rfl (pl := impl.RulesOk.pl) (show VC P0 Try.f9 impl.RulesOk.pl (.o (.lf .b)) [list.v] w K noP from Eq.mp (by kernel_rfl) h)
/- slices.Grow[[]impl.Rule,impl.Rule] -/
def slices.Grow_Rule.pl : Pl := (.s (.r (D 1)) (.j [] (.s (.r (D 2)) (.c (.r (D 2)) .z)) (.s (.s (.r (D 8)) (.s (.r (D 2)) (.c (.r [.d, .d, .d, (.t (.o (.lf .sl))), .d, (.t (.o (.lf .sl))), .d, .d, (.t (.o (.lf .sl))), .d]) .z))) (.s (.r (D 2)) .z))))
def slices.Grow_Rule.vc (s : Sl) (n : Int) (w : World) (K : Sl → World → Prop) : Prop :=
∃ J : World → Prop,
(((decide ((n : Int) < 0)) = true → False) ∧
((decide ((n : Int) < 0)) = false → J w)) ∧
(∀  w_, J w_ → ∀ _ : Nat → Value,
((decide (((IntKind.wrap .i64 (n - (IntKind.wrap .i64 (((s.c : Nat) : Int) - ((s.n : Nat) : Int))))) : Int) > 0)) = true → RunT (.o (.lf .sl)) P0 (Instr.sliceAt 23 s.v none (some (.int .i64 ((s.c : Nat) : Int))) none) w_ fun (t20 : Sl) w__1 =>
RunT (.o (.lf .sl)) P0 (Builtin.append_ #[23, 3] 23 #[t20.v, (.int .i64 (IntKind.wrap .i64 (n - (IntKind.wrap .i64 (((s.c : Nat) : Int) - ((s.n : Nat) : Int))))))]) w__1 fun (t22 : Sl) w__2 =>
RunT (.o (.lf .sl)) P0 (Instr.sliceAt 23 t22.v none (some (.int .i64 ((s.n : Nat) : Int))) none) w__2 fun (t25 : Sl) w__3 =>
K t25 w__3) ∧
((decide (((IntKind.wrap .i64 (n - (IntKind.wrap .i64 (((s.c : Nat) : Int) - ((s.n : Nat) : Int))))) : Int) > 0)) = false → K s w_))
theorem slices.Grow_Rule.ok {s : Sl} {n : Int} {w : World} {K : Sl → World → Prop} (h : slices.Grow_Rule.vc s n w K) : CallT (.o (.lf .sl)) P0 95 [s.v, (.int .i64 n)] w K :=
  call_of Try.func95 rfl rfl (pl := slices.Grow_Rule.pl) (show VC P0 Try.f95 slices.Grow_Rule.pl (.o (.lf .sl)) [s.v, (.int .i64 n)] w K noP from Eq.mp (by kernel_rfl) h)
/- slices.Concat[[]impl.Rule,impl.Rule] -/
def slices.Concat_Rule.pl : Pl := (.s (.r (D 1)) (.s (.r (D 1)) (.s (.s (.r (D 3)) (.b (.l [(3, (.i .i64)), (11, (.i .i64))] (.s (.r (D 1)) (.s (.c .z .z) (.s (.b (.s (.r [.d, (.l (.lf .sl)), .d]) (.s (.r (D 5)) (.s (.r (D 2)) (.c (.r (D 2)) .z))))) (.r (D 2)))))))) (.s (.r [.d, (.c (.o (.lf .sl))), .d]) (.s (.s (.r (D 3)) (.b (.l [(6, .sl), (27, (.i .i64))] (.s (.r (D 1)) (.s (.c .z .z) (.s (.b (.s (.r [.d, (.l (.lf .sl)), .d]) (.r [.d, .d, (.t (.o (.lf .sl))), .d]))) (.r (D 2)))))))) (.s (.r (D 2)) .z))))))
def slices.Concat_Rule.vc (slices_ : Sl) (w : World) (K : Sl → World → Prop) : Prop :=
∃ (I : Int → Int → World → Prop) (M : Int → Int → World → Nat),
I 0 0 w ∧
(∀ (size : Int) (t11 : Int) w_, I size t11 w_ → ∀ _ : Nat → Value,
((decide ((t11 : Int) < ((slices_.n : Nat) : Int))) = true → Ix slices_.a slices_.n t11 1 w_ fun a_t13 w__1 =>
Ld .sl a_t13 w__1 fun (t14 : Sl) w__2 =>
((decide (((IntKind.wrap .i64 (size + ((t14.n : Nat) : Int))) : Int) < 0)) = true → False) ∧
((decide (((IntKind.wrap .i64 (size + ((t14.n : Nat) : Int))) : Int) < 0)) = false → (I (IntKind.wrap .i64 (size + ((t14.n : Nat) : Int))) (IntKind.wrap .i64 (t11 + 1)) w__2 ∧ M (IntKind.wrap .i64 (size + ((t14.n : Nat) : Int))) (IntKind.wrap .i64 (t11 + 1)) w__2 < M size t11 w_))) ∧
((decide ((t11 : Int) < ((slices_.n : Nat) : Int))) = false → CallT (.o (.lf .sl)) P0 95 [(.slice none 0 0), (.int .i64 size)] w_ fun (t24 : Sl) w__3 =>
∃ (I_1 : Sl → Int → World → Prop) (M_1 : Sl → Int → World → Nat),
I_1 t24 0 w__3 ∧
(∀ (newslice : Sl) (t27 : Int) w__4, I_1 newslice t27 w__4 → ∀ _ : Nat → Value,
((decide ((t27 : Int) < ((slices_.n : Nat) : Int))) = true → Ix slices_.a slices_.n t27 1 w__4 fun a_t29 w__5 =>
Ld .sl a_t29 w__5 fun (t30 : Sl) w__6 =>
RunT (.o (.lf .sl)) P0 (Builtin.append_ #[23, 23] 23 #[newslice.v, t30.v]) w__6 fun (t33 : Sl) w__7 =>
(I_1 t33 (IntKind.wrap .i64 (t27 + 1)) w__7 ∧ M_1 t33 (IntKind.wrap .i64 (t27 + 1)) w__7 < M_1 newslice t27 w__4)) ∧
((decide ((t27 : Int) < ((slices_.n : Nat) : Int))) = false → K newslice w__4))))
theorem slices.Concat_Rule.ok {slices_ : Sl} {w : World} {K : Sl → World → Prop} (h : slices.Concat_Rule.vc slices_ w K) : CallT (.o (.lf .sl)) P0 81 [slices_.v] w K :=
  call_of Try.func81 rfl rfl (pl := slices.Concat_Rule.pl) (show VC P0 Try.f81 slices.Concat_Rule.pl (.o (.lf .sl)) [slices_.v] w K noP from Eq.mp (by kernel_rfl) h)
/- impl.cuts -/
def impl.cuts.pl : Pl := (.s (.r (D 1)) (.s (.r (D 2)) (.s (.s (.r [.d, .d, .d, (.c (.o (.lf .sl))), .d, .d]) (.b (.l [(7, .sl), (16, (.i .i64))] (.s (.r (D 1)) (.s (.c .z .z) (.s (.b (.s (.r [.d, (.l (.ag (R 5 (.i .i64)))), .d, .d]) (.s (.s (.r [.d, (.l (.lf (.i .i64))), .d, .d]) (.c .z .z)) (.s (.r [.d, .d, (.l (.lf (.i .i64))), .d, (.t (.o (.lf .sl))), .d]) (.s (.r [.d, (.l (.lf (.i .i64))), .d]) (.c (.r [.d, .d, (.l (.lf (.i .i64))), .d, .d, (.t (.o (.lf .sl))), .d]) .z)))))) (.r (D 2)))))))) (.s (.r [.d, (.c .z)]) (.s (.r [.d, (.c (.o (.lf .sl))), .d]) .z)))))
def impl.cuts.vc (a : Sl) (b : Sl) (at_ : Int) (w : World) (K : Sl → World → Prop) : Prop :=
Nw #[(.int .i64 0)] 3 w fun a_t10 w_ =>
Nw #[a.v, b.v] 23 w_ fun a_t13 w__1 =>
CallT (.o (.lf .sl)) P0 81 [(.slice (some a_t13) 2 2)] w__1 fun (t14 : Sl) w__2 =>
∃ (I : Sl → Int → World → Prop) (M : Sl → Int → World → Nat),
I ⟨(some a_t10), 1, 1⟩ 0 w__2 ∧
(∀ (out : Sl) (t16 : Int) w__3, I out t16 w__3 → ∀ _ : Nat → Value,
((decide ((t16 : Int) < ((t14.n : Nat) : Int))) = true → Ix t14.a t14.n t16 5 w__3 fun a_t18 w__4 =>
LdA (R 5 (.i .i64)) a_t18 w__4 fun (t19 : Tup (R 5 (.i .i64))) w__5 =>
Nw (zc P0 48) 48 w__5 fun a_r w__6 =>
StA P0 a_r (Tup.cells (R 5 (.i .i64)) t19) w__6 fun w__7 =>
Ld (.i .i64) (Addr.add a_r 0) w__7 fun (t21 : Int) w__8 =>
(((t21 : Int) != at_) = true → (I out (IntKind.wrap .i64 (t16 + 1)) w__8 ∧ M out (IntKind.wrap .i64 (t16 + 1)) w__8 < M out t16 w__3)) ∧
(((t21 : Int) != at_) = false → Ld (.i .i64) (Addr.add a_r 2) w__8 fun (t26 : Int) w__9 =>
Nw #[(.int .i64 t26)] 3 w__9 fun a_t27 w__10 =>
RunT (.o (.lf .sl)) P0 (Builtin.append_ #[59, 59] 59 #[out.v, (.slice (some a_t27) 1 1)]) w__10 fun (t28 : Sl) w__11 =>
Ld (.i .i64) (Addr.add a_r 2) w__11 fun (t30 : Int) w__12 =>
((decide ((t30 : Int) < 255)) = true → Ld (.i .i64) (Addr.add a_r 2) w__12 fun (t34 : Int) w__13 =>
Nw #[(.int .i64 (IntKind.wrap .i64 (t34 + 1)))] 3 w__13 fun a_t36 w__14 =>
RunT (.o (.lf .sl)) P0 (Builtin.append_ #[59, 59] 59 #[t28.v, (.slice (some a_t36) 1 1)]) w__14 fun (t37 : Sl) w__15 =>
(I t37 (IntKind.wrap .i64 (t16 + 1)) w__15 ∧ M t37 (IntKind.wrap .i64 (t16 + 1)) w__15 < M out t16 w__3)) ∧
((decide ((t30 : Int) < 255)) = false → (I t28 (IntKind.wrap .i64 (t16 + 1)) w__12 ∧ M t28 (IntKind.wrap .i64 (t16 + 1)) w__12 < M out t16 w__3)))) ∧
((decide ((t16 : Int) < ((t14.n : Nat) : Int))) = false → CallT .z P0 82 [out.v] w__3 fun (u : Unit) w__16 =>
CallT (.o (.lf .sl)) P0 83 [out.v] w__16 fun (t42 : Sl) w__17 =>
K t42 w__17))
theorem impl.cuts.ok {a : Sl} {b : Sl} {at_ : Int} {w : World} {K : Sl → World → Prop} (h : impl.cuts.vc a b at_ w K) : CallT (.o (.lf .sl)) P0 62 [a.v, b.v, (.int .i64 at_)] w K :=
  call_of Try.func62 rfl rfl (pl := impl.cuts.pl) (show VC P0 Try.f62 impl.cuts.pl (.o (.lf .sl)) [a.v, b.v, (.int .i64 at_)] w K noP from Eq.mp (by kernel_rfl) h)
/- impl.pieces -/
def impl.pieces.pl : Pl := (.s (.r (D 1)) (.s (.r (D 1)) (.s (.s (.r (D 1)) (.b (.l [(5, (.i .i64)), (7, (.i .i64))] (.s (.r (D 1)) (.s (.c .z .z) (.s (.b (.s (.r (D 2)) (.r [.d, .d, .d, .d, (.c (.o (.lf .sl))), .d, .d, .d]))) (.r (D 2)))))))) (.s (.r (D 2)) .z))))
def impl.pieces.vc (a : Sl) (b : Sl) (w : World) (K : Int → World → Prop) : Prop :=
∃ (I : Int → Int → World → Prop) (M : Int → Int → World → Nat),
I 1 0 w ∧
(∀ (many : Int) (t7 : Int) w_, I many t7 w_ → ∀ _ : Nat → Value,
((decide ((t7 : Int) < 12)) = true → CallT (.o (.lf .sl)) P0 62 [a.v, b.v, (.int .i64 t7)] w_ fun (t14 : Sl) w__1 =>
(I (IntKind.wrap .i64 (many * ((t14.n : Nat) : Int))) (IntKind.wrap .i64 (t7 + 1)) w__1 ∧ M (IntKind.wrap .i64 (many * ((t14.n : Nat) : Int))) (IntKind.wrap .i64 (t7 + 1)) w__1 < M many t7 w_)) ∧
((decide ((t7 : Int) < 12)) = false → K many w_))
theorem impl.pieces.ok {a : Sl} {b : Sl} {w : World} {K : Int → World → Prop} (h : impl.pieces.vc a b w K) : CallT (.o (.lf (.i .i64))) P0 36 [a.v, b.v] w K :=
  call_of Try.func36 rfl rfl (pl := impl.pieces.pl) (show VC P0 Try.f36 impl.pieces.pl (.o (.lf (.i .i64))) [a.v, b.v] w K noP from Eq.mp (by kernel_rfl) h)
/- impl.SamePieces -/
def impl.SamePieces.pl : Pl := (.s (.r (D 1)) (.s (.s (.r [.d, (.c (.o (.lf .b))), .d, (.sp .d), .d, (.c (.o (.lf .b))), .d, .d]) (.c (.s (.r (D 1)) .z) .z)) (.s (.r [.d, .d, (.c (.o (.lf (.i .i64)))), .d]) .z)))
def impl.SamePieces.vc (a : Sl) (b : Sl) (w : World) (K : Int → World → Prop) : Prop :=
CallT (.o (.lf .b)) P0 9 [a.v] w fun (t6 : Bool) w_ =>
((!t6) = true → K (-1) w_) ∧
((!t6) = false → CallT (.o (.lf .b)) P0 9 [b.v] w_ fun (t10 : Bool) w__1 =>
((!t10) = true → K (-1) w__1) ∧
((!t10) = false → CallT (.o (.lf (.i .i64))) P0 36 [a.v, b.v] w__1 fun (t15 : Int) w__2 =>
K t15 w__2))
theorem impl.SamePieces.ok {a : Sl} {b : Sl} {w : World} {K : Int → World → Prop} (h : impl.SamePieces.vc a b w K) : CallT (.o (.lf (.i .i64))) P0 15 [a.v, b.v] w K :=
  call_of Try.func15 rfl rfl (pl := impl.SamePieces.pl) (show VC P0 Try.f15 impl.SamePieces.pl (.o (.lf (.i .i64))) [a.v, b.v] w K noP from Eq.mp (by kernel_rfl) h)
/- impl.holds -/
def impl.holds.pl : Pl := (.s (.r (D 1)) (.s (.s (.r (D 1)) (.b (.s (.r (D 2)) (.c (.s (.r (D 4)) .z) (.s (.r (D 2)) (.c (.s (.r (D 4)) .z) (.s (.r (D 2)) (.c (.s (.r (D 4)) .z) .z)))))))) (.s (.r (D 4)) .z)))
def impl.holds.vc (op : Int) (a : Int) (b : Int) (w : World) (K : Bool → World → Prop) : Prop :=
(((op : Int) == 12) = true → K ((a : Int) == b) w) ∧
(((op : Int) == 12) = false → (((op : Int) == 13) = true → K ((a : Int) != b) w) ∧
(((op : Int) == 13) = false → (((op : Int) == 14) = true → K (decide ((a : Int) < b)) w) ∧
(((op : Int) == 14) = false → K (decide ((a : Int) > b)) w)))
theorem impl.holds.ok {op : Int} {a : Int} {b : Int} {w : World} {K : Bool → World → Prop} (h : impl.holds.vc op a b w K) : CallT (.o (.lf .b)) P0 57 [(.int .i64 op), (.int .i64 a), (.int .i64 b)] w K :=
  call_of Try.func57 rfl rfl (pl := impl.holds.pl) (show VC P0 Try.f57 impl.holds.pl (.o (.lf .b)) [(.int .i64 op), (.int .i64 a), (.int .i64 b)] w K noP from Eq.mp (by kernel_rfl) h)
/- impl.ruled -/
def impl.ruled.pl : Pl := (.s (.r (D 2)) (.s (.s (.r (D 3)) (.b (.l [(10, (.i .i64))] (.s (.r (D 1)) (.s (.c .z .z) (.s (.b (.s (.r [.d, (.l (.ag (R 5 (.i .i64)))), .d, .d]) (.s (.r [.d, (.l (.lf (.i .i64))), .d, .d, (.l (.lf (.i .i64))), .d, .d, .d, (.l (.lf (.i .i64))), (.c (.o (.lf .b)))]) (.c (.s (.r [.d, (.l (.lf (.i .i64))), .d, (.l (.lf (.i .i64))), .d, .d]) .z) .z)))) (.r (D 2)))))))) (.s (.r (D 2)) .z)))
def impl.ruled.vc (list : Sl) (came : ByteArray) (w : World) (K : (Int) × (Int) × Unit → World → Prop) : Prop :=
∃ (I : Int → World → Prop) (M : Int → World → Nat),
I 0 w ∧
(∀ (t10 : Int) w_, I t10 w_ → ∀ _ : Nat → Value,
((decide ((t10 : Int) < ((list.n : Nat) : Int))) = true → Ix list.a list.n t10 5 w_ fun a_t12 w__1 =>
LdA (R 5 (.i .i64)) a_t12 w__1 fun (t13 : Tup (R 5 (.i .i64))) w__2 =>
Nw (zc P0 48) 48 w__2 fun a_r w__3 =>
StA P0 a_r (Tup.cells (R 5 (.i .i64)) t13) w__3 fun w__4 =>
QLd (.i .i64) (Addr.add a_r 1) (fun w' => Below (World.heap w__4).size w__4 w') fun (t15 : Int) =>
QLd (.i .i64) (Addr.add a_r 0) (fun w' => Below (World.heap w__4).size w__4 w') fun (t18 : Int) =>
QSx came t18 fun t19 =>
QLd (.i .i64) (Addr.add a_r 2) (fun w' => Below (World.heap w__4).size w__4 w') fun (t22 : Int) =>
QCl (.o (.lf .b)) P0 57 [(.int .i64 t15), (.int .i64 (IntKind.wrap .i64 t19)), (.int .i64 t22)] (fun w' => Below (World.heap w__4).size w__4 w') fun (t23 : Bool) =>
∀ w__5, Below (World.heap w__4).size w__4 w__5 →
(t23 = true → QLd (.i .i64) (Addr.add a_r 3) (fun w' => Below (World.heap w__5).size w__5 w') fun (t25 : Int) =>
QLd (.i .i64) (Addr.add a_r 4) (fun w' => Below (World.heap w__5).size w__5 w') fun (t27 : Int) =>
∀ w__6, Below (World.heap w__5).size w__5 w__6 →
K (t25, (t27, ())) w__6) ∧
(t23 = false → (I (IntKind.wrap .i64 (t10 + 1)) w__5 ∧ M (IntKind.wrap .i64 (t10 + 1)) w__5 < M t10 w_))) ∧
((decide ((t10 : Int) < ((list.n : Nat) : Int))) = false → K (1, (0, ())) w_))
theorem impl.ruled.ok {list : Sl} {came : ByteArray} {w : World} {K : (Int) × (Int) × Unit → World → Prop} (h : impl.ruled.vc list came w K) : CallT (.n [(.lf (.i .i64)), (.lf (.i .i64))]) P0 30 [list.v, (.string came)] w K :=
  call_of Try.func30 rfl rfl (pl := impl.ruled.pl) (show VC P0 Try.f30 impl.ruled.pl (.n [(.lf (.i .i64)), (.lf (.i .i64))]) [list.v, (.string came)] w K noP from Eq.mp (by kernel_rfl) h)
/- spec.l2Top -/
def spec.l2Top.pl : Pl := (.s (.r (D 1)) (.s (.r (D 1)) .z))
def spec.l2Top.vc  (w : World) (K : Int → World → Prop) : Prop :=
K 4294967295 w
theorem spec.l2Top.ok  {w : World} {K : Int → World → Prop} (h : spec.l2Top.vc  w K) : CallT (.o (.lf (.i .i64))) P0 48 [] w K :=
  call_of Try.func48 rfl rfl (pl := spec.l2Top.pl) (show VC P0 Try.f48 spec.l2Top.pl (.o (.lf (.i .i64))) [] w K noP from Eq.mp (by kernel_rfl) h)
/- spec.l9RuleOk -/
def spec.l9RuleOk.pl : Pl := (.s (.r (D 2)) (.s (.r [.d, (.l (.lf (.i .i64))), (.c (.o (.lf .b))), (.sp .d), .d, (.l (.lf (.i .i64))), (.c (.o (.lf .b))), .d, (.sp .d), .d, (.l (.lf (.i .i64))), (.c (.o (.lf .b))), .d, (.sp .d), .d, (.l (.lf (.i .i64))), (.c (.o (.lf .b))), .d, (.sp .d), .d, (.l (.lf (.i .i64))), (.c (.o (.lf (.i .i64)))), (.c (.o (.lf .b))), .d, (.sp .d), .d, (.l (.lf (.i .i64))), .d, (.sp .d), .d, (.l (.lf (.i .i64))), .d, .d, .d, .d]) .z))
def spec.l9RuleOk.vc (r : Tup (R 5 (.i .i64))) (w : World) (K : Bool → World → Prop) : Prop :=
Nw (Tup.cells (R 5 (.i .i64)) r).toArray 48 w fun a_r w_ =>
QLd (.i .i64) (Addr.add a_r 0) (fun w' => Below (World.heap w_).size w_ w') fun (t4 : Int) =>
QCl (.o (.lf .b)) P0 67 [(.int .i64 t4), (.int .i64 0), (.int .i64 11)] (fun w' => Below (World.heap w_).size w_ w') fun (t5 : Bool) =>
(t5 = true → QLd (.i .i64) (Addr.add a_r 1) (fun w' => Below (World.heap w_).size w_ w') fun (t8 : Int) =>
QCl (.o (.lf .b)) P0 67 [(.int .i64 t8), (.int .i64 12), (.int .i64 15)] (fun w' => Below (World.heap w_).size w_ w') fun (t9 : Bool) =>
(t9 = true → QLd (.i .i64) (Addr.add a_r 2) (fun w' => Below (World.heap w_).size w_ w') fun (t13 : Int) =>
QCl (.o (.lf .b)) P0 67 [(.int .i64 t13), (.int .i64 0), (.int .i64 255)] (fun w' => Below (World.heap w_).size w_ w') fun (t14 : Bool) =>
(t14 = true → QLd (.i .i64) (Addr.add a_r 3) (fun w' => Below (World.heap w_).size w_ w') fun (t18 : Int) =>
QCl (.o (.lf .b)) P0 67 [(.int .i64 t18), (.int .i64 0), (.int .i64 2)] (fun w' => Below (World.heap w_).size w_ w') fun (t19 : Bool) =>
(t19 = true → QLd (.i .i64) (Addr.add a_r 4) (fun w' => Below (World.heap w_).size w_ w') fun (t23 : Int) =>
QCl (.o (.lf (.i .i64))) P0 48 [] (fun w' => Below (World.heap w_).size w_ w') fun (t24 : Int) =>
QCl (.o (.lf .b)) P0 67 [(.int .i64 t23), (.int .i64 0), (.int .i64 t24)] (fun w' => Below (World.heap w_).size w_ w') fun (t25 : Bool) =>
(t25 = true → QLd (.i .i64) (Addr.add a_r 3) (fun w' => Below (World.heap w_).size w_ w') fun (t29 : Int) =>
(((t29 : Int) == 2) = true → ∀ w__1, Below (World.heap w_).size w_ w__1 →
K true w__1) ∧
(((t29 : Int) == 2) = false → QLd (.i .i64) (Addr.add a_r 4) (fun w' => Below (World.heap w_).size w_ w') fun (t33 : Int) =>
∀ w__1, Below (World.heap w_).size w_ w__1 →
K ((t33 : Int) == 0) w__1)) ∧
(t25 = false → ∀ w__1, Below (World.heap w_).size w_ w__1 →
K false w__1)) ∧
(t19 = false → ∀ w__1, Below (World.heap w_).size w_ w__1 →
K false w__1)) ∧
(t14 = false → ∀ w__1, Below (World.heap w_).size w_ w__1 →
K false w__1)) ∧
(t9 = false → ∀ w__1, Below (World.heap w_).size w_ w__1 →
K false w__1)) ∧
(t5 = false → ∀ w__1, Below (World.heap w_).size w_ w__1 →
K false w__1)
theorem spec.l9RuleOk.ok {r : Tup (R 5 (.i .i64))} {w : World} {K : Bool → World → Prop} (h : spec.l9RuleOk.vc r w K) : CallT (.o (.lf .b)) P0 46 [(.agg (Tup.cells (R 5 (.i .i64)) r).toArray)] w K :=
  call_of Try.func46 rfl rfl (pl := spec.l9RuleOk.pl) (show VC P0 Try.f46 spec.l9RuleOk.pl (.o (.lf .b)) [(.agg (Tup.cells (R 5 (.i .i64)) r).toArray)] w K noP from Eq.mp (by kernel_rfl) h)
/- spec.l9Ok -/
def spec.l9Ok.pl : Pl := (.s (.r (D 1)) (.s (.s (.r (D 1)) (.b (.l [(3, (.i .i64))] (.s (.s (.r (D 4)) (.c .z .z)) (.s (.b (.s (.r [.d, .d, .d, (.l (.ag (R 5 (.i .i64)))), (.c (.o (.lf .b))), .d]) (.c (.s (.r (D 1)) .z) .z))) (.r (D 3))))))) (.s (.r (D 4)) .z)))
def spec.l9Ok.vc (list : Sl) (w : World) (K : Bool → World → Prop) : Prop :=
∃ (I : Int → World → Prop) (M : Int → World → Nat),
I 0 w ∧
(∀ (i : Int) w_, I i w_ → ∀ _ : Nat → Value,
((decide ((i : Int) < ((list.n : Nat) : Int))) = true → Ix list.a list.n i 5 w_ fun a_t12 w__1 =>
LdA (R 5 (.i .i64)) a_t12 w__1 fun (t13 : Tup (R 5 (.i .i64))) w__2 =>
CallT (.o (.lf .b)) P0 46 [(.agg (Tup.cells (R 5 (.i .i64)) t13).toArray)] w__2 fun (t14 : Bool) w__3 =>
((!t14) = true → K false w__3) ∧
((!t14) = false → (I (IntKind.wrap .i64 (i + 1)) w__3 ∧ M (IntKind.wrap .i64 (i + 1)) w__3 < M i w_))) ∧
((decide ((i : Int) < ((list.n : Nat) : Int))) = false → K (decide ((((list.n : Nat) : Int) : Int) ≤ 6)) w_))
theorem spec.l9Ok.ok {list : Sl} {w : World} {K : Bool → World → Prop} (h : spec.l9Ok.vc list w K) : CallT (.o (.lf .b)) P0 23 [list.v] w K :=
  call_of Try.func23 rfl rfl (pl := spec.l9Ok.pl) (show VC P0 Try.f23 spec.l9Ok.pl (.o (.lf .b)) [list.v] w K noP from Eq.mp (by kernel_rfl) h)
/- spec.l14Cuts -/
def spec.l14Cuts.pl : Pl := (.s (.r (D 1)) (.s (.r [(.t (.o (.lf .sl))), .d]) (.s (.r (D 3)) (.s (.s (.r (D 1)) (.b (.l [(6, (.i .i64))] (.s (.s (.r (D 4)) (.c .z .z)) (.s (.b (.s (.r (D 1)) (.b (.l [(7, (.i .i64))] (.s (.s (.r [.d, .d, .d, .d, (.l (.lf .sl)), .d, .d]) (.c .z .z)) (.s (.b (.s (.r [.d, .d, .d, (.l (.lf .sl)), .d, .d, .d, (.l (.lf (.i .i64))), .d, .d]) (.c (.s (.r [.d, .d, .d, .d, (.l (.lf .sl)), .d, .d, .d, (.l (.lf (.i .i64))), .d, .d]) (.r [.d, .d, .d, .d, (.l (.lf .sl)), .d, .d, .d, (.l (.lf (.i .i64))), .d, .d, .d])) .z))) (.r (D 3)))))))) (.r (D 3))))))) (.s (.r (D 2)) (.s (.s (.r (D 1)) (.b (.l [(8, .sl), (9, (.i .i64))] (.s (.s (.r (D 2)) (.c .z .z)) (.s (.b (.s (.r [.d, .d, .d, (.l (.lf .b))]) (.c (.r [.d, .d, .d, (.t (.o (.lf .sl))), .d]) .z))) (.r (D 3))))))) (.s (.r (D 2)) .z)))))))
def spec.l14Cuts.vc (lists : Sl) (at_ : Int) (w : World) (K : Sl → World → Prop) : Prop :=
RunT (.o (.lf .sl)) P0 (Instr.makeSlice 110 (.int .i64 257) (.int .i64 257)) w fun (t10 : Sl) w_ =>
Ix t10.a t10.n 0 1 w_ fun a_t12 w__1 =>
St a_t12 (.bool true) w__1 fun w__2 =>
∃ (I : Int → World → Prop) (M : Int → World → Nat),
I 0 w__2 ∧
(∀ (i : Int) w__3, I i w__3 → ∀ _ : Nat → Value,
((decide ((i : Int) < ((lists.n : Nat) : Int))) = true → ∃ (I_1 : Int → World → Prop) (M_1 : Int → World → Nat),
I_1 0 w__3 ∧
(∀ (k : Int) w__4, I_1 k w__4 → ∀ _ : Nat → Value,
Ix lists.a lists.n i 1 w__4 fun a_t22 w__5 =>
Ld .sl a_t22 w__5 fun (t23 : Sl) w__6 =>
((decide ((k : Int) < ((t23.n : Nat) : Int))) = true → Ix lists.a lists.n i 1 w__6 fun a_t30 w__7 =>
Ld .sl a_t30 w__7 fun (t31 : Sl) w__8 =>
Ix t31.a t31.n k 5 w__8 fun a_t33 w__9 =>
Ld (.i .i64) (Addr.add a_t33 0) w__9 fun (t35 : Int) w__10 =>
(((t35 : Int) == at_) = true → Ix lists.a lists.n i 1 w__10 fun a_t41 w__11 =>
Ld .sl a_t41 w__11 fun (t42 : Sl) w__12 =>
Ix t42.a t42.n k 5 w__12 fun a_t44 w__13 =>
Ld (.i .i64) (Addr.add a_t44 2) w__13 fun (t46 : Int) w__14 =>
Ix t10.a t10.n t46 1 w__14 fun a_t47 w__15 =>
St a_t47 (.bool true) w__15 fun w__16 =>
Ix lists.a lists.n i 1 w__16 fun a_t51 w__17 =>
Ld .sl a_t51 w__17 fun (t52 : Sl) w__18 =>
Ix t52.a t52.n k 5 w__18 fun a_t54 w__19 =>
Ld (.i .i64) (Addr.add a_t54 2) w__19 fun (t56 : Int) w__20 =>
Ix t10.a t10.n (IntKind.wrap .i64 (t56 + 1)) 1 w__20 fun a_t58 w__21 =>
St a_t58 (.bool true) w__21 fun w__22 =>
(I_1 (IntKind.wrap .i64 (k + 1)) w__22 ∧ M_1 (IntKind.wrap .i64 (k + 1)) w__22 < M_1 k w__4)) ∧
(((t35 : Int) == at_) = false → (I_1 (IntKind.wrap .i64 (k + 1)) w__10 ∧ M_1 (IntKind.wrap .i64 (k + 1)) w__10 < M_1 k w__4))) ∧
((decide ((k : Int) < ((t23.n : Nat) : Int))) = false → (I (IntKind.wrap .i64 (i + 1)) w__6 ∧ M (IntKind.wrap .i64 (i + 1)) w__6 < M i w__3)))) ∧
((decide ((i : Int) < ((lists.n : Nat) : Int))) = false → Nw #[] 3 w__3 fun a_t59 w__23 =>
∃ (I_2 : Sl → Int → World → Prop) (M_2 : Sl → Int → World → Nat),
I_2 ⟨(some a_t59), 0, 0⟩ 0 w__23 ∧
(∀ (out : Sl) (n : Int) w__24, I_2 out n w__24 → ∀ _ : Nat → Value,
((decide ((n : Int) < 256)) = true → Ix t10.a t10.n n 1 w__24 fun a_t66 w__25 =>
Ld .b a_t66 w__25 fun (t67 : Bool) w__26 =>
(t67 = true → Nw #[(.int .i64 n)] 3 w__26 fun a_t70 w__27 =>
RunT (.o (.lf .sl)) P0 (Builtin.append_ #[59, 59] 59 #[out.v, (.slice (some a_t70) 1 1)]) w__27 fun (t71 : Sl) w__28 =>
(I_2 t71 (IntKind.wrap .i64 (n + 1)) w__28 ∧ M_2 t71 (IntKind.wrap .i64 (n + 1)) w__28 < M_2 out n w__24)) ∧
(t67 = false → (I_2 out (IntKind.wrap .i64 (n + 1)) w__26 ∧ M_2 out (IntKind.wrap .i64 (n + 1)) w__26 < M_2 out n w__24))) ∧
((decide ((n : Int) < 256)) = false → K out w__24))))
theorem spec.l14Cuts.ok {lists : Sl} {at_ : Int} {w : World} {K : Sl → World → Prop} (h : spec.l14Cuts.vc lists at_ w K) : CallT (.o (.lf .sl)) P0 60 [lists.v, (.int .i64 at_)] w K :=
  call_of Try.func60 rfl rfl (pl := spec.l14Cuts.pl) (show VC P0 Try.f60 spec.l14Cuts.pl (.o (.lf .sl)) [lists.v, (.int .i64 at_)] w K noP from Eq.mp (by kernel_rfl) h)
/- spec.l14Ways -/
def spec.l14Ways.pl : Pl := (.s (.r (D 1)) (.s (.r (D 1)) (.s (.s (.r (D 1)) (.b (.l [(5, (.i .i64)), (6, (.i .i64))] (.s (.s (.r (D 2)) (.c .z .z)) (.s (.b (.r [.d, .d, .d, .d, .d, (.c (.o (.lf .sl))), .d, .d, .d])) (.r (D 3))))))) (.s (.r (D 2)) .z))))
def spec.l14Ways.vc (a : Sl) (b : Sl) (w : World) (K : Int → World → Prop) : Prop :=
∃ (I : Int → Int → World → Prop) (M : Int → Int → World → Nat),
I 1 0 w ∧
(∀ (n : Int) (at_ : Int) w_, I n at_ w_ → ∀ _ : Nat → Value,
((decide ((at_ : Int) < 12)) = true → Nw #[a.v, b.v] 23 w_ fun a_t14 w__1 =>
CallT (.o (.lf .sl)) P0 60 [(.slice (some a_t14) 2 2), (.int .i64 at_)] w__1 fun (t16 : Sl) w__2 =>
(I (IntKind.wrap .i64 (n * ((t16.n : Nat) : Int))) (IntKind.wrap .i64 (at_ + 1)) w__2 ∧ M (IntKind.wrap .i64 (n * ((t16.n : Nat) : Int))) (IntKind.wrap .i64 (at_ + 1)) w__2 < M n at_ w_)) ∧
((decide ((at_ : Int) < 12)) = false → K n w_))
theorem spec.l14Ways.ok {a : Sl} {b : Sl} {w : World} {K : Int → World → Prop} (h : spec.l14Ways.vc a b w K) : CallT (.o (.lf (.i .i64))) P0 34 [a.v, b.v] w K :=
  call_of Try.func34 rfl rfl (pl := spec.l14Ways.pl) (show VC P0 Try.f34 spec.l14Ways.pl (.o (.lf (.i .i64))) [a.v, b.v] w K noP from Eq.mp (by kernel_rfl) h)
/- spec.l2Holds -/
def spec.l2Holds.pl : Pl := (.s (.r (D 1)) (.s (.s (.r (D 1)) (.b (.s (.r (D 2)) (.c (.s (.r (D 4)) .z) (.s (.r (D 2)) (.c (.s (.r (D 4)) .z) (.s (.r (D 2)) (.c (.s (.r (D 4)) .z) .z)))))))) (.s (.r (D 4)) .z)))
def spec.l2Holds.vc (op : Int) (a : Int) (b : Int) (w : World) (K : Bool → World → Prop) : Prop :=
(((op : Int) == 12) = true → K ((a : Int) == b) w) ∧
(((op : Int) == 12) = false → (((op : Int) == 13) = true → K ((a : Int) != b) w) ∧
(((op : Int) == 13) = false → (((op : Int) == 14) = true → K (decide ((a : Int) < b)) w) ∧
(((op : Int) == 14) = false → K (decide ((a : Int) > b)) w)))
theorem spec.l2Holds.ok {op : Int} {a : Int} {b : Int} {w : World} {K : Bool → World → Prop} (h : spec.l2Holds.vc op a b w K) : CallT (.o (.lf .b)) P0 80 [(.int .i64 op), (.int .i64 a), (.int .i64 b)] w K :=
  call_of Try.func80 rfl rfl (pl := spec.l2Holds.pl) (show VC P0 Try.f80 spec.l2Holds.pl (.o (.lf .b)) [(.int .i64 op), (.int .i64 a), (.int .i64 b)] w K noP from Eq.mp (by kernel_rfl) h)
/- spec.l9Of -/
def spec.l9Of.pl : Pl := (.s (.r (D 2)) (.s (.s (.r (D 1)) (.b (.l [(6, (.i .i64))] (.s (.s (.r (D 4)) (.c .z .z)) (.s (.b (.s (.r [.d, .d, .d, .d, (.l (.lf (.i .i64))), .d, .d, .d, .d, .d, (.l (.lf (.i .i64))), .d, .d, .d, .d, .d, .d, (.l (.lf (.i .i64))), (.c (.o (.lf .b)))]) (.c (.s (.r [.d, .d, .d, .d, (.l (.lf (.i .i64))), .d, .d, .d, .d, (.l (.lf (.i .i64))), .d, .d]) .z) .z))) (.r (D 3))))))) (.s (.r (D 2)) .z)))
def spec.l9Of.vc (list : Sl) (came : ByteArray) (w : World) (K : (Int) × (Int) × Unit → World → Prop) : Prop :=
∃ (I : Int → World → Prop) (M : Int → World → Nat),
I 0 w ∧
(∀ (i : Int) w_, I i w_ → ∀ _ : Nat → Value,
((decide ((i : Int) < ((list.n : Nat) : Int))) = true → QIx list.a list.n i 5 fun a_t15 =>
QLd (.i .i64) (Addr.add a_t15 1) (fun w' => Below (World.heap w_).size w_ w') fun (t17 : Int) =>
QIx list.a list.n i 5 fun a_t21 =>
QLd (.i .i64) (Addr.add a_t21 0) (fun w' => Below (World.heap w_).size w_ w') fun (t23 : Int) =>
QSx came t23 fun t24 =>
QIx list.a list.n i 5 fun a_t28 =>
QLd (.i .i64) (Addr.add a_t28 2) (fun w' => Below (World.heap w_).size w_ w') fun (t30 : Int) =>
QCl (.o (.lf .b)) P0 80 [(.int .i64 t17), (.int .i64 (IntKind.wrap .i64 t24)), (.int .i64 t30)] (fun w' => Below (World.heap w_).size w_ w') fun (t31 : Bool) =>
∀ w__1, Below (World.heap w_).size w_ w__1 →
(t31 = true → QIx list.a list.n i 5 fun a_t34 =>
QLd (.i .i64) (Addr.add a_t34 3) (fun w' => Below (World.heap w__1).size w__1 w') fun (t36 : Int) =>
QIx list.a list.n i 5 fun a_t39 =>
QLd (.i .i64) (Addr.add a_t39 4) (fun w' => Below (World.heap w__1).size w__1 w') fun (t41 : Int) =>
∀ w__2, Below (World.heap w__1).size w__1 w__2 →
K (t36, (t41, ())) w__2) ∧
(t31 = false → (I (IntKind.wrap .i64 (i + 1)) w__1 ∧ M (IntKind.wrap .i64 (i + 1)) w__1 < M i w_))) ∧
((decide ((i : Int) < ((list.n : Nat) : Int))) = false → K (1, (0, ())) w_))
theorem spec.l9Of.ok {list : Sl} {came : ByteArray} {w : World} {K : (Int) × (Int) × Unit → World → Prop} (h : spec.l9Of.vc list came w K) : CallT (.n [(.lf (.i .i64)), (.lf (.i .i64))]) P0 61 [list.v, (.string came)] w K :=
  call_of Try.func61 rfl rfl (pl := spec.l9Of.pl) (show VC P0 Try.f61 spec.l9Of.pl (.n [(.lf (.i .i64)), (.lf (.i .i64))]) [list.v, (.string came)] w K noP from Eq.mp (by kernel_rfl) h)
/- spec.l14Find -/
def spec.l14Find.pl : Pl := (.s (.r (D 2)) (.s (.r (D 3)) (.s (.s (.r (D 2)) (.c (.s (.r [.d, .d, (.c (.n [(.lf (.i .i64)), (.lf (.i .i64))])), .d, .d, .d, .d, .d]) (.s (.r [.d, .d, (.c (.n [(.lf (.i .i64)), (.lf (.i .i64))])), .d, .d, .d, .d, .d]) (.s (.r [.d, .d, .d, .d, (.sp .d), .d, .d, .d, .d, .d, .d]) .z))) .z)) (.s (.r [.d, .d, .d, .d, (.c (.o (.lf .sl))), .d]) (.s (.s (.r (D 1)) (.b (.l [(14, (.i .i64))] (.s (.s (.r (D 4)) (.c .z .z)) (.s (.b (.s (.r [.d, .d, .d, .d, .d, .d, (.l (.lf (.i .i64))), .d, .d, (.t (.o (.lf .s))), .d, (.c (.n [(.lf .s), (.lf .b)])), .d, .d, .d, .d, .d]) (.s (.r (D 1)) (.c (.s (.r (D 3)) .z) .z)))) (.r (D 3))))))) (.s (.r (D 2)) .z))))))
def spec.l14Find.vc (a : Sl) (b : Sl) (came : ByteArray) (w : World) (K : (ByteArray) × (Bool) × Unit → World → Prop) : Prop :=
((((((ByteArray.size came) : Nat) : Int) : Int) == 12) = true → CallT (.n [(.lf (.i .i64)), (.lf (.i .i64))]) P0 61 [a.v, (.string came)] w fun (t24 : (Int) × (Int) × Unit) w_ =>
CallT (.n [(.lf (.i .i64)), (.lf (.i .i64))]) P0 61 [b.v, (.string came)] w_ fun (t30 : (Int) × (Int) × Unit) w__1 =>
(((t24.1 : Int) != t30.1) = true → K (came, (true, ())) w__1) ∧
(((t24.1 : Int) != t30.1) = false → K (came, (((t24.2.1 : Int) != t30.2.1), ())) w__1)) ∧
((((((ByteArray.size came) : Nat) : Int) : Int) == 12) = false → Nw #[a.v, b.v] 23 w fun a_t44 w__2 =>
CallT (.o (.lf .sl)) P0 60 [(.slice (some a_t44) 2 2), (.int .i64 (((ByteArray.size came) : Nat) : Int))] w__2 fun (t46 : Sl) w__3 =>
∃ (I : Int → World → Prop) (M : Int → World → Nat),
I 0 w__3 ∧
(∀ (i : Int) w__4, I i w__4 → ∀ _ : Nat → Value,
((decide ((i : Int) < ((t46.n : Nat) : Int))) = true → Ix t46.a t46.n i 1 w__4 fun a_t59 w__5 =>
Ld (.i .i64) a_t59 w__5 fun (t60 : Int) w__6 =>
Nw #[(.int .u8 (IntKind.wrap .u8 t60))] 5 w__6 fun a_t62 w__7 =>
RunT (.o (.lf .s)) P0 (convert 22 9 (.slice (some a_t62) 1 1)) w__7 fun (t63 : ByteArray) w__8 =>
(((ByteArray.size came + ByteArray.size t63 : Nat) : Int) ≤ IntKind.i64.max) ∧ CallT (.n [(.lf .s), (.lf .b)]) P0 35 [a.v, b.v, (.string (came ++ t63))] w__8 fun (t65 : (ByteArray) × (Bool) × Unit) w__9 =>
(t65.2.1 = true → K (t65.1, (true, ())) w__9) ∧
(t65.2.1 = false → (I (IntKind.wrap .i64 (i + 1)) w__9 ∧ M (IntKind.wrap .i64 (i + 1)) w__9 < M i w__4))) ∧
((decide ((i : Int) < ((t46.n : Nat) : Int))) = false → K (⟨#[]⟩, (false, ())) w__4)))
theorem spec.l14Find.ok {a : Sl} {b : Sl} {came : ByteArray} {w : World} {K : (ByteArray) × (Bool) × Unit → World → Prop} (h : spec.l14Find.vc a b came w K) : CallT (.n [(.lf .s), (.lf .b)]) P0 35 [a.v, b.v, (.string came)] w K :=
  call_of Try.func35 rfl rfl (pl := spec.l14Find.pl) (show VC P0 Try.f35 spec.l14Find.pl (.n [(.lf .s), (.lf .b)]) [a.v, b.v, (.string came)] w K noP from Eq.mp (by kernel_rfl) h)
/- spec.SameRules -/
def spec.SameRules.pl : Pl := (.s (.r (D 1)) (.j [] (.s (.r [.d, (.c (.o (.lf .b))), .d, (.sp .d), .d, (.c (.o (.lf .b))), .d, .d, (.sp .d), .d, .d, (.c (.o (.lf (.i .i64)))), .d, .d]) (.c (.s (.r (D 1)) .z) .z)) (.s (.r [.d, .d, (.c (.n [(.lf .s), (.lf .b)])), .d, .d, .d, .d, .d]) (.s (.r (D 3)) .z))))
def spec.SameRules.vc (a : Sl) (b : Sl) (w : World) (K : Bool → World → Prop) : Prop :=
∃ J : World → Prop,
(CallT (.o (.lf .b)) P0 23 [a.v] w fun (t8 : Bool) w_ =>
((!t8) = true → K false w_) ∧
((!t8) = false → CallT (.o (.lf .b)) P0 23 [b.v] w_ fun (t12 : Bool) w__1 =>
((!t12) = true → K false w__1) ∧
((!t12) = false → CallT (.o (.lf (.i .i64))) P0 34 [a.v, b.v] w__1 fun (t18 : Int) w__2 =>
((decide ((t18 : Int) > 400)) = true → K false w__2) ∧
((decide ((t18 : Int) > 400)) = false → J w__2)))) ∧
(∀  w__3, J w__3 → ∀ _ : Nat → Value,
CallT (.n [(.lf .s), (.lf .b)]) P0 35 [a.v, b.v, (.string ⟨#[]⟩)] w__3 fun (t24 : (ByteArray) × (Bool) × Unit) w__4 =>
K (!t24.2.1) w__4)
theorem spec.SameRules.ok {a : Sl} {b : Sl} {w : World} {K : Bool → World → Prop} (h : spec.SameRules.vc a b w K) : CallT (.o (.lf .b)) P0 14 [a.v, b.v] w K :=
  call_of Try.func14 rfl rfl (pl := spec.SameRules.pl) (show VC P0 Try.f14 spec.SameRules.pl (.o (.lf .b)) [a.v, b.v] w K noP from Eq.mp (by kernel_rfl) h)
end Go.Proofs.Ytdlnoabihfnmmaa.V

/- Contracts: what tidies a range in the reference. -/
namespace Go.Proofs.Ytdlnoabihfnmmaa.V
open Go Go.RowKit
set_option linter.unusedVariables false
set_option linter.unusedSimpArgs false
section
variable {w : World}
theorem spec.l2Top.c {K : Int → World → Prop} (hk : K 4294967295 w) : CallT (.o (.lf (.i .i64))) P0 48 [] w K := spec.l2Top.ok hk
theorem spec.l2Mask.c {n : Nat} {v : Int} {K : Int → World → Prop} (hn : n < 2 ^ 32) (hv : v = (n : Int)) (hk : K ((2 ^ Lib.bitLen n - 1 : Nat) : Int) w) : CallT (.o (.lf (.i .i64))) P0 88 [.int .i64 v] w K := by
  subst hv
  refine spec.l2Mask.ok ⟨fun m w' => ∃ j : Nat, j ≤ Lib.bitLen n ∧ m = ((2 ^ j - 1 : Nat) : Int) ∧ w' = w, fun m _ => n - m.toNat, ⟨0, by omega, by simp, rfl⟩, ?_⟩
  rintro m w' ⟨j, hj, rfl, rfl⟩ _
  have hb := bl_spec n (by omega) j
  have hp := Nat.two_pow_pos j
  refine And.intro (fun h => ?_) (fun h => ?_)
  · simp only [decide_eq_true_eq] at h
    have hlt : ¬ Lib.bitLen n ≤ j := fun h2 => by have := hb.1 h2; omega
    have e : IntKind.wrap .i64 (IntKind.wrap .i64 (((2 ^ j - 1 : Nat) : Int) * 2) + 1) = ((2 ^ (j + 1) - 1 : Nat) : Int) := by
      rw [(i64_of (by omega) (by omega) : IntKind.wrap .i64 (((2 ^ j - 1 : Nat) : Int) * 2) = ((2 ^ j - 1 : Nat) : Int) * 2), (i64_of (by omega) (by omega) : IntKind.wrap .i64 (((2 ^ j - 1 : Nat) : Int) * 2 + 1) = ((2 ^ j - 1 : Nat) : Int) * 2 + 1), Nat.pow_succ]; omega
    rw [e]
    refine ⟨⟨j + 1, by omega, rfl, rfl⟩, ?_⟩
    rw [Nat.pow_succ]
    simp only [Int.toNat_natCast]
    omega
  · simp only [decide_eq_false_iff_not] at h
    have : Lib.bitLen n ≤ j := hb.2 (by omega)
    obtain rfl : j = Lib.bitLen n := by omega
    exact hk
theorem spec.l2Bits.c {lo hi : Nat} {K : Int × Int × Unit → World → Prop} (hlo : lo < 2 ^ 32) (hhi : hi < 2 ^ 32) (hk : K (iAnd .i64 lo (iXor .i64 4294967295 ((2 ^ kk lo hi - 1 : Nat) : Int)), ((2 ^ kk lo hi - 1 : Nat) : Int), ()) w) :
    CallT (.n [(.lf (.i .i64)), (.lf (.i .i64))]) P0 68 [.int .i64 lo, .int .i64 hi] w K :=
  spec.l2Bits.ok (spec.l2Mask.c (n := lo ^^^ hi) (Nat.xor_lt_two_pow hlo hhi) (iXor_nat (by omega) (by omega)) (spec.l2Top.c hk))
theorem spec.l2Bits.c' {lo hi : Nat} {a b : Int} {K : Int × Int × Unit → World → Prop} (hlo : lo < 2 ^ 32) (hhi : hi < 2 ^ 32) (ha : a = lo) (hb : b = hi) (hk : K (iAnd .i64 lo (iXor .i64 4294967295 ((2 ^ kk lo hi - 1 : Nat) : Int)), ((2 ^ kk lo hi - 1 : Nat) : Int), ()) w) :
    CallT (.n [(.lf (.i .i64)), (.lf (.i .i64))]) P0 68 [.int .i64 a, .int .i64 b] w K := by
  subst ha hb
  exact spec.l2Bits.c hlo hhi hk
end
/-! ### the law -/
theorem iXor_top {j : Nat} (hj : j ≤ 32) : iXor .i64 4294967295 ((2 ^ j - 1 : Nat) : Int) = ((4294967295 ^^^ (2 ^ j - 1) : Nat) : Int) := by
  have := Nat.pow_le_pow_right (n := 2) (by omega) hj
  exact iXor_nat (a := 4294967295) (by omega) (by omega)
theorem and_top {j a : Nat} (hj : j ≤ 32) (ha : a < 2 ^ 32) : a &&& (4294967295 ^^^ (2 ^ j - 1)) = cutN j a := by
  apply Nat.eq_of_testBit_eq
  intro i
  rw [Nat.testBit_and, Nat.testBit_xor, cutN_bit, mask_bit, show (4294967295 : Nat) = 2 ^ 32 - 1 by decide, mask_bit]
  by_cases h1 : i < 32
  · by_cases h2 : i < j
    · simp [h1, h2]; intro h; omega
    · simp [h1, h2, Nat.le_of_not_lt h2]
  · have : a.testBit i = false := Nat.testBit_lt_two_pow (Nat.lt_of_lt_of_le ha (Nat.pow_le_pow_right (by omega) (by omega)))
    simp [this]
theorem iAnd_top {j a : Nat} (hj : j ≤ 32) (ha : a < 2 ^ 32) : iAnd .i64 a (iXor .i64 4294967295 ((2 ^ j - 1 : Nat) : Int)) = ((cutN j a : Nat) : Int) := by
  have := Nat.pow_le_pow_right (n := 2) (by omega) hj
  rw [iXor_top hj, iAnd_nat (by omega) (by have := Nat.xor_lt_two_pow (n := 32) (x := 4294967295) (y := 2 ^ j - 1) (by omega) (by omega); omega), and_top hj ha]
/-- A range is tidied so. -/
def tsO (o m : Int) : Int := iAnd .i64 o m
def tsB (r : T4) (bits m : Int) : Int := iAnd .i64 (iOr .i64 r.2.2.1 bits) (iXor .i64 4294967295 (tsO r.2.2.2.1 m))
def tsF (r : T4) (bits m : Int) : T4 := (if tsB r bits m > r.1 then tsB r bits m else r.1, if iOr .i64 (tsB r bits m) (tsO r.2.2.2.1 m) < r.2.1 then iOr .i64 (tsB r bits m) (tsO r.2.2.2.1 m) else r.2.1, tsB r bits m, tsO r.2.2.2.1 m, ())
section
variable {w : World}
theorem spec.l2Tidy.g {r : T4} {lo hi : Nat} {K : T4 → World → Prop} (hlo : lo < 2 ^ 32) (hhi : hi < 2 ^ 32) (h1 : r.1 = lo) (h2 : r.2.1 = hi) (hk : ∀ w', Below w.heap.size w w' → K (tsF r (iAnd .i64 lo (iXor .i64 4294967295 ((2 ^ kk lo hi - 1 : Nat) : Int))) ((2 ^ kk lo hi - 1 : Nat) : Int)) w') :
    CallT (.o (.ag (R 4 (.i .i64)))) P0 47 [.agg (Tup.cells (R 4 (.i .i64)) r).toArray] w K := by
  refine spec.l2Tidy.ok ?_
  unfold spec.l2Tidy.vc
  have hm := M.start w
  repeat' (first | (with_reducible refine ldM (by assumption) (by with_unfolding_all (repeat (first | exact List.mem_cons_self | refine List.mem_cons_of_mem _ ?_))) (by with_unfolding_all rfl) ?_) | (with_reducible refine ldAM (by assumption) (by with_unfolding_all (repeat (first | exact List.mem_cons_self | refine List.mem_cons_of_mem _ ?_))) ?_) | (with_reducible refine nwZ (by assumption) fun _ _ _ => ?_) | (with_reducible refine nwM' (by assumption) fun _ _ _ => ?_) | (with_reducible refine stM0 (by assumption) (by with_unfolding_all (repeat (first | exact Up.head _ _ _ _ | apply Up.tail))) fun _ _ => ?_) | (with_reducible refine stM1 (by assumption) (by with_unfolding_all (repeat (first | exact Up.head _ _ _ _ | apply Up.tail))) fun _ _ => ?_) | (with_reducible refine stM2 (by assumption) (by with_unfolding_all (repeat (first | exact Up.head _ _ _ _ | apply Up.tail))) fun _ _ => ?_) | (with_reducible refine stM3 (by assumption) (by with_unfolding_all (repeat (first | exact Up.head _ _ _ _ | apply Up.tail))) fun _ _ => ?_) | (with_reducible refine stAM' (by assumption) (by with_unfolding_all (repeat (first | exact Up.head _ _ _ _ | apply Up.tail))) fun _ _ => ?_) | (with_reducible refine stAL (by assumption) (by with_unfolding_all (repeat (first | exact Up.head _ _ _ _ | apply Up.tail))) fun _ _ => ?_) | (with_reducible refine And.intro (fun _ => ?_) (fun _ => ?_)) | (refine stAM' (by assumption) (by with_unfolding_all (repeat (first | exact Up.head _ _ _ _ | apply Up.tail))) fun _ _ => ?_))
  refine spec.l2Bits.c' (lo := lo) (hi := hi) hlo hhi h1 h2 ?_
  generalize ((2 ^ kk lo hi - 1 : Nat) : Int) = m at *
  generalize iAnd .i64 (lo : Int) (iXor .i64 4294967295 m) = bits at *
  repeat' (first | (with_reducible refine ldM (by assumption) (by with_unfolding_all (repeat (first | exact List.mem_cons_self | refine List.mem_cons_of_mem _ ?_))) (by with_unfolding_all rfl) ?_) | (with_reducible refine ldAM (by assumption) (by with_unfolding_all (repeat (first | exact List.mem_cons_self | refine List.mem_cons_of_mem _ ?_))) ?_) | (with_reducible refine nwZ (by assumption) fun _ _ _ => ?_) | (with_reducible refine nwM' (by assumption) fun _ _ _ => ?_) | (with_reducible refine stM0 (by assumption) (by with_unfolding_all (repeat (first | exact Up.head _ _ _ _ | apply Up.tail))) fun _ _ => ?_) | (with_reducible refine stM1 (by assumption) (by with_unfolding_all (repeat (first | exact Up.head _ _ _ _ | apply Up.tail))) fun _ _ => ?_) | (with_reducible refine stM2 (by assumption) (by with_unfolding_all (repeat (first | exact Up.head _ _ _ _ | apply Up.tail))) fun _ _ => ?_) | (with_reducible refine stM3 (by assumption) (by with_unfolding_all (repeat (first | exact Up.head _ _ _ _ | apply Up.tail))) fun _ _ => ?_) | (with_reducible refine stAM' (by assumption) (by with_unfolding_all (repeat (first | exact Up.head _ _ _ _ | apply Up.tail))) fun _ _ => ?_) | (with_reducible refine stAL (by assumption) (by with_unfolding_all (repeat (first | exact Up.head _ _ _ _ | apply Up.tail))) fun _ _ => ?_) | (with_reducible refine And.intro (fun _ => ?_) (fun _ => ?_)) | (refine stAM' (by assumption) (by with_unfolding_all (repeat (first | exact Up.head _ _ _ _ | apply Up.tail))) fun _ _ => ?_))
  rename_i w1 b1 m1 w2 b2 m2 w3 m3
  replace m3 : M w w3 [(b2, ((0, 0, 0, 0, ()) : T4)), (b1, ((r.1, r.2.1, r.2.2.1, tsO r.2.2.2.1 m, ()) : T4))] := m3
  refine ⟨Below w3.heap.size, belOk _, eqG r.2.2.1, keptEq, eqG 4294967295, keptEq, eqG (tsO r.2.2.2.1 m), keptEq, fun w4 hs => ?_, fun t19 => ⟨fun w4 hs => ?_, fun t22 => ⟨fun w4 hs => ?_, fun t24 w4 hs f19 f22 f24 => ?_⟩⟩⟩
  · exact ldM (m3.below hs) (by with_unfolding_all (repeat (first | exact List.mem_cons_self | refine List.mem_cons_of_mem _ ?_))) (by with_unfolding_all rfl) (gkE rfl (Below.refl _ _))
  · exact spec.l2Top.c (gkE rfl (Below.refl _ _))
  · exact ldM (m3.below hs) (by with_unfolding_all (repeat (first | exact List.mem_cons_self | refine List.mem_cons_of_mem _ ?_))) (by with_unfolding_all rfl) (gkE rfl (Below.refl _ _))
  cases f19; cases f22; cases f24
  have m4 := m3.below hs
  clear m3
  repeat' (first | (with_reducible refine ldM (by assumption) (by with_unfolding_all (repeat (first | exact List.mem_cons_self | refine List.mem_cons_of_mem _ ?_))) (by with_unfolding_all rfl) ?_) | (with_reducible refine ldAM (by assumption) (by with_unfolding_all (repeat (first | exact List.mem_cons_self | refine List.mem_cons_of_mem _ ?_))) ?_) | (with_reducible refine nwZ (by assumption) fun _ _ _ => ?_) | (with_reducible refine nwM' (by assumption) fun _ _ _ => ?_) | (with_reducible refine stM0 (by assumption) (by with_unfolding_all (repeat (first | exact Up.head _ _ _ _ | apply Up.tail))) fun _ _ => ?_) | (with_reducible refine stM1 (by assumption) (by with_unfolding_all (repeat (first | exact Up.head _ _ _ _ | apply Up.tail))) fun _ _ => ?_) | (with_reducible refine stM2 (by assumption) (by with_unfolding_all (repeat (first | exact Up.head _ _ _ _ | apply Up.tail))) fun _ _ => ?_) | (with_reducible refine stM3 (by assumption) (by with_unfolding_all (repeat (first | exact Up.head _ _ _ _ | apply Up.tail))) fun _ _ => ?_) | (with_reducible refine stAM' (by assumption) (by with_unfolding_all (repeat (first | exact Up.head _ _ _ _ | apply Up.tail))) fun _ _ => ?_) | (with_reducible refine stAL (by assumption) (by with_unfolding_all (repeat (first | exact Up.head _ _ _ _ | apply Up.tail))) fun _ _ => ?_) | (with_reducible refine And.intro (fun _ => ?_) (fun _ => ?_)) | (refine stAM' (by assumption) (by with_unfolding_all (repeat (first | exact Up.head _ _ _ _ | apply Up.tail))) fun _ _ => ?_))
  rename_i w5 m5
  replace m5 : M w w5 [(b2, ((0, 0, 0, 0, ()) : T4)), (b1, ((r.1, r.2.1, tsB r bits m, tsO r.2.2.2.1 m, ()) : T4))] := m5
  refine ⟨fun w' => M w w' [(b2, ((0, 0, 0, 0, ()) : T4)), (b1, (((tsF r bits m).1, r.2.1, tsB r bits m, tsO r.2.2.2.1 m, ()) : T4))], ?_, fun w6 m6 _ => ?_⟩
  · repeat' (first | (with_reducible refine ldM (by assumption) (by with_unfolding_all (repeat (first | exact List.mem_cons_self | refine List.mem_cons_of_mem _ ?_))) (by with_unfolding_all rfl) ?_) | (with_reducible refine ldAM (by assumption) (by with_unfolding_all (repeat (first | exact List.mem_cons_self | refine List.mem_cons_of_mem _ ?_))) ?_) | (with_reducible refine nwZ (by assumption) fun _ _ _ => ?_) | (with_reducible refine nwM' (by assumption) fun _ _ _ => ?_) | (with_reducible refine stM0 (by assumption) (by with_unfolding_all (repeat (first | exact Up.head _ _ _ _ | apply Up.tail))) fun _ _ => ?_) | (with_reducible refine stM1 (by assumption) (by with_unfolding_all (repeat (first | exact Up.head _ _ _ _ | apply Up.tail))) fun _ _ => ?_) | (with_reducible refine stM2 (by assumption) (by with_unfolding_all (repeat (first | exact Up.head _ _ _ _ | apply Up.tail))) fun _ _ => ?_) | (with_reducible refine stM3 (by assumption) (by with_unfolding_all (repeat (first | exact Up.head _ _ _ _ | apply Up.tail))) fun _ _ => ?_) | (with_reducible refine stAM' (by assumption) (by with_unfolding_all (repeat (first | exact Up.head _ _ _ _ | apply Up.tail))) fun _ _ => ?_) | (with_reducible refine stAL (by assumption) (by with_unfolding_all (repeat (first | exact Up.head _ _ _ _ | apply Up.tail))) fun _ _ => ?_) | (with_reducible refine And.intro (fun _ => ?_) (fun _ => ?_)) | (refine stAM' (by assumption) (by with_unfolding_all (repeat (first | exact Up.head _ _ _ _ | apply Up.tail))) fun _ _ => ?_))
    · rename_i hc w7 m7
      have e : (tsF r bits m).1 = tsB r bits m := if_pos (by simpa using hc)
      rw [e]; exact m7
    · rename_i hc
      have e : (tsF r bits m).1 = r.1 := if_neg (by simpa using hc)
      rw [e]; exact m5
  · repeat' (first | (with_reducible refine ldM (by assumption) (by with_unfolding_all (repeat (first | exact List.mem_cons_self | refine List.mem_cons_of_mem _ ?_))) (by with_unfolding_all rfl) ?_) | (with_reducible refine ldAM (by assumption) (by with_unfolding_all (repeat (first | exact List.mem_cons_self | refine List.mem_cons_of_mem _ ?_))) ?_) | (with_reducible refine nwZ (by assumption) fun _ _ _ => ?_) | (with_reducible refine nwM' (by assumption) fun _ _ _ => ?_) | (with_reducible refine stM0 (by assumption) (by with_unfolding_all (repeat (first | exact Up.head _ _ _ _ | apply Up.tail))) fun _ _ => ?_) | (with_reducible refine stM1 (by assumption) (by with_unfolding_all (repeat (first | exact Up.head _ _ _ _ | apply Up.tail))) fun _ _ => ?_) | (with_reducible refine stM2 (by assumption) (by with_unfolding_all (repeat (first | exact Up.head _ _ _ _ | apply Up.tail))) fun _ _ => ?_) | (with_reducible refine stM3 (by assumption) (by with_unfolding_all (repeat (first | exact Up.head _ _ _ _ | apply Up.tail))) fun _ _ => ?_) | (with_reducible refine stAM' (by assumption) (by with_unfolding_all (repeat (first | exact Up.head _ _ _ _ | apply Up.tail))) fun _ _ => ?_) | (with_reducible refine stAL (by assumption) (by with_unfolding_all (repeat (first | exact Up.head _ _ _ _ | apply Up.tail))) fun _ _ => ?_) | (with_reducible refine And.intro (fun _ => ?_) (fun _ => ?_)) | (refine stAM' (by assumption) (by with_unfolding_all (repeat (first | exact Up.head _ _ _ _ | apply Up.tail))) fun _ _ => ?_))
    · rename_i hc _ m7 _ m8
      have e : (tsF r bits m).2.1 = iOr .i64 (tsB r bits m) (tsO r.2.2.2.1 m) := if_pos (by simpa using hc)
      have := hk _ m8.low
      exact kof this (Prod.ext rfl (Prod.ext e rfl))
    · rename_i hc _ m7
      have e : (tsF r bits m).2.1 = r.2.1 := if_neg (by simpa using hc)
      have := hk _ m7.low
      exact kof this (Prod.ext rfl (Prod.ext e rfl))
end
end Go.Proofs.Ytdlnoabihfnmmaa.V

/- Contracts: ranges that share what is known: tidied in the reference; whether they hold a number. -/
namespace Go.Proofs.Ytdlnoabihfnmmaa.V
open Go Go.RowKit
set_option linter.unusedVariables false
set_option linter.unusedSimpArgs false
theorem tsF_rgk {k x lo hi : Nat} (hk : k ≤ 32) (hle : lo ≤ hi) (hhi : hi < 2 ^ 32) (h1 : lo / 2 ^ k = x / 2 ^ k) (h2 : hi / 2 ^ k = x / 2 ^ k) :
    tsF (rgk k x lo hi) (iAnd .i64 lo (iXor .i64 4294967295 ((2 ^ kk lo hi - 1 : Nat) : Int))) ((2 ^ kk lo hi - 1 : Nat) : Int) = ivl lo hi := by
  have hj : kk lo hi ≤ k := kk_part (h1.trans h2.symm) (by omega) (by omega)
  have hs := kk_same (a := lo) (b := hi) (by omega) (by omega)
  unfold ivl
  generalize kk lo hi = j at *
  rw [iAnd_top (by omega) (by omega)]
  have hlt : ∀ q : Nat, q ≤ 32 → 2 ^ q - 1 < 2 ^ 63 := fun q hq => by
    have := Nat.pow_le_pow_right (n := 2) (by omega) hq
    omega
  have eO : tsO ((2 ^ k - 1 : Nat) : Int) ((2 ^ j - 1 : Nat) : Int) = ((2 ^ j - 1 : Nat) : Int) := by
    unfold tsO
    rw [iAnd_nat (hlt k hk) (hlt j (by omega)), mask_and hj]
  have c2 := cutN_le j lo
  have ce := cut_eq h1
  have c3 := cutN_le k lo
  have eB : tsB (rgk k x lo hi) ((cutN j lo : Nat) : Int) ((2 ^ j - 1 : Nat) : Int) = ((cutN j lo : Nat) : Int) := by
    show iAnd .i64 (iOr .i64 ((cutN k x : Nat) : Int) ((cutN j lo : Nat) : Int)) (iXor .i64 4294967295 (tsO ((2 ^ k - 1 : Nat) : Int) ((2 ^ j - 1 : Nat) : Int))) = _
    rw [eO, iOr_nat (by omega) (by omega), cut_or hj h1.symm, iAnd_top (by omega) (by omega), cut_cut]
  have eM : iOr .i64 ((cutN j lo : Nat) : Int) ((2 ^ j - 1 : Nat) : Int) = ((cutN j lo + (2 ^ j - 1) : Nat) : Int) := by
    rw [iOr_nat (by omega) (hlt j (by omega)), cut_mask]
  have c4 := cutN_lt j hi
  have c5 := cut_eq hs
  unfold tsF
  rw [eB]
  show ((if ((cutN j lo : Nat) : Int) > (lo : Int) then ((cutN j lo : Nat) : Int) else (lo : Int)), (if iOr .i64 ((cutN j lo : Nat) : Int) (tsO ((2 ^ k - 1 : Nat) : Int) ((2 ^ j - 1 : Nat) : Int)) < (hi : Int) then iOr .i64 ((cutN j lo : Nat) : Int) (tsO ((2 ^ k - 1 : Nat) : Int) ((2 ^ j - 1 : Nat) : Int)) else (hi : Int)), ((cutN j lo : Nat) : Int), tsO ((2 ^ k - 1 : Nat) : Int) ((2 ^ j - 1 : Nat) : Int), ()) = ((lo : Int), (hi : Int), ((cutN j lo : Nat) : Int), ((2 ^ j - 1 : Nat) : Int), ())
  rw [eO, eM, if_neg (by omega), if_neg (by omega)]
section
variable {w : World}
theorem spec.l2Tidy.c {k x lo hi : Nat} {K : T4 → World → Prop} (hk : k ≤ 32) (hle : lo ≤ hi) (hhi : hi < 2 ^ 32) (h1 : lo / 2 ^ k = x / 2 ^ k) (h2 : hi / 2 ^ k = x / 2 ^ k) (hK : ∀ w', Below w.heap.size w w' → K (ivl lo hi) w') :
    CallT (.o (.ag (R 4 (.i .i64)))) P0 47 [.agg (Tup.cells (R 4 (.i .i64)) (rgk k x lo hi)).toArray] w K := by
  refine spec.l2Tidy.g (lo := lo) (hi := hi) (by omega) hhi rfl rfl fun w' hb => ?_
  rw [tsF_rgk hk hle hhi h1 h2]
  exact hK w' hb
theorem impl.RangeOk.c {k x : Nat} {lo hi : Int} {K : Bool → World → Prop} (hk : k ≤ 32) (hx : x < 2 ^ 32) (hK : ∀ w', Below w.heap.size w w' → K (decide (0 ≤ lo ∧ lo ≤ hi ∧ hi ≤ 4294967295)) w') :
    CallT (.o (.lf .b)) P0 86 [.agg (Tup.cells (R 4 (.i .i64)) (rgk k x lo hi)).toArray] w K := by
  refine impl.RangeOk.ok ?_
  unfold impl.RangeOk.vc
  have hm := M.start w
  have c1 := cutN_le k x
  have c2 := Nat.pow_le_pow_right (n := 2) (by omega) hk
  have c3 := Nat.two_pow_pos k
  have e0 : (rgk k x lo hi).1 = lo := rfl
  have e1 : (rgk k x lo hi).2.1 = hi := rfl
  have e2 : (rgk k x lo hi).2.2.1 = ((cutN k x : Nat) : Int) := rfl
  have e3 : (rgk k x lo hi).2.2.2.1 = ((2 ^ k - 1 : Nat) : Int) := rfl
  have ea : iAnd .i64 ((cutN k x : Nat) : Int) ((2 ^ k - 1 : Nat) : Int) = 0 := by rw [iAnd_nat (by omega) (by omega), cut_and_mask]; rfl
  (repeat' (first | (first | (with_reducible refine ldM (by assumption) (by with_unfolding_all (repeat (first | exact List.mem_cons_self | refine List.mem_cons_of_mem _ ?_))) (by with_unfolding_all rfl) ?_) | (with_reducible refine ldAM (by assumption) (by with_unfolding_all (repeat (first | exact List.mem_cons_self | refine List.mem_cons_of_mem _ ?_))) ?_) | (with_reducible refine nwZ (by assumption) fun _ _ _ => ?_) | (with_reducible refine nwM' (by assumption) fun _ _ _ => ?_) | (with_reducible refine stM0 (by assumption) (by with_unfolding_all (repeat (first | exact Up.head _ _ _ _ | apply Up.tail))) fun _ _ => ?_) | (with_reducible refine stM1 (by assumption) (by with_unfolding_all (repeat (first | exact Up.head _ _ _ _ | apply Up.tail))) fun _ _ => ?_) | (with_reducible refine stM2 (by assumption) (by with_unfolding_all (repeat (first | exact Up.head _ _ _ _ | apply Up.tail))) fun _ _ => ?_) | (with_reducible refine stM3 (by assumption) (by with_unfolding_all (repeat (first | exact Up.head _ _ _ _ | apply Up.tail))) fun _ _ => ?_) | (with_reducible refine stAM' (by assumption) (by with_unfolding_all (repeat (first | exact Up.head _ _ _ _ | apply Up.tail))) fun _ _ => ?_) | (with_reducible refine stAL (by assumption) (by with_unfolding_all (repeat (first | exact Up.head _ _ _ _ | apply Up.tail))) fun _ _ => ?_) | (with_reducible refine And.intro (fun _ => ?_) (fun _ => ?_)) | (refine stAM' (by assumption) (by with_unfolding_all (repeat (first | exact Up.head _ _ _ _ | apply Up.tail))) fun _ _ => ?_)) | refine impl.numOk.c ?_ | refine impl.within.c ?_))
  all_goals
    refine kof (hK _ (by assumption : M w _ _).low) (dec_eq ?_)
    simp only [e0, e1, e2, e3, ea, decide_eq_true_eq, decide_eq_false_iff_not] at *
    clear hK
    simp
    try omega
theorem has_bits {k x n : Nat} (hk : k ≤ 32) (hn : n < 2 ^ 32) (h : n / 2 ^ k = x / 2 ^ k) : iAndNot .i64 (n : Int) ((2 ^ k - 1 : Nat) : Int) = ((cutN k x : Nat) : Int) := by
  rw [iAndNot_mask (by omega) (by omega), cut_eq h]
theorem impl.Range.has.c {k x n : Nat} {lo hi : Int} {K : Bool → World → Prop} (hk : k ≤ 32) (hn : n < 2 ^ 32) (h : n / 2 ^ k = x / 2 ^ k) (hK : ∀ w', Below w.heap.size w w' → K (decide (lo ≤ n ∧ n ≤ hi)) w') :
    CallT (.o (.lf .b)) P0 98 [.agg (Tup.cells (R 4 (.i .i64)) (rgk k x lo hi)).toArray, .int .i64 n] w K := by
  refine impl.Range.has.ok ?_
  unfold impl.Range.has.vc
  have hm := M.start w
  have ea := has_bits hk hn h
  have e0 : (rgk k x lo hi).1 = lo := rfl
  have e1 : (rgk k x lo hi).2.1 = hi := rfl
  have e2 : (rgk k x lo hi).2.2.1 = ((cutN k x : Nat) : Int) := rfl
  have e3 : (rgk k x lo hi).2.2.2.1 = ((2 ^ k - 1 : Nat) : Int) := rfl
  (repeat' (first | (first | (with_reducible refine ldM (by assumption) (by with_unfolding_all (repeat (first | exact List.mem_cons_self | refine List.mem_cons_of_mem _ ?_))) (by with_unfolding_all rfl) ?_) | (with_reducible refine ldAM (by assumption) (by with_unfolding_all (repeat (first | exact List.mem_cons_self | refine List.mem_cons_of_mem _ ?_))) ?_) | (with_reducible refine nwZ (by assumption) fun _ _ _ => ?_) | (with_reducible refine nwM' (by assumption) fun _ _ _ => ?_) | (with_reducible refine stM0 (by assumption) (by with_unfolding_all (repeat (first | exact Up.head _ _ _ _ | apply Up.tail))) fun _ _ => ?_) | (with_reducible refine stM1 (by assumption) (by with_unfolding_all (repeat (first | exact Up.head _ _ _ _ | apply Up.tail))) fun _ _ => ?_) | (with_reducible refine stM2 (by assumption) (by with_unfolding_all (repeat (first | exact Up.head _ _ _ _ | apply Up.tail))) fun _ _ => ?_) | (with_reducible refine stM3 (by assumption) (by with_unfolding_all (repeat (first | exact Up.head _ _ _ _ | apply Up.tail))) fun _ _ => ?_) | (with_reducible refine stAM' (by assumption) (by with_unfolding_all (repeat (first | exact Up.head _ _ _ _ | apply Up.tail))) fun _ _ => ?_) | (with_reducible refine stAL (by assumption) (by with_unfolding_all (repeat (first | exact Up.head _ _ _ _ | apply Up.tail))) fun _ _ => ?_) | (with_reducible refine And.intro (fun _ => ?_) (fun _ => ?_)) | (refine stAM' (by assumption) (by with_unfolding_all (repeat (first | exact Up.head _ _ _ _ | apply Up.tail))) fun _ _ => ?_)) | refine impl.within.c ?_))
  all_goals
    refine kof (hK _ (by assumption : M w _ _).low) (dec_eq ?_)
    simp only [e0, e1, e2, e3, ea, decide_eq_true_eq, decide_eq_false_iff_not] at *
    clear hK
    simp
    try omega
theorem impl.Range.least.c {k x lo : Nat} {hi : Int} {K : Int → World → Prop} (hk : k ≤ 32) (hn : lo < 2 ^ 32) (h : lo / 2 ^ k = x / 2 ^ k) (hle : (lo : Int) ≤ hi) (hK : ∀ w', Below w.heap.size w w' → K lo w') :
    CallT (.o (.lf (.i .i64))) P0 87 [.agg (Tup.cells (R 4 (.i .i64)) (rgk k x lo hi)).toArray] w K := by
  refine impl.Range.least.ok ?_
  unfold impl.Range.least.vc
  have hm := M.start w
  have ea := has_bits hk hn h
  repeat' (first | (with_reducible refine ldM (by assumption) (by with_unfolding_all (repeat (first | exact List.mem_cons_self | refine List.mem_cons_of_mem _ ?_))) (by with_unfolding_all rfl) ?_) | (with_reducible refine ldAM (by assumption) (by with_unfolding_all (repeat (first | exact List.mem_cons_self | refine List.mem_cons_of_mem _ ?_))) ?_) | (with_reducible refine nwZ (by assumption) fun _ _ _ => ?_) | (with_reducible refine nwM' (by assumption) fun _ _ _ => ?_) | (with_reducible refine stM0 (by assumption) (by with_unfolding_all (repeat (first | exact Up.head _ _ _ _ | apply Up.tail))) fun _ _ => ?_) | (with_reducible refine stM1 (by assumption) (by with_unfolding_all (repeat (first | exact Up.head _ _ _ _ | apply Up.tail))) fun _ _ => ?_) | (with_reducible refine stM2 (by assumption) (by with_unfolding_all (repeat (first | exact Up.head _ _ _ _ | apply Up.tail))) fun _ _ => ?_) | (with_reducible refine stM3 (by assumption) (by with_unfolding_all (repeat (first | exact Up.head _ _ _ _ | apply Up.tail))) fun _ _ => ?_) | (with_reducible refine stAM' (by assumption) (by with_unfolding_all (repeat (first | exact Up.head _ _ _ _ | apply Up.tail))) fun _ _ => ?_) | (with_reducible refine stAL (by assumption) (by with_unfolding_all (repeat (first | exact Up.head _ _ _ _ | apply Up.tail))) fun _ _ => ?_) | (with_reducible refine And.intro (fun _ => ?_) (fun _ => ?_)) | (refine stAM' (by assumption) (by with_unfolding_all (repeat (first | exact Up.head _ _ _ _ | apply Up.tail))) fun _ _ => ?_))
  · rename_i hc
    exfalso
    have hc' : (iAndNot .i64 (lo : Int) ((2 ^ k - 1 : Nat) : Int) != ((cutN k x : Nat) : Int)) = true := hc
    rw [ea] at hc'
    simp at hc'
  · rename_i hc
    exfalso
    have hc' : decide ((lo : Int) < 0) = true := hc
    simp at hc'
    omega
  · refine impl.Range.has.c (n := lo) hk hn h fun w' hb => ?_
    have hm2 := (by assumption : M w _ _).below hb
    refine And.intro (fun hc => ?_) (fun _ => hK _ hm2.low)
    simp at hc
    omega
/-- A range holds a number. -/
theorem impl.Range.some.c {k x : Nat} {lo hi : Int} {K : Bool → World → Prop} (hk : k ≤ 32) (hx : x < 2 ^ 32) (H : lo ≤ hi → 0 ≤ lo ∧ hi ≤ 4294967295 ∧ lo.toNat / 2 ^ k = x / 2 ^ k) (hK : ∀ w', Below w.heap.size w w' → K (decide (lo ≤ hi)) w') :
    CallT (.o (.lf .b)) P0 66 [.agg (Tup.cells (R 4 (.i .i64)) (rgk k x lo hi)).toArray] w K := by
  refine impl.Range.some.ok ?_
  unfold impl.Range.some.vc
  have hm := M.start w
  repeat' (first | (with_reducible refine ldM (by assumption) (by with_unfolding_all (repeat (first | exact List.mem_cons_self | refine List.mem_cons_of_mem _ ?_))) (by with_unfolding_all rfl) ?_) | (with_reducible refine ldAM (by assumption) (by with_unfolding_all (repeat (first | exact List.mem_cons_self | refine List.mem_cons_of_mem _ ?_))) ?_) | (with_reducible refine nwZ (by assumption) fun _ _ _ => ?_) | (with_reducible refine nwM' (by assumption) fun _ _ _ => ?_) | (with_reducible refine stM0 (by assumption) (by with_unfolding_all (repeat (first | exact Up.head _ _ _ _ | apply Up.tail))) fun _ _ => ?_) | (with_reducible refine stM1 (by assumption) (by with_unfolding_all (repeat (first | exact Up.head _ _ _ _ | apply Up.tail))) fun _ _ => ?_) | (with_reducible refine stM2 (by assumption) (by with_unfolding_all (repeat (first | exact Up.head _ _ _ _ | apply Up.tail))) fun _ _ => ?_) | (with_reducible refine stM3 (by assumption) (by with_unfolding_all (repeat (first | exact Up.head _ _ _ _ | apply Up.tail))) fun _ _ => ?_) | (with_reducible refine stAM' (by assumption) (by with_unfolding_all (repeat (first | exact Up.head _ _ _ _ | apply Up.tail))) fun _ _ => ?_) | (with_reducible refine stAL (by assumption) (by with_unfolding_all (repeat (first | exact Up.head _ _ _ _ | apply Up.tail))) fun _ _ => ?_) | (with_reducible refine And.intro (fun _ => ?_) (fun _ => ?_)) | (refine stAM' (by assumption) (by with_unfolding_all (repeat (first | exact Up.head _ _ _ _ | apply Up.tail))) fun _ _ => ?_))
  refine impl.RangeOk.c hk hx fun w1 hb1 => ?_
  rename_i m0
  have m1 := m0.below hb1
  refine And.intro (fun hc => ?_) (fun hc => ?_)
  · simp only [decide_eq_true_eq] at hc
    obtain ⟨n, rfl⟩ : ∃ n : Nat, lo = n := ⟨lo.toNat, by omega⟩
    have h3 := (H hc.2.1).2.2
    simp only [Int.toNat_natCast] at h3
    refine ldAM m1 (by with_unfolding_all (repeat (first | exact List.mem_cons_self | refine List.mem_cons_of_mem _ ?_))) ?_
    refine impl.Range.least.c hk (by omega) h3 hc.2.1 fun w2 hb2 => ?_
    have m2 := m1.below hb2
    exact kof (hK _ m2.low) (dec_eq (by simp; omega))
  · simp only [decide_eq_false_iff_not] at hc
    exact kof (hK _ m1.low) (dec_eq (by simp; omega))
end
end Go.Proofs.Ytdlnoabihfnmmaa.V

/- Contracts: ranges cut by a number, in the program. -/
namespace Go.Proofs.Ytdlnoabihfnmmaa.V
open Go Go.RowKit
set_option linter.unusedVariables false
set_option linter.unusedSimpArgs false
theorem ivl_one (n : Nat) : ivl n n = ((n : Int), (n : Int), (n : Int), (0 : Int), ()) := by
  unfold ivl rgk
  rw [kk_self, show cutN 0 n = n by simp [cutN]]
  rfl
section
variable {w : World}
theorem impl.fromTo.c {K : T4 → World → Prop} (hK : ∀ w', Below w.heap.size w w' → K (ivl 0 255) w') : CallT (.o (.ag (R 4 (.i .i64)))) P0 20 [.int .i64 0, .int .i64 255] w K := by
  refine impl.fromTo.ok ?_
  unfold impl.fromTo.vc
  have hm := M.start w
  repeat' (first | (with_reducible refine ldM (by assumption) (by with_unfolding_all (repeat (first | exact List.mem_cons_self | refine List.mem_cons_of_mem _ ?_))) (by with_unfolding_all rfl) ?_) | (with_reducible refine ldAM (by assumption) (by with_unfolding_all (repeat (first | exact List.mem_cons_self | refine List.mem_cons_of_mem _ ?_))) ?_) | (with_reducible refine nwZ (by assumption) fun _ _ _ => ?_) | (with_reducible refine nwM' (by assumption) fun _ _ _ => ?_) | (with_reducible refine stM0 (by assumption) (by with_unfolding_all (repeat (first | exact Up.head _ _ _ _ | apply Up.tail))) fun _ _ => ?_) | (with_reducible refine stM1 (by assumption) (by with_unfolding_all (repeat (first | exact Up.head _ _ _ _ | apply Up.tail))) fun _ _ => ?_) | (with_reducible refine stM2 (by assumption) (by with_unfolding_all (repeat (first | exact Up.head _ _ _ _ | apply Up.tail))) fun _ _ => ?_) | (with_reducible refine stM3 (by assumption) (by with_unfolding_all (repeat (first | exact Up.head _ _ _ _ | apply Up.tail))) fun _ _ => ?_) | (with_reducible refine stAM' (by assumption) (by with_unfolding_all (repeat (first | exact Up.head _ _ _ _ | apply Up.tail))) fun _ _ => ?_) | (with_reducible refine stAL (by assumption) (by with_unfolding_all (repeat (first | exact Up.head _ _ _ _ | apply Up.tail))) fun _ _ => ?_) | (with_reducible refine And.intro (fun _ => ?_) (fun _ => ?_)) | (refine stAM' (by assumption) (by with_unfolding_all (repeat (first | exact Up.head _ _ _ _ | apply Up.tail))) fun _ _ => ?_))
  rename_i w1 b1 m1
  refine impl.Range.tidy.c (k := 32) (x := 0) (lo := 0) (hi := 255) (by omega) (by omega) (by omega) rfl (by decide) fun w2 hb => ?_
  have m2 := m1.below hb
  repeat' (first | (with_reducible refine ldM (by assumption) (by with_unfolding_all (repeat (first | exact List.mem_cons_self | refine List.mem_cons_of_mem _ ?_))) (by with_unfolding_all rfl) ?_) | (with_reducible refine ldAM (by assumption) (by with_unfolding_all (repeat (first | exact List.mem_cons_self | refine List.mem_cons_of_mem _ ?_))) ?_) | (with_reducible refine nwZ (by assumption) fun _ _ _ => ?_) | (with_reducible refine nwM' (by assumption) fun _ _ _ => ?_) | (with_reducible refine stM0 (by assumption) (by with_unfolding_all (repeat (first | exact Up.head _ _ _ _ | apply Up.tail))) fun _ _ => ?_) | (with_reducible refine stM1 (by assumption) (by with_unfolding_all (repeat (first | exact Up.head _ _ _ _ | apply Up.tail))) fun _ _ => ?_) | (with_reducible refine stM2 (by assumption) (by with_unfolding_all (repeat (first | exact Up.head _ _ _ _ | apply Up.tail))) fun _ _ => ?_) | (with_reducible refine stM3 (by assumption) (by with_unfolding_all (repeat (first | exact Up.head _ _ _ _ | apply Up.tail))) fun _ _ => ?_) | (with_reducible refine stAM' (by assumption) (by with_unfolding_all (repeat (first | exact Up.head _ _ _ _ | apply Up.tail))) fun _ _ => ?_) | (with_reducible refine stAL (by assumption) (by with_unfolding_all (repeat (first | exact Up.head _ _ _ _ | apply Up.tail))) fun _ _ => ?_) | (with_reducible refine And.intro (fun _ => ?_) (fun _ => ?_)) | (refine stAM' (by assumption) (by with_unfolding_all (repeat (first | exact Up.head _ _ _ _ | apply Up.tail))) fun _ _ => ?_))
  rename_i m3
  exact hK _ m3.low
/-- A range without a number. -/
theorem impl.Range.but.c {k lo hi n : Nat} {K : T4 × Bool × Unit → World → Prop} (hk : k ≤ 32) (hle : lo ≤ hi) (hhi : hi < 2 ^ 31) (h1 : lo / 2 ^ k = hi / 2 ^ k)
    (hK : ∀ w', Below w.heap.size w w' → K (if lo = n ∧ hi = n then ((1, 0, 0, 0, ()), false, ()) else (ivl (if lo = n then n + 1 else lo) (if hi = n then n - 1 else hi), true, ())) w') :
    CallT (.n [(.ag (R 4 (.i .i64))), (.lf .b)]) P0 45 [.agg (Tup.cells (R 4 (.i .i64)) (rgk k lo lo hi)).toArray, .agg (Tup.cells (R 4 (.i .i64)) (ivl n n)).toArray] w K := by
  refine impl.Range.but.ok ?_
  unfold impl.Range.but.vc
  have hm := M.start w
  have en0 : (ivl n n).1 = (n : Int) := rfl
  have en1 : (ivl n n).2.1 = (n : Int) := rfl
  repeat' (first | (with_reducible refine ldM (by assumption) (by with_unfolding_all (repeat (first | exact List.mem_cons_self | refine List.mem_cons_of_mem _ ?_))) (by with_unfolding_all rfl) ?_) | (with_reducible refine ldAM (by assumption) (by with_unfolding_all (repeat (first | exact List.mem_cons_self | refine List.mem_cons_of_mem _ ?_))) ?_) | (with_reducible refine nwZ (by assumption) fun _ _ _ => ?_) | (with_reducible refine nwM' (by assumption) fun _ _ _ => ?_) | (with_reducible refine stM0 (by assumption) (by with_unfolding_all (repeat (first | exact Up.head _ _ _ _ | apply Up.tail))) fun _ _ => ?_) | (with_reducible refine stM1 (by assumption) (by with_unfolding_all (repeat (first | exact Up.head _ _ _ _ | apply Up.tail))) fun _ _ => ?_) | (with_reducible refine stM2 (by assumption) (by with_unfolding_all (repeat (first | exact Up.head _ _ _ _ | apply Up.tail))) fun _ _ => ?_) | (with_reducible refine stM3 (by assumption) (by with_unfolding_all (repeat (first | exact Up.head _ _ _ _ | apply Up.tail))) fun _ _ => ?_) | (with_reducible refine stAM' (by assumption) (by with_unfolding_all (repeat (first | exact Up.head _ _ _ _ | apply Up.tail))) fun _ _ => ?_) | (with_reducible refine stAL (by assumption) (by with_unfolding_all (repeat (first | exact Up.head _ _ _ _ | apply Up.tail))) fun _ _ => ?_) | (with_reducible refine And.intro (fun _ => ?_) (fun _ => ?_)) | (refine stAM' (by assumption) (by with_unfolding_all (repeat (first | exact Up.head _ _ _ _ | apply Up.tail))) fun _ _ => ?_))
  · rename_i hc _ _
    rw [en0, en1] at hc
    simp at hc
  · rename_i w1 b1 m1 w2 b2 m2 w3 b3 m3 hc w4 b4 m4 w5 m5
    refine ⟨fun w' => M w w' [(b4, rgk k lo (if lo = n then ((n + 1 : Nat) : Int) else lo) hi), (b3, ((0, 0, 0, 0, ()) : T4)), (b2, ivl n n), (b1, rgk k lo lo hi)], ?_, fun w6 m6 _ => ?_⟩
    · repeat' (first | (with_reducible refine ldM (by assumption) (by with_unfolding_all (repeat (first | exact List.mem_cons_self | refine List.mem_cons_of_mem _ ?_))) (by with_unfolding_all rfl) ?_) | (with_reducible refine ldAM (by assumption) (by with_unfolding_all (repeat (first | exact List.mem_cons_self | refine List.mem_cons_of_mem _ ?_))) ?_) | (with_reducible refine nwZ (by assumption) fun _ _ _ => ?_) | (with_reducible refine nwM' (by assumption) fun _ _ _ => ?_) | (with_reducible refine stM0 (by assumption) (by with_unfolding_all (repeat (first | exact Up.head _ _ _ _ | apply Up.tail))) fun _ _ => ?_) | (with_reducible refine stM1 (by assumption) (by with_unfolding_all (repeat (first | exact Up.head _ _ _ _ | apply Up.tail))) fun _ _ => ?_) | (with_reducible refine stM2 (by assumption) (by with_unfolding_all (repeat (first | exact Up.head _ _ _ _ | apply Up.tail))) fun _ _ => ?_) | (with_reducible refine stM3 (by assumption) (by with_unfolding_all (repeat (first | exact Up.head _ _ _ _ | apply Up.tail))) fun _ _ => ?_) | (with_reducible refine stAM' (by assumption) (by with_unfolding_all (repeat (first | exact Up.head _ _ _ _ | apply Up.tail))) fun _ _ => ?_) | (with_reducible refine stAL (by assumption) (by with_unfolding_all (repeat (first | exact Up.head _ _ _ _ | apply Up.tail))) fun _ _ => ?_) | (with_reducible refine And.intro (fun _ => ?_) (fun _ => ?_)) | (refine stAM' (by assumption) (by with_unfolding_all (repeat (first | exact Up.head _ _ _ _ | apply Up.tail))) fun _ _ => ?_))
      · rename_i hq w7 m7
        have hq' : ((lo : Int) == (n : Int)) = true := hq
        simp only [beq_iff_eq] at hq'
        have e : lo = n := by omega
        rw [if_pos e]
        have e2 : IntKind.wrap .i64 ((rgk k lo lo hi).1 + 1) = ((n + 1 : Nat) : Int) := by
          show IntKind.wrap .i64 ((lo : Int) + 1) = _
          rw [i64_of (by omega) (by omega)]; omega
        rw [e2] at m7
        exact m7
      · rename_i hq
        have hq' : ((lo : Int) == (n : Int)) = false := hq
        simp only [beq_eq_false_iff_ne, ne_eq] at hq'
        rw [if_neg (by omega)]
        exact m5
    · replace m6 : M w w6 [(b4, rgk k lo (if lo = n then ((n + 1 : Nat) : Int) else lo) hi), (b3, ((0, 0, 0, 0, ()) : T4)), (b2, ivl n n), (b1, rgk k lo lo hi)] := m6
      clear m5 m4 m3 m2 m1
      have hlo' : (if lo = n then ((n + 1 : Nat) : Int) else (lo : Int)) = ((if lo = n then n + 1 else lo : Nat) : Int) := by split <;> rfl
      rw [hlo'] at m6
      have hfin : ∀ (hi' : Nat), (hi' = if hi = n then n - 1 else hi) → ¬ (lo = n ∧ hi = n) → lo ≤ (if lo = n then n + 1 else lo) ∧ (if lo = n then n + 1 else lo) ≤ hi' ∧ hi' ≤ hi := by
        intro hi' h hne
        subst h
        split <;> split <;> omega
      refine ldM m6 (by with_unfolding_all (repeat (first | exact List.mem_cons_self | refine List.mem_cons_of_mem _ ?_))) (by with_unfolding_all rfl) (And.intro (fun hq => ?_) (fun hq => ?_))
      · have hq' : ((hi : Int) == (n : Int)) = true := hq
        simp only [beq_iff_eq] at hq'
        have e : hi = n := by omega
        repeat' (first | (with_reducible refine ldM (by assumption) (by with_unfolding_all (repeat (first | exact List.mem_cons_self | refine List.mem_cons_of_mem _ ?_))) (by with_unfolding_all rfl) ?_) | (with_reducible refine ldAM (by assumption) (by with_unfolding_all (repeat (first | exact List.mem_cons_self | refine List.mem_cons_of_mem _ ?_))) ?_) | (with_reducible refine nwZ (by assumption) fun _ _ _ => ?_) | (with_reducible refine nwM' (by assumption) fun _ _ _ => ?_) | (with_reducible refine stM0 (by assumption) (by with_unfolding_all (repeat (first | exact Up.head _ _ _ _ | apply Up.tail))) fun _ _ => ?_) | (with_reducible refine stM1 (by assumption) (by with_unfolding_all (repeat (first | exact Up.head _ _ _ _ | apply Up.tail))) fun _ _ => ?_) | (with_reducible refine stM2 (by assumption) (by with_unfolding_all (repeat (first | exact Up.head _ _ _ _ | apply Up.tail))) fun _ _ => ?_) | (with_reducible refine stM3 (by assumption) (by with_unfolding_all (repeat (first | exact Up.head _ _ _ _ | apply Up.tail))) fun _ _ => ?_) | (with_reducible refine stAM' (by assumption) (by with_unfolding_all (repeat (first | exact Up.head _ _ _ _ | apply Up.tail))) fun _ _ => ?_) | (with_reducible refine stAL (by assumption) (by with_unfolding_all (repeat (first | exact Up.head _ _ _ _ | apply Up.tail))) fun _ _ => ?_) | (with_reducible refine And.intro (fun _ => ?_) (fun _ => ?_)) | (refine stAM' (by assumption) (by with_unfolding_all (repeat (first | exact Up.head _ _ _ _ | apply Up.tail))) fun _ _ => ?_))
        rename_i w7 m7
        have e2 : IntKind.wrap .i64 ((rgk k lo ((if lo = n then n + 1 else lo : Nat) : Int) hi).2.1 - 1) = (hi : Int) - 1 := by
          show IntKind.wrap .i64 ((hi : Int) - 1) = _
          rw [i64_of (by omega) (by omega)]
        simp only [e2] at m7 ⊢
        replace m7 : M w w7 [(b4, rgk k lo ((if lo = n then n + 1 else lo : Nat) : Int) ((hi : Int) - 1)), (b3, ((0, 0, 0, 0, ()) : T4)), (b2, ivl n n), (b1, rgk k lo lo hi)] := m7
        generalize hL : (if lo = n then n + 1 else lo) = L at *
        have hLlo : lo ≤ L := by rw [← hL]; split <;> omega
        have hLhi : L ≤ hi + 1 := by rw [← hL]; split <;> omega
        have hpos : ∀ q : Nat, L ≤ q → q ≤ hi → L / 2 ^ k = lo / 2 ^ k ∧ q / 2 ^ k = lo / 2 ^ k := fun q hq hq2 => part_div h1 hLlo hq hq2
        refine impl.Range.some.c (k := k) (x := lo) (lo := (L : Int)) (hi := (hi : Int) - 1) hk (by omega) (fun h => ⟨by omega, by omega, by simpa using (hpos L (by omega) (by omega)).1⟩) fun w8 hb8 => ?_
        have m8 := m7.below hb8
        refine And.intro (fun hc => ?_) (fun hc => ?_)
        · simp only [Bool.not_eq_true', decide_eq_false_iff_not] at hc
          refine impl.noRange.c fun w9 hb9 => ?_
          have m9 := m8.below hb9
          repeat' (first | (with_reducible refine ldM (by assumption) (by with_unfolding_all (repeat (first | exact List.mem_cons_self | refine List.mem_cons_of_mem _ ?_))) (by with_unfolding_all rfl) ?_) | (with_reducible refine ldAM (by assumption) (by with_unfolding_all (repeat (first | exact List.mem_cons_self | refine List.mem_cons_of_mem _ ?_))) ?_) | (with_reducible refine nwZ (by assumption) fun _ _ _ => ?_) | (with_reducible refine nwM' (by assumption) fun _ _ _ => ?_) | (with_reducible refine stM0 (by assumption) (by with_unfolding_all (repeat (first | exact Up.head _ _ _ _ | apply Up.tail))) fun _ _ => ?_) | (with_reducible refine stM1 (by assumption) (by with_unfolding_all (repeat (first | exact Up.head _ _ _ _ | apply Up.tail))) fun _ _ => ?_) | (with_reducible refine stM2 (by assumption) (by with_unfolding_all (repeat (first | exact Up.head _ _ _ _ | apply Up.tail))) fun _ _ => ?_) | (with_reducible refine stM3 (by assumption) (by with_unfolding_all (repeat (first | exact Up.head _ _ _ _ | apply Up.tail))) fun _ _ => ?_) | (with_reducible refine stAM' (by assumption) (by with_unfolding_all (repeat (first | exact Up.head _ _ _ _ | apply Up.tail))) fun _ _ => ?_) | (with_reducible refine stAL (by assumption) (by with_unfolding_all (repeat (first | exact Up.head _ _ _ _ | apply Up.tail))) fun _ _ => ?_) | (with_reducible refine And.intro (fun _ => ?_) (fun _ => ?_)) | (refine stAM' (by assumption) (by with_unfolding_all (repeat (first | exact Up.head _ _ _ _ | apply Up.tail))) fun _ _ => ?_))
          rename_i m10
          refine kof (hK _ m10.low) (if_pos ⟨?_, e⟩)
          by_cases h : lo = n
          · exact h
          · rw [if_neg h] at hL; omega
        · simp only [Bool.not_eq_false', decide_eq_true_eq] at hc
          obtain ⟨q, hq⟩ : ∃ q : Nat, (hi : Int) - 1 = (q : Int) := ⟨hi - 1, by omega⟩
          rw [hq] at m8
          refine ldAM m8 (by with_unfolding_all (repeat (first | exact List.mem_cons_self | refine List.mem_cons_of_mem _ ?_))) ?_
          have hp := hpos q (by omega) (by omega)
          refine impl.Range.tidy.c (k := k) (x := lo) (lo := L) (hi := q) hk (by omega) (by omega) hp.1 hp.2 fun w9 hb9 => ?_
          have m9 := m8.below hb9
          repeat' (first | (with_reducible refine ldM (by assumption) (by with_unfolding_all (repeat (first | exact List.mem_cons_self | refine List.mem_cons_of_mem _ ?_))) (by with_unfolding_all rfl) ?_) | (with_reducible refine ldAM (by assumption) (by with_unfolding_all (repeat (first | exact List.mem_cons_self | refine List.mem_cons_of_mem _ ?_))) ?_) | (with_reducible refine nwZ (by assumption) fun _ _ _ => ?_) | (with_reducible refine nwM' (by assumption) fun _ _ _ => ?_) | (with_reducible refine stM0 (by assumption) (by with_unfolding_all (repeat (first | exact Up.head _ _ _ _ | apply Up.tail))) fun _ _ => ?_) | (with_reducible refine stM1 (by assumption) (by with_unfolding_all (repeat (first | exact Up.head _ _ _ _ | apply Up.tail))) fun _ _ => ?_) | (with_reducible refine stM2 (by assumption) (by with_unfolding_all (repeat (first | exact Up.head _ _ _ _ | apply Up.tail))) fun _ _ => ?_) | (with_reducible refine stM3 (by assumption) (by with_unfolding_all (repeat (first | exact Up.head _ _ _ _ | apply Up.tail))) fun _ _ => ?_) | (with_reducible refine stAM' (by assumption) (by with_unfolding_all (repeat (first | exact Up.head _ _ _ _ | apply Up.tail))) fun _ _ => ?_) | (with_reducible refine stAL (by assumption) (by with_unfolding_all (repeat (first | exact Up.head _ _ _ _ | apply Up.tail))) fun _ _ => ?_) | (with_reducible refine And.intro (fun _ => ?_) (fun _ => ?_)) | (refine stAM' (by assumption) (by with_unfolding_all (repeat (first | exact Up.head _ _ _ _ | apply Up.tail))) fun _ _ => ?_))
          rename_i m10
          have hne : ¬ (lo = n ∧ hi = n) := fun h => by rw [if_pos h.1] at hL; omega
          refine kof (hK _ m10.low) ?_
          rw [if_neg hne, if_pos e, show n - 1 = q by omega]
      · have hq' : ((hi : Int) == (n : Int)) = false := hq
        simp only [beq_eq_false_iff_ne, ne_eq] at hq'
        have e : ¬ hi = n := by omega
        generalize hL : (if lo = n then n + 1 else lo) = L at *
        have hLlo : lo ≤ L := by rw [← hL]; split <;> omega
        have hLhi : L ≤ hi := by rw [← hL]; split <;> omega
        have hp := part_div h1 hLlo hLhi (Nat.le_refl _)
        refine ldAM m6 (by with_unfolding_all (repeat (first | exact List.mem_cons_self | refine List.mem_cons_of_mem _ ?_))) ?_
        refine impl.Range.some.c (k := k) (x := lo) (lo := (L : Int)) (hi := (hi : Int)) hk (by omega) (fun h => ⟨by omega, by omega, by simpa using hp.1⟩) fun w8 hb8 => ?_
        have m8 := m6.below hb8
        refine And.intro (fun hc => ?_) (fun hc => ?_)
        · simp only [Bool.not_eq_true', decide_eq_false_iff_not] at hc
          omega
        · refine ldAM m8 (by with_unfolding_all (repeat (first | exact List.mem_cons_self | refine List.mem_cons_of_mem _ ?_))) ?_
          refine impl.Range.tidy.c (k := k) (x := lo) (lo := L) (hi := hi) hk hLhi (by omega) hp.1 hp.2 fun w9 hb9 => ?_
          have m9 := m8.below hb9
          repeat' (first | (with_reducible refine ldM (by assumption) (by with_unfolding_all (repeat (first | exact List.mem_cons_self | refine List.mem_cons_of_mem _ ?_))) (by with_unfolding_all rfl) ?_) | (with_reducible refine ldAM (by assumption) (by with_unfolding_all (repeat (first | exact List.mem_cons_self | refine List.mem_cons_of_mem _ ?_))) ?_) | (with_reducible refine nwZ (by assumption) fun _ _ _ => ?_) | (with_reducible refine nwM' (by assumption) fun _ _ _ => ?_) | (with_reducible refine stM0 (by assumption) (by with_unfolding_all (repeat (first | exact Up.head _ _ _ _ | apply Up.tail))) fun _ _ => ?_) | (with_reducible refine stM1 (by assumption) (by with_unfolding_all (repeat (first | exact Up.head _ _ _ _ | apply Up.tail))) fun _ _ => ?_) | (with_reducible refine stM2 (by assumption) (by with_unfolding_all (repeat (first | exact Up.head _ _ _ _ | apply Up.tail))) fun _ _ => ?_) | (with_reducible refine stM3 (by assumption) (by with_unfolding_all (repeat (first | exact Up.head _ _ _ _ | apply Up.tail))) fun _ _ => ?_) | (with_reducible refine stAM' (by assumption) (by with_unfolding_all (repeat (first | exact Up.head _ _ _ _ | apply Up.tail))) fun _ _ => ?_) | (with_reducible refine stAL (by assumption) (by with_unfolding_all (repeat (first | exact Up.head _ _ _ _ | apply Up.tail))) fun _ _ => ?_) | (with_reducible refine And.intro (fun _ => ?_) (fun _ => ?_)) | (refine stAM' (by assumption) (by with_unfolding_all (repeat (first | exact Up.head _ _ _ _ | apply Up.tail))) fun _ _ => ?_))
          rename_i m10
          refine kof (hK _ m10.low) ?_
          rw [if_neg (fun h => e h.2), if_neg e]
theorem meet_bits {k lo n : Nat} (hk : k ≤ 32) (hlo : lo < 2 ^ 32) (hn : n < 2 ^ 32) : iAndNot .i64 (iXor .i64 ((cutN k lo : Nat) : Int) (n : Int)) (iOr .i64 ((2 ^ k - 1 : Nat) : Int) 0) = ((cutN k (cutN k lo ^^^ n) : Nat) : Int) := by
  have c := cutN_le k lo
  have hp := Nat.pow_le_pow_right (n := 2) (by omega) hk
  have e0 : iOr .i64 ((2 ^ k - 1 : Nat) : Int) 0 = ((2 ^ k - 1 : Nat) : Int) := by
    have := iOr_nat (a := 2 ^ k - 1) (b := 0) (by omega) (by omega)
    simpa using this
  have hx := Nat.xor_lt_two_pow (n := 32) (x := cutN k lo) (y := n) (by omega) hn
  rw [e0, iXor_nat (by omega) (by omega), iAndNot_mask (by omega) (by omega)]
theorem cut_xor {k lo n : Nat} : cutN k (cutN k lo ^^^ n) = 0 ↔ n / 2 ^ k = lo / 2 ^ k := by
  have e : (cutN k lo ^^^ n) / 2 ^ k = lo / 2 ^ k ^^^ n / 2 ^ k := by
    rw [← Nat.shiftRight_eq_div_pow, ← Nat.shiftRight_eq_div_pow, ← Nat.shiftRight_eq_div_pow, Nat.shiftRight_xor_distrib]
    congr 1
    rw [Nat.shiftRight_eq_div_pow, Nat.shiftRight_eq_div_pow]
    unfold cutN
    exact Nat.mul_div_cancel _ (Nat.two_pow_pos k)
  have hp := Nat.two_pow_pos k
  constructor
  · intro h
    have h2 : (cutN k lo ^^^ n) / 2 ^ k = 0 := by
      have h3 : (cutN k lo ^^^ n) / 2 ^ k * 2 ^ k = 0 := h
      rcases Nat.mul_eq_zero.1 h3 with h4 | h4
      · exact h4
      · omega
    rw [e] at h2
    apply Nat.eq_of_testBit_eq
    intro i
    have h4 := congrArg (·.testBit i) h2
    simp only [Nat.testBit_xor, Nat.zero_testBit] at h4
    cases ha : (lo / 2 ^ k).testBit i <;> cases hb : (n / 2 ^ k).testBit i <;> simp_all
  · intro h
    show (cutN k lo ^^^ n) / 2 ^ k * 2 ^ k = 0
    rw [e, h, Nat.xor_self, Nat.zero_mul]
/-- A range and a number. -/
theorem impl.meet.c {k lo hi n : Nat} {K : T4 × Bool × Unit → World → Prop} (hk : k ≤ 32) (hle : lo ≤ hi) (hhi : hi < 2 ^ 31) (hn : n < 2 ^ 31) (h1 : lo / 2 ^ k = hi / 2 ^ k)
    (hK : ∀ w', Below w.heap.size w w' → K (if lo ≤ n ∧ n ≤ hi then (ivl n n, true, ()) else ((1, 0, 0, 0, ()), false, ())) w') :
    CallT (.n [(.ag (R 4 (.i .i64))), (.lf .b)]) P0 44 [.agg (Tup.cells (R 4 (.i .i64)) (rgk k lo lo hi)).toArray, .agg (Tup.cells (R 4 (.i .i64)) (ivl n n)).toArray] w K := by
  refine impl.meet.ok ?_
  unfold impl.meet.vc
  have hm := M.start w
  have hb := meet_bits (n := n) hk (show lo < 2 ^ 32 by omega) (by omega)
  have ev2 : (ivl n n).2.2.1 = (n : Int) := by rw [ivl_one]
  have ev3 : (ivl n n).2.2.2.1 = (0 : Int) := by rw [ivl_one]
  repeat' (first | (with_reducible refine ldM (by assumption) (by with_unfolding_all (repeat (first | exact List.mem_cons_self | refine List.mem_cons_of_mem _ ?_))) (by with_unfolding_all rfl) ?_) | (with_reducible refine ldAM (by assumption) (by with_unfolding_all (repeat (first | exact List.mem_cons_self | refine List.mem_cons_of_mem _ ?_))) ?_) | (with_reducible refine nwZ (by assumption) fun _ _ _ => ?_) | (with_reducible refine nwM' (by assumption) fun _ _ _ => ?_) | (with_reducible refine stM0 (by assumption) (by with_unfolding_all (repeat (first | exact Up.head _ _ _ _ | apply Up.tail))) fun _ _ => ?_) | (with_reducible refine stM1 (by assumption) (by with_unfolding_all (repeat (first | exact Up.head _ _ _ _ | apply Up.tail))) fun _ _ => ?_) | (with_reducible refine stM2 (by assumption) (by with_unfolding_all (repeat (first | exact Up.head _ _ _ _ | apply Up.tail))) fun _ _ => ?_) | (with_reducible refine stM3 (by assumption) (by with_unfolding_all (repeat (first | exact Up.head _ _ _ _ | apply Up.tail))) fun _ _ => ?_) | (with_reducible refine stAM' (by assumption) (by with_unfolding_all (repeat (first | exact Up.head _ _ _ _ | apply Up.tail))) fun _ _ => ?_) | (with_reducible refine stAL (by assumption) (by with_unfolding_all (repeat (first | exact Up.head _ _ _ _ | apply Up.tail))) fun _ _ => ?_) | (with_reducible refine And.intro (fun _ => ?_) (fun _ => ?_)) | (refine stAM' (by assumption) (by with_unfolding_all (repeat (first | exact Up.head _ _ _ _ | apply Up.tail))) fun _ _ => ?_))
  · rename_i w1 b1 m1 w2 b2 m2 w3 b3 m3 w4 b4 m4 w5 m5 hc
    rw [ev2, ev3] at hc
    have hc' : (iAndNot .i64 (iXor .i64 ((cutN k lo : Nat) : Int) (n : Int)) (iOr .i64 ((2 ^ k - 1 : Nat) : Int) 0) != 0) = true := hc
    rw [hb] at hc'
    refine impl.noRange.c fun w9 hb9 => ?_
    have m9 := m5.below hb9
    clear m1 m2 m3 m4 m5
    repeat' (first | (with_reducible refine ldM (by assumption) (by with_unfolding_all (repeat (first | exact List.mem_cons_self | refine List.mem_cons_of_mem _ ?_))) (by with_unfolding_all rfl) ?_) | (with_reducible refine ldAM (by assumption) (by with_unfolding_all (repeat (first | exact List.mem_cons_self | refine List.mem_cons_of_mem _ ?_))) ?_) | (with_reducible refine nwZ (by assumption) fun _ _ _ => ?_) | (with_reducible refine nwM' (by assumption) fun _ _ _ => ?_) | (with_reducible refine stM0 (by assumption) (by with_unfolding_all (repeat (first | exact Up.head _ _ _ _ | apply Up.tail))) fun _ _ => ?_) | (with_reducible refine stM1 (by assumption) (by with_unfolding_all (repeat (first | exact Up.head _ _ _ _ | apply Up.tail))) fun _ _ => ?_) | (with_reducible refine stM2 (by assumption) (by with_unfolding_all (repeat (first | exact Up.head _ _ _ _ | apply Up.tail))) fun _ _ => ?_) | (with_reducible refine stM3 (by assumption) (by with_unfolding_all (repeat (first | exact Up.head _ _ _ _ | apply Up.tail))) fun _ _ => ?_) | (with_reducible refine stAM' (by assumption) (by with_unfolding_all (repeat (first | exact Up.head _ _ _ _ | apply Up.tail))) fun _ _ => ?_) | (with_reducible refine stAL (by assumption) (by with_unfolding_all (repeat (first | exact Up.head _ _ _ _ | apply Up.tail))) fun _ _ => ?_) | (with_reducible refine And.intro (fun _ => ?_) (fun _ => ?_)) | (refine stAM' (by assumption) (by with_unfolding_all (repeat (first | exact Up.head _ _ _ _ | apply Up.tail))) fun _ _ => ?_))
    rename_i m10
    refine kof (hK _ m10.low) (if_neg fun h => ?_)
    have := (part_div h1 h.1 h.2 (Nat.le_refl _)).1
    have h0 := cut_xor.2 this
    rw [h0] at hc'
    simp at hc'
  · rename_i w1 b1 m1 w2 b2 m2 w3 b3 m3 w4 b4 m4 w5 m5 hc
    rw [ev2, ev3] at hc
    have hc' : (iAndNot .i64 (iXor .i64 ((cutN k lo : Nat) : Int) (n : Int)) (iOr .i64 ((2 ^ k - 1 : Nat) : Int) 0) != 0) = false := hc
    rw [hb] at hc'
    have h0 : cutN k (cutN k lo ^^^ n) = 0 := by simpa using hc'
    have hd := cut_xor.1 h0
    have cl := cutN_le k lo
    have hp := Nat.pow_le_pow_right (n := 2) (by omega) hk
    have hbx : ((if (n : Int) > (lo : Int) then (n : Int) else (lo : Int), if (n : Int) < (hi : Int) then (n : Int) else (hi : Int), iOr .i64 ((cutN k lo : Nat) : Int) (n : Int), iAnd .i64 ((2 ^ k - 1 : Nat) : Int) 0, ()) : T4) = rgk 0 n (if (n : Int) > (lo : Int) then (n : Int) else (lo : Int)) (if (n : Int) < (hi : Int) then (n : Int) else (hi : Int)) := by
      have e1 := iOr_nat (a := cutN k lo) (b := n) (by omega) (by omega)
      have e2 : iAnd .i64 ((2 ^ k - 1 : Nat) : Int) 0 = 0 := by
        have := iAnd_nat (a := 2 ^ k - 1) (b := 0) (by omega) (by omega)
        simpa using this
      have e3 := cut_or (k := k) (j := 0) (Nat.zero_le _) hd.symm
      have e4 : cutN 0 n = n := by simp [cutN]
      rw [e4] at e3
      rw [e1, e3, e2]
      unfold rgk
      rw [e4]
      rfl
    replace m5 : M w w5 [(b4, ((if (n : Int) > (lo : Int) then (n : Int) else (lo : Int), if (n : Int) < (hi : Int) then (n : Int) else (hi : Int), iOr .i64 ((cutN k lo : Nat) : Int) (ivl n n).2.2.1, iAnd .i64 ((2 ^ k - 1 : Nat) : Int) (ivl n n).2.2.2.1, ()) : T4)), (b3, ((0, 0, 0, 0, ()) : T4)), (b2, ivl n n), (b1, rgk k lo lo hi)] := m5
    have hg : ∀ (X : T4), X = rgk 0 n (if (n : Int) > (lo : Int) then (n : Int) else (lo : Int)) (if (n : Int) < (hi : Int) then (n : Int) else (hi : Int)) → ∀ {Kb : Bool → World → Prop}, (∀ w', Below w5.heap.size w5 w' → Kb (decide ((if (n : Int) > (lo : Int) then (n : Int) else (lo : Int)) ≤ (if (n : Int) < (hi : Int) then (n : Int) else (hi : Int)))) w') → CallT (.o (.lf .b)) P0 66 [.agg (Tup.cells (R 4 (.i .i64)) X).toArray] w5 Kb := by
      intro X hX Kb hKb
      subst hX
      refine impl.Range.some.c (k := 0) (x := n) (by omega) (by omega) (fun h => ?_) hKb
      split at h <;> split at h <;> (refine ⟨?_, ?_, ?_⟩ <;> simp_all <;> omega)
    rw [ev2, ev3] at m5
    refine hg _ ?_ fun w8 hb8 => ?_
    · rw [ev2, ev3]; exact hbx
    have m8 := m5.below hb8
    rw [hbx] at m8
    clear m1 m2 m3 m4 m5
    refine And.intro (fun hq => ?_) (fun hq => ?_)
    · simp only [Bool.not_eq_true', decide_eq_false_iff_not] at hq
      refine impl.noRange.c fun w9 hb9 => ?_
      have m9 := m8.below hb9
      clear m8
      repeat' (first | (with_reducible refine ldM (by assumption) (by with_unfolding_all (repeat (first | exact List.mem_cons_self | refine List.mem_cons_of_mem _ ?_))) (by with_unfolding_all rfl) ?_) | (with_reducible refine ldAM (by assumption) (by with_unfolding_all (repeat (first | exact List.mem_cons_self | refine List.mem_cons_of_mem _ ?_))) ?_) | (with_reducible refine nwZ (by assumption) fun _ _ _ => ?_) | (with_reducible refine nwM' (by assumption) fun _ _ _ => ?_) | (with_reducible refine stM0 (by assumption) (by with_unfolding_all (repeat (first | exact Up.head _ _ _ _ | apply Up.tail))) fun _ _ => ?_) | (with_reducible refine stM1 (by assumption) (by with_unfolding_all (repeat (first | exact Up.head _ _ _ _ | apply Up.tail))) fun _ _ => ?_) | (with_reducible refine stM2 (by assumption) (by with_unfolding_all (repeat (first | exact Up.head _ _ _ _ | apply Up.tail))) fun _ _ => ?_) | (with_reducible refine stM3 (by assumption) (by with_unfolding_all (repeat (first | exact Up.head _ _ _ _ | apply Up.tail))) fun _ _ => ?_) | (with_reducible refine stAM' (by assumption) (by with_unfolding_all (repeat (first | exact Up.head _ _ _ _ | apply Up.tail))) fun _ _ => ?_) | (with_reducible refine stAL (by assumption) (by with_unfolding_all (repeat (first | exact Up.head _ _ _ _ | apply Up.tail))) fun _ _ => ?_) | (with_reducible refine And.intro (fun _ => ?_) (fun _ => ?_)) | (refine stAM' (by assumption) (by with_unfolding_all (repeat (first | exact Up.head _ _ _ _ | apply Up.tail))) fun _ _ => ?_))
      rename_i m10
      refine kof (hK _ m10.low) (if_neg fun h => hq ?_)
      split <;> split <;> omega
    · simp only [Bool.not_eq_false', decide_eq_true_eq] at hq
      have hin : lo ≤ n ∧ n ≤ hi := by
        split at hq <;> split at hq <;> omega
      have em : (if (n : Int) > (lo : Int) then (n : Int) else (lo : Int)) = (n : Int) := by split <;> omega
      have ex : (if (n : Int) < (hi : Int) then (n : Int) else (hi : Int)) = (n : Int) := by split <;> omega
      rw [em, ex] at m8
      refine ldAM m8 (by with_unfolding_all (repeat (first | exact List.mem_cons_self | refine List.mem_cons_of_mem _ ?_))) ?_
      refine impl.Range.tidy.c (k := 0) (x := n) (lo := n) (hi := n) (by omega) (Nat.le_refl _) (by omega) rfl rfl fun w9 hb9 => ?_
      have m9 := m8.below hb9
      clear m8
      repeat' (first | (with_reducible refine ldM (by assumption) (by with_unfolding_all (repeat (first | exact List.mem_cons_self | refine List.mem_cons_of_mem _ ?_))) (by with_unfolding_all rfl) ?_) | (with_reducible refine ldAM (by assumption) (by with_unfolding_all (repeat (first | exact List.mem_cons_self | refine List.mem_cons_of_mem _ ?_))) ?_) | (with_reducible refine nwZ (by assumption) fun _ _ _ => ?_) | (with_reducible refine nwM' (by assumption) fun _ _ _ => ?_) | (with_reducible refine stM0 (by assumption) (by with_unfolding_all (repeat (first | exact Up.head _ _ _ _ | apply Up.tail))) fun _ _ => ?_) | (with_reducible refine stM1 (by assumption) (by with_unfolding_all (repeat (first | exact Up.head _ _ _ _ | apply Up.tail))) fun _ _ => ?_) | (with_reducible refine stM2 (by assumption) (by with_unfolding_all (repeat (first | exact Up.head _ _ _ _ | apply Up.tail))) fun _ _ => ?_) | (with_reducible refine stM3 (by assumption) (by with_unfolding_all (repeat (first | exact Up.head _ _ _ _ | apply Up.tail))) fun _ _ => ?_) | (with_reducible refine stAM' (by assumption) (by with_unfolding_all (repeat (first | exact Up.head _ _ _ _ | apply Up.tail))) fun _ _ => ?_) | (with_reducible refine stAL (by assumption) (by with_unfolding_all (repeat (first | exact Up.head _ _ _ _ | apply Up.tail))) fun _ _ => ?_) | (with_reducible refine And.intro (fun _ => ?_) (fun _ => ?_)) | (refine stAM' (by assumption) (by with_unfolding_all (repeat (first | exact Up.head _ _ _ _ | apply Up.tail))) fun _ _ => ?_))
      rename_i m10
      exact kof (hK _ m10.low) (if_pos hin)
end
end Go.Proofs.Ytdlnoabihfnmmaa.V

/- Contracts: masks of the reference. -/
namespace Go.Proofs.Ytdlnoabihfnmmaa.V
open Go Go.RowKit
set_option linter.unusedVariables false
set_option linter.unusedSimpArgs false
section
variable {w : World}
theorem shl_one {n : Nat} (hn : n ≤ 40) : IntKind.wrap .i64 (1 * 2 ^ (min (Int.toNat (n : Int)) (IntKind.bits .i64))) = ((2 ^ n : Nat) : Int) := by
  have h1 : min (Int.toNat (n : Int)) (IntKind.bits .i64) = n := by
    have : IntKind.bits .i64 = 64 := rfl
    rw [this]; omega
  have h2 : (1 * 2 ^ n : Int) = ((2 ^ n : Nat) : Int) := by simp
  have h3 := Nat.pow_le_pow_right (n := 2) (by omega) hn
  rw [h1, h2, i64_nat (by omega)]
theorem spec.l2Mask.p {n : Nat} {v : Int} {K : Int → World → Prop} (hn : n ≤ 32) (hv : v = ((2 ^ n - 1 : Nat) : Int)) (hk : K ((2 ^ n - 1 : Nat) : Int) w) : CallT (.o (.lf (.i .i64))) P0 88 [.int .i64 v] w K := by
  have hp := Nat.two_pow_pos n
  have hp2 := Nat.pow_le_pow_right (n := 2) (by omega) hn
  have e : Lib.bitLen (2 ^ n - 1) = n := by
    have h1 := (bl_spec (2 ^ n - 1) (by omega) n).2 (by omega)
    have h2 := bl_spec (2 ^ n - 1) (by omega) (n - 1)
    rcases Nat.lt_or_ge (Lib.bitLen (2 ^ n - 1)) n with h | h
    · have h3 := h2.1 (by omega)
      have h4 : 2 ^ n = 2 ^ (n - 1) * 2 := by rw [← Nat.pow_succ]; congr 1; omega
      have h5 := Nat.two_pow_pos (n - 1)
      omega
    · omega
  refine spec.l2Mask.c (n := 2 ^ n - 1) (by omega) hv ?_
  rw [e]; exact hk
theorem spec.l2Over.c {n : Nat} {K : Int → World → Prop} (hn : n ≤ 33) (hk : ∀ w', Below w.heap.size w w' → K (iXor .i64 4294967295 ((2 ^ (n - 1) - 1 : Nat) : Int)) w') : CallT (.o (.lf (.i .i64))) P0 117 [.int .i64 n] w K := by
  refine spec.l2Over.ok ?_
  unfold spec.l2Over.vc
  refine And.intro (fun h => ?_) (fun h => ?_)
  · have h0 : n = 0 := by simpa using h
    subst h0
    exact spec.l2Top.c (kof (hk w (Below.refl _ _)) (by decide))
  · have h0 : n ≠ 0 := by simpa using h
    have e1 : IntKind.wrap .i64 ((n : Int) - 1) = ((n - 1 : Nat) : Int) := by rw [i64_of (by omega) (by omega)]; omega
    have hp := Nat.two_pow_pos (n - 1)
    have hp2 := Nat.pow_le_pow_right (n := 2) (j := 32) (by omega) (show n - 1 ≤ 32 by omega)
    rw [e1, shl_one (by omega)]
    refine ⟨Below w.heap.size, belOk _, eqG 4294967295, keptEq, eqG ((2 ^ (n - 1) : Nat) : Int), keptEq, eqG ((2 ^ (n - 1) - 1 : Nat) : Int), keptEq, fun w1 hs => ?_, fun t6 => ⟨fun w1 hs => ⟨by omega, gkE rfl (Below.refl _ _)⟩, fun t9 => ⟨fun w1 hs f9 => ?_, fun t11 w1 hs f6 f9 f11 => ?_⟩⟩⟩
    · exact spec.l2Top.c (gkE rfl (Below.refl _ _))
    · cases f9
      refine spec.l2Mask.p (n := n - 1) (by omega) ?_ (gkE rfl (Below.refl _ _))
      rw [i64_of (by omega) (by omega)]; omega
    · cases f6; cases f11
      exact hk _ hs
end
end Go.Proofs.Ytdlnoabihfnmmaa.V

/- Contracts: two ranges, one below the other, in the program. -/
namespace Go.Proofs.Ytdlnoabihfnmmaa.V
open Go Go.RowKit
set_option linter.unusedVariables false
set_option linter.unusedSimpArgs false
section
variable {w : World}
theorem impl.below.c {ka kb xa xb la ha lb hb : Nat} {al ah bl bh : Int} {less : Bool} {K : T4 × T4 × Bool × Unit → World → Prop} (hka : ka ≤ 32) (hkb : kb ≤ 32) (hxa : xa < 2 ^ 31) (hxb : xb < 2 ^ 31) (h31 : la < 2 ^ 31 ∧ ha < 2 ^ 31 ∧ lb < 2 ^ 31 ∧ hb < 2 ^ 31)
    (e1 : less = true → al = la ∧ ah = (if (hb : Int) - 1 < ha then (hb : Int) - 1 else ha) ∧ bh = hb ∧ bl = (if (la : Int) + 1 > lb then (la : Int) + 1 else lb))
    (e2 : less = false → al = (if (lb : Int) > la then (lb : Int) else la) ∧ ah = ha ∧ bl = lb ∧ bh = (if (ha : Int) < hb then (ha : Int) else hb))
    (HA : al ≤ ah → al.toNat / 2 ^ ka = xa / 2 ^ ka ∧ ah.toNat / 2 ^ ka = xa / 2 ^ ka) (HB : bl ≤ bh → bl.toNat / 2 ^ kb = xb / 2 ^ kb ∧ bh.toNat / 2 ^ kb = xb / 2 ^ kb)
    (hK : ∀ w', Below w.heap.size w w' → K (if al ≤ ah ∧ bl ≤ bh then (ivl al.toNat ah.toNat, ivl bl.toNat bh.toNat, true, ()) else ((1, 0, 0, 0, ()), (1, 0, 0, 0, ()), false, ())) w') :
    CallT (.n [(.ag (R 4 (.i .i64))), (.ag (R 4 (.i .i64))), (.lf .b)]) P0 43 [.agg (Tup.cells (R 4 (.i .i64)) (rgk ka xa la ha)).toArray, .agg (Tup.cells (R 4 (.i .i64)) (rgk kb xb lb hb)).toArray, .bool less] w K := by
  refine impl.below.ok ?_
  unfold impl.below.vc
  have hm := M.start w
  have hal : 0 ≤ al := by cases less with
    | true => have := e1 rfl; omega
    | false => have := (e2 rfl).1; split at this <;> omega
  have hbl : 0 ≤ bl := by cases less with
    | true => have := (e1 rfl).2.2.2; split at this <;> omega
    | false => have := e2 rfl; omega
  have hah : ah ≤ 4294967295 := by cases less with
    | true => have := (e1 rfl).2.1; split at this <;> omega
    | false => have := e2 rfl; omega
  have hbh : bh ≤ 4294967295 := by cases less with
    | true => have := e1 rfl; omega
    | false => have := (e2 rfl).2.2.2; split at this <;> omega
  repeat' (first | (with_reducible refine ldM (by assumption) (by with_unfolding_all (repeat (first | exact List.mem_cons_self | refine List.mem_cons_of_mem _ ?_))) (by with_unfolding_all rfl) ?_) | (with_reducible refine ldAM (by assumption) (by with_unfolding_all (repeat (first | exact List.mem_cons_self | refine List.mem_cons_of_mem _ ?_))) ?_) | (with_reducible refine nwZ (by assumption) fun _ _ _ => ?_) | (with_reducible refine nwM' (by assumption) fun _ _ _ => ?_) | (with_reducible refine stM0 (by assumption) (by with_unfolding_all (repeat (first | exact Up.head _ _ _ _ | apply Up.tail))) fun _ _ => ?_) | (with_reducible refine stM1 (by assumption) (by with_unfolding_all (repeat (first | exact Up.head _ _ _ _ | apply Up.tail))) fun _ _ => ?_) | (with_reducible refine stM2 (by assumption) (by with_unfolding_all (repeat (first | exact Up.head _ _ _ _ | apply Up.tail))) fun _ _ => ?_) | (with_reducible refine stM3 (by assumption) (by with_unfolding_all (repeat (first | exact Up.head _ _ _ _ | apply Up.tail))) fun _ _ => ?_) | (with_reducible refine stAM' (by assumption) (by with_unfolding_all (repeat (first | exact Up.head _ _ _ _ | apply Up.tail))) fun _ _ => ?_) | (with_reducible refine stAL (by assumption) (by with_unfolding_all (repeat (first | exact Up.head _ _ _ _ | apply Up.tail))) fun _ _ => ?_) | (with_reducible refine And.intro (fun _ => ?_) (fun _ => ?_)) | (refine stAM' (by assumption) (by with_unfolding_all (repeat (first | exact Up.head _ _ _ _ | apply Up.tail))) fun _ _ => ?_))
  rename_i w1 b1 m1 w2 b2 m2 w3 b3 m3 w4 b4 m4
  refine ⟨fun w' => M w w' [(b4, ((0, 0, 0, 0, ()) : T4)), (b3, ((0, 0, 0, 0, ()) : T4)), (b2, rgk kb xb bl bh), (b1, rgk ka xa al ah)], ?_, fun w5 m5 _ => ?_⟩
  · repeat' (first | (with_reducible refine ldM (by assumption) (by with_unfolding_all (repeat (first | exact List.mem_cons_self | refine List.mem_cons_of_mem _ ?_))) (by with_unfolding_all rfl) ?_) | (with_reducible refine ldAM (by assumption) (by with_unfolding_all (repeat (first | exact List.mem_cons_self | refine List.mem_cons_of_mem _ ?_))) ?_) | (with_reducible refine nwZ (by assumption) fun _ _ _ => ?_) | (with_reducible refine nwM' (by assumption) fun _ _ _ => ?_) | (with_reducible refine stM0 (by assumption) (by with_unfolding_all (repeat (first | exact Up.head _ _ _ _ | apply Up.tail))) fun _ _ => ?_) | (with_reducible refine stM1 (by assumption) (by with_unfolding_all (repeat (first | exact Up.head _ _ _ _ | apply Up.tail))) fun _ _ => ?_) | (with_reducible refine stM2 (by assumption) (by with_unfolding_all (repeat (first | exact Up.head _ _ _ _ | apply Up.tail))) fun _ _ => ?_) | (with_reducible refine stM3 (by assumption) (by with_unfolding_all (repeat (first | exact Up.head _ _ _ _ | apply Up.tail))) fun _ _ => ?_) | (with_reducible refine stAM' (by assumption) (by with_unfolding_all (repeat (first | exact Up.head _ _ _ _ | apply Up.tail))) fun _ _ => ?_) | (with_reducible refine stAL (by assumption) (by with_unfolding_all (repeat (first | exact Up.head _ _ _ _ | apply Up.tail))) fun _ _ => ?_) | (with_reducible refine And.intro (fun _ => ?_) (fun _ => ?_)) | (refine stAM' (by assumption) (by with_unfolding_all (repeat (first | exact Up.head _ _ _ _ | apply Up.tail))) fun _ _ => ?_))
    · rename_i hc w6 m6 w7 m7
      obtain ⟨h1, h2, h3, h4⟩ := e1 hc
      have q1 : IntKind.wrap .i64 ((hb : Int) - 1) = (hb : Int) - 1 := i64_of (by omega) (by omega)
      have q2 : IntKind.wrap .i64 ((la : Int) + 1) = (la : Int) + 1 := i64_of (by omega) (by omega)
      have eb : rgk kb xb bl bh = (((if IntKind.wrap .i64 ((la : Int) + 1) > (lb : Int) then IntKind.wrap .i64 ((la : Int) + 1) else (lb : Int)), (hb : Int), ((cutN kb xb : Nat) : Int), ((2 ^ kb - 1 : Nat) : Int), ()) : T4) := by rw [h4, h3, q2]; rfl
      have ea : rgk ka xa al ah = (((la : Int), (if IntKind.wrap .i64 ((hb : Int) - 1) < (ha : Int) then IntKind.wrap .i64 ((hb : Int) - 1) else (ha : Int)), ((cutN ka xa : Nat) : Int), ((2 ^ ka - 1 : Nat) : Int), ()) : T4) := by rw [h1, h2, q1]; rfl
      rw [ea, eb]
      exact m7
    · rename_i hc w6 m6 w7 m7
      obtain ⟨h1, h2, h3, h4⟩ := e2 hc
      rw [h1, h2, h3, h4]
      exact m7
  · refine ldAM m5 (by with_unfolding_all (repeat (first | exact List.mem_cons_self | refine List.mem_cons_of_mem _ ?_))) ?_
    refine impl.Range.some.c (k := ka) (x := xa) (lo := al) (hi := ah) hka (by omega) (fun h => ⟨hal, hah, (HA h).1⟩) fun w6 hb6 => ?_
    have m6 := m5.below hb6
    clear m1 m2 m3 m4 m5
    refine And.intro (fun hq => ?_) (fun hq => ?_)
    · simp only [Bool.not_eq_true', decide_eq_false_iff_not] at hq
      refine impl.noRange.c fun w7 hb7 => ?_
      have m7 := m6.below hb7
      refine impl.noRange.c fun w8 hb8 => ?_
      have m8 := m7.below hb8
      clear m6 m7
      repeat' (first | (with_reducible refine ldM (by assumption) (by with_unfolding_all (repeat (first | exact List.mem_cons_self | refine List.mem_cons_of_mem _ ?_))) (by with_unfolding_all rfl) ?_) | (with_reducible refine ldAM (by assumption) (by with_unfolding_all (repeat (first | exact List.mem_cons_self | refine List.mem_cons_of_mem _ ?_))) ?_) | (with_reducible refine nwZ (by assumption) fun _ _ _ => ?_) | (with_reducible refine nwM' (by assumption) fun _ _ _ => ?_) | (with_reducible refine stM0 (by assumption) (by with_unfolding_all (repeat (first | exact Up.head _ _ _ _ | apply Up.tail))) fun _ _ => ?_) | (with_reducible refine stM1 (by assumption) (by with_unfolding_all (repeat (first | exact Up.head _ _ _ _ | apply Up.tail))) fun _ _ => ?_) | (with_reducible refine stM2 (by assumption) (by with_unfolding_all (repeat (first | exact Up.head _ _ _ _ | apply Up.tail))) fun _ _ => ?_) | (with_reducible refine stM3 (by assumption) (by with_unfolding_all (repeat (first | exact Up.head _ _ _ _ | apply Up.tail))) fun _ _ => ?_) | (with_reducible refine stAM' (by assumption) (by with_unfolding_all (repeat (first | exact Up.head _ _ _ _ | apply Up.tail))) fun _ _ => ?_) | (with_reducible refine stAL (by assumption) (by with_unfolding_all (repeat (first | exact Up.head _ _ _ _ | apply Up.tail))) fun _ _ => ?_) | (with_reducible refine And.intro (fun _ => ?_) (fun _ => ?_)) | (refine stAM' (by assumption) (by with_unfolding_all (repeat (first | exact Up.head _ _ _ _ | apply Up.tail))) fun _ _ => ?_))
      rename_i m9
      exact kof (hK _ m9.low) (if_neg fun h => hq h.1)
    · simp only [Bool.not_eq_false', decide_eq_true_eq] at hq
      refine ldAM m6 (by with_unfolding_all (repeat (first | exact List.mem_cons_self | refine List.mem_cons_of_mem _ ?_))) ?_
      refine impl.Range.some.c (k := kb) (x := xb) (lo := bl) (hi := bh) hkb (by omega) (fun h => ⟨hbl, hbh, (HB h).1⟩) fun w7 hb7 => ?_
      have m7 := m6.below hb7
      clear m6
      refine And.intro (fun hq2 => ?_) (fun hq2 => ?_)
      · simp only [Bool.not_eq_true', decide_eq_false_iff_not] at hq2
        refine impl.noRange.c fun w8 hb8 => ?_
        have m8 := m7.below hb8
        refine impl.noRange.c fun w9 hb9 => ?_
        have m9 := m8.below hb9
        clear m7 m8
        repeat' (first | (with_reducible refine ldM (by assumption) (by with_unfolding_all (repeat (first | exact List.mem_cons_self | refine List.mem_cons_of_mem _ ?_))) (by with_unfolding_all rfl) ?_) | (with_reducible refine ldAM (by assumption) (by with_unfolding_all (repeat (first | exact List.mem_cons_self | refine List.mem_cons_of_mem _ ?_))) ?_) | (with_reducible refine nwZ (by assumption) fun _ _ _ => ?_) | (with_reducible refine nwM' (by assumption) fun _ _ _ => ?_) | (with_reducible refine stM0 (by assumption) (by with_unfolding_all (repeat (first | exact Up.head _ _ _ _ | apply Up.tail))) fun _ _ => ?_) | (with_reducible refine stM1 (by assumption) (by with_unfolding_all (repeat (first | exact Up.head _ _ _ _ | apply Up.tail))) fun _ _ => ?_) | (with_reducible refine stM2 (by assumption) (by with_unfolding_all (repeat (first | exact Up.head _ _ _ _ | apply Up.tail))) fun _ _ => ?_) | (with_reducible refine stM3 (by assumption) (by with_unfolding_all (repeat (first | exact Up.head _ _ _ _ | apply Up.tail))) fun _ _ => ?_) | (with_reducible refine stAM' (by assumption) (by with_unfolding_all (repeat (first | exact Up.head _ _ _ _ | apply Up.tail))) fun _ _ => ?_) | (with_reducible refine stAL (by assumption) (by with_unfolding_all (repeat (first | exact Up.head _ _ _ _ | apply Up.tail))) fun _ _ => ?_) | (with_reducible refine And.intro (fun _ => ?_) (fun _ => ?_)) | (refine stAM' (by assumption) (by with_unfolding_all (repeat (first | exact Up.head _ _ _ _ | apply Up.tail))) fun _ _ => ?_))
        rename_i m10
        exact kof (hK _ m10.low) (if_neg fun h => hq2 h.2)
      · simp only [Bool.not_eq_false', decide_eq_true_eq] at hq2
        obtain ⟨p, hp⟩ : ∃ p : Nat, al = p := ⟨al.toNat, by omega⟩
        obtain ⟨q, hq'⟩ : ∃ q : Nat, ah = q := ⟨ah.toNat, by omega⟩
        obtain ⟨s, hs'⟩ : ∃ s : Nat, bl = s := ⟨bl.toNat, by omega⟩
        obtain ⟨u, hu'⟩ : ∃ u : Nat, bh = u := ⟨bh.toNat, by omega⟩
        have HA' := HA hq
        have HB' := HB hq2
        clear e1 e2 HA HB
        subst hp hq' hs' hu'
        simp only [Int.toNat_natCast] at HA' HB' hK
        have hd : Del [(b4, ((0, 0, 0, 0, ()) : T4)), (b3, ((0, 0, 0, 0, ()) : T4)), (b2, rgk kb xb s u), (b1, rgk ka xa p q)] b3 ((0, 0, 0, 0, ()) : T4) [(b4, ((0, 0, 0, 0, ()) : T4)), (b2, rgk kb xb s u), (b1, rgk ka xa p q)] := Del.tail _ _ _ _ _ (Del.head _ _ _)
        refine ⟨SpS w7.heap.size b3 (ivl p q), spsOk _ _ _, eqG (rgk ka xa p q), keptEq, eqG (ivl p q), keptEq, eqG (rgk kb xb s u), keptEq, eqG (ivl s u), keptEq, _, keptBx, fun w8 hs => ?_, fun t46 => ⟨fun w8 hs f => ?_, fun t47 => ⟨fun w8 hs => ?_, fun t48 => ⟨fun w8 hs f => ?_, fun t49 => ⟨fun w8 hs f47 => ?_, fun st w8 hs f46 f47 f48 f49 fs => ?_⟩⟩⟩⟩⟩
        · exact ldAM (m7.sps hd hs) (by with_unfolding_all (repeat (first | exact List.mem_cons_self | refine List.mem_cons_of_mem _ ?_))) (gkE rfl (SpS.refl _ _ _ _))
        · cases f
          refine impl.Range.tidy.c (k := ka) (x := xa) (lo := p) (hi := q) hka (by omega) (by omega) HA'.1 HA'.2 fun w9 hb9 => gkE rfl ?_
          exact SpS.of_below (hb9.mono hs.size) (m7.box b3 _ hd.mem).2.1
        · exact ldAM (m7.sps hd hs) (by with_unfolding_all (repeat (first | exact List.mem_cons_self | refine List.mem_cons_of_mem _ ?_))) (gkE rfl (SpS.refl _ _ _ _))
        · cases f
          refine impl.Range.tidy.c (k := kb) (x := xb) (lo := s) (hi := u) hkb (by omega) (by omega) HB'.1 HB'.2 fun w9 hb9 => gkE rfl ?_
          exact SpS.of_below (hb9.mono hs.size) (m7.box b3 _ hd.mem).2.1
        · cases f47
          exact stSps m7 hd hs rfl
        · cases f49
          have m8 := m7.spsB hd hs fs
          clear m7
          repeat' (first | (with_reducible refine ldM (by assumption) (by with_unfolding_all (repeat (first | exact List.mem_cons_self | refine List.mem_cons_of_mem _ ?_))) (by with_unfolding_all rfl) ?_) | (with_reducible refine ldAM (by assumption) (by with_unfolding_all (repeat (first | exact List.mem_cons_self | refine List.mem_cons_of_mem _ ?_))) ?_) | (with_reducible refine nwZ (by assumption) fun _ _ _ => ?_) | (with_reducible refine nwM' (by assumption) fun _ _ _ => ?_) | (with_reducible refine stM0 (by assumption) (by with_unfolding_all (repeat (first | exact Up.head _ _ _ _ | apply Up.tail))) fun _ _ => ?_) | (with_reducible refine stM1 (by assumption) (by with_unfolding_all (repeat (first | exact Up.head _ _ _ _ | apply Up.tail))) fun _ _ => ?_) | (with_reducible refine stM2 (by assumption) (by with_unfolding_all (repeat (first | exact Up.head _ _ _ _ | apply Up.tail))) fun _ _ => ?_) | (with_reducible refine stM3 (by assumption) (by with_unfolding_all (repeat (first | exact Up.head _ _ _ _ | apply Up.tail))) fun _ _ => ?_) | (with_reducible refine stAM' (by assumption) (by with_unfolding_all (repeat (first | exact Up.head _ _ _ _ | apply Up.tail))) fun _ _ => ?_) | (with_reducible refine stAL (by assumption) (by with_unfolding_all (repeat (first | exact Up.head _ _ _ _ | apply Up.tail))) fun _ _ => ?_) | (with_reducible refine And.intro (fun _ => ?_) (fun _ => ?_)) | (refine stAM' (by assumption) (by with_unfolding_all (repeat (first | exact Up.head _ _ _ _ | apply Up.tail))) fun _ _ => ?_))
          rename_i m9
          exact kof (hK _ m9.low) (if_pos ⟨hq, hq2⟩)
end
end Go.Proofs.Ytdlnoabihfnmmaa.V

/- Contracts: what is left of two ranges, in the program. -/
namespace Go.Proofs.Ytdlnoabihfnmmaa.V
open Go Go.RowKit
set_option linter.unusedVariables false
set_option linter.unusedSimpArgs false
/-- What may become of the world while two boxes get their values. -/
structure SpT (n b1 : Nat) (y1 : T4) (b2 : Nat) (y2 : T4) (a c : World) : Prop where
  os : c.os = a.os
  tape : c.tape = a.tape
  output : c.output = a.output
  size : a.heap.size ≤ c.heap.size
  low : ∀ k, k < n → k ≠ b1 → k ≠ b2 → c.heap[k]? = a.heap[k]?
  box1 : c.heap[b1]? = a.heap[b1]? ∨ c.heap[b1]? = some (bx y1)
  box2 : c.heap[b2]? = a.heap[b2]? ∨ c.heap[b2]? = some (bx y2)
theorem SpT.refl (n b1 : Nat) (y1 : T4) (b2 : Nat) (y2 : T4) (a : World) : SpT n b1 y1 b2 y2 a a := ⟨rfl, rfl, rfl, Nat.le_refl _, fun _ _ _ _ => rfl, .inl rfl, .inl rfl⟩
theorem or_then {α : Type} {a c d v : α} (h1 : c = a ∨ c = v) (h2 : d = c ∨ d = v) : d = a ∨ d = v := by
  rcases h2 with h | h
  · rcases h1 with h' | h'
    · exact .inl (h.trans h')
    · exact .inr (h.trans h')
  · exact .inr h
theorem SpT.trans {n b1 b2 : Nat} {y1 y2 : T4} {a c d : World} (h1 : SpT n b1 y1 b2 y2 a c) (h2 : SpT n b1 y1 b2 y2 c d) : SpT n b1 y1 b2 y2 a d :=
  ⟨h2.os.trans h1.os, h2.tape.trans h1.tape, h2.output.trans h1.output, Nat.le_trans h1.size h2.size, fun k hk e1 e2 => (h2.low k hk e1 e2).trans (h1.low k hk e1 e2), or_then h1.box1 h2.box1, or_then h1.box2 h2.box2⟩
theorem sptOk (b1 : Nat) (y1 : T4) (b2 : Nat) (y2 : T4) (w : World) : SpOk (SpT w.heap.size b1 y1 b2 y2) w :=
  ⟨fun a => SpT.refl _ _ _ _ _ a, fun a b c h1 h2 => h1.trans h2, by
    have hb : Below w.heap.size w w.drew := (Below.refl _ _).drew
    exact ⟨hb.os, hb.tape, hb.output, hb.size, fun k hk _ _ => hb.block k hk, .inl rfl, .inl rfl⟩⟩
theorem keptT1 {n b1 b2 : Nat} {y1 y2 : T4} : Kept (SpT n b1 y1 b2 y2) (fun (_ : Unit) w => w.heap[b1]? = some (bx y1)) := by
  intro _ a c h hac
  rcases hac.box1 with e | e
  · exact e.trans h
  · exact e
theorem keptT2 {n b1 b2 : Nat} {y1 y2 : T4} : Kept (SpT n b1 y1 b2 y2) (fun (_ : Unit) w => w.heap[b2]? = some (bx y2)) := by
  intro _ a c h hac
  rcases hac.box2 with e | e
  · exact e.trans h
  · exact e
section
variable {w0 w w1 : World} {l r1 r : List (Nat × T4)} {b1 b2 : Nat} {x1 x2 y1 y2 : T4}
theorem Del.ne2 (hd1 : Del l b1 x1 r1) (hd2 : Del r1 b2 x2 r) (hn : (l.map (·.1)).Nodup) : b1 ≠ b2 := fun e => by
  subst e
  exact hd1.ne hn (List.mem_map.2 ⟨_, hd2.mem, rfl⟩)
theorem M.spt (hm : M w0 w l) (hd1 : Del l b1 x1 r1) (hd2 : Del r1 b2 x2 r) (hs : SpT w.heap.size b1 y1 b2 y2 w w1) : M w0 w1 r := by
  have hn1 := hm.one.sublist (hd1.sub.map _)
  have hb1 := hm.box b1 x1 hd1.mem
  have hb2 := hm.box b2 x2 (hd1.sub.subset hd2.mem)
  refine ⟨⟨hs.os.trans hm.low.os, hs.tape.trans hm.low.tape, hs.output.trans hm.low.output, Nat.le_trans hm.low.size hs.size, fun k hk => (hs.low k (by have := hm.low.size; omega) (by omega) (by omega)).trans (hm.low.block k hk)⟩, fun c z hz => ?_, hn1.sublist (hd2.sub.map _)⟩
  obtain ⟨h1, h2, h3⟩ := hm.box c z (hd1.sub.subset (hd2.sub.subset hz))
  have hne1 : c ≠ b1 := fun e => hd1.ne hm.one (e ▸ List.mem_map.2 ⟨_, hd2.sub.subset hz, rfl⟩)
  have hne2 : c ≠ b2 := fun e => hd2.ne hn1 (e ▸ List.mem_map.2 ⟨_, hz, rfl⟩)
  exact ⟨h1, by have := hs.size; omega, (hs.low c h2 hne1 hne2).trans h3⟩
theorem M.sptB (hm : M w0 w l) (hd1 : Del l b1 x1 r1) (hd2 : Del r1 b2 x2 r) (hs : SpT w.heap.size b1 y1 b2 y2 w w1) (hy1 : w1.heap[b1]? = some (bx y1)) (hy2 : w1.heap[b2]? = some (bx y2)) : M w0 w1 ((b1, y1) :: (b2, y2) :: r) := by
  have h := hm.spt hd1 hd2 hs
  have hn1 := hm.one.sublist (hd1.sub.map _)
  have hb1 := hm.box b1 x1 hd1.mem
  have hb2 := hm.box b2 x2 (hd1.sub.subset hd2.mem)
  refine ⟨h.low, fun c z hz => ?_, ?_⟩
  · rcases List.mem_cons.1 hz with e | e
    · simp only [Prod.mk.injEq] at e
      obtain ⟨rfl, rfl⟩ := e
      exact ⟨hb1.1, by have := hs.size; omega, hy1⟩
    · rcases List.mem_cons.1 e with e | e
      · simp only [Prod.mk.injEq] at e
        obtain ⟨rfl, rfl⟩ := e
        exact ⟨hb2.1, by have := hs.size; omega, hy2⟩
      · exact h.box c z e
  · simp only [List.map_cons, List.nodup_cons, List.mem_cons, not_or]
    exact ⟨⟨hd1.ne2 hd2 hm.one, fun hh => hd1.ne hm.one (by obtain ⟨p, hp, e⟩ := List.mem_map.1 hh; exact List.mem_map.2 ⟨p, hd2.sub.subset hp, e⟩)⟩, hd2.ne hn1, h.one⟩
theorem stT1 (hm : M w0 w l) (hd1 : Del l b1 x1 r1) (hd2 : Del r1 b2 x2 r) (hs : SpT w.heap.size b1 y1 b2 y2 w w1) :
    StA P0 ⟨b1, 0, none⟩ (Tup.cells (R 4 (.i .i64)) y1) w1 fun w2 => GK .z (SpT w.heap.size b1 y1 b2 y2) w1 (fun _ w => w.heap[b1]? = some (bx y1)) (.tuple #[]) w2 := by
  have hb := hm.box b1 x1 hd1.mem
  have hne := hd1.ne2 hd2 hm.one
  obtain ⟨z, hz⟩ : ∃ z : T4, w1.heap[b1]? = some (bx z) := by
    rcases hs.box1 with e | e
    · exact ⟨x1, e.trans hb.2.2⟩
    · exact ⟨y1, e⟩
  obtain ⟨w', hr, hg, hsz, hh⟩ := run_storeCells_at' P0 (b := b1) (t := 45) (Tup.cells (R 4 (.i .i64)) y1) 0 [] (Tup.cells (R 4 (.i .i64)) z) w1 (oneCell4 y1) rfl (by simp [V.cells_length]) (by simpa [bx] using hz)
  have hh' : w'.heap[b1]? = some (bx y1) := by simpa [bx] using hh
  have hb2 := hm.box b2 x2 (hd1.sub.subset hd2.mem)
  exact ⟨w', hr, (), rfl, ⟨hg.os, hg.tape, hg.output, hg.size, fun k hk e1 _ => hg.block k (by have := hs.size; omega) (by simpa using e1), .inr hh', .inl (hg.block b2 (by have := hs.size; omega) (by simp; omega))⟩, hh'⟩
theorem stT2 (hm : M w0 w l) (hd1 : Del l b1 x1 r1) (hd2 : Del r1 b2 x2 r) (hs : SpT w.heap.size b1 y1 b2 y2 w w1) :
    StA P0 ⟨b2, 0, none⟩ (Tup.cells (R 4 (.i .i64)) y2) w1 fun w2 => GK .z (SpT w.heap.size b1 y1 b2 y2) w1 (fun _ w => w.heap[b2]? = some (bx y2)) (.tuple #[]) w2 := by
  have hb := hm.box b2 x2 (hd1.sub.subset hd2.mem)
  have hne := hd1.ne2 hd2 hm.one
  obtain ⟨z, hz⟩ : ∃ z : T4, w1.heap[b2]? = some (bx z) := by
    rcases hs.box2 with e | e
    · exact ⟨x2, e.trans hb.2.2⟩
    · exact ⟨y2, e⟩
  obtain ⟨w', hr, hg, hsz, hh⟩ := run_storeCells_at' P0 (b := b2) (t := 45) (Tup.cells (R 4 (.i .i64)) y2) 0 [] (Tup.cells (R 4 (.i .i64)) z) w1 (oneCell4 y2) rfl (by simp [V.cells_length]) (by simpa [bx] using hz)
  have hh' : w'.heap[b2]? = some (bx y2) := by simpa [bx] using hh
  have hb1 := hm.box b1 x1 hd1.mem
  exact ⟨w', hr, (), rfl, ⟨hg.os, hg.tape, hg.output, hg.size, fun k hk _ e2 => hg.block k (by have := hs.size; omega) (by simpa using e2), .inl (hg.block b1 (by have := hs.size; omega) (by simp; omega)), .inr hh'⟩, hh'⟩
end
/-! ### what is left -/
def nR : T4 := (1, 0, 0, 0, ())
/-- What is left of a range and a number. -/
def brT (op : Int) (lo hi n : Nat) (is_ : Bool) : T4 × T4 × Bool × Unit := match brN op lo hi n is_ with
  | none => (nR, nR, false, ())
  | some p => (ivl p.1 p.2, ivl n n, true, ())
theorem brT_none {op : Int} {lo hi n : Nat} {is_ : Bool} (h : brN op lo hi n is_ = none) : brT op lo hi n is_ = (nR, nR, false, ()) := by unfold brT; rw [h]
theorem brT_some {op : Int} {lo hi n a b : Nat} {is_ : Bool} (h : brN op lo hi n is_ = some (a, b)) : brT op lo hi n is_ = (ivl a b, ivl n n, true, ()) := by unfold brT; rw [h]
theorem brT_ok {op : Int} {lo hi n : Nat} {is_ : Bool} : (brT op lo hi n is_).2.2.1 = (brN op lo hi n is_).isSome := by unfold brT; cases brN op lo hi n is_ <;> rfl
/-- What two ranges, one below the other, are left of. -/
def bwT (al ah bl bh : Int) : T4 × T4 × Bool × Unit := if al ≤ ah ∧ bl ≤ bh then (ivl al.toNat ah.toNat, ivl bl.toNat bh.toNat, true, ()) else (nR, nR, false, ())
theorem bwT_pos {al ah bl bh : Int} {a b c d : Nat} (h : al ≤ ah ∧ bl ≤ bh) (ha : al = a) (hb : ah = b) (hc : bl = c) (hd : bh = d) : bwT al ah bl bh = (ivl a b, ivl c d, true, ()) := by
  subst ha hb hc hd
  unfold bwT; rw [if_pos h]; rfl
theorem bwT_neg {al ah bl bh : Int} (h : ¬ (al ≤ ah ∧ bl ≤ bh)) : bwT al ah bl bh = (nR, nR, false, ()) := by unfold bwT; rw [if_neg h]
def swT (p : T4 × T4 × Bool × Unit) : T4 × T4 × Bool × Unit := (p.2.1, p.1, p.2.2)
theorem bw14t {lo hi n : Nat} (hle : lo ≤ hi) : bwT lo (if (n : Int) - 1 < hi then (n : Int) - 1 else hi) (if (lo : Int) + 1 > n then (lo : Int) + 1 else n) n = brT 14 lo hi n true := by
  by_cases h : lo < n
  · rw [brT_some (a := lo) (b := min hi (n - 1)) (by unfold brN; rw [if_pos rfl, if_pos rfl, if_pos h])]
    refine bwT_pos ⟨?_, ?_⟩ rfl ?_ ?_ rfl <;> split <;> omega
  · rw [brT_none (by unfold brN; rw [if_pos rfl, if_pos rfl, if_neg h])]
    refine bwT_neg fun h2 => ?_
    have := h2.1; split at this <;> omega
theorem bw14f {lo hi n : Nat} (hle : lo ≤ hi) : bwT n (if (n : Int) < (hi : Int) then (n : Int) else hi) (if (n : Int) > lo then (n : Int) else lo) hi = swT (brT 14 lo hi n false) := by
  by_cases h : n ≤ hi
  · rw [brT_some (a := max lo n) (b := hi) (by unfold brN; rw [if_pos rfl, if_neg (by simp), if_pos h])]
    refine bwT_pos (c := max lo n) ⟨?_, ?_⟩ rfl ?_ ?_ rfl <;> split <;> omega
  · rw [brT_none (by unfold brN; rw [if_pos rfl, if_neg (by simp), if_neg h])]
    refine bwT_neg fun h2 => ?_
    have := h2.1; split at this <;> omega
theorem bw15t {lo hi n : Nat} (hle : lo ≤ hi) : bwT n (if (hi : Int) - 1 < n then (hi : Int) - 1 else n) (if (n : Int) + 1 > lo then (n : Int) + 1 else lo) hi = swT (brT 15 lo hi n true) := by
  by_cases h : n < hi
  · rw [brT_some (a := max lo (n + 1)) (b := hi) (by unfold brN; rw [if_neg (by decide), if_pos rfl, if_pos rfl, if_pos h])]
    refine bwT_pos (c := max lo (n + 1)) ⟨?_, ?_⟩ rfl ?_ ?_ rfl <;> split <;> omega
  · rw [brT_none (by unfold brN; rw [if_neg (by decide), if_pos rfl, if_pos rfl, if_neg h])]
    refine bwT_neg fun h2 => ?_
    have := h2.1; split at this <;> omega
theorem bw15f {lo hi n : Nat} (hle : lo ≤ hi) : bwT lo (if (n : Int) < (hi : Int) then (n : Int) else hi) (if (lo : Int) > n then (lo : Int) else n) n = brT 15 lo hi n false := by
  by_cases h : lo ≤ n
  · rw [brT_some (a := lo) (b := min hi n) (by unfold brN; rw [if_neg (by decide), if_pos rfl, if_neg (by simp), if_pos h])]
    refine bwT_pos ⟨?_, ?_⟩ rfl ?_ ?_ rfl <;> split <;> omega
  · rw [brT_none (by unfold brN; rw [if_neg (by decide), if_pos rfl, if_neg (by simp), if_neg h])]
    refine bwT_neg fun h2 => ?_
    have := h2.1; split at this <;> omega
theorem bw14i {lo hi n : Nat} (hle : lo ≤ hi) : bwT (if (n : Int) > lo then (n : Int) else lo) hi n (if (hi : Int) < (n : Int) then (hi : Int) else n) = brT 14 lo hi n false := by
  by_cases h : n ≤ hi
  · rw [brT_some (a := max lo n) (b := hi) (by unfold brN; rw [if_pos rfl, if_neg (by simp), if_pos h])]
    refine bwT_pos (a := max lo n) ⟨?_, ?_⟩ ?_ rfl rfl ?_ <;> split <;> omega
  · rw [brT_none (by unfold brN; rw [if_pos rfl, if_neg (by simp), if_neg h])]
    refine bwT_neg fun h2 => ?_
    have := h2.1; split at this <;> omega
theorem bw15i {lo hi n : Nat} (hle : lo ≤ hi) : bwT (if (lo : Int) > n then (lo : Int) else n) n lo (if (n : Int) < (hi : Int) then (n : Int) else hi) = swT (brT 15 lo hi n false) := by
  by_cases h : lo ≤ n
  · rw [brT_some (a := lo) (b := min hi n) (by unfold brN; rw [if_neg (by decide), if_pos rfl, if_neg (by simp), if_pos h])]
    refine bwT_pos (d := min hi n) ⟨?_, ?_⟩ ?_ rfl rfl ?_ <;> split <;> omega
  · rw [brT_none (by unfold brN; rw [if_neg (by decide), if_pos rfl, if_neg (by simp), if_neg h])]
    refine bwT_neg fun h2 => ?_
    have := h2.1; split at this <;> omega
section
variable {w0 w : World} {l r1 r : List (Nat × T4)} {b8 b9 bp bq : Nat} {x y x1 x2 : T4} {K : T4 → T4 → World → Prop}
/-- Two boxes are handed back. -/
theorem tailT (hm : M w0 w l) (hd1 : Del l b8 x1 r1) (hd2 : Del r1 b9 x2 r) (hx : (bp, x) ∈ r) (hy : (bq, y) ∈ r) (hk : ∀ w', M w0 w' ((b8, x) :: (b9, y) :: r) → K x y w') :
    ∃ Sp : World → World → Prop, SpOk Sp w ∧ ∃ G1 : Tup (R 4 (.i .i64)) → World → Prop, Kept Sp G1 ∧ ∃ G2 : Tup (R 4 (.i .i64)) → World → Prop, Kept Sp G2 ∧ ∃ G3 : Unit → World → Prop, Kept Sp G3 ∧ ∃ G4 : Unit → World → Prop, Kept Sp G4 ∧
    (∀ w1, Sp w w1 → LdA (R 4 (.i .i64)) ⟨bp, 0, none⟩ w1 fun (t : Tup (R 4 (.i .i64))) w2 => GK (.o (.ag (R 4 (.i .i64)))) Sp w1 G1 (.agg (Tup.cells (R 4 (.i .i64)) t).toArray) w2) ∧
    ∀ (t1 : Tup (R 4 (.i .i64))), (∀ w1, Sp w w1 → LdA (R 4 (.i .i64)) ⟨bq, 0, none⟩ w1 fun (t : Tup (R 4 (.i .i64))) w2 => GK (.o (.ag (R 4 (.i .i64)))) Sp w1 G2 (.agg (Tup.cells (R 4 (.i .i64)) t).toArray) w2) ∧
    ∀ (t2 : Tup (R 4 (.i .i64))), (∀ w1, Sp w w1 → G1 t1 w1 → StA P0 ⟨b8, 0, none⟩ (Tup.cells (R 4 (.i .i64)) t1) w1 fun w2 => GK .z Sp w1 G3 (.tuple #[]) w2) ∧
    ∀ (s1 : Unit), (∀ w1, Sp w w1 → G2 t2 w1 → StA P0 ⟨b9, 0, none⟩ (Tup.cells (R 4 (.i .i64)) t2) w1 fun w2 => GK .z Sp w1 G4 (.tuple #[]) w2) ∧
    ∀ (s2 : Unit), ∀ w1, Sp w w1 → G1 t1 w1 → G2 t2 w1 → G3 s1 w1 → G4 s2 w1 → LdA (R 4 (.i .i64)) ⟨b8, 0, none⟩ w1 fun r w2 => LdA (R 4 (.i .i64)) ⟨b9, 0, none⟩ w1 fun r1 w3 => K r r1 w1 := by
  refine ⟨SpT w.heap.size b8 x b9 y, sptOk _ _ _ _ _, eqG x, fun _ _ _ h _ => h, eqG y, fun _ _ _ h _ => h, _, keptT1, _, keptT2, fun w1 hs => ?_, fun t1 => ⟨fun w1 hs => ?_, fun t2 => ⟨fun w1 hs f => ?_, fun s1 => ⟨fun w1 hs f => ?_, fun s2 w1 hs f1 f2 f3 f4 => ?_⟩⟩⟩⟩
  · exact ldAM (hm.spt hd1 hd2 hs) hx (gkE rfl (SpT.refl _ _ _ _ _ _))
  · exact ldAM (hm.spt hd1 hd2 hs) hy (gkE rfl (SpT.refl _ _ _ _ _ _))
  · cases f; exact stT1 hm hd1 hd2 hs
  · cases f; exact stT2 hm hd1 hd2 hs
  · have m := hm.sptB hd1 hd2 hs f3 f4
    exact ldAM m List.mem_cons_self (ldAM m (List.mem_cons_of_mem _ List.mem_cons_self) (hk _ m))
/-- The same, the second box last. -/
theorem tailU (hm : M w0 w l) (hd1 : Del l b8 x1 r) (h9 : (b9, x2) ∈ r) (hx : (bp, x) ∈ r) (hy : (bq, y) ∈ r) (hk : ∀ w', Below w0.heap.size w0 w' → K x y w') :
    ∃ Sp : World → World → Prop, SpOk Sp w ∧ ∃ G1 : Tup (R 4 (.i .i64)) → World → Prop, Kept Sp G1 ∧ ∃ G2 : Tup (R 4 (.i .i64)) → World → Prop, Kept Sp G2 ∧ ∃ G3 : Unit → World → Prop, Kept Sp G3 ∧
    (∀ w1, Sp w w1 → LdA (R 4 (.i .i64)) ⟨bp, 0, none⟩ w1 fun (t : Tup (R 4 (.i .i64))) w2 => GK (.o (.ag (R 4 (.i .i64)))) Sp w1 G1 (.agg (Tup.cells (R 4 (.i .i64)) t).toArray) w2) ∧
    ∀ (t1 : Tup (R 4 (.i .i64))), (∀ w1, Sp w w1 → LdA (R 4 (.i .i64)) ⟨bq, 0, none⟩ w1 fun (t : Tup (R 4 (.i .i64))) w2 => GK (.o (.ag (R 4 (.i .i64)))) Sp w1 G2 (.agg (Tup.cells (R 4 (.i .i64)) t).toArray) w2) ∧
    ∀ (t2 : Tup (R 4 (.i .i64))), (∀ w1, Sp w w1 → G1 t1 w1 → StA P0 ⟨b8, 0, none⟩ (Tup.cells (R 4 (.i .i64)) t1) w1 fun w2 => GK .z Sp w1 G3 (.tuple #[]) w2) ∧
    ∀ (s1 : Unit), ∀ w1, Sp w w1 → G1 t1 w1 → G2 t2 w1 → G3 s1 w1 → StA P0 ⟨b9, 0, none⟩ (Tup.cells (R 4 (.i .i64)) t2) w1 fun w2 => LdA (R 4 (.i .i64)) ⟨b8, 0, none⟩ w2 fun r w3 => LdA (R 4 (.i .i64)) ⟨b9, 0, none⟩ w2 fun r1 w4 => K r r1 w2 := by
  refine ⟨SpS w.heap.size b8 x, spsOk _ _ _, eqG x, fun _ _ _ h _ => h, eqG y, fun _ _ _ h _ => h, _, keptBx, fun w1 hs => ?_, fun t1 => ⟨fun w1 hs => ?_, fun t2 => ⟨fun w1 hs f => ?_, fun s1 w1 hs f1 f2 f3 => ?_⟩⟩⟩
  · exact ldAM (hm.sps hd1 hs) hx (gkE rfl (SpS.refl _ _ _ _))
  · exact ldAM (hm.sps hd1 hs) hy (gkE rfl (SpS.refl _ _ _ _))
  · cases f; exact stSps hm hd1 hs rfl
  · cases f1; cases f2
    have m := hm.spsB hd1 hs f3
    have hne : b8 ≠ b9 := fun e => hd1.ne hm.one (e ▸ List.mem_map.2 ⟨_, h9, rfl⟩)
    have hb9 := m.box b9 x2 (List.mem_cons_of_mem _ h9)
    have hb8 := m.box b8 x List.mem_cons_self
    obtain ⟨w', hr, hg, hsz, hh⟩ := run_storeCells_at' P0 (b := b9) (t := 45) (Tup.cells (R 4 (.i .i64)) y) 0 [] (Tup.cells (R 4 (.i .i64)) x2) w1 (oneCell4 y) rfl (by simp [V.cells_length]) (by simpa using hb9.2.2)
    refine ⟨w', hr, ldAB ((hg.block b8 hb8.2.1 (by simpa using hne)).trans hb8.2.2) (by simp) (ldAB hh (by simp) (hk _ ?_))⟩
    exact m.low.grown hg m.low.size (fun k hk => by simp only [Option.some.injEq] at hk; omega)
end
section
variable {w : World}
theorem kk_in {lo hi : Nat} (hle : lo ≤ hi) (hhi : hi < 2 ^ 31) {a b : Int} (h : a ≤ b) (ha : (lo : Int) ≤ a) (hb : b ≤ hi) : a.toNat / 2 ^ kk lo hi = lo / 2 ^ kk lo hi ∧ b.toNat / 2 ^ kk lo hi = lo / 2 ^ kk lo hi :=
  part_div (kk_same (by omega) (by omega)) (by omega) (by omega) (by omega)
theorem impl.below.x {la ha lb hb : Nat} {al ah bl bh : Int} {less : Bool} {K : T4 × T4 × Bool × Unit → World → Prop} (h31 : la ≤ ha ∧ ha < 2 ^ 31 ∧ lb ≤ hb ∧ hb < 2 ^ 31)
    (e1 : less = true → al = la ∧ ah = (if (hb : Int) - 1 < ha then (hb : Int) - 1 else ha) ∧ bh = hb ∧ bl = (if (la : Int) + 1 > lb then (la : Int) + 1 else lb))
    (e2 : less = false → al = (if (lb : Int) > la then (lb : Int) else la) ∧ ah = ha ∧ bl = lb ∧ bh = (if (ha : Int) < hb then (ha : Int) else hb))
    (hK : ∀ w', Below w.heap.size w w' → K (bwT al ah bl bh) w') :
    CallT (.n [(.ag (R 4 (.i .i64))), (.ag (R 4 (.i .i64))), (.lf .b)]) P0 43 [.agg (Tup.cells (R 4 (.i .i64)) (ivl la ha)).toArray, .agg (Tup.cells (R 4 (.i .i64)) (ivl lb hb)).toArray, .bool less] w K := by
  refine impl.below.c (ka := kk la ha) (xa := la) (kb := kk lb hb) (xb := lb) (al := al) (ah := ah) (bl := bl) (bh := bh) (kk_le (by omega) (by omega)) (kk_le (by omega) (by omega)) (by omega) (by omega) (by omega) e1 e2 (fun h => kk_in h31.1 h31.2.1 h ?_ ?_) (fun h => kk_in h31.2.2.1 h31.2.2.2 h ?_ ?_) hK
  all_goals
    cases less with
    | true => have := e1 rfl; omega
    | false => have := e2 rfl; omega
/-- A range without another one that is more than a number. -/
theorem impl.Range.but.n {r o : T4} {K : T4 × Bool × Unit → World → Prop} (hne : o.1 ≠ o.2.1) (hK : ∀ w', Below w.heap.size w w' → K (r, true, ()) w') :
    CallT (.n [(.ag (R 4 (.i .i64))), (.lf .b)]) P0 45 [.agg (Tup.cells (R 4 (.i .i64)) r).toArray, .agg (Tup.cells (R 4 (.i .i64)) o).toArray] w K := by
  refine impl.Range.but.ok ?_
  unfold impl.Range.but.vc
  have hm := M.start w
  repeat' (first | (with_reducible refine ldM (by assumption) (by with_unfolding_all (repeat (first | exact List.mem_cons_self | refine List.mem_cons_of_mem _ ?_))) (by with_unfolding_all rfl) ?_) | (with_reducible refine ldAM (by assumption) (by with_unfolding_all (repeat (first | exact List.mem_cons_self | refine List.mem_cons_of_mem _ ?_))) ?_) | (with_reducible refine nwZ (by assumption) fun _ _ _ => ?_) | (with_reducible refine nwM' (by assumption) fun _ _ _ => ?_) | (with_reducible refine stM0 (by assumption) (by with_unfolding_all (repeat (first | exact Up.head _ _ _ _ | apply Up.tail))) fun _ _ => ?_) | (with_reducible refine stM1 (by assumption) (by with_unfolding_all (repeat (first | exact Up.head _ _ _ _ | apply Up.tail))) fun _ _ => ?_) | (with_reducible refine stM2 (by assumption) (by with_unfolding_all (repeat (first | exact Up.head _ _ _ _ | apply Up.tail))) fun _ _ => ?_) | (with_reducible refine stM3 (by assumption) (by with_unfolding_all (repeat (first | exact Up.head _ _ _ _ | apply Up.tail))) fun _ _ => ?_) | (with_reducible refine stAM' (by assumption) (by with_unfolding_all (repeat (first | exact Up.head _ _ _ _ | apply Up.tail))) fun _ _ => ?_) | (with_reducible refine stAL (by assumption) (by with_unfolding_all (repeat (first | exact Up.head _ _ _ _ | apply Up.tail))) fun _ _ => ?_) | (with_reducible refine And.intro (fun _ => ?_) (fun _ => ?_)) | (refine stAM' (by assumption) (by with_unfolding_all (repeat (first | exact Up.head _ _ _ _ | apply Up.tail))) fun _ _ => ?_))
  · rename_i m; exact hK _ m.low
  · rename_i hc _ _ _ _ _; simp at hc; exact absurd hc hne
end
end Go.Proofs.Ytdlnoabihfnmmaa.V

/- Contracts: what is left of a range and a number, in the program. -/
namespace Go.Proofs.Ytdlnoabihfnmmaa.V
open Go Go.RowKit
set_option linter.unusedVariables false
set_option linter.unusedSimpArgs false
section
variable {w : World}
theorem bool_op {op : Int} {is_ : Bool} (ho : 12 ≤ op ∧ op ≤ 13) : (is_ == (op == 12)) = decide (is_ = decide (op = 12)) := by
  have : op = 12 ∨ op = 13 := by omega
  rcases this with rfl | rfl <;> cases is_ <;> rfl
theorem brT_same {op : Int} {lo hi n : Nat} {is_ : Bool} (ho : 12 ≤ op ∧ op ≤ 13) (h : is_ = decide (op = 12)) : brT op lo hi n is_ = if lo ≤ n ∧ n ≤ hi then (ivl n n, ivl n n, true, ()) else (nR, nR, false, ()) := by
  have e : brN op lo hi n is_ = if lo ≤ n ∧ n ≤ hi then some (n, n) else none := by unfold brN; rw [if_neg (by omega), if_neg (by omega), if_pos h]
  split
  · rename_i h2; rw [if_pos h2] at e; exact brT_some e
  · rename_i h2; rw [if_neg h2] at e; exact brT_none e
theorem brT_but {op : Int} {lo hi n : Nat} {is_ : Bool} (ho : 12 ≤ op ∧ op ≤ 13) (h : ¬ is_ = decide (op = 12)) : brT op lo hi n is_ = if lo = n ∧ hi = n then (nR, nR, false, ()) else (ivl (if lo = n then n + 1 else lo) (if hi = n then n - 1 else hi), ivl n n, true, ()) := by
  have e : brN op lo hi n is_ = if lo = n ∧ hi = n then none else some (if lo = n then n + 1 else lo, if hi = n then n - 1 else hi) := by unfold brN; rw [if_neg (by omega), if_neg (by omega), if_neg h]
  by_cases h2 : lo = n ∧ hi = n
  · rw [if_pos h2] at e ⊢; exact brT_none e
  · rw [if_neg h2] at e ⊢; exact brT_some e
set_option maxHeartbeats 4000000 in
theorem impl.branch.c {op : Int} {lo hi n : Nat} {is_ : Bool} {K : T4 × T4 × Bool × Unit → World → Prop} (ho : 12 ≤ op ∧ op ≤ 15) (hle : lo ≤ hi) (hhi : hi < 2 ^ 31) (hn : n < 2 ^ 31)
    (hK : ∀ w', Below w.heap.size w w' → K (brT op lo hi n is_) w') :
    CallT (.n [(.ag (R 4 (.i .i64))), (.ag (R 4 (.i .i64))), (.lf .b)]) P0 22 [.int .i64 op, .agg (Tup.cells (R 4 (.i .i64)) (ivl lo hi)).toArray, .agg (Tup.cells (R 4 (.i .i64)) (ivl n n)).toArray, .bool is_] w K := by
  refine impl.branch.ok ?_
  unfold impl.branch.vc
  have hm := M.start w
  refine nwM' hm fun w1 ba m1 => nwM' m1 fun w2 bb m2 => nwZ m2 fun w3 b8 m3 => nwZ m3 fun w4 b9 m4 => ?_
  clear hm m1 m2 m3
  have hk1 : lo / 2 ^ kk lo hi = hi / 2 ^ kk lo hi := kk_same (by omega) (by omega)
  have hk2 : n / 2 ^ kk n n = n / 2 ^ kk n n := rfl
  have hkl : kk lo hi ≤ 32 := kk_le (by omega) (by omega)
  have hkn : kk n n ≤ 32 := kk_le (by omega) (by omega)
  have hd : Del [(b9, ((0, 0, 0, 0, ()) : T4)), (b8, ((0, 0, 0, 0, ()) : T4)), (bb, ivl n n), (ba, ivl lo hi)] ba (ivl lo hi) [(b9, ((0, 0, 0, 0, ()) : T4)), (b8, ((0, 0, 0, 0, ()) : T4)), (bb, ivl n n)] := by (repeat (first | exact Del.head _ _ _ | apply Del.tail))
  have hda := (m4.box ba _ hd.mem).2.1
  refine ⟨SpS w4.heap.size ba (ivl lo hi), spsOk _ _ _, eqG (ivl lo hi), keptEq, eqG (ivl lo hi), keptEq, eqG (ivl n n), keptEq, eqG (ivl n n), keptEq, _, keptBx, fun w5 hs => ?_, fun t20 => ⟨fun w5 hs f => ?_, fun t21 => ⟨fun w5 hs => ?_, fun t22 => ⟨fun w5 hs f => ?_, fun t23 => ⟨fun w5 hs f21 => ?_, fun st w5 hs f20 f21 f22 f23 fs => ?_⟩⟩⟩⟩⟩
  · have hq : w5.heap[ba]? = some (bx (ivl lo hi)) := by
      rcases hs.box with e | e
      · exact e.trans (m4.box ba _ hd.mem).2.2
      · exact e
    exact ldAB hq (by simp) (gkE rfl (SpS.refl _ _ _ _))
  · cases f
    exact impl.Range.tidy.c (k := kk lo hi) (x := lo) (lo := lo) (hi := hi) hkl hle (by omega) rfl hk1.symm fun w6 hb => gkE rfl (SpS.of_below (hb.mono hs.size) hda)
  · exact ldAM (m4.sps hd hs) (by with_unfolding_all (repeat (first | exact List.mem_cons_self | refine List.mem_cons_of_mem _ ?_))) (gkE rfl (SpS.refl _ _ _ _))
  · cases f
    exact impl.Range.tidy.c (k := kk n n) (x := n) (lo := n) (hi := n) hkn (Nat.le_refl _) (by omega) rfl rfl fun w6 hb => gkE rfl (SpS.of_below (hb.mono hs.size) hda)
  · cases f21; exact stSps m4 hd hs rfl
  · cases f21; cases f23
    have m5 := m4.spsB hd hs fs
    clear m4 hs fs f20 f22
    refine stAM' m5 (by with_unfolding_all (repeat (first | exact Up.head _ _ _ _ | apply Up.tail))) fun w6 m6 => ?_
    replace m6 : M w w6 [(ba, ivl lo hi), (b9, ((0, 0, 0, 0, ()) : T4)), (b8, ((0, 0, 0, 0, ()) : T4)), (bb, ivl n n)] := m6
    clear m5
    refine And.intro (fun h14 => ?_) (fun h14 => And.intro (fun h15 => ?_) (fun h15 => And.intro (fun hsm => ?_) (fun hsm => ?_)))
    · obtain rfl : op = 14 := by simpa using h14
      refine ldAM m6 (by with_unfolding_all (repeat (first | exact List.mem_cons_self | refine List.mem_cons_of_mem _ ?_))) (ldAM m6 (by with_unfolding_all (repeat (first | exact List.mem_cons_self | refine List.mem_cons_of_mem _ ?_))) ?_)
      have fin : ∀ w', Below w6.heap.size w6 w' → ∀ p : T4 × T4 × Bool × Unit, p = brT 14 lo hi n is_ → StA P0 ⟨b8, 0, none⟩ (Tup.cells (R 4 (.i .i64)) p.1) w' fun w19 => StA P0 ⟨b9, 0, none⟩ (Tup.cells (R 4 (.i .i64)) p.2.1) w19 fun w20 => LdA (R 4 (.i .i64)) ⟨b8, 0, none⟩ w20 fun r w21 => LdA (R 4 (.i .i64)) ⟨b9, 0, none⟩ w20 fun r1 w22 => K (r, (r1, (p.2.2.1, ()))) w20 := by
        intro w7 hb7 p hp
        have m7 := m6.below hb7
        repeat' (first | (with_reducible refine ldM (by assumption) (by with_unfolding_all (repeat (first | exact List.mem_cons_self | refine List.mem_cons_of_mem _ ?_))) (by with_unfolding_all rfl) ?_) | (with_reducible refine ldAM (by assumption) (by with_unfolding_all (repeat (first | exact List.mem_cons_self | refine List.mem_cons_of_mem _ ?_))) ?_) | (with_reducible refine nwZ (by assumption) fun _ _ _ => ?_) | (with_reducible refine nwM' (by assumption) fun _ _ _ => ?_) | (with_reducible refine stM0 (by assumption) (by with_unfolding_all (repeat (first | exact Up.head _ _ _ _ | apply Up.tail))) fun _ _ => ?_) | (with_reducible refine stM1 (by assumption) (by with_unfolding_all (repeat (first | exact Up.head _ _ _ _ | apply Up.tail))) fun _ _ => ?_) | (with_reducible refine stM2 (by assumption) (by with_unfolding_all (repeat (first | exact Up.head _ _ _ _ | apply Up.tail))) fun _ _ => ?_) | (with_reducible refine stM3 (by assumption) (by with_unfolding_all (repeat (first | exact Up.head _ _ _ _ | apply Up.tail))) fun _ _ => ?_) | (with_reducible refine stAM' (by assumption) (by with_unfolding_all (repeat (first | exact Up.head _ _ _ _ | apply Up.tail))) fun _ _ => ?_) | (with_reducible refine stAL (by assumption) (by with_unfolding_all (repeat (first | exact Up.head _ _ _ _ | apply Up.tail))) fun _ _ => ?_) | (with_reducible refine And.intro (fun _ => ?_) (fun _ => ?_)) | (refine stAM' (by assumption) (by with_unfolding_all (repeat (first | exact Up.head _ _ _ _ | apply Up.tail))) fun _ _ => ?_))
        rename_i m9
        rw [hp]
        rw [hp] at m9
        exact hK _ m9.low
      cases is_ with
      | true => exact impl.below.x ⟨hle, hhi, Nat.le_refl _, hn⟩ (fun _ => ⟨rfl, rfl, rfl, rfl⟩) (fun h => by simp at h) fun w7 hb7 => fin w7 hb7 _ (bw14t hle)
      | false => exact impl.below.x ⟨hle, hhi, Nat.le_refl _, hn⟩ (fun h => by simp at h) (fun _ => ⟨rfl, rfl, rfl, rfl⟩) fun w7 hb7 => fin w7 hb7 _ (bw14i hle)
    · obtain rfl : op = 15 := by simpa using h15
      refine ldAM m6 (by with_unfolding_all (repeat (first | exact List.mem_cons_self | refine List.mem_cons_of_mem _ ?_))) (ldAM m6 (by with_unfolding_all (repeat (first | exact List.mem_cons_self | refine List.mem_cons_of_mem _ ?_))) ?_)
      have step : ∀ {Kp : T4 × T4 × Bool × Unit → World → Prop}, (∀ w', Below w6.heap.size w6 w' → Kp (swT (brT 15 lo hi n is_)) w') → CallT (.n [(.ag (R 4 (.i .i64))), (.ag (R 4 (.i .i64))), (.lf .b)]) P0 43 [.agg (Tup.cells (R 4 (.i .i64)) (ivl n n)).toArray, .agg (Tup.cells (R 4 (.i .i64)) (ivl lo hi)).toArray, .bool is_] w6 Kp := by
        intro Kp hKp
        cases is_ with
        | true => exact impl.below.x ⟨Nat.le_refl _, hn, hle, hhi⟩ (fun _ => ⟨rfl, rfl, rfl, rfl⟩) (fun h => by simp at h) fun w7 hb7 => kof (hKp w7 hb7) (bw15t hle).symm
        | false => exact impl.below.x ⟨Nat.le_refl _, hn, hle, hhi⟩ (fun h => by simp at h) (fun _ => ⟨rfl, rfl, rfl, rfl⟩) fun w7 hb7 => kof (hKp w7 hb7) (bw15i hle).symm
      refine step fun w7 hb7 => ?_
      have m7 := m6.below hb7
      clear m6 step
      refine nwZ m7 fun w8 by_ m8 => nwZ m8 fun w9 bx_ m9 => ?_
      refine stAM' m9 (by with_unfolding_all (repeat (first | exact Up.head _ _ _ _ | apply Up.tail))) fun w10 m10 => stAM' m10 (by with_unfolding_all (repeat (first | exact Up.head _ _ _ _ | apply Up.tail))) fun w11 m11 => ?_
      replace m11 : M w w11 [(bx_, (brT 15 lo hi n is_).1), (by_, (brT 15 lo hi n is_).2.1), (ba, ivl lo hi), (b9, ((0, 0, 0, 0, ()) : T4)), (b8, ((0, 0, 0, 0, ()) : T4)), (bb, ivl n n)] := m11
      clear m7 m8 m9 m10
      exact tailT (x1 := (0, 0, 0, 0, ())) (x2 := (0, 0, 0, 0, ())) (r1 := [(bx_, (brT 15 lo hi n is_).1), (by_, (brT 15 lo hi n is_).2.1), (ba, ivl lo hi), (b9, ((0, 0, 0, 0, ()) : T4)), (bb, ivl n n)]) (r := [(bx_, (brT 15 lo hi n is_).1), (by_, (brT 15 lo hi n is_).2.1), (ba, ivl lo hi), (bb, ivl n n)]) m11 (by (repeat (first | exact Del.head _ _ _ | apply Del.tail))) (by (repeat (first | exact Del.head _ _ _ | apply Del.tail))) (by with_unfolding_all (repeat (first | exact List.mem_cons_self | refine List.mem_cons_of_mem _ ?_))) (by with_unfolding_all (repeat (first | exact List.mem_cons_self | refine List.mem_cons_of_mem _ ?_))) fun w12 m12 => hK _ m12.low
    · have h14' : ¬ op = 14 := by simpa using h14
      have h15' : ¬ op = 15 := by simpa using h15
      rw [bool_op (by omega)] at hsm
      simp only [decide_eq_true_eq] at hsm
      have e := brT_same (lo := lo) (hi := hi) (n := n) (show 12 ≤ op ∧ op ≤ 13 by omega) hsm
      refine ldAM m6 (by with_unfolding_all (repeat (first | exact List.mem_cons_self | refine List.mem_cons_of_mem _ ?_))) (ldAM m6 (by with_unfolding_all (repeat (first | exact List.mem_cons_self | refine List.mem_cons_of_mem _ ?_))) ?_)
      refine impl.meet.c (k := kk lo hi) (lo := lo) (hi := hi) hkl hle hhi hn hk1 fun w7 hb7 => ?_
      have m7 := m6.below hb7
      clear m6
      have fin : ∀ (p : T4 × Bool × Unit), (∀ w', Below w.heap.size w w' → K (p.1, p.1, p.2) w') → Nw (zc P0 45) 45 w7 fun a_m w8 => StA P0 a_m (Tup.cells (R 4 (.i .i64)) p.1) w8 fun w45 =>
        ∃ Sp : World → World → Prop, SpOk Sp w45 ∧ ∃ G1 : Tup (R 4 (.i .i64)) → World → Prop, Kept Sp G1 ∧ ∃ G2 : Tup (R 4 (.i .i64)) → World → Prop, Kept Sp G2 ∧ ∃ G3 : Unit → World → Prop, Kept Sp G3 ∧ ∃ G4 : Unit → World → Prop, Kept Sp G4 ∧
        (∀ w1, Sp w45 w1 → LdA (R 4 (.i .i64)) a_m w1 fun (t : Tup (R 4 (.i .i64))) w2 => GK (.o (.ag (R 4 (.i .i64)))) Sp w1 G1 (.agg (Tup.cells (R 4 (.i .i64)) t).toArray) w2) ∧
        ∀ (t1 : Tup (R 4 (.i .i64))), (∀ w1, Sp w45 w1 → LdA (R 4 (.i .i64)) a_m w1 fun (t : Tup (R 4 (.i .i64))) w2 => GK (.o (.ag (R 4 (.i .i64)))) Sp w1 G2 (.agg (Tup.cells (R 4 (.i .i64)) t).toArray) w2) ∧
        ∀ (t2 : Tup (R 4 (.i .i64))), (∀ w1, Sp w45 w1 → G1 t1 w1 → StA P0 ⟨b8, 0, none⟩ (Tup.cells (R 4 (.i .i64)) t1) w1 fun w2 => GK .z Sp w1 G3 (.tuple #[]) w2) ∧
        ∀ (s1 : Unit), (∀ w1, Sp w45 w1 → G2 t2 w1 → StA P0 ⟨b9, 0, none⟩ (Tup.cells (R 4 (.i .i64)) t2) w1 fun w2 => GK .z Sp w1 G4 (.tuple #[]) w2) ∧
        ∀ (s2 : Unit), ∀ w1, Sp w45 w1 → G1 t1 w1 → G2 t2 w1 → G3 s1 w1 → G4 s2 w1 → LdA (R 4 (.i .i64)) ⟨b8, 0, none⟩ w1 fun r w2 => LdA (R 4 (.i .i64)) ⟨b9, 0, none⟩ w1 fun r1 w3 => K (r, (r1, (p.2.1, ()))) w1 := by
        intro p hp
        refine nwZ m7 fun w8 bm m8 => stAM' m8 (by with_unfolding_all (repeat (first | exact Up.head _ _ _ _ | apply Up.tail))) fun w9 m9 => ?_
        replace m9 : M w w9 [(bm, p.1), (ba, ivl lo hi), (b9, ((0, 0, 0, 0, ()) : T4)), (b8, ((0, 0, 0, 0, ()) : T4)), (bb, ivl n n)] := m9
        exact tailT (x1 := (0, 0, 0, 0, ())) (x2 := (0, 0, 0, 0, ())) (r1 := [(bm, p.1), (ba, ivl lo hi), (b9, ((0, 0, 0, 0, ()) : T4)), (bb, ivl n n)]) (r := [(bm, p.1), (ba, ivl lo hi), (bb, ivl n n)]) m9 (by (repeat (first | exact Del.head _ _ _ | apply Del.tail))) (by (repeat (first | exact Del.head _ _ _ | apply Del.tail))) (by with_unfolding_all (repeat (first | exact List.mem_cons_self | refine List.mem_cons_of_mem _ ?_))) (by with_unfolding_all (repeat (first | exact List.mem_cons_self | refine List.mem_cons_of_mem _ ?_))) fun w12 m12 => hp _ m12.low
      refine fin _ fun w' hb' => kof (hK w' hb') ?_
      rw [e]
      split <;> rfl
    · have h14' : ¬ op = 14 := by simpa using h14
      have h15' : ¬ op = 15 := by simpa using h15
      rw [bool_op (by omega)] at hsm
      simp only [decide_eq_false_iff_not] at hsm
      have e := brT_but (lo := lo) (hi := hi) (n := n) (show 12 ≤ op ∧ op ≤ 13 by omega) hsm
      refine ldAM m6 (by with_unfolding_all (repeat (first | exact List.mem_cons_self | refine List.mem_cons_of_mem _ ?_))) (ldAM m6 (by with_unfolding_all (repeat (first | exact List.mem_cons_self | refine List.mem_cons_of_mem _ ?_))) ?_)
      refine impl.Range.but.c (k := kk lo hi) (lo := lo) (hi := hi) hkl hle hhi hk1 fun w7 hb7 => ?_
      have m7 := m6.below hb7
      clear m6
      have two : ∀ {l : List (Nat × T4)} {w8 : World}, M w w8 l → ∀ {Kp : T4 × Bool × Unit → World → Prop}, (∀ w' y, Below w8.heap.size w8 w' → (¬ (lo = n ∧ hi = n) → y = (ivl n n, true, ())) → Kp y w') → CallT (.n [(.ag (R 4 (.i .i64))), (.lf .b)]) P0 45 [.agg (Tup.cells (R 4 (.i .i64)) (ivl n n)).toArray, .agg (Tup.cells (R 4 (.i .i64)) (ivl lo hi)).toArray] w8 Kp := by
        intro l w8 _ Kp hKp
        by_cases hq : lo = hi
        · subst hq
          refine impl.Range.but.c (k := kk n n) (lo := n) (hi := n) hkn (Nat.le_refl _) hn rfl fun w9 hb9 => hKp _ _ hb9 fun hne => ?_
          rw [if_neg (by omega), if_neg (by omega), if_neg (by omega)]
        · refine impl.Range.but.n (fun e => hq (by have e' : (lo : Int) = (hi : Int) := e; omega)) fun w9 hb9 => hKp _ _ hb9 fun _ => rfl
      by_cases hq : lo = n ∧ hi = n
      · rw [if_pos hq] at e ⊢
        refine nwZ m7 fun w8 bx_ m8 => stAM' m8 (by with_unfolding_all (repeat (first | exact Up.head _ _ _ _ | apply Up.tail))) fun w9 m9 => ?_
        replace m9 : M w w9 [(bx_, nR), (ba, ivl lo hi), (b9, ((0, 0, 0, 0, ()) : T4)), (b8, ((0, 0, 0, 0, ()) : T4)), (bb, ivl n n)] := m9
        refine ldAM m9 (by with_unfolding_all (repeat (first | exact List.mem_cons_self | refine List.mem_cons_of_mem _ ?_))) (ldAM m9 (by with_unfolding_all (repeat (first | exact List.mem_cons_self | refine List.mem_cons_of_mem _ ?_))) ?_)
        refine two m9 fun w10 y hb10 _ => ?_
        have m10 := m9.below hb10
        refine nwZ m10 fun w11 by_ m11 => stAM' m11 (by with_unfolding_all (repeat (first | exact Up.head _ _ _ _ | apply Up.tail))) fun w12 m12 => ?_
        refine And.intro (fun _ => ?_) (fun h => by simp at h)
        refine impl.noRange.c fun w13 hb13 => impl.noRange.c fun w14 hb14 => ?_
        have m14 := (m12.below hb13).below hb14
        clear m7 m8 m9 m10 m11 m12
        repeat' (first | (with_reducible refine ldM (by assumption) (by with_unfolding_all (repeat (first | exact List.mem_cons_self | refine List.mem_cons_of_mem _ ?_))) (by with_unfolding_all rfl) ?_) | (with_reducible refine ldAM (by assumption) (by with_unfolding_all (repeat (first | exact List.mem_cons_self | refine List.mem_cons_of_mem _ ?_))) ?_) | (with_reducible refine nwZ (by assumption) fun _ _ _ => ?_) | (with_reducible refine nwM' (by assumption) fun _ _ _ => ?_) | (with_reducible refine stM0 (by assumption) (by with_unfolding_all (repeat (first | exact Up.head _ _ _ _ | apply Up.tail))) fun _ _ => ?_) | (with_reducible refine stM1 (by assumption) (by with_unfolding_all (repeat (first | exact Up.head _ _ _ _ | apply Up.tail))) fun _ _ => ?_) | (with_reducible refine stM2 (by assumption) (by with_unfolding_all (repeat (first | exact Up.head _ _ _ _ | apply Up.tail))) fun _ _ => ?_) | (with_reducible refine stM3 (by assumption) (by with_unfolding_all (repeat (first | exact Up.head _ _ _ _ | apply Up.tail))) fun _ _ => ?_) | (with_reducible refine stAM' (by assumption) (by with_unfolding_all (repeat (first | exact Up.head _ _ _ _ | apply Up.tail))) fun _ _ => ?_) | (with_reducible refine stAL (by assumption) (by with_unfolding_all (repeat (first | exact Up.head _ _ _ _ | apply Up.tail))) fun _ _ => ?_) | (with_reducible refine And.intro (fun _ => ?_) (fun _ => ?_)) | (refine stAM' (by assumption) (by with_unfolding_all (repeat (first | exact Up.head _ _ _ _ | apply Up.tail))) fun _ _ => ?_))
        rename_i m15
        exact kof (hK _ m15.low) e
      · rw [if_neg hq] at e ⊢
        refine nwZ m7 fun w8 bx_ m8 => stAM' m8 (by with_unfolding_all (repeat (first | exact Up.head _ _ _ _ | apply Up.tail))) fun w9 m9 => ?_
        replace m9 : M w w9 [(bx_, ivl (if lo = n then n + 1 else lo) (if hi = n then n - 1 else hi)), (ba, ivl lo hi), (b9, ((0, 0, 0, 0, ()) : T4)), (b8, ((0, 0, 0, 0, ()) : T4)), (bb, ivl n n)] := m9
        refine ldAM m9 (by with_unfolding_all (repeat (first | exact List.mem_cons_self | refine List.mem_cons_of_mem _ ?_))) (ldAM m9 (by with_unfolding_all (repeat (first | exact List.mem_cons_self | refine List.mem_cons_of_mem _ ?_))) ?_)
        refine two m9 fun w10 y hb10 hy => ?_
        rw [hy hq]
        have m10 := m9.below hb10
        refine nwZ m10 fun w11 by_ m11 => stAM' m11 (by with_unfolding_all (repeat (first | exact Up.head _ _ _ _ | apply Up.tail))) fun w12 m12 => ?_
        replace m12 : M w w12 [(by_, ivl n n), (bx_, ivl (if lo = n then n + 1 else lo) (if hi = n then n - 1 else hi)), (ba, ivl lo hi), (b9, ((0, 0, 0, 0, ()) : T4)), (b8, ((0, 0, 0, 0, ()) : T4)), (bb, ivl n n)] := m12
        clear m7 m8 m9 m10 m11
        refine And.intro (fun h => by simp at h) (fun _ => And.intro (fun h => by simp at h) (fun _ => ?_))
        exact tailU (K := fun r r1 w => K (r, (r1, (true, ()))) w) (x1 := (0, 0, 0, 0, ())) (x2 := (0, 0, 0, 0, ())) (r := [(by_, ivl n n), (bx_, ivl (if lo = n then n + 1 else lo) (if hi = n then n - 1 else hi)), (ba, ivl lo hi), (b9, ((0, 0, 0, 0, ()) : T4)), (bb, ivl n n)]) m12 (by (repeat (first | exact Del.head _ _ _ | apply Del.tail))) (by with_unfolding_all (repeat (first | exact List.mem_cons_self | refine List.mem_cons_of_mem _ ?_))) (by with_unfolding_all (repeat (first | exact List.mem_cons_self | refine List.mem_cons_of_mem _ ?_))) (by with_unfolding_all (repeat (first | exact List.mem_cons_self | refine List.mem_cons_of_mem _ ?_))) fun w13 hb13 => kof (hK _ hb13) e
end
end Go.Proofs.Ytdlnoabihfnmmaa.V

/- Contracts: rules; the laws' helpers for them. -/
namespace Go.Proofs.Ytdlnoabihfnmmaa.V
open Go Go.RowKit
set_option linter.unusedVariables false
set_option linter.unusedSimpArgs false
structure Rule where
  at_ : Int
  op : Int
  num : Int
  verdict : Int
  key : Int
  deriving DecidableEq, Inhabited
def kRule : Kd Rule := ⟨List.replicate 5 (.i .i64), fun x => (x.at_, x.op, x.num, x.verdict, x.key, ())⟩
@[reducible] def Rule.t (x : Rule) : Tup (List.replicate 5 (.i .i64)) := (x.at_, x.op, x.num, x.verdict, x.key, ())
def Rule.cs (x : Rule) : Array Value := #[.int .i64 x.at_, .int .i64 x.op, .int .i64 x.num, .int .i64 x.verdict, .int .i64 x.key]
theorem nwRule {x : Rule} {t : TypeId} {w : World} {K : Addr → World → Prop}
    (hk : ∀ w', Below w.heap.size w w' → w'.heap.size = w.heap.size + 1 → w'.heap[w.heap.size]? = some (.cells x.cs t (0, 0)) → K ⟨w.heap.size, 0, none⟩ w') : Nw (Tup.cells (List.replicate 5 (.i .i64)) x.t).toArray t w K := nw hk
theorem mkRule : Mk P0 23 48 kRule 40 ⟨0, 0, 0, 0, 0⟩ := ⟨by kernel_rfl, ⟨_, _, Option.eq_some_of_isSome (by kernel_rfl), Option.eq_some_of_isSome (by kernel_rfl), by kernel_rfl, by kernel_rfl, by kernel_rfl⟩⟩
theorem noAnyRule : ∀ l ∈ kRule.ls, l ≠ Lf.any := by intro l hl; simp [kRule, List.mem_replicate] at hl; simp [hl]
theorem zRule : (zc P0 48).toList.length = 5 := by kernel_rfl
theorem nwStRule {x : Rule} {P : Program} {w : World} {K : Addr → World → Prop}
    (hk : ∀ w', Below w.heap.size w w' → w'.heap.size = w.heap.size + 1 → w'.heap[w.heap.size]? = some (.cells x.cs 48 (0, 0)) → K ⟨w.heap.size, 0, none⟩ w') :
    Nw (zc P0 48) 48 w (fun a w' => StA P a (Tup.cells (R 5 (.i .i64)) x.t) w' (K a)) :=
  nwSt (cs := Tup.cells (R 5 (.i .i64)) x.t) zRule (oneCell_cells kRule noAnyRule x) hk rfl
section
variable {w : World} {s : Sl} {l : List Rule}
end
section
variable {w : World} {a b : Sl} {xs ys : List Rule}
end
end Go.Proofs.Ytdlnoabihfnmmaa.V

/- Contracts: which rules are ok, on both sides; what they cut bytes at. -/
namespace Go.Proofs.Ytdlnoabihfnmmaa.V
open Go Go.RowKit
set_option linter.unusedVariables false
set_option linter.unusedSimpArgs false
def RuleP (x : Rule) : Prop := (0 ≤ x.at_ ∧ x.at_ ≤ 11) ∧ (12 ≤ x.op ∧ x.op ≤ 15) ∧ (0 ≤ x.num ∧ x.num ≤ 255) ∧ (0 ≤ x.verdict ∧ x.verdict ≤ 2) ∧ (0 ≤ x.key ∧ x.key ≤ 4294967295) ∧ (x.key = 0 ∨ x.verdict = 2)
instance (x : Rule) : Decidable (RuleP x) := by unfold RuleP; infer_instance
def RulesP (l : List Rule) : Prop := l.length ≤ 6 ∧ ∀ x ∈ l, RuleP x
instance (l : List Rule) : Decidable (RulesP l) := by unfold RulesP; infer_instance
section
variable {w : World} {s : Sl} {l : List Rule} {K : Bool → World → Prop}
theorem impl.Rule.valid.c {x : Rule} (hk : ∀ w', Below w.heap.size w w' → K (decide (RuleP x)) w') : CallT (.o (.lf .b)) P0 28 [.agg (Tup.cells (R 5 (.i .i64)) x.t).toArray] w K := by
  refine impl.Rule.valid.ok (nwRule fun w1 hb hs hc => ?_)
  have hk := hk w1 hb
  (repeat' (first | refine ldB hc rfl ?_ | refine impl.within.c ?_ | refine impl.kind.asks.c ?_ | refine impl.numOk.c ?_ | refine And.intro (fun _ => ?_) (fun _ => ?_)))
  all_goals
    refine kof hk (dec_eq ?_)
    clear hk hb hc
    grind [RuleP]
theorem spec.l9RuleOk.c {x : Rule} (hk : ∀ w', Below w.heap.size w w' → K (decide (RuleP x)) w') : CallT (.o (.lf .b)) P0 46 [.agg (Tup.cells (R 5 (.i .i64)) x.t).toArray] w K := by
  refine spec.l9RuleOk.ok (nwRule fun w1 hb hs hc => ?_)
  have top : ∀ {C : World → Prop} {K : Int → Prop}, K 4294967295 → QCl (.o (.lf (.i .i64))) P0 48 [] C K := fun hK => qcl _ (fun w2 hb2 => spec.l2Top.ok ⟨rfl, hb2⟩) hK
  have q : ∀ {C : World → Prop} {K : Bool → Prop} {n lo hi : Int}, K (decide (lo ≤ n ∧ n ≤ hi)) → QCl (.o (.lf .b)) P0 67 [.int .i64 n, .int .i64 lo, .int .i64 hi] C K := fun hK => qcl _ (fun w2 hb2 => spec.l1In.c ⟨rfl, hb2⟩) hK
  (repeat' (first | refine qldB hc rfl ?_ | refine q ?_ | refine top ?_ | refine And.intro (fun _ => ?_) (fun _ => ?_) | refine fun w2 hb2 => ?_))
  all_goals
    refine kof (hk _ (hb.trans (hb2.mono hb.size))) (dec_eq ?_)
    clear hk hb hc hb2 q top
    grind [RuleP]
theorem impl.RulesOk_1.c {x : Rule} (hk : ∀ w', Below w.heap.size w w' → K (!decide (RuleP x)) w') : CallT (.o (.lf .b)) P0 27 [.agg (Tup.cells (R 5 (.i .i64)) x.t).toArray] w K := by
  refine impl.RulesOk_1.ok (nwRule fun w1 hb hs hc => ?_)
  refine ldAB hc (x := x.t) rfl ?_
  exact impl.Rule.valid.c (x := x) fun w2 hb2 => hk w2 (hb.trans (hb2.mono hb.size))
theorem slices.IndexFunc_Rule_ok.c {K : Int → World → Prop} (h : SlR kRule w s l) (hk : ∀ w' (i : Int), Below w.heap.size w w' → (i < 0 ↔ ∀ x ∈ l, RuleP x) → K i w') :
    CallT (.o (.lf (.i .i64))) P0 51 [s.v, (.func (.func 27) #[] #[])] w K := by
  have hn := h.len; have hm := h.max
  refine slices.IndexFunc_Rule_ok.ok ⟨fun i w' => ∃ n : Nat, i = n ∧ n ≤ l.length ∧ (∀ x ∈ l.take n, RuleP x) ∧ Below w.heap.size w w', fun i _ => l.length - i.toNat, ⟨0, rfl, by omega, by simp, Below.refl _ _⟩, ?_⟩
  rintro i w1 ⟨n, rfl, hnl, hp, hb⟩ _
  refine And.intro (fun hlt => ?_) (fun hge => ?_)
  · simp only [decide_eq_true_eq] at hlt
    obtain ⟨x, hx⟩ := get_some (l := l) (k := n) (by omega)
    refine ixA (h.below hb) (i := n) (by omega) (x := x) (by simpa using hx) rfl ?_
    refine impl.RulesOk_1.c (x := x) fun w2 hb2 => ?_
    have hbb := hb.trans (hb2.mono hb.size)
    refine And.intro (fun hq => ?_) (fun hq => ?_)
    · simp only [Bool.not_eq_true', decide_eq_false_iff_not] at hq
      refine hk _ _ hbb ⟨fun h0 => by omega, fun hall => absurd (hall x (List.mem_of_getElem? hx)) hq⟩
    · simp only [Bool.not_eq_false', decide_eq_true_eq] at hq
      rw [i64_of (by omega) (by omega)]
      refine ⟨⟨n + 1, by omega, by omega, ?_, hbb⟩, by simp only; omega⟩
      rw [List.take_add_one, hx]
      intro y hy
      rcases List.mem_append.1 hy with h | h
      · exact hp y h
      · simp at h; subst h; exact hq
  · simp only [decide_eq_false_iff_not] at hge
    obtain rfl : n = l.length := by omega
    rw [List.take_length] at hp
    exact hk _ _ hb ⟨fun _ => hp, fun _ => by omega⟩
theorem impl.RulesOk.c (h : SlR kRule w s l) (hk : ∀ w', Below w.heap.size w w' → K (decide (RulesP l)) w') : CallT (.o (.lf .b)) P0 9 [s.v] w K := by
  have hn := h.len
  refine impl.RulesOk.ok ?_
  unfold impl.RulesOk.vc
  refine And.intro (fun hq => ?_) (fun hq => ?_)
  · simp only [decide_eq_true_eq] at hq
    refine slices.ContainsFunc_Rule_ok.ok (slices.IndexFunc_Rule_ok.c h fun w1 i hb hi => ?_)
    refine kof (hk _ hb) ?_
    rw [Bool.eq_iff_iff]
    simp only [decide_eq_true_eq, Bool.not_eq_true', decide_eq_false_iff_not]
    constructor
    · rintro ⟨_, h2⟩; have := hi.2 h2; omega
    · intro h2; exact ⟨by omega, hi.1 (by omega)⟩
  · simp only [decide_eq_false_iff_not] at hq
    exact kof (hk _ (Below.refl _ _)) (by simp only [decide_eq_false_iff_not]; rintro ⟨h1, _⟩; omega)
theorem spec.l9Ok.c (h : SlR kRule w s l) (hk : ∀ w', Below w.heap.size w w' → K (decide (RulesP l)) w') : CallT (.o (.lf .b)) P0 23 [s.v] w K := by
  have hn := h.len; have hm := h.max
  refine spec.l9Ok.ok ⟨fun i w' => ∃ n : Nat, i = n ∧ n ≤ l.length ∧ (∀ x ∈ l.take n, RuleP x) ∧ Below w.heap.size w w', fun i _ => l.length - i.toNat, ⟨0, rfl, by omega, by simp, Below.refl _ _⟩, ?_⟩
  rintro i w1 ⟨n, rfl, hnl, hp, hb⟩ _
  refine And.intro (fun hlt => ?_) (fun hge => ?_)
  · simp only [decide_eq_true_eq] at hlt
    obtain ⟨x, hx⟩ := get_some (l := l) (k := n) (by omega)
    refine ixA (h.below hb) (i := n) (by omega) (x := x) (by simpa using hx) rfl ?_
    refine spec.l9RuleOk.c (x := x) fun w2 hb2 => ?_
    have hbb := hb.trans (hb2.mono hb.size)
    refine And.intro (fun hq => ?_) (fun hq => ?_)
    · simp only [Bool.not_eq_true', decide_eq_false_iff_not] at hq
      exact kof (hk _ hbb) (by simp only [decide_eq_false_iff_not]; rintro ⟨_, h2⟩; exact hq (h2 x (List.mem_of_getElem? hx)))
    · simp only [Bool.not_eq_false', decide_eq_true_eq] at hq
      rw [i64_of (by omega) (by omega)]
      refine ⟨⟨n + 1, by omega, by omega, ?_, hbb⟩, by simp only; omega⟩
      rw [List.take_add_one, hx]
      intro y hy
      rcases List.mem_append.1 hy with h | h
      · exact hp y h
      · simp at h; subst h; exact hq
  · simp only [decide_eq_false_iff_not] at hge
    obtain rfl : n = l.length := by omega
    rw [List.take_length] at hp
    refine kof (hk _ hb) ?_
    rw [Bool.eq_iff_iff]
    simp only [decide_eq_true_eq]
    exact ⟨fun h => by have := h.1; omega, fun h => ⟨by omega, hp⟩⟩
end
/-! compact of a sorted list -/
theorem compact_asc (d : Array Int) (hd : ∀ i j, i ≤ j → j < d.size → d[i]! ≤ d[j]!) : ∀ m, m ≤ d.size → (Lib.compactUpTo d m).Pairwise (· < ·) ∧ ∀ x, x ∈ Lib.compactUpTo d m ↔ ∃ j, j < m ∧ d[j]! = x := by
  intro m
  induction m with
  | zero => intro _; simp [Lib.compactUpTo]
  | succ m ih =>
    intro hm
    obtain ⟨h1, h2⟩ := ih (by omega)
    rw [Lib.compactUpTo_succ]
    by_cases hk : Lib.keeps d m = true
    · rw [if_pos hk]
      have hk' : m = 0 ∨ d[m]! ≠ d[m - 1]! := by simpa [Lib.keeps] using hk
      constructor
      · refine List.pairwise_append.2 ⟨h1, by simp, fun a ha b hb => ?_⟩
        simp only [List.mem_singleton] at hb; subst hb
        obtain ⟨j, hj, rfl⟩ := (h2 a).1 ha
        have e1 := hd j (m - 1) (by omega) (by omega)
        have e2 := hd (m - 1) m (by omega) (by omega)
        rcases hk' with h | h <;> omega
      · intro x
        rw [List.mem_append, h2, List.mem_singleton]
        constructor
        · rintro (⟨j, hj, rfl⟩ | rfl)
          · exact ⟨j, by omega, rfl⟩
          · exact ⟨m, by omega, rfl⟩
        · rintro ⟨j, hj, rfl⟩
          rcases Nat.lt_or_ge j m with h | h
          · exact .inl ⟨j, h, rfl⟩
          · obtain rfl : j = m := by omega
            exact .inr rfl
    · rw [if_neg hk, List.append_nil]
      have hk' : m ≠ 0 ∧ d[m]! = d[m - 1]! := by simpa [Lib.keeps] using hk
      refine ⟨h1, fun x => ?_⟩
      rw [h2]
      constructor
      · rintro ⟨j, hj, rfl⟩; exact ⟨j, by omega, rfl⟩
      · rintro ⟨j, hj, rfl⟩
        rcases Nat.lt_or_ge j m with h | h
        · exact ⟨j, h, rfl⟩
        · obtain rfl : j = m := by omega
          exact ⟨j - 1, by omega, hk'.2.symm⟩
theorem sorted_le (xs : List Int) : (sorted xs).Pairwise (· ≤ ·) := by
  have := List.pairwise_mergeSort (le := fun x y : Int => decide (x ≤ y)) (by intro a b c; simp; omega) (by intro a b; simp; omega) xs
  exact this.imp fun h => by simpa using h
theorem mem_sorted' {x : Int} {xs : List Int} : x ∈ sorted xs ↔ x ∈ xs := by unfold sorted; exact List.mem_mergeSort
theorem compact_sorted {xs : List Int} {n : Nat} {f : Nat → Bool} (h : ∀ x, x ∈ xs ↔ ∃ i : Nat, x = i ∧ i < n ∧ f i = true) : Lib.compact (sorted xs) = picks n f := by
  have hd : ∀ i j, i ≤ j → j < (sorted xs).toArray.size → (sorted xs).toArray[i]! ≤ (sorted xs).toArray[j]! := by
    intro i j hij hj
    have hj' : j < (sorted xs).length := by simpa using hj
    rw [getElem!_pos _ i (by simp; omega), getElem!_pos _ j (by simp; omega)]
    rcases Nat.lt_or_ge i j with hlt | hge
    · exact List.pairwise_iff_getElem.1 (sorted_le xs) i j (by omega) hj' hlt
    · obtain rfl : i = j := by omega
      exact Int.le_refl _
  obtain ⟨h1, h2⟩ := compact_asc _ hd (sorted xs).length (by simp)
  have hc : Lib.compact (sorted xs) = Lib.compactUpTo (sorted xs).toArray (sorted xs).length := rfl
  rw [← hc] at h1 h2
  rw [← sorted_id h1]
  refine sorted_eq (h1.imp fun h => by omega) fun x => ?_
  rw [h2, ← h, ← mem_sorted']
  constructor
  · rintro ⟨j, hj, rfl⟩
    rw [getElem!_pos _ j (by simpa using hj)]
    simp
  · intro hx
    obtain ⟨j, hj⟩ := List.getElem?_of_mem hx
    have hl := lt_of_get hj
    refine ⟨j, hl, ?_⟩
    rw [getElem!_pos _ j (by simpa using hl)]
    rw [List.getElem?_eq_getElem hl] at hj
    simpa using hj
/-! what rules cut bytes at -/
def hits (rs : List Rule) (at_ n : Int) : Prop := n = 0 ∨ ∃ r ∈ rs, r.at_ = at_ ∧ (r.num = n ∨ r.num + 1 = n)
theorem hits_nil (at_ n : Int) : hits [] at_ n ↔ n = 0 := by simp [hits]
theorem hits_snoc (rs : List Rule) (r : Rule) (at_ n : Int) : hits (rs ++ [r]) at_ n ↔ hits rs at_ n ∨ (r.at_ = at_ ∧ (r.num = n ∨ r.num + 1 = n)) := by
  unfold hits
  constructor
  · rintro (h | ⟨q, hq, h⟩)
    · exact .inl (.inl h)
    · rcases List.mem_append.1 hq with h1 | h1
      · exact .inl (.inr ⟨q, h1, h⟩)
      · simp at h1; subst h1; exact .inr h
  · rintro ((h | ⟨q, hq, h⟩) | h)
    · exact .inl h
    · exact .inr ⟨q, List.mem_append.2 (.inl hq), h⟩
    · exact .inr ⟨r, by simp, h⟩
open Classical in
noncomputable def cuts (a b : List Rule) (at_ : Int) : List Int := picks 256 fun n => decide (hits (a ++ b) at_ n)
theorem elRule : El P0 23 48 kRule 40 := ⟨by kernel_rfl, ⟨_, _, Option.eq_some_of_isSome (by kernel_rfl), Option.eq_some_of_isSome (by kernel_rfl), by kernel_rfl, by kernel_rfl, by kernel_rfl⟩, by decide, noAnyRule⟩
section
variable {w : World} {s sa sb : Sl} {la lb : List Rule} {K : Sl → World → Prop}
theorem run_sl0 {a : Option Addr} {n c : Nat} (hc : n ≤ c) (m : Nat) (hm : m ≤ c) : (Instr.sliceAt 23 (.slice a n c) none (some (.int .i64 (m : Int))) none).run P0 w = .ok (.slice a m c) w := by
  have hmap : a.map (fun x => x.add 0) = a := by cases a <;> simp [Addr.add]
  have h1 : ((m : Int) ≤ (c : Int)) := by omega
  have hs : szOf P0 48 = some 5 := by kernel_rfl
  have hu : P0.underlying 23 = some (.slice 48) := by kernel_rfl
  simp [Instr.sliceAt, Instr.slice, underlying, hu, Instr.sliceBounds, Instr.sliceBound, asIntOf, run_sizeOf hs, h1, hm, hmap]
theorem slices.Grow_Rule.c {n : Nat} (hn : n ≤ 1048600) (hk : ∀ r w', OwnS kRule 48 w.heap.size w' r [] → Below w.heap.size w w' → K r w') :
    CallT (.o (.lf .sl)) P0 95 [.slice none 0 0, .int .i64 (n : Int)] w K := by
  refine slices.Grow_Rule.ok (s := ⟨none, 0, 0⟩) ⟨fun w' => w' = w, And.intro (fun h => by simp only [decide_eq_true_eq] at h; omega) (fun _ => rfl), ?_⟩
  rintro w1 rfl _
  have hw : IntKind.wrap .i64 ((n : Int) - IntKind.wrap .i64 (((0 : Nat) : Int) - ((0 : Nat) : Int))) = n := by
    rw [i64_of (n := ((0 : Nat) : Int) - ((0 : Nat) : Int)) (by omega) (by omega), i64_of (by omega) (by omega)]; omega
  simp only [hw]
  refine And.intro (fun h0 => ?_) (fun h0 => ?_)
  · simp only [decide_eq_true_eq] at h0
    refine ⟨⟨none, 0, 0⟩, w1, run_sl0 (Nat.le_refl _) 0 (Nat.le_refl _), ?_⟩
    obtain ⟨i, z, hi, hz, hsz, hby, hzs⟩ := elRule.info
    have hsz5 : i.size = 5 := hsz
    have hfit := growslice_fits (bytes := i.bytes) (show 0 < 0 + n by omega) (by rw [hby]; omega)
    have hr := Lib.run_append_grow_zeros (P := P0) w1 23 3 23 48 i z .i64 .i64 elRule.elem uI hi hz none 0 0 [] (run_firstCells_none w1.drew i.size 0 0 0) n (by omega) (by rw [hsz5]; decide) (by omega) (by omega) (by rw [hby]; omega) hfit
    have hG : 0 + n ≤ grownCap w1 (0 + n) 0 48 := grownCap_ge w1 _ _ _
    have hGm := grownCap_le_maxLen w1 (0 + n) 0 48 (by simp only [maxLen]; omega)
    obtain ⟨G, hGe⟩ : ∃ G, G = grownCap w1 (0 + n) 0 48 := ⟨_, rfl⟩
    rw [← hGe] at hr hG hGm
    refine ⟨⟨some ⟨w1.heap.size, 0, none⟩, 0 + n, G⟩, _, hr, ?_⟩
    refine ⟨⟨some ⟨w1.heap.size, 0, none⟩, 0, G⟩, _, run_sl0 hG 0 (Nat.zero_le _), hk _ _ ⟨rfl, rfl, .inr ⟨w1.heap.size, G, _, rfl, Nat.le_refl _, heap_alloc_new w1.drew _, Nat.zero_le _, hGm, ?_, by simp⟩⟩ ?_⟩
    · simp only [Array.size_append, size_zeroCells, hzs, List.size_toArray, List.length_nil, Nat.zero_add, ← Nat.add_mul]
      exact congrArg (· * kRule.ls.length) (show n + (G - n) = G by omega)
    · refine (Below.refl _ _).grown (row := none) ?_ (Nat.le_refl _) (by simp)
      exact ⟨rfl, rfl, rfl, by simp, fun k hk _ => heap_alloc_old w1.drew _ hk⟩
  · simp only [decide_eq_false_iff_not] at h0
    exact hk _ _ (OwnS.nil _ _ _ _) (Below.refl _ _)
theorem slices.Concat_Rule.c (h : SlR kSl w s [sa, sb]) (ha : SlR kRule w sa la) (hb : SlR kRule w sb lb) (hla : la.length ≤ 6) (hlb : lb.length ≤ 6)
    (hk : ∀ r w', OwnS kRule 48 w.heap.size w' r (la ++ lb) → Below w.heap.size w w' → K r w') : CallT (.o (.lf .sl)) P0 81 [s.v] w K := by
  have hn := h.len; have hna := ha.len; have hnb := hb.len
  have hn2 : s.n = 2 := hn
  refine slices.Concat_Rule.ok ⟨fun size i w' => ∃ n : Nat, i = n ∧ n ≤ 2 ∧ size = (([sa, sb].take n).map Sl.n).sum ∧ w' = w, fun _ i _ => 2 - i.toNat, ⟨0, rfl, by omega, by simp, rfl⟩, ?_⟩
  rintro size i w1 ⟨n, rfl, hn', rfl, rfl⟩ _
  have hle : ∀ m : Nat, m ≤ 2 → (([sa, sb].take m).map Sl.n).sum ≤ 12 := by
    intro m hm
    match m, hm with
    | 0, _ => simp
    | 1, _ => simp; omega
    | 2, _ => simp; omega
  refine And.intro (fun hlt => ?_) (fun hge => ?_)
  · simp only [decide_eq_true_eq] at hlt
    obtain ⟨x, hx⟩ := get_some (l := [sa, sb]) (k := n) (by simp; omega)
    refine ixL h (i := n) (by omega) (x := x) (by simpa using hx) rfl (l := .sl) (v := x) rfl ?_
    have h1 := hle n hn'
    have h2 := hle (n + 1) (by omega)
    have h3 : (([sa, sb].take (n + 1)).map Sl.n).sum = (([sa, sb].take n).map Sl.n).sum + x.n := by rw [List.take_add_one, hx]; simp
    rw [i64_of (n := (((([sa, sb].take n).map Sl.n).sum : Nat) : Int) + (x.n : Int)) (by omega) (by omega)]
    refine And.intro (fun hc => by simp only [decide_eq_true_eq] at hc; omega) (fun _ => ?_)
    rw [i64_of (by omega) (by omega)]
    exact ⟨⟨n + 1, by omega, by omega, by rw [h3]; omega, rfl⟩, by simp only; omega⟩
  · simp only [decide_eq_false_iff_not] at hge
    obtain rfl : n = 2 := by omega
    have h12 := hle 2 (by omega)
    refine slices.Grow_Rule.c (by omega) fun r w2 hr hb2 => ?_
    refine ⟨fun out i w' => ∃ n : Nat, i = n ∧ n ≤ 2 ∧ OwnS kRule 48 w1.heap.size w' out (([la, lb].take n).flatten) ∧ Below w1.heap.size w1 w', fun _ i _ => 2 - i.toNat, ⟨0, rfl, by omega, by simpa using hr, hb2⟩, ?_⟩
    rintro out i w3 ⟨n, rfl, hn3, ho3, hb3⟩ _
    refine And.intro (fun hlt => ?_) (fun hge => ?_)
    · simp only [decide_eq_true_eq] at hlt
      obtain ⟨x, hx⟩ := get_some (l := [sa, sb]) (k := n) (by simp; omega)
      obtain ⟨L, hL⟩ := get_some (l := [la, lb]) (k := n) (by simp; omega)
      have hxL : SlR kRule w1 x L ∧ L.length ≤ 6 ∧ ([la, lb].take n).flatten.length ≤ 6 := by
        have : n = 0 ∨ n = 1 := by omega
        rcases this with rfl | rfl
        · simp at hx hL; subst hx; subst hL; exact ⟨ha, hla, by simp⟩
        · simp at hx hL; subst hx; subst hL; exact ⟨hb, hlb, by simpa using hla⟩
      refine ixL (h.below hb3) (i := n) (by omega) (x := x) (by simpa using hx) rfl (l := .sl) (v := x) rfl ?_
      refine apS elRule ho3 (hxL.1.below hb3) (by omega) (by omega) hb3.size fun s' w4 ho4 hg4 _ _ => ?_
      rw [i64_of (by omega) (by omega)]
      refine ⟨⟨n + 1, by omega, by omega, ?_, hb3.grown hg4 hb3.size (fun b hb => (ho3.blk hb).1)⟩, by simp only; omega⟩
      rw [List.take_add_one, hL]
      simpa using ho4
    · simp only [decide_eq_false_iff_not] at hge
      obtain rfl : n = 2 := by omega
      exact hk _ _ (by simpa using ho3) hb3
theorem kSl_lit {w : World} {x y : Sl} {t : TypeId} {w' : World} (hc : w'.heap[w.heap.size]? = some (.cells #[x.v, y.v] t (0, 0))) : SlR kSl w' ⟨some ⟨w.heap.size, 0, none⟩, 2, 2⟩ [x, y] :=
  (OwnS.lit (k := kSl) (t := t) (B := 0) (xs := [x, y]) (Nat.zero_le _) hc rfl rfl (by simp [maxLen])).read
theorem impl.cuts.c {at_ : Int} (ha : SlR kRule w sa la) (hb : SlR kRule w sb lb) (hpa : RulesP la) (hpb : RulesP lb)
    (hk : ∀ r w', OwnS kI 3 w.heap.size w' r (cuts la lb at_) → Below w.heap.size w w' → K r w') : CallT (.o (.lf .sl)) P0 62 [sa.v, sb.v, .int .i64 at_] w K := by
  refine impl.cuts.ok (nw fun w1 hb1 hs1 hc1 => ?_)
  have ho1 : OwnS kI 3 w.heap.size w1 ⟨some ⟨w.heap.size, 0, none⟩, 1, 1⟩ [0] := OwnS.lit (k := kI) (Nat.le_refl _) hc1 rfl rfl (by simp [maxLen])
  refine nw fun w2 hb2 hs2 hc2 => ?_
  have hb12 := hb1.trans (hb2.mono hb1.size)
  refine slices.Concat_Rule.c (s := ⟨some ⟨w1.heap.size, 0, none⟩, 2, 2⟩) (kSl_lit hc2) (ha.below hb12) (hb.below hb12) hpa.1 hpb.1 fun r w3 hr3 hb3 => ?_
  have hb13 := hb12.trans (hb3.mono hb12.size)
  have hrn := hr3.len
  have hall : ∀ x ∈ la ++ lb, RuleP x := fun x hx => (List.mem_append.1 hx).elim (hpa.2 x) (hpb.2 x)
  have hlen : (la ++ lb).length ≤ 12 := by rw [List.length_append]; have := hpa.1; have := hpb.1; omega
  refine ⟨fun out i w' => ∃ (n : Nat) (xs : List Int), i = n ∧ n ≤ (la ++ lb).length ∧ OwnS kI 3 w.heap.size w' out xs ∧ OwnS kRule 48 w2.heap.size w' r (la ++ lb) ∧ xs.length ≤ 1 + 2 * n ∧ (∀ x, x ∈ xs ↔ hits ((la ++ lb).take n) at_ x ∧ x < 256) ∧ Below w.heap.size w w', fun _ i _ => (la ++ lb).length - i.toNat,
    ⟨0, [0], rfl, by omega, (ho1.below hb2).below hb3, hr3, by simp, fun x => by simp [hits_nil]; omega, hb13⟩, ?_⟩
  rintro out i w4 ⟨n, xs, rfl, hn, ho4, hr4, hxl, hx4, hb4⟩ _
  -- rows of rules and rows of numbers lie apart
  have apart : ∀ {w' : World} {t : Sl} {T : List Int}, OwnS kRule 48 w2.heap.size w' r (la ++ lb) → OwnS kI 3 w.heap.size w' t T → ∀ b, t.bk = some b → (Value.slice r.a r.n r.c).ownBlock ≠ some b := by
    intro w' t T h1 h2 b hb e
    rw [ob_bk] at e
    rcases h1.wr.2.2.2 with h0 | ⟨b1, o1, c1, ha1, _, hh1, _⟩
    · simp [Sl.bk, h0.1] at e
    · rcases h2.wr.2.2.2 with h0 | ⟨b2, o2, c2, ha2, _, hh2, _⟩
      · simp [Sl.bk, h0.1] at hb
      · simp only [Sl.bk, ha1, ha2, Option.map_some, Option.some.injEq] at hb e
        subst hb; subst e
        rw [hh1] at hh2
        simp at hh2
  refine And.intro (fun hlt => ?_) (fun hge => ?_)
  · simp only [decide_eq_true_eq] at hlt
    obtain ⟨x, hx⟩ := get_some (l := la ++ lb) (k := n) (by omega)
    have hp := hall x (List.mem_of_getElem? hx)
    have htk : (la ++ lb).take (n + 1) = (la ++ lb).take n ++ [x] := by rw [List.take_add_one, hx]; rfl
    have hwr : IntKind.wrap .i64 ((n : Int) + 1) = (n : Int) + 1 := i64_of (by omega) (by omega)
    refine ixA hr4.read (i := n) (by omega) (x := x) (by simpa using hx) rfl ?_
    refine nwStRule (x := x) fun w5 hb5 hs5 hc5 => ?_
    have hb45 := hb4.trans (hb5.mono hb4.size)
    refine ldB hc5 (x := x.at_) rfl ?_
    refine And.intro (fun hne => ?_) (fun he => ?_)
    · simp only [bne_iff_ne, ne_eq] at hne
      rw [hwr]
      refine ⟨⟨n + 1, xs, by omega, by omega, ho4.below hb5, hr4.below hb5, by omega, fun y => ?_, hb45⟩, by simp only; omega⟩
      rw [htk, hits_snoc, hx4 y]
      simp [hne]
    · simp only [bne_eq_false_iff_eq] at he
      refine ldB hc5 (x := x.num) rfl ?_
      refine ap1 elI (ho4.below hb5) x.num rfl (by omega) (by omega) hb45.size fun o6 w6 ho6 hg6 hbk6 => ?_
      rw [ob_bk] at hg6
      have hb6 := hb45.grown hg6 hb45.size (fun b hb => (ho4.blk ((ob_bk _).trans hb)).1)
      have hr6 := (hr4.below hb5).kept hg6 (apart (hr4.below hb5) (ho4.below hb5))
      have hc6 := (hg6.block w4.heap.size (by omega) (fun e => by have := (ho4.blk ((ob_bk _).trans e.symm)).2; omega)).trans hc5
      refine ldB hc6 (x := x.num) rfl ?_
      refine And.intro (fun hlt => ?_) (fun hge => ?_)
      · simp only [decide_eq_true_eq] at hlt
        refine ldB hc6 (x := x.num) rfl ?_
        rw [i64_of (n := x.num + 1) (by have := hp.2.2.1; omega) (by omega)]
        refine ap1 elI ho6 (x.num + 1) rfl (by simp; omega) (by simp; omega) hb6.size fun o7 w7 ho7 hg7 hbk7 => ?_
        rw [ob_bk] at hg7
        rw [hwr]
        refine ⟨⟨n + 1, _, by omega, by omega, ho7, hr6.kept hg7 (apart hr6 ho6), by simp; omega, fun y => ?_, hb6.grown hg7 hb6.size (fun b hb => (ho6.blk ((ob_bk _).trans hb)).1)⟩, by simp only; omega⟩
        rw [htk, hits_snoc, List.mem_append, List.mem_append, hx4 y]
        simp only [List.mem_singleton, he, true_and]
        constructor
        · rintro ((⟨h1, h2⟩ | h) | h)
          · exact ⟨.inl h1, h2⟩
          · exact ⟨.inr (.inl h.symm), by omega⟩
          · exact ⟨.inr (.inr h.symm), by omega⟩
        · rintro ⟨h1 | h1 | h1, h2⟩
          · exact .inl (.inl ⟨h1, h2⟩)
          · exact .inl (.inr h1.symm)
          · exact .inr h1.symm
      · simp only [decide_eq_false_iff_not] at hge
        have := hp.2.2.1
        rw [hwr]
        refine ⟨⟨n + 1, _, by omega, by omega, ho6, hr6, by simp; omega, fun y => ?_, hb6⟩, by simp only; omega⟩
        rw [htk, hits_snoc, List.mem_append, hx4 y]
        simp only [List.mem_singleton, he, true_and]
        constructor
        · rintro (⟨h1, h2⟩ | h)
          · exact ⟨.inl h1, h2⟩
          · exact ⟨.inr (.inl h.symm), by omega⟩
        · rintro ⟨h1 | h1 | h1, h2⟩
          · exact .inl ⟨h1, h2⟩
          · exact .inr h1.symm
          · omega
  · simp only [decide_eq_false_iff_not] at hge
    obtain rfl : n = (la ++ lb).length := by omega
    rw [List.take_length] at hx4
    refine sort_own ho4 (by omega) fun w5 ho5 hg5 => ?_
    refine compact_own ho5 fun o6 w6 ho6 hg6 => ?_
    have hb5 := hb4.grown hg5 hb4.size (fun b hb => (ho4.blk hb).1)
    have hb6 := hb5.grown hg6 hb5.size (fun b hb => (ho5.blk hb).1)
    refine hk _ _ ?_ hb6
    rw [compact_sorted (n := 256) (f := fun n => @decide (hits (la ++ lb) at_ n) (Classical.propDecidable _))] at ho6
    · exact ho6
    · intro x
      rw [hx4]
      simp only [decide_eq_true_eq]
      constructor
      · rintro ⟨h1, h2⟩
        have h0 : 0 ≤ x := by
          rcases h1 with h | ⟨r, hr, _, h⟩
          · omega
          · have := (hall r hr).2.2.1; omega
        exact ⟨x.toNat, by omega, by omega, by rw [show ((x.toNat : Nat) : Int) = x by omega]; exact h1⟩
      · rintro ⟨i, rfl, hi, h⟩; exact ⟨h, by omega⟩
theorem spec.l14Cuts.c {at_ : Int} (h : SlR kSl w s [sa, sb]) (ha : SlR kRule w sa la) (hb : SlR kRule w sb lb) (hpa : RulesP la) (hpb : RulesP lb)
    (hk : ∀ r w', OwnS kI 3 w.heap.size w' r (cuts la lb at_) → Below w.heap.size w w' → K r w') : CallT (.o (.lf .sl)) P0 60 [s.v, .int .i64 at_] w K := by
  have hn := h.len
  have hn2 : s.n = 2 := hn
  refine spec.l14Cuts.ok (mkS (n := 257) mkB (by omega) (by simp [maxLen]) fun r w1 hb1 hr1 => ?_)
  rw [bits_rep] at hr1
  have bk : ∀ b, r.bk = some b → w.heap.size ≤ b := fun b hb => (hr1.blk hb).1
  refine stBit hr1 (Int.le_refl _) (by omega) fun w2 hr2 hg2 => ?_
  have hb2 := hb1.grown hg2 hb1.size bk
  refine ⟨fun i w' => ∃ (n : Nat) (f : Nat → Bool), i = n ∧ n ≤ 2 ∧ WrS kB 4 w.heap.size w' r (bits 257 f) ∧ (∀ j : Nat, j < 257 → (f j = true ↔ hits (([la, lb].take n).flatten) at_ j)) ∧ Below w.heap.size w w', fun i _ => 2 - i.toNat,
    ⟨0, _, rfl, by omega, hr2, fun j hj => by simp [hits_nil], hb2⟩, ?_⟩
  rintro i w3 ⟨n, f, rfl, hn3, hr3, hf3, hb3⟩ _
  refine And.intro (fun hlt => ?_) (fun hge => ?_)
  · simp only [decide_eq_true_eq] at hlt
    obtain ⟨x, hx⟩ := get_some (l := [sa, sb]) (k := n) (by simp; omega)
    obtain ⟨L, hL⟩ := get_some (l := [la, lb]) (k := n) (by simp; omega)
    have hxL : SlR kRule w x L ∧ RulesP L := by
      have : n = 0 ∨ n = 1 := by omega
      rcases this with rfl | rfl
      · simp at hx hL; subst hx; subst hL; exact ⟨ha, hpa⟩
      · simp at hx hL; subst hx; subst hL; exact ⟨hb, hpb⟩
    have hxn := hxL.1.len
    have hL6 := hxL.2.1
    have hx' : [sa, sb][((n : Nat) : Int).toNat]? = some x := by simpa using hx
    refine ⟨fun k w' => ∃ (m : Nat) (g : Nat → Bool), k = m ∧ m ≤ L.length ∧ WrS kB 4 w.heap.size w' r (bits 257 g) ∧ (∀ j : Nat, j < 257 → (g j = true ↔ hits (([la, lb].take n).flatten ++ L.take m) at_ j)) ∧ Below w.heap.size w w', fun k _ => L.length - k.toNat,
      ⟨0, f, rfl, by omega, hr3, by simpa using hf3, hb3⟩, ?_⟩
    rintro k w4 ⟨m, g, rfl, hm, hr4, hg4, hb4⟩ _
    refine ixL (h.below hb4) (i := n) (by omega) hx' rfl (l := .sl) (v := x) rfl ?_
    refine And.intro (fun hlt4 => ?_) (fun hge4 => ?_)
    · simp only [decide_eq_true_eq] at hlt4
      obtain ⟨y, hy⟩ := get_some (l := L) (k := m) (by omega)
      have hy' : L[((m : Nat) : Int).toNat]? = some y := by simpa using hy
      have hyp := hxL.2.2 y (List.mem_of_getElem? hy)
      have hnum := hyp.2.2.1
      have htk : ([la, lb].take n).flatten ++ L.take (m + 1) = (([la, lb].take n).flatten ++ L.take m) ++ [y] := by rw [List.take_add_one, hy, List.append_assoc]; rfl
      have hwr : IntKind.wrap .i64 ((m : Int) + 1) = (m : Int) + 1 := i64_of (by omega) (by omega)
      refine ixL (h.below hb4) (i := n) (by omega) hx' rfl (l := .sl) (v := x) rfl ?_
      refine ixF (hxL.1.below hb4) (i := m) (by omega) hy' rfl (v := y.at_) rfl ?_
      refine And.intro (fun he => ?_) (fun hne => ?_)
      · simp only [beq_iff_eq] at he
        refine ixL (h.below hb4) (i := n) (by omega) hx' rfl (l := .sl) (v := x) rfl ?_
        refine ixF (hxL.1.below hb4) (i := m) (by omega) hy' rfl (v := y.num) rfl ?_
        refine stBit hr4 hnum.1 (by omega) fun w5 hr5 hg5 => ?_
        have hb5 := hb4.grown hg5 hb4.size bk
        refine ixL (h.below hb5) (i := n) (by omega) hx' rfl (l := .sl) (v := x) rfl ?_
        refine ixF (hxL.1.below hb5) (i := m) (by omega) hy' rfl (v := y.num) rfl ?_
        rw [i64_of (n := y.num + 1) (by omega) (by omega)]
        refine stBit hr5 (by omega) (by omega) fun w6 hr6 hg6 => ?_
        have hb6 := hb5.grown hg6 hb5.size bk
        rw [hwr]
        refine ⟨⟨m + 1, _, by omega, by omega, hr6, fun j hj => ?_, hb6⟩, by simp only; omega⟩
        rw [htk, hits_snoc, Bool.or_eq_true, Bool.or_eq_true, hg4 j hj]
        simp only [decide_eq_true_eq, he, true_and]
        constructor
        · rintro ((h | h) | h)
          · exact .inl h
          · exact .inr (.inl (by omega))
          · exact .inr (.inr (by omega))
        · rintro (h | h | h)
          · exact .inl (.inl h)
          · exact .inl (.inr (by omega))
          · exact .inr (by omega)
      · simp only [beq_eq_false_iff_ne, ne_eq] at hne
        rw [hwr]
        refine ⟨⟨m + 1, g, by omega, by omega, hr4, fun j hj => ?_, hb4⟩, by simp only; omega⟩
        rw [htk, hits_snoc, hg4 j hj]
        simp [hne]
    · simp only [decide_eq_false_iff_not] at hge4
      obtain rfl : m = L.length := by omega
      rw [i64_of (by omega) (by omega)]
      refine ⟨⟨n + 1, g, by omega, by omega, hr4, fun j hj => ?_, hb4⟩, by simp only; omega⟩
      rw [hg4 j hj, List.take_length, List.take_add_one, hL]
      simp
  · simp only [decide_eq_false_iff_not] at hge
    obtain rfl : n = 2 := by omega
    refine nw fun w4 hb4 hs4 hc4 => ?_
    have ho4 : OwnS kI 3 w.heap.size w4 ⟨some ⟨w3.heap.size, 0, none⟩, 0, 0⟩ [] := OwnS.lit hb3.size hc4 rfl rfl (by simp)
    refine collect (n := 256) (m := 257) (f := f) (hr3.below hb4).read (by omega) (by omega) ho4 (by have := hb3.size; omega) ?_ ?_
    · intro b o hb
      have hbk : r.bk = some b := by simp [Sl.bk, hb]
      have h1 := hr3.blk hbk
      refine ⟨by omega, fun b' hb' e => ?_⟩
      simp only [Sl.bk, Option.map_some, Option.some.injEq] at hb'
      omega
    · intro out w5 ho5 hb5
      refine hk _ _ ?_ ((hb3.trans (hb4.mono hb3.size)).trans (hb5 _ (Nat.le_refl _)))
      have : cuts la lb at_ = picks 256 f := by
        unfold cuts
        refine picks_congr fun i hi => ?_
        rw [Bool.eq_iff_iff, hf3 i (by omega)]
        simp
      rw [this]; exact ho5
/-- How many pieces, after so many bytes. -/
noncomputable def many (a b : List Rule) : Nat → Int
  | 0 => 1
  | n + 1 => IntKind.wrap .i64 (many a b n * ((cuts a b n).length : Int))
noncomputable def pieces (a b : List Rule) : Int := many a b 12
theorem impl.pieces.c {K : Int → World → Prop} (ha : SlR kRule w sa la) (hb : SlR kRule w sb lb) (hpa : RulesP la) (hpb : RulesP lb) (hk : ∀ w', Below w.heap.size w w' → K (pieces la lb) w') :
    CallT (.o (.lf (.i .i64))) P0 36 [sa.v, sb.v] w K := by
  refine impl.pieces.ok ⟨fun p i w' => ∃ n : Nat, i = n ∧ n ≤ 12 ∧ p = many la lb n ∧ Below w.heap.size w w', fun _ i _ => 12 - i.toNat, ⟨0, rfl, by omega, rfl, Below.refl _ _⟩, ?_⟩
  rintro p i w1 ⟨n, rfl, hn, rfl, hb1⟩ _
  refine And.intro (fun hlt => ?_) (fun hge => ?_)
  · simp only [decide_eq_true_eq] at hlt
    refine impl.cuts.c (ha.below hb1) (hb.below hb1) hpa hpb fun r w2 hr hb2 => ?_
    rw [i64_of (n := (n : Int) + 1) (by omega) (by omega), hr.len]
    exact ⟨⟨n + 1, by omega, by omega, rfl, hb1.trans (hb2.mono hb1.size)⟩, by simp only; omega⟩
  · simp only [decide_eq_false_iff_not] at hge
    obtain rfl : n = 12 := by omega
    exact hk _ hb1
theorem spec.l14Ways.c {K : Int → World → Prop} (ha : SlR kRule w sa la) (hb : SlR kRule w sb lb) (hpa : RulesP la) (hpb : RulesP lb) (hk : ∀ w', Below w.heap.size w w' → K (pieces la lb) w') :
    CallT (.o (.lf (.i .i64))) P0 34 [sa.v, sb.v] w K := by
  refine spec.l14Ways.ok ⟨fun p i w' => ∃ n : Nat, i = n ∧ n ≤ 12 ∧ p = many la lb n ∧ Below w.heap.size w w', fun _ i _ => 12 - i.toNat, ⟨0, rfl, by omega, rfl, Below.refl _ _⟩, ?_⟩
  rintro p i w1 ⟨n, rfl, hn, rfl, hb1⟩ _
  refine And.intro (fun hlt => ?_) (fun hge => ?_)
  · simp only [decide_eq_true_eq] at hlt
    refine nw fun w2 hb2 hs2 hc2 => ?_
    have hb12 := hb1.trans (hb2.mono hb1.size)
    refine spec.l14Cuts.c (s := ⟨some ⟨w1.heap.size, 0, none⟩, 2, 2⟩) (kSl_lit hc2) (ha.below hb12) (hb.below hb12) hpa hpb fun r w3 hr hb3 => ?_
    rw [i64_of (n := (n : Int) + 1) (by omega) (by omega), hr.len]
    exact ⟨⟨n + 1, by omega, by omega, rfl, hb12.trans (hb3.mono hb12.size)⟩, by simp only; omega⟩
  · simp only [decide_eq_false_iff_not] at hge
    obtain rfl : n = 12 := by omega
    exact hk _ hb1
noncomputable def samePieces (a b : List Rule) : Int := if RulesP a ∧ RulesP b then pieces a b else -1
theorem impl.SamePieces.c {K : Int → World → Prop} (ha : SlR kRule w sa la) (hb : SlR kRule w sb lb) (hk : ∀ w', Below w.heap.size w w' → K (samePieces la lb) w') :
    CallT (.o (.lf (.i .i64))) P0 15 [sa.v, sb.v] w K := by
  refine impl.SamePieces.ok (impl.RulesOk.c ha fun w1 hb1 => ?_)
  refine And.intro (fun hq => ?_) (fun hq => ?_)
  · simp at hq; exact kof (hk _ hb1) (by simp [samePieces, hq])
  · simp at hq
    refine impl.RulesOk.c (hb.below hb1) fun w2 hb2 => ?_
    have hb12 := hb1.trans (hb2.mono hb1.size)
    refine And.intro (fun hp => ?_) (fun hp => ?_)
    · simp at hp; exact kof (hk _ hb12) (by simp [samePieces, hp])
    · simp at hp
      refine impl.pieces.c (ha.below hb12) (hb.below hb12) hq hp fun w3 hb3 => kof (hk _ (hb12.trans (hb3.mono hb12.size))) (by simp [samePieces, hp, hq])
end
end Go.Proofs.Ytdlnoabihfnmmaa.V

/- Contracts: what rules say of bytes; the bytes that are looked at, in their order; the reference's search. -/
namespace Go.Proofs.Ytdlnoabihfnmmaa.V
open Go Go.RowKit
set_option linter.unusedVariables false
set_option linter.unusedSimpArgs false
def holdsB (op a b : Int) : Bool := if op = 12 then a == b else if op = 13 then a != b else if op = 14 then decide (a < b) else decide (a > b)
theorem impl.holds.c {op a b : Int} {w : World} {K : Bool → World → Prop} (hk : K (holdsB op a b) w) : CallT (.o (.lf .b)) P0 57 [.int .i64 op, .int .i64 a, .int .i64 b] w K := by
  refine impl.holds.ok ?_
  unfold impl.holds.vc
  unfold holdsB at hk
  refine And.intro (fun h => ?_) (fun h => And.intro (fun h2 => ?_) (fun h2 => And.intro (fun h3 => ?_) (fun h3 => ?_))) <;> simp_all
theorem spec.l2Holds.c {op a b : Int} {w : World} {K : Bool → World → Prop} (hk : K (holdsB op a b) w) : CallT (.o (.lf .b)) P0 80 [.int .i64 op, .int .i64 a, .int .i64 b] w K := by
  refine spec.l2Holds.ok ?_
  unfold spec.l2Holds.vc
  unfold holdsB at hk
  refine And.intro (fun h => ?_) (fun h => And.intro (fun h2 => ?_) (fun h2 => And.intro (fun h3 => ?_) (fun h3 => ?_))) <;> simp_all
/-- Twelve bytes. -/
def Came (cs : List Int) : Prop := cs.length = 12 ∧ ∀ x ∈ cs, 0 ≤ x ∧ x ≤ 255
/-- What rules say of bytes: a verdict and a key. -/
def ruledL : List Rule → List Int → Int × Int
  | [], _ => (1, 0)
  | r :: rs, cs => if holdsB r.op (cs.getD r.at_.toNat 0) r.num then (r.verdict, r.key) else ruledL rs cs
theorem str_get {cs : List Int} {i : Nat} {x : Int} (h : cs[i]? = some x) (hx : 0 ≤ x ∧ x ≤ 255) : ∃ b, (strOfNums cs)[i]? = some b ∧ (b.toNat : Int) = x := by
  have hl := lt_of_get h
  have hs : i < (strOfNums cs).size := by rw [strOfNums_size]; exact hl
  refine ⟨(strOfNums cs)[i], getElem?_pos (strOfNums cs) i hs, ?_⟩
  have h1 : (strOfNums cs)[i] = UInt8.ofNat x.toNat := by
    have h2 := List.getElem?_eq_getElem hl
    rw [h] at h2
    simp only [Option.some.injEq] at h2
    show (strOfNums cs).data[i]'(hs) = _
    rw [← Array.getElem_toList]
    simp only [strOfNums_data, List.getElem_map]
    rw [← h2]
  rw [h1]
  simp; omega
theorem sxCame {cs : List Int} {i : Int} {x : Int} {w : World} {K : Int → World → Prop} (hi : 0 ≤ i) (h : cs[i.toNat]? = some x) (hx : 0 ≤ x ∧ x ≤ 255) (hk : K x w) : Sx (strOfNums cs) i w K := by
  obtain ⟨b, hb, hbx⟩ := str_get h hx
  exact ⟨hi, b, hb, by rw [hbx]; exact hk⟩
theorem qsxCame {cs : List Int} {i : Int} {x : Int} {K : Int → Prop} (hi : 0 ≤ i) (h : cs[i.toNat]? = some x) (hx : 0 ≤ x ∧ x ≤ 255) (hk : K x) : QSx (strOfNums cs) i K := by
  obtain ⟨b, hb, hbx⟩ := str_get h hx
  exact ⟨hi, b, hb, by rw [hbx]; exact hk⟩
theorem qcl' {r : Rs} {P : Program} {f : FuncId} {args : List Value} {C : World → Prop} {K : r.T → Prop} (x : r.T) (h : ∀ w {K' : r.T → World → Prop}, K' x w → CallT r P f args w K') (hk : K x) : QCl r P f args C K :=
  ⟨x, fun w hw => h w ⟨rfl, hw⟩, hk⟩
section
variable {w : World} {s : Sl} {l : List Rule} {cs : List Int}
theorem ruled_at {k : Nat} {x : Rule} (hx : l[k]? = some x) : ruledL (l.drop k) cs = if holdsB x.op (cs.getD x.at_.toNat 0) x.num then (x.verdict, x.key) else ruledL (l.drop (k + 1)) cs := by
  rw [getElem?_drop_cons hx]; rfl
theorem came_at (hc : Came cs) {x : Rule} (hx : RuleP x) : cs[x.at_.toNat]? = some (cs.getD x.at_.toNat 0) ∧ 0 ≤ cs.getD x.at_.toNat 0 ∧ cs.getD x.at_.toNat 0 ≤ 255 := by
  obtain ⟨y, hy⟩ := get_some (l := cs) (k := x.at_.toNat) (by have := hx.1; have := hc.1; omega)
  rw [List.getD_eq_getElem?_getD, hy]
  exact ⟨rfl, hc.2 y (List.mem_of_getElem? hy)⟩
theorem impl.ruled.c {K : Int × Int × Unit → World → Prop} (h : SlR kRule w s l) (hp : RulesP l) (hc : Came cs) (hk : ∀ w', Below w.heap.size w w' → K ((ruledL l cs).1, (ruledL l cs).2, ()) w') :
    CallT (.n [(.lf (.i .i64)), (.lf (.i .i64))]) P0 30 [s.v, .string (strOfNums cs)] w K := by
  have hn := h.len
  have hl := hp.1
  refine impl.ruled.ok ⟨fun i w' => ∃ k : Nat, i = k ∧ k ≤ l.length ∧ ruledL (l.drop k) cs = ruledL l cs ∧ Below w.heap.size w w', fun i _ => l.length - i.toNat, ⟨0, rfl, by omega, rfl, Below.refl _ _⟩, ?_⟩
  rintro i w1 ⟨k, rfl, hk1, hr, b1⟩ _
  refine And.intro (fun hlt => ?_) (fun hge => ?_)
  · simp only [decide_eq_true_eq] at hlt
    obtain ⟨x, hx⟩ := get_some (l := l) (k := k) (by omega)
    have hxp := hp.2 x (List.mem_of_getElem? hx)
    obtain ⟨hget, hb⟩ := came_at hc hxp
    have hra := ruled_at (cs := cs) hx
    refine ixA (h.below b1) (i := k) (by omega) (x := x) (by simpa using hx) rfl ?_
    refine nwStRule (x := x) fun w2 b2 s2 c2 => ?_
    have b12 := b1.trans (b2.mono b1.size)
    refine qldB c2 (x := x.op) rfl ?_
    refine qldB c2 (x := x.at_) rfl ?_
    refine qsxCame hxp.1.1 hget hb ?_
    refine qldB c2 (x := x.num) rfl ?_
    rw [i64_of (n := cs.getD x.at_.toNat 0) (by omega) (by omega)]
    refine qcl' (holdsB x.op (cs.getD x.at_.toNat 0) x.num) (fun w K' hK => impl.holds.c hK) ?_
    intro w3 b3
    have b13 := b12.trans (b3.mono b12.size)
    have c3 := (b3.block _ (by omega)).trans c2
    refine And.intro (fun ht => ?_) (fun hf => ?_)
    · refine qldB c3 (x := x.verdict) rfl ?_
      refine qldB c3 (x := x.key) rfl ?_
      intro w4 b4
      have := hk w4 (b13.trans (b4.mono b13.size))
      rw [← hr, hra, if_pos ht] at this
      exact this
    · rw [i64_of (n := (k : Int) + 1) (by omega) (by omega)]
      refine ⟨⟨k + 1, by omega, by omega, ?_, b13⟩, by simp only; omega⟩
      rw [← hr, hra, if_neg (by rw [hf]; simp)]
  · simp only [decide_eq_false_iff_not] at hge
    obtain rfl : k = l.length := by omega
    rw [List.drop_length] at hr
    have := hk w1 b1
    rw [← hr] at this
    exact this
theorem spec.l9Of.c {K : Int × Int × Unit → World → Prop} (h : SlR kRule w s l) (hp : RulesP l) (hc : Came cs) (hk : ∀ w', Below w.heap.size w w' → K ((ruledL l cs).1, (ruledL l cs).2, ()) w') :
    CallT (.n [(.lf (.i .i64)), (.lf (.i .i64))]) P0 61 [s.v, .string (strOfNums cs)] w K := by
  have hn := h.len
  have hl := hp.1
  refine spec.l9Of.ok ⟨fun i w' => ∃ k : Nat, i = k ∧ k ≤ l.length ∧ ruledL (l.drop k) cs = ruledL l cs ∧ Below w.heap.size w w', fun i _ => l.length - i.toNat, ⟨0, rfl, by omega, rfl, Below.refl _ _⟩, ?_⟩
  rintro i w1 ⟨k, rfl, hk1, hr, b1⟩ _
  refine And.intro (fun hlt => ?_) (fun hge => ?_)
  · simp only [decide_eq_true_eq] at hlt
    obtain ⟨x, hx⟩ := get_some (l := l) (k := k) (by omega)
    have hxp := hp.2 x (List.mem_of_getElem? hx)
    obtain ⟨hget, hb⟩ := came_at hc hxp
    have hra := ruled_at (cs := cs) hx
    have h1 := h.below b1
    have hx' : l[((k : Nat) : Int).toNat]? = some x := by simpa using hx
    refine qixF h1 (i := k) (by omega) hx' rfl (v := x.op) rfl ?_
    refine qixF h1 (i := k) (by omega) hx' rfl (v := x.at_) rfl ?_
    refine qsxCame hxp.1.1 hget hb ?_
    refine qixF h1 (i := k) (by omega) hx' rfl (v := x.num) rfl ?_
    rw [i64_of (n := cs.getD x.at_.toNat 0) (by omega) (by omega)]
    refine qcl' (holdsB x.op (cs.getD x.at_.toNat 0) x.num) (fun w K' hK => spec.l2Holds.c hK) ?_
    intro w3 b3
    have b13 := b1.trans (b3.mono b1.size)
    have h3 := h1.below b3
    refine And.intro (fun ht => ?_) (fun hf => ?_)
    · refine qixF h3 (i := k) (by omega) hx' rfl (v := x.verdict) rfl ?_
      refine qixF h3 (i := k) (by omega) hx' rfl (v := x.key) rfl ?_
      intro w4 b4
      have := hk w4 (b13.trans (b4.mono b13.size))
      rw [← hr, hra, if_pos ht] at this
      exact this
    · rw [i64_of (n := (k : Int) + 1) (by omega) (by omega)]
      refine ⟨⟨k + 1, by omega, by omega, ?_, b13⟩, by simp only; omega⟩
      rw [← hr, hra, if_neg (by rw [hf]; simp)]
  · simp only [decide_eq_false_iff_not] at hge
    obtain rfl : k = l.length := by omega
    rw [List.drop_length] at hr
    have := hk w1 b1
    rw [← hr] at this
    exact this
end
/-- The bytes that are looked at, in their order. -/
noncomputable def gen (a b : List Rule) : Nat → List Int → List (List Int)
  | 0, cs => [cs]
  | n + 1, cs => (cuts a b cs.length).flatMap fun x => gen a b n (cs ++ [x])
def diffB (a b : List Rule) (cs : List Int) : Bool := ((ruledL a cs).1 != (ruledL b cs).1) || ((ruledL a cs).2 != (ruledL b cs).2)
theorem cuts_byte {a b : List Rule} {i : Int} {x : Int} (h : x ∈ cuts a b i) : 0 ≤ x ∧ x ≤ 255 := by
  unfold cuts at h
  obtain ⟨j, rfl, hj, _⟩ := mem_picks.1 h
  omega
theorem cuts_length (a b : List Rule) (i : Int) : (cuts a b i).length ≤ 256 := picks_le _ _
/-- What the search hands back. -/
noncomputable def fres (a b : List Rule) (n : Nat) (cs : List Int) : ByteArray × Bool :=
  match (gen a b n cs).find? (diffB a b) with
  | some x => (strOfNums x, true)
  | none => (if n = 0 then strOfNums cs else ⟨#[]⟩, false)
theorem str_app (cs : List Int) (x : Int) : strOfNums cs ++ strOfNums [x] = strOfNums (cs ++ [x]) := by
  apply ByteArray.ext
  apply Array.ext'
  simp [strOfNums, ByteArray.data_append]
theorem find_flat {a b : List Rule} {n : Nat} {cs : List Int} {x : Int} {xs : List Int} : ((x :: xs).flatMap fun x => gen a b n (cs ++ [x])).find? (diffB a b) =
    match (gen a b n (cs ++ [x])).find? (diffB a b) with
    | some y => some y
    | none => (xs.flatMap fun x => gen a b n (cs ++ [x])).find? (diffB a b) := by
  rw [List.flatMap_cons, List.find?_append]
  cases (gen a b n (cs ++ [x])).find? (diffB a b) <;> rfl
set_option maxHeartbeats 1000000 in
theorem spec.l14Find.c {sa sb : Sl} {la lb : List Rule} (hpa : RulesP la) (hpb : RulesP lb) : ∀ (n : Nat) {cs : List Int} {w : World} {K : ByteArray × Bool × Unit → World → Prop}, cs.length + n = 12 → (∀ x ∈ cs, 0 ≤ x ∧ x ≤ 255) → SlR kRule w sa la → SlR kRule w sb lb →
    (∀ w', Below w.heap.size w w' → K ((fres la lb n cs).1, (fres la lb n cs).2, ()) w') → CallT (.n [(.lf .s), (.lf .b)]) P0 35 [sa.v, sb.v, .string (strOfNums cs)] w K
  | 0, cs, w, K, hn, hx, ha, hb, hk => by
    have hc : Came cs := ⟨by omega, hx⟩
    refine spec.l14Find.ok ?_
    unfold spec.l14Find.vc
    rw [strOfNums_size]
    refine And.intro (fun _ => ?_) (fun hne => by rw [beq_eq_false_iff_ne] at hne; omega)
    refine spec.l9Of.c ha hpa hc fun w1 b1 => ?_
    refine spec.l9Of.c (hb.below b1) hpb hc fun w2 b2 => ?_
    have := hk w2 (b1.trans (b2.mono b1.size))
    have hg : gen la lb 0 cs = [cs] := rfl
    unfold fres at this
    rw [hg] at this
    refine And.intro (fun hd => ?_) (fun hs => ?_)
    · have hdb : diffB la lb cs = true := by unfold diffB; rw [hd]; rfl
      rw [List.find?_cons, hdb] at this
      exact this
    · cases hs2 : ((ruledL la cs).2 != (ruledL lb cs).2) with
      | true =>
        have hdb : diffB la lb cs = true := by unfold diffB; rw [hs2]; simp
        rw [List.find?_cons, hdb] at this
        exact this
      | false =>
        have hdb : diffB la lb cs = false := by unfold diffB; rw [hs, hs2]; rfl
        rw [List.find?_cons, hdb] at this
        exact this
  | n + 1, cs, w, K, hn, hx, ha, hb, hk => by
    refine spec.l14Find.ok ?_
    unfold spec.l14Find.vc
    rw [strOfNums_size]
    refine And.intro (fun he => by rw [beq_iff_eq] at he; omega) (fun _ => ?_)
    refine nw fun w1 b1 s1 c1 => ?_
    have hlit := kSl_lit (x := sa) (y := sb) c1
    refine spec.l14Cuts.c (s := ⟨some ⟨w.heap.size, 0, none⟩, 2, 2⟩) hlit (ha.below b1) (hb.below b1) hpa hpb fun r w2 ho2 b2 => ?_
    have b12 := b1.trans (b2.mono b1.size)
    have hrn := ho2.len
    have hcl := cuts_length la lb (cs.length : Int)
    refine ⟨fun i w' => ∃ k : Nat, i = k ∧ k ≤ (cuts la lb cs.length).length ∧ Below w2.heap.size w2 w' ∧ (gen la lb (n + 1) cs).find? (diffB la lb) = (((cuts la lb cs.length).drop k).flatMap fun x => gen la lb n (cs ++ [x])).find? (diffB la lb), fun i _ => (cuts la lb cs.length).length - i.toNat, ⟨0, rfl, by omega, Below.refl _ _, rfl⟩, ?_⟩
    rintro i w3 ⟨k, rfl, hk1, b3, hf⟩ _
    have b13 := b12.trans (b3.mono b12.size)
    refine And.intro (fun hlt => ?_) (fun hge => ?_)
    · simp only [decide_eq_true_eq] at hlt
      obtain ⟨x, hxk⟩ := get_some (l := cuts la lb cs.length) (k := k) (by omega)
      have hxb := cuts_byte (List.mem_of_getElem? hxk)
      refine ixL (ho2.read.below b3) (i := k) (by omega) (x := x) (by simpa using hxk) rfl (l := .i .i64) (v := x) rfl ?_
      rw [show IntKind.wrap .u8 x = x by rw [IntKind.wrap_u8]; omega]
      refine nw fun w4 b4 s4 c4 => ?_
      have hconv := run_convert_bytes_arg (P := P0) w4 22 5 (by kernel_rfl) (by kernel_rfl) w3.heap.size 0 1 1 [x] rfl (fun i hi => by
        obtain rfl : i = 0 := by omega
        rw [cell_of c4]; rfl) 9 (by kernel_rfl)
      refine ⟨_, w4, hconv, ?_⟩
      have b14 := b13.trans (b4.mono b13.size)
      dsimp only
      rw [strOfNums_size, str_app]
      refine ⟨by have : IntKind.i64.max = 9223372036854775807 := rfl; simp; omega, ?_⟩
      refine spec.l14Find.c hpa hpb n (by simp; omega) (fun y hy => by rcases List.mem_append.1 hy with h | h; exact hx y h; simp at h; subst h; exact hxb) (ha.below b14) (hb.below b14) fun w5 b5 => ?_
      have b15 := b14.trans (b5.mono b14.size)
      rw [getElem?_drop_cons hxk, find_flat] at hf
      rw [i64_of (n := (k : Int) + 1) (by omega) (by omega)]
      have hfin := hk w5 b15
      unfold fres at hfin ⊢
      cases hg : (gen la lb n (cs ++ [x])).find? (diffB la lb) with
      | some y =>
        rw [hg] at hf
        rw [hf] at hfin
        refine And.intro (fun _ => hfin) (fun h => by simp at h)
      | none =>
        rw [hg] at hf
        refine And.intro (fun h => by simp at h) (fun _ => ?_)
        exact ⟨⟨k + 1, by omega, by omega, b3.trans ((b4.trans (b5.mono b4.size)).mono b3.size), hf⟩, by omega⟩
    · simp only [decide_eq_false_iff_not] at hge
      obtain rfl : k = (cuts la lb cs.length).length := by omega
      rw [List.drop_length] at hf
      have hfin := hk w3 b13
      unfold fres at hfin
      rw [hf] at hfin
      exact hfin
end Go.Proofs.Ytdlnoabihfnmmaa.V

/- Contracts: the least number of a range, in the reference. -/
namespace Go.Proofs.Ytdlnoabihfnmmaa.V
open Go Go.RowKit
set_option linter.unusedVariables false
set_option linter.unusedSimpArgs false
theorem next_gt {j lo : Nat} (h : lo.testBit j = false) : lo < cutN (j + 1) lo ||| 2 ^ j := by
  have h1 : cutN (j + 1) lo ||| 2 ^ j = cutN (j + 1) lo + 2 ^ j := by
    unfold cutN
    rw [Nat.mul_comm, Nat.two_pow_add_eq_or_of_lt (by rw [Nat.pow_succ]; have := Nat.two_pow_pos j; omega)]
  have h2 : cutN (j + 1) lo = cutN j lo := by
    apply Nat.eq_of_testBit_eq
    intro i
    rw [cutN_bit, cutN_bit]
    rcases Nat.lt_trichotomy i j with h3 | h3 | h3
    · simp [show ¬ j + 1 ≤ i by omega, show ¬ j ≤ i by omega]
    · subst h3; simp [h]
    · simp [show j + 1 ≤ i by omega, show j ≤ i by omega]
  rw [h1, h2]
  exact cutN_lt j lo
theorem next_cut {j lo : Nat} : cutN j (cutN (j + 1) lo ||| 2 ^ j) = cutN (j + 1) lo ||| 2 ^ j := by
  apply Nat.eq_of_testBit_eq
  intro i
  rw [cutN_bit, Nat.testBit_or, cutN_bit, Nat.testBit_two_pow]
  by_cases h : j ≤ i
  · simp [h]
  · simp [h, show ¬ j + 1 ≤ i by omega, show ¬ j = i by omega]
theorem bit_one {j lo : Nat} (hlo : lo < 2 ^ 32) : ((iAnd .i64 (Int.fdiv (lo : Int) ((2 : Int) ^ j)) 1 : Int) == 1) = lo.testBit j := by
  have h1 : Int.fdiv (lo : Int) ((2 : Int) ^ j) = ((lo / 2 ^ j : Nat) : Int) := by
    rw [Int.fdiv_eq_ediv_of_nonneg _ (by have := Int.pow_nonneg (n := 2) (m := j) (by omega); exact this)]
    rw [Int.natCast_ediv]; simp
  have h2 := Nat.div_le_self lo (2 ^ j)
  have h3 := iAnd_nat (a := lo / 2 ^ j) (b := 1) (by omega) (by omega)
  rw [h1, show (1 : Int) = ((1 : Nat) : Int) from rfl, h3, Nat.and_one_is_mod, Nat.testBit_eq_decide_div_mod_eq]
  rw [Bool.eq_iff_iff]; simp only [beq_iff_eq, decide_eq_true_eq]; omega
theorem min_bits {n : Nat} (hn : n ≤ 40) : min (Int.toNat (n : Int)) (IntKind.bits .i64) = n := by
  have : IntKind.bits .i64 = 64 := rfl
  rw [this]; omega
section
variable {w : World}
set_option maxHeartbeats 2000000 in
theorem spec.l2Next.c {k x lo : Nat} {a b : Int} {K : Int → World → Prop} (hk : k ≤ 32) (hx : x < 2 ^ 32) (hlo : lo < 2 ^ 32) (h : lo / 2 ^ k = x / 2 ^ k) (hK : ∀ w', Below w.heap.size w w' → K lo w') :
    CallT (.o (.lf (.i .i64))) P0 99 [.agg (Tup.cells (R 4 (.i .i64)) (rgk k x a b)).toArray, .int .i64 lo] w K := by
  refine spec.l2Next.ok ?_
  unfold spec.l2Next.vc
  have hm := M.start w
  refine nwM' hm fun w1 ar m1 => ?_
  have hp32 : ∀ q : Nat, q ≤ 32 → 2 ^ q ≤ 2 ^ 32 := fun q hq => Nat.pow_le_pow_right (by omega) hq
  refine ⟨fun best bit w' => ∃ nb : Nat, bit = nb ∧ nb ≤ 33 ∧ best = (if nb = 0 then (-1 : Int) else (lo : Int)) ∧ M w w' [(ar, rgk k x a b)], fun _ bit _ => 40 - bit.toNat, ⟨0, rfl, by omega, rfl, m1⟩, ?_⟩
  rintro best bit w2 ⟨nb, rfl, hnb, hbest, m2⟩ _
  clear m1 hm
  refine And.intro (fun hle => ?_) (fun hge => ?_)
  · simp only [decide_eq_true_eq] at hle
    have hnb2 : nb ≤ 32 := by omega
    refine ⟨fun b' w' => b' = (lo : Int) ∧ M w w' [(ar, rgk k x a b)], ?_, ?_⟩
    · refine ⟨Below w2.heap.size, belOk _, eqG 4294967295, keptEq, eqG ((2 ^ nb : Nat) : Int), keptEq, eqG ((2 ^ nb - 1 : Nat) : Int), keptEq, fun w3 hs => ?_, fun t14 => ⟨fun w3 hs => ⟨by omega, ?_⟩, fun t16 => ⟨fun w3 hs f16 => ?_, fun t18 w3 hs f14 f16 f18 => ?_⟩⟩⟩
      · exact spec.l2Top.c (gkE rfl (Below.refl _ _))
      · rw [shl_one (by omega)]; exact gkE rfl (Below.refl _ _)
      · cases f16
        have := Nat.two_pow_pos nb
        have := hp32 nb hnb2
        refine spec.l2Mask.p (n := nb) hnb2 ?_ (gkE rfl (Below.refl _ _))
        rw [i64_of (by omega) (by omega)]; omega
      · cases f14; cases f16; cases f18
        have m3 := m2.below hs
        clear m2
        refine ⟨fun z w' => M w w' [(ar, rgk k x a b)] ∧ ((nb = 0 ∧ z = (lo : Int)) ∨ (1 ≤ nb ∧ lo.testBit (nb - 1) = false ∧ z = ((cutN nb lo ||| 2 ^ (nb - 1) : Nat) : Int))), And.intro (fun hpos => ?_) (fun hpos => ?_), ?_⟩
        · simp only [decide_eq_true_eq] at hpos
          have e1 : IntKind.wrap .i64 ((nb : Int) - 1) = ((nb - 1 : Nat) : Int) := by rw [i64_of (by omega) (by omega)]; omega
          rw [e1, min_bits (by omega), bit_one hlo]
          refine ⟨by omega, fun hb => ⟨?_, m3⟩, fun hb => ⟨by omega, m3, .inr ⟨by omega, hb, ?_⟩⟩⟩
          · rw [hbest, if_neg (by omega)]
          · have e2 := shl_one (n := nb - 1) (by omega)
            rw [min_bits (by omega)] at e2
            rw [iAnd_top hnb2 hlo, e2]
            have c := cutN_le nb lo
            have := hp32 (nb - 1) (by omega)
            exact iOr_nat (by omega) (by omega)
        · simp only [decide_eq_false_iff_not] at hpos
          have : nb = 0 := by omega
          subst this
          refine ⟨m3, .inl ⟨rfl, ?_⟩⟩
          rw [iAnd_top (by omega) hlo]
          simp [cutN]
        · rintro z w4 ⟨m4, hz⟩ _
          have over : ∀ {w5 w' : World}, Below w5.heap.size w5 w' → CallT (.o (.lf (.i .i64))) P0 117 [.int .i64 nb] w' fun y w'' => y = iXor .i64 4294967295 ((2 ^ (nb - 1) - 1 : Nat) : Int) ∧ Below w5.heap.size w5 w'' :=
            fun hw' => spec.l2Over.c (by omega) fun w'' hb => ⟨rfl, hw'.trans (hb.mono hw'.size)⟩
          have hcx : cutN k x < 2 ^ 32 := Nat.lt_of_le_of_lt (cutN_le k x) hx
          have hcl : cutN k lo = cutN k x := cut_eq h
          refine qcl' (r := .o (.lf (.i .i64))) (4294967295 : Int) (fun w K' h => spec.l2Top.c h) ?_
          refine qldM m4 (by with_unfolding_all (repeat (first | exact List.mem_cons_self | refine List.mem_cons_of_mem _ ?_))) (by with_unfolding_all rfl) ?_
          refine qcl (r := .o (.lf (.i .i64))) _ (fun w' hw' => over hw') ?_
          refine qldM m4 (by with_unfolding_all (repeat (first | exact List.mem_cons_self | refine List.mem_cons_of_mem _ ?_))) (by with_unfolding_all rfl) ?_
          refine qcl (r := .o (.lf (.i .i64))) _ (fun w' hw' => over hw') ?_
          intro w5 hb5
          have m5 := m4.below hb5
          clear m4
          rcases hz with ⟨rfl, rfl⟩ | ⟨h1, hbit, rfl⟩
          · have e1 : iAnd .i64 (iAnd .i64 (lo : Int) (iXor .i64 4294967295 ((2 ^ k - 1 : Nat) : Int))) (iXor .i64 4294967295 ((2 ^ (0 - 1) - 1 : Nat) : Int)) = ((cutN k x : Nat) : Int) := by
              rw [iAnd_top hk hlo, hcl, iAnd_top (j := 0 - 1) (by omega) hcx]
              simp [cutN]
            have e2 : iAnd .i64 ((cutN k x : Nat) : Int) (iXor .i64 4294967295 ((2 ^ (0 - 1) - 1 : Nat) : Int)) = ((cutN k x : Nat) : Int) := by
              rw [iAnd_top (j := 0 - 1) (by omega) hcx]
              simp [cutN]
            refine And.intro (fun hc => ?_) (fun _ => ?_)
            · have hc' : (iAnd .i64 (iAnd .i64 (lo : Int) (iXor .i64 4294967295 ((2 ^ k - 1 : Nat) : Int))) (iXor .i64 4294967295 ((2 ^ (0 - 1) - 1 : Nat) : Int)) != iAnd .i64 ((cutN k x : Nat) : Int) (iXor .i64 4294967295 ((2 ^ (0 - 1) - 1 : Nat) : Int))) = true := hc
              rw [e1, e2] at hc'
              simp at hc'
            · refine qcl (r := .o (.lf (.i .i64))) _ (fun w' hw' => over hw') ?_
              refine qldM m5 (by with_unfolding_all (repeat (first | exact List.mem_cons_self | refine List.mem_cons_of_mem _ ?_))) (by with_unfolding_all rfl) ?_
              refine qcl' (r := .o (.lf (.i .i64))) (4294967295 : Int) (fun w K' h => spec.l2Top.c h) ?_
              refine qcl (r := .o (.lf (.i .i64))) _ (fun w' hw' => over hw') ?_
              intro w6 hb6
              have m6 := m5.below hb6
              refine And.intro (fun _ => ⟨?_, m6⟩) (fun hc => ?_)
              · have e3 : iXor .i64 4294967295 (iXor .i64 4294967295 ((2 ^ (0 - 1) - 1 : Nat) : Int)) = 0 := by decide
                show iOr .i64 (iAnd .i64 (lo : Int) (iXor .i64 4294967295 ((2 ^ (0 - 1) - 1 : Nat) : Int))) (iAnd .i64 ((cutN k x : Nat) : Int) (iXor .i64 4294967295 (iXor .i64 4294967295 ((2 ^ (0 - 1) - 1 : Nat) : Int)))) = (lo : Int)
                rw [e3, iAnd_top (j := 0 - 1) (by omega) hlo]
                have e4 := iAnd_nat (a := cutN k x) (b := 0) (by omega) (by omega)
                rw [show (0 : Int) = ((0 : Nat) : Int) from rfl, e4, Nat.and_zero]
                have e5 := iOr_nat (a := cutN (0 - 1) lo) (b := 0) (by simp [cutN]; omega) (by omega)
                rw [e5]
                simp [cutN]
              · exfalso
                have hb2 : best = -1 := hbest
                subst hb2
                simp at hc
          · have hb2 : best = (lo : Int) := by rw [hbest, if_neg (by omega)]
            subst hb2
            obtain ⟨j, rfl⟩ : ∃ j, nb = j + 1 := ⟨nb - 1, by omega⟩
            simp only [Nat.add_sub_cancel] at hbit over ⊢
            have hX : cutN (j + 1) lo ||| 2 ^ j < 2 ^ 32 := Nat.or_lt_two_pow (Nat.lt_of_le_of_lt (cutN_le _ _) hlo) (Nat.pow_lt_pow_right (by omega) (by omega))
            have hgt := next_gt hbit
            refine And.intro (fun _ => ⟨trivial, m5⟩) (fun _ => ?_)
            refine qcl (r := .o (.lf (.i .i64))) _ (fun w' hw' => over hw') ?_
            refine qldM m5 (by with_unfolding_all (repeat (first | exact List.mem_cons_self | refine List.mem_cons_of_mem _ ?_))) (by with_unfolding_all rfl) ?_
            refine qcl' (r := .o (.lf (.i .i64))) (4294967295 : Int) (fun w K' h => spec.l2Top.c h) ?_
            refine qcl (r := .o (.lf (.i .i64))) _ (fun w' hw' => over hw') ?_
            intro w6 hb6
            have m6 := m5.below hb6
            refine And.intro (fun hc => ?_) (fun _ => And.intro (fun hc => ?_) (fun _ => ⟨trivial, m6⟩))
            · simp at hc; omega
            · exfalso
              have hp := hp32 j (by omega)
              have e0 := iXor_top (j := j) (by omega)
              have h4 : 4294967295 ^^^ (2 ^ j - 1) < 2 ^ 32 := Nat.xor_lt_two_pow (by omega) (by omega)
              have e1 := iXor_nat (a := 4294967295) (b := 4294967295 ^^^ (2 ^ j - 1)) (by omega) (by omega)
              have h5 : 4294967295 ^^^ (4294967295 ^^^ (2 ^ j - 1)) < 2 ^ 32 := Nat.xor_lt_two_pow (by omega) h4
              have e2 := iAnd_nat (a := cutN k x) (b := 4294967295 ^^^ (4294967295 ^^^ (2 ^ j - 1))) (by omega) (by omega)
              have h6 : (cutN k x &&& (4294967295 ^^^ (4294967295 ^^^ (2 ^ j - 1)))) ≤ cutN k x := Nat.and_le_left
              have hc' : decide (iOr .i64 (iAnd .i64 ((cutN (j + 1) lo ||| 2 ^ j : Nat) : Int) (iXor .i64 4294967295 ((2 ^ j - 1 : Nat) : Int))) (iAnd .i64 ((cutN k x : Nat) : Int) (iXor .i64 4294967295 (iXor .i64 4294967295 ((2 ^ j - 1 : Nat) : Int)))) < (lo : Int)) = true := hc
              rw [iAnd_top (by omega) hX, next_cut, e0, show (4294967295 : Int) = ((4294967295 : Nat) : Int) from rfl, e1, e2, iOr_nat (by omega) (by omega)] at hc'
              simp only [decide_eq_true_eq] at hc'
              have h7 : (cutN (j + 1) lo ||| 2 ^ j) ≤ (cutN (j + 1) lo ||| 2 ^ j) ||| (cutN k x &&& (4294967295 ^^^ (4294967295 ^^^ (2 ^ j - 1)))) := Nat.left_le_or
              omega
    · rintro b' w3 ⟨rfl, m3⟩ _
      refine ⟨⟨nb + 1, by rw [i64_of (by omega) (by omega)]; omega, by omega, by simp, m3⟩, ?_⟩
      rw [i64_of (by omega) (by omega)]; simp only; omega
  · simp only [decide_eq_false_iff_not] at hge
    have : nb = 33 := by omega
    subst this
    have hb2 : best = (lo : Int) := hbest
    subst hb2
    exact hK _ m2.low
end
end Go.Proofs.Ytdlnoabihfnmmaa.V

/- Contracts: a range and a number, in the reference. -/
namespace Go.Proofs.Ytdlnoabihfnmmaa.V
open Go Go.RowKit
set_option linter.unusedVariables false
set_option linter.unusedSimpArgs false
section
variable {w : World}
theorem spec.l2Some.c {k x lo : Nat} {hi : Int} {K : Bool → World → Prop} (hk : k ≤ 32) (hx : x < 2 ^ 32) (hlo : lo < 2 ^ 32) (h : lo / 2 ^ k = x / 2 ^ k) (hK : ∀ w', Below w.heap.size w w' → K (decide ((lo : Int) ≤ hi)) w') :
    CallT (.o (.lf .b)) P0 89 [.agg (Tup.cells (R 4 (.i .i64)) (rgk k x lo hi)).toArray] w K := by
  refine spec.l2Some.ok ?_
  unfold spec.l2Some.vc
  have hm := M.start w
  refine nwM' hm fun w1 b m1 => ldAM m1 (by with_unfolding_all (repeat (first | exact List.mem_cons_self | refine List.mem_cons_of_mem _ ?_))) (ldM m1 (by with_unfolding_all (repeat (first | exact List.mem_cons_self | refine List.mem_cons_of_mem _ ?_))) (by with_unfolding_all rfl) ?_)
  refine spec.l2Next.c hk hx hlo h fun w2 hb2 => ?_
  have m2 := m1.below hb2
  refine And.intro (fun _ => ?_) (fun hc => ?_)
  · exact ldM m2 (by with_unfolding_all (repeat (first | exact List.mem_cons_self | refine List.mem_cons_of_mem _ ?_))) (by with_unfolding_all rfl) (hK _ m2.low)
  · simp at hc
theorem spec.l2Ends.c {K : T4 → World → Prop} (hK : ∀ w', Below w.heap.size w w' → K (ivl 0 255) w') : CallT (.o (.ag (R 4 (.i .i64)))) P0 24 [.int .i64 0, .int .i64 255] w K := by
  refine spec.l2Ends.ok ?_
  unfold spec.l2Ends.vc
  have hm := M.start w
  refine nwZ hm fun w1 b m1 => spec.l2Top.c ?_
  refine spec.l2Tidy.c (k := 32) (x := 0) (lo := 0) (hi := 255) (by omega) (by omega) (by omega) rfl (by decide) fun w2 hb => ?_
  have m2 := m1.below hb
  clear m1
  repeat' (first | (with_reducible refine ldM (by assumption) (by with_unfolding_all (repeat (first | exact List.mem_cons_self | refine List.mem_cons_of_mem _ ?_))) (by with_unfolding_all rfl) ?_) | (with_reducible refine ldAM (by assumption) (by with_unfolding_all (repeat (first | exact List.mem_cons_self | refine List.mem_cons_of_mem _ ?_))) ?_) | (with_reducible refine nwZ (by assumption) fun _ _ _ => ?_) | (with_reducible refine nwM' (by assumption) fun _ _ _ => ?_) | (with_reducible refine stM0 (by assumption) (by with_unfolding_all (repeat (first | exact Up.head _ _ _ _ | apply Up.tail))) fun _ _ => ?_) | (with_reducible refine stM1 (by assumption) (by with_unfolding_all (repeat (first | exact Up.head _ _ _ _ | apply Up.tail))) fun _ _ => ?_) | (with_reducible refine stM2 (by assumption) (by with_unfolding_all (repeat (first | exact Up.head _ _ _ _ | apply Up.tail))) fun _ _ => ?_) | (with_reducible refine stM3 (by assumption) (by with_unfolding_all (repeat (first | exact Up.head _ _ _ _ | apply Up.tail))) fun _ _ => ?_) | (with_reducible refine stAM' (by assumption) (by with_unfolding_all (repeat (first | exact Up.head _ _ _ _ | apply Up.tail))) fun _ _ => ?_) | (with_reducible refine stAL (by assumption) (by with_unfolding_all (repeat (first | exact Up.head _ _ _ _ | apply Up.tail))) fun _ _ => ?_) | (with_reducible refine And.intro (fun _ => ?_) (fun _ => ?_)) | (refine stAM' (by assumption) (by with_unfolding_all (repeat (first | exact Up.head _ _ _ _ | apply Up.tail))) fun _ _ => ?_))
  rename_i m3
  exact hK _ m3.low
/-- A range without a number, in the reference. -/
theorem spec.l2But.c {k lo hi n : Nat} {K : T4 × Bool × Unit → World → Prop} (hk : k ≤ 32) (hle : lo ≤ hi) (hhi : hi < 2 ^ 31) (h1 : lo / 2 ^ k = hi / 2 ^ k)
    (hK : ∀ w', Below w.heap.size w w' → K (if lo = n ∧ hi = n then ((1, 0, 0, 0, ()), false, ()) else (ivl (if lo = n then n + 1 else lo) (if hi = n then n - 1 else hi), true, ())) w') :
    CallT (.n [(.ag (R 4 (.i .i64))), (.lf .b)]) P0 90 [.agg (Tup.cells (R 4 (.i .i64)) (rgk k lo lo hi)).toArray, .int .i64 n] w K := by
  refine spec.l2But.ok ?_
  unfold spec.l2But.vc
  have hm := M.start w
  refine nwM' hm fun w1 ba m1 => nwZ m1 fun w2 bt m2 => ?_
  clear hm m1
  refine ⟨fun w' => M w w' [(bt, ((0, 0, 0, 0, ()) : T4)), (ba, rgk k lo ((if lo = n then n + 1 else lo : Nat) : Int) hi)], ?_, fun w4 m4 _ => ?_⟩
  · refine ldM m2 (by with_unfolding_all (repeat (first | exact List.mem_cons_self | refine List.mem_cons_of_mem _ ?_))) (by with_unfolding_all rfl) (And.intro (fun hq => ?_) (fun hq => ?_))
    · have hq' : ((lo : Int) == (n : Int)) = true := hq
      simp only [beq_iff_eq] at hq'
      have e : lo = n := by omega
      have e2 : IntKind.wrap .i64 ((n : Int) + 1) = ((n + 1 : Nat) : Int) := by rw [i64_of (by omega) (by omega)]; omega
      rw [if_pos e, e2]
      exact stM0 m2 (by with_unfolding_all (repeat (first | exact Up.head _ _ _ _ | apply Up.tail))) fun w3 m3 => m3
    · have hq' : ((lo : Int) == (n : Int)) = false := hq
      simp only [beq_eq_false_iff_ne, ne_eq] at hq'
      rw [if_neg (by omega)]
      exact m2
  · clear m2
    generalize hL : (if lo = n then n + 1 else lo) = L at *
    have hLlo : lo ≤ L := by rw [← hL]; split <;> omega
    have hLhi : L ≤ hi + 1 := by rw [← hL]; split <;> omega
    have hpos : ∀ q : Nat, L ≤ q → q ≤ hi → L / 2 ^ k = lo / 2 ^ k ∧ q / 2 ^ k = lo / 2 ^ k := fun q hq hq2 => part_div h1 hLlo hq hq2
    refine ⟨fun w' => M w w' [(bt, ((0, 0, 0, 0, ()) : T4)), (ba, rgk k lo (L : Int) (if hi = n then (hi : Int) - 1 else hi))], ?_, fun w7 m7 _ => ?_⟩
    · refine ldM m4 (by with_unfolding_all (repeat (first | exact List.mem_cons_self | refine List.mem_cons_of_mem _ ?_))) (by with_unfolding_all rfl) (And.intro (fun hq => ?_) (fun hq => ?_))
      · have hq' : ((hi : Int) == (n : Int)) = true := hq
        simp only [beq_iff_eq] at hq'
        have e : hi = n := by omega
        have e2 : IntKind.wrap .i64 ((n : Int) - 1) = (hi : Int) - 1 := by rw [i64_of (by omega) (by omega)]; omega
        rw [if_pos e, e2]
        exact stM1 m4 (by with_unfolding_all (repeat (first | exact Up.head _ _ _ _ | apply Up.tail))) fun w3 m3 => m3
      · have hq' : ((hi : Int) == (n : Int)) = false := hq
        simp only [beq_eq_false_iff_ne, ne_eq] at hq'
        rw [if_neg (by omega)]
        exact m4
    · clear m4
      refine ldM m7 (by with_unfolding_all (repeat (first | exact List.mem_cons_self | refine List.mem_cons_of_mem _ ?_))) (by with_unfolding_all rfl) (ldM m7 (by with_unfolding_all (repeat (first | exact List.mem_cons_self | refine List.mem_cons_of_mem _ ?_))) (by with_unfolding_all rfl) (And.intro (fun hc => ?_) (fun hc => ?_)))
      · have hc' : (L : Int) > (if hi = n then (hi : Int) - 1 else hi) := of_decide_eq_true hc
        repeat' (first | (with_reducible refine ldM (by assumption) (by with_unfolding_all (repeat (first | exact List.mem_cons_self | refine List.mem_cons_of_mem _ ?_))) (by with_unfolding_all rfl) ?_) | (with_reducible refine ldAM (by assumption) (by with_unfolding_all (repeat (first | exact List.mem_cons_self | refine List.mem_cons_of_mem _ ?_))) ?_) | (with_reducible refine nwZ (by assumption) fun _ _ _ => ?_) | (with_reducible refine nwM' (by assumption) fun _ _ _ => ?_) | (with_reducible refine stM0 (by assumption) (by with_unfolding_all (repeat (first | exact Up.head _ _ _ _ | apply Up.tail))) fun _ _ => ?_) | (with_reducible refine stM1 (by assumption) (by with_unfolding_all (repeat (first | exact Up.head _ _ _ _ | apply Up.tail))) fun _ _ => ?_) | (with_reducible refine stM2 (by assumption) (by with_unfolding_all (repeat (first | exact Up.head _ _ _ _ | apply Up.tail))) fun _ _ => ?_) | (with_reducible refine stM3 (by assumption) (by with_unfolding_all (repeat (first | exact Up.head _ _ _ _ | apply Up.tail))) fun _ _ => ?_) | (with_reducible refine stAM' (by assumption) (by with_unfolding_all (repeat (first | exact Up.head _ _ _ _ | apply Up.tail))) fun _ _ => ?_) | (with_reducible refine stAL (by assumption) (by with_unfolding_all (repeat (first | exact Up.head _ _ _ _ | apply Up.tail))) fun _ _ => ?_) | (with_reducible refine And.intro (fun _ => ?_) (fun _ => ?_)) | (refine stAM' (by assumption) (by with_unfolding_all (repeat (first | exact Up.head _ _ _ _ | apply Up.tail))) fun _ _ => ?_))
        rename_i m8
        refine kof (hK _ m8.low) (if_pos ?_)
        split at hc'
        · rename_i e
          refine ⟨?_, e⟩
          by_cases h : lo = n
          · exact h
          · rw [if_neg h] at hL; omega
        · rename_i e
          have : L = hi + 1 := by omega
          by_cases h : lo = n
          · rw [if_pos h] at hL; omega
          · rw [if_neg h] at hL; omega
      · have hc' : (L : Int) ≤ (if hi = n then (hi : Int) - 1 else hi) := by
          have : ¬ ((L : Int) > (if hi = n then (hi : Int) - 1 else hi)) := of_decide_eq_false hc
          omega
        obtain ⟨q, hq⟩ : ∃ q : Nat, (if hi = n then (hi : Int) - 1 else (hi : Int)) = (q : Int) := ⟨(if hi = n then (hi : Int) - 1 else (hi : Int)).toNat, by omega⟩
        have hqhi : q ≤ hi := by split at hq <;> omega
        have hqe : (if hi = n then n - 1 else hi) = q := by split at hq <;> rename_i e <;> simp [e] <;> omega
        rw [hq] at m7 hc'
        have hLq : L ≤ q := by omega
        have hp := hpos q hLq hqhi
        refine ldAM m7 (by with_unfolding_all (repeat (first | exact List.mem_cons_self | refine List.mem_cons_of_mem _ ?_))) ?_
        refine spec.l2Some.c (k := k) (x := lo) (lo := L) (hi := (q : Int)) hk (by omega) (by omega) hp.1 fun w8 hb8 => ?_
        have m8 := m7.below hb8
        refine And.intro (fun hd => ?_) (fun _ => ?_)
        · simp at hd; omega
        · refine ldAM m8 (by with_unfolding_all (repeat (first | exact List.mem_cons_self | refine List.mem_cons_of_mem _ ?_))) ?_
          refine spec.l2Tidy.c (k := k) (x := lo) (lo := L) (hi := q) hk hLq (by omega) hp.1 hp.2 fun w9 hb9 => ?_
          have m9 := m8.below hb9
          clear m7 m8
          repeat' (first | (with_reducible refine ldM (by assumption) (by with_unfolding_all (repeat (first | exact List.mem_cons_self | refine List.mem_cons_of_mem _ ?_))) (by with_unfolding_all rfl) ?_) | (with_reducible refine ldAM (by assumption) (by with_unfolding_all (repeat (first | exact List.mem_cons_self | refine List.mem_cons_of_mem _ ?_))) ?_) | (with_reducible refine nwZ (by assumption) fun _ _ _ => ?_) | (with_reducible refine nwM' (by assumption) fun _ _ _ => ?_) | (with_reducible refine stM0 (by assumption) (by with_unfolding_all (repeat (first | exact Up.head _ _ _ _ | apply Up.tail))) fun _ _ => ?_) | (with_reducible refine stM1 (by assumption) (by with_unfolding_all (repeat (first | exact Up.head _ _ _ _ | apply Up.tail))) fun _ _ => ?_) | (with_reducible refine stM2 (by assumption) (by with_unfolding_all (repeat (first | exact Up.head _ _ _ _ | apply Up.tail))) fun _ _ => ?_) | (with_reducible refine stM3 (by assumption) (by with_unfolding_all (repeat (first | exact Up.head _ _ _ _ | apply Up.tail))) fun _ _ => ?_) | (with_reducible refine stAM' (by assumption) (by with_unfolding_all (repeat (first | exact Up.head _ _ _ _ | apply Up.tail))) fun _ _ => ?_) | (with_reducible refine stAL (by assumption) (by with_unfolding_all (repeat (first | exact Up.head _ _ _ _ | apply Up.tail))) fun _ _ => ?_) | (with_reducible refine And.intro (fun _ => ?_) (fun _ => ?_)) | (refine stAM' (by assumption) (by with_unfolding_all (repeat (first | exact Up.head _ _ _ _ | apply Up.tail))) fun _ _ => ?_))
          rename_i m10
          refine kof (hK _ m10.low) ?_
          rw [if_neg (fun h => by rw [if_pos h.1] at hL; rw [if_pos h.2] at hq; omega), hqe]
theorem spec.l2Apart.c {lo hi n : Nat} {K : T4 × Bool × Unit → World → Prop} (hle : lo ≤ hi) (hhi : hi < 2 ^ 31)
    (hK : ∀ w', Below w.heap.size w w' → K (if lo = n ∧ hi = n then (nR, false, ()) else (ivl (if lo = n then n + 1 else lo) (if hi = n then n - 1 else hi), true, ())) w') :
    CallT (.n [(.ag (R 4 (.i .i64))), (.lf .b)]) P0 70 [.agg (Tup.cells (R 4 (.i .i64)) (ivl lo hi)).toArray, .agg (Tup.cells (R 4 (.i .i64)) (ivl n n)).toArray] w K := by
  refine spec.l2Apart.ok ?_
  unfold spec.l2Apart.vc
  have hm := M.start w
  refine nwM' hm fun w1 ba m1 => nwM' m1 fun w2 bb m2 => nwZ m2 fun w3 bt m3 => ?_
  clear hm m1 m2
  refine ldM m3 (by with_unfolding_all (repeat (first | exact List.mem_cons_self | refine List.mem_cons_of_mem _ ?_))) (by with_unfolding_all rfl) (ldM m3 (by with_unfolding_all (repeat (first | exact List.mem_cons_self | refine List.mem_cons_of_mem _ ?_))) (by with_unfolding_all rfl) (And.intro (fun _ => ?_) (fun hc => ?_)))
  · refine ldAM m3 (by with_unfolding_all (repeat (first | exact List.mem_cons_self | refine List.mem_cons_of_mem _ ?_))) (ldM m3 (by with_unfolding_all (repeat (first | exact List.mem_cons_self | refine List.mem_cons_of_mem _ ?_))) (by with_unfolding_all rfl) ?_)
    refine spec.l2But.c (k := kk lo hi) (lo := lo) (hi := hi) (n := n) (kk_le (by omega) (by omega)) hle hhi (kk_same (by omega) (by omega)) fun w4 hb4 => ?_
    have m4 := m3.below hb4
    clear m3
    by_cases h : lo = n ∧ hi = n
    · rw [if_pos h] at hK ⊢
      repeat' (first | (with_reducible refine ldM (by assumption) (by with_unfolding_all (repeat (first | exact List.mem_cons_self | refine List.mem_cons_of_mem _ ?_))) (by with_unfolding_all rfl) ?_) | (with_reducible refine ldAM (by assumption) (by with_unfolding_all (repeat (first | exact List.mem_cons_self | refine List.mem_cons_of_mem _ ?_))) ?_) | (with_reducible refine nwZ (by assumption) fun _ _ _ => ?_) | (with_reducible refine nwM' (by assumption) fun _ _ _ => ?_) | (with_reducible refine stM0 (by assumption) (by with_unfolding_all (repeat (first | exact Up.head _ _ _ _ | apply Up.tail))) fun _ _ => ?_) | (with_reducible refine stM1 (by assumption) (by with_unfolding_all (repeat (first | exact Up.head _ _ _ _ | apply Up.tail))) fun _ _ => ?_) | (with_reducible refine stM2 (by assumption) (by with_unfolding_all (repeat (first | exact Up.head _ _ _ _ | apply Up.tail))) fun _ _ => ?_) | (with_reducible refine stM3 (by assumption) (by with_unfolding_all (repeat (first | exact Up.head _ _ _ _ | apply Up.tail))) fun _ _ => ?_) | (with_reducible refine stAM' (by assumption) (by with_unfolding_all (repeat (first | exact Up.head _ _ _ _ | apply Up.tail))) fun _ _ => ?_) | (with_reducible refine stAL (by assumption) (by with_unfolding_all (repeat (first | exact Up.head _ _ _ _ | apply Up.tail))) fun _ _ => ?_) | (with_reducible refine And.intro (fun _ => ?_) (fun _ => ?_)) | (refine stAM' (by assumption) (by with_unfolding_all (repeat (first | exact Up.head _ _ _ _ | apply Up.tail))) fun _ _ => ?_))
      rename_i m5
      exact hK _ m5.low
    · rw [if_neg h] at hK ⊢
      repeat' (first | (with_reducible refine ldM (by assumption) (by with_unfolding_all (repeat (first | exact List.mem_cons_self | refine List.mem_cons_of_mem _ ?_))) (by with_unfolding_all rfl) ?_) | (with_reducible refine ldAM (by assumption) (by with_unfolding_all (repeat (first | exact List.mem_cons_self | refine List.mem_cons_of_mem _ ?_))) ?_) | (with_reducible refine nwZ (by assumption) fun _ _ _ => ?_) | (with_reducible refine nwM' (by assumption) fun _ _ _ => ?_) | (with_reducible refine stM0 (by assumption) (by with_unfolding_all (repeat (first | exact Up.head _ _ _ _ | apply Up.tail))) fun _ _ => ?_) | (with_reducible refine stM1 (by assumption) (by with_unfolding_all (repeat (first | exact Up.head _ _ _ _ | apply Up.tail))) fun _ _ => ?_) | (with_reducible refine stM2 (by assumption) (by with_unfolding_all (repeat (first | exact Up.head _ _ _ _ | apply Up.tail))) fun _ _ => ?_) | (with_reducible refine stM3 (by assumption) (by with_unfolding_all (repeat (first | exact Up.head _ _ _ _ | apply Up.tail))) fun _ _ => ?_) | (with_reducible refine stAM' (by assumption) (by with_unfolding_all (repeat (first | exact Up.head _ _ _ _ | apply Up.tail))) fun _ _ => ?_) | (with_reducible refine stAL (by assumption) (by with_unfolding_all (repeat (first | exact Up.head _ _ _ _ | apply Up.tail))) fun _ _ => ?_) | (with_reducible refine And.intro (fun _ => ?_) (fun _ => ?_)) | (refine stAM' (by assumption) (by with_unfolding_all (repeat (first | exact Up.head _ _ _ _ | apply Up.tail))) fun _ _ => ?_))
      rename_i m5
      exact hK _ m5.low
  · have hc' : ((n : Int) == (n : Int)) = false := hc
    simp at hc'
/-- A number without a range that is more. -/
theorem spec.l2Apart.n {r o : T4} {K : T4 × Bool × Unit → World → Prop} (hne : o.1 ≠ o.2.1) (hK : ∀ w', Below w.heap.size w w' → K (r, true, ()) w') :
    CallT (.n [(.ag (R 4 (.i .i64))), (.lf .b)]) P0 70 [.agg (Tup.cells (R 4 (.i .i64)) r).toArray, .agg (Tup.cells (R 4 (.i .i64)) o).toArray] w K := by
  refine spec.l2Apart.ok ?_
  unfold spec.l2Apart.vc
  have hm := M.start w
  repeat' (first | (with_reducible refine ldM (by assumption) (by with_unfolding_all (repeat (first | exact List.mem_cons_self | refine List.mem_cons_of_mem _ ?_))) (by with_unfolding_all rfl) ?_) | (with_reducible refine ldAM (by assumption) (by with_unfolding_all (repeat (first | exact List.mem_cons_self | refine List.mem_cons_of_mem _ ?_))) ?_) | (with_reducible refine nwZ (by assumption) fun _ _ _ => ?_) | (with_reducible refine nwM' (by assumption) fun _ _ _ => ?_) | (with_reducible refine stM0 (by assumption) (by with_unfolding_all (repeat (first | exact Up.head _ _ _ _ | apply Up.tail))) fun _ _ => ?_) | (with_reducible refine stM1 (by assumption) (by with_unfolding_all (repeat (first | exact Up.head _ _ _ _ | apply Up.tail))) fun _ _ => ?_) | (with_reducible refine stM2 (by assumption) (by with_unfolding_all (repeat (first | exact Up.head _ _ _ _ | apply Up.tail))) fun _ _ => ?_) | (with_reducible refine stM3 (by assumption) (by with_unfolding_all (repeat (first | exact Up.head _ _ _ _ | apply Up.tail))) fun _ _ => ?_) | (with_reducible refine stAM' (by assumption) (by with_unfolding_all (repeat (first | exact Up.head _ _ _ _ | apply Up.tail))) fun _ _ => ?_) | (with_reducible refine stAL (by assumption) (by with_unfolding_all (repeat (first | exact Up.head _ _ _ _ | apply Up.tail))) fun _ _ => ?_) | (with_reducible refine And.intro (fun _ => ?_) (fun _ => ?_)) | (refine stAM' (by assumption) (by with_unfolding_all (repeat (first | exact Up.head _ _ _ _ | apply Up.tail))) fun _ _ => ?_))
  · rename_i hc; simp at hc; exact absurd hc hne
  · rename_i m; exact hK _ m.low
end
end Go.Proofs.Ytdlnoabihfnmmaa.V
