/- Texts of one proof, put together in build order by pack.py (the last one states what is proved). -/
import Derived.Test.YtihllippchgkgaaGreatJ3
/- Contracts: what tidies a range. -/
namespace Go.Proofs.YtihllippchgkgaaGreat.V
open Go Go.RowKit
set_option linter.unusedVariables false
set_option linter.unusedSimpArgs false
theorem bitsLen.c {w : World} {x : Nat} {v : Int} {K : Int → World → Prop} (hx : x < 2 ^ 63) (hv : v = (x : Int)) (hk : K (Lib.bitLen x) w) : CallT (.o (.lf (.i .i64))) P0 89 [.int .u64 v] w K := by
  subst hv
  refine Calls.mono (Tryz.bits_Len x w (by omega) (by omega)) fun e w' h => ?_
  obtain ⟨rfl, rfl⟩ := h
  exact ⟨(Lib.bitLen x : Int), rfl, by simpa using hk⟩
section
variable {w0 w w1 : World} {l r : List (Nat × T4)} {b : Nat} {x : T4} {v : Int}
theorem M.sps0 (hm : M w0 w l) (hd : Del l b x r) (hs : SpS w.heap.size b (v, x.2) w w1) : ∃ z : T4, z.2 = x.2 ∧ w1.heap[b]? = some (bx z) := by
  have hb := hm.box b x hd.mem
  rcases hs.box with e | e
  · exact ⟨x, rfl, e.trans hb.2.2⟩
  · exact ⟨(v, x.2), rfl, e⟩
theorem ldSps2 {K : Int → World → Prop} (hm : M w0 w l) (hd : Del l b x r) (hs : SpS w.heap.size b (v, x.2) w w1) (hk : K x.2.2.1 w1) : Ld (.i .i64) (Addr.add ⟨b, 0, none⟩ 2) w1 K := by
  obtain ⟨z, hz, hb⟩ := hm.sps0 hd hs
  exact ldB hb (x := x.2.2.1) (by rw [← hz]; rfl) hk
theorem ldSps3 {K : Int → World → Prop} (hm : M w0 w l) (hd : Del l b x r) (hs : SpS w.heap.size b (v, x.2) w w1) (hk : K x.2.2.2.1 w1) : Ld (.i .i64) (Addr.add ⟨b, 0, none⟩ 3) w1 K := by
  obtain ⟨z, hz, hb⟩ := hm.sps0 hd hs
  exact ldB hb (x := x.2.2.2.1) (by rw [← hz]; rfl) hk
end
/-- What a range is, tidied, if its ends share so many bits. -/
def tdO (o : Int) (low : Int) : Int := iAnd .i64 o low
def tdB (r : T4) (low : Int) : Int := iAndNot .i64 (iOr .i64 r.2.2.1 (iAndNot .i64 r.1 low)) (tdO r.2.2.2.1 low)
def tdF (r : T4) (low : Int) : T4 := (if tdB r low > r.1 then tdB r low else r.1, if iOr .i64 (tdB r low) (tdO r.2.2.2.1 low) < r.2.1 then iOr .i64 (tdB r low) (tdO r.2.2.2.1 low) else r.2.1, tdB r low, tdO r.2.2.2.1 low, ())
section
variable {w : World}
theorem impl.Range.tidy.g {r : T4} {x : Nat} {K : T4 → World → Prop} (hx : x < 2 ^ 32) (hr : iXor .i64 r.1 r.2.1 = (x : Int)) (hk : ∀ w', Below w.heap.size w w' → K (tdF r ((2 ^ Lib.bitLen x - 1 : Nat) : Int)) w') :
    CallT (.o (.ag (R 4 (.i .i64)))) P0 195 [.agg (Tup.cells (R 4 (.i .i64)) r).toArray] w K := by
  refine impl.Range.tidy.ok ?_
  unfold impl.Range.tidy.vc
  have hm := M.start w
  have hL : Lib.bitLen x ≤ 32 := (bl_spec x (by omega) 32).2 hx
  have hp : 2 ^ Lib.bitLen x ≤ 2 ^ 32 := Nat.pow_le_pow_right (by omega) hL
  have hlow : IntKind.wrap .i64 ((IntKind.wrap .i64 (1 * 2 ^ (min (Int.toNat (Lib.bitLen x : Int)) (IntKind.bits .i64)))) - 1) = ((2 ^ Lib.bitLen x - 1 : Nat) : Int) := by
    have h1 : min (Int.toNat (Lib.bitLen x : Int)) (IntKind.bits .i64) = Lib.bitLen x := by
      have : IntKind.bits .i64 = 64 := rfl
      rw [this]; omega
    have h2 : (1 * 2 ^ Lib.bitLen x : Int) = ((2 ^ Lib.bitLen x : Nat) : Int) := by simp
    have h3 := Nat.two_pow_pos (Lib.bitLen x)
    rw [h1, h2, i64_nat (by omega), show (((2 ^ Lib.bitLen x : Nat) : Int) - 1) = ((2 ^ Lib.bitLen x - 1 : Nat) : Int) by omega]
    exact i64_nat (by omega)
  repeat' (first | (with_reducible refine ldM (by assumption) (by with_unfolding_all (repeat (first | exact List.mem_cons_self | refine List.mem_cons_of_mem _ ?_))) (by with_unfolding_all rfl) ?_) | (with_reducible refine ldAM (by assumption) (by with_unfolding_all (repeat (first | exact List.mem_cons_self | refine List.mem_cons_of_mem _ ?_))) ?_) | (with_reducible refine nwZ (by assumption) fun _ _ _ => ?_) | (with_reducible refine nwM' (by assumption) fun _ _ _ => ?_) | (with_reducible refine stM0 (by assumption) (by with_unfolding_all (repeat (first | exact Up.head _ _ _ _ | apply Up.tail))) fun _ _ => ?_) | (with_reducible refine stM1 (by assumption) (by with_unfolding_all (repeat (first | exact Up.head _ _ _ _ | apply Up.tail))) fun _ _ => ?_) | (with_reducible refine stM2 (by assumption) (by with_unfolding_all (repeat (first | exact Up.head _ _ _ _ | apply Up.tail))) fun _ _ => ?_) | (with_reducible refine stM3 (by assumption) (by with_unfolding_all (repeat (first | exact Up.head _ _ _ _ | apply Up.tail))) fun _ _ => ?_) | (with_reducible refine stAM' (by assumption) (by with_unfolding_all (repeat (first | exact Up.head _ _ _ _ | apply Up.tail))) fun _ _ => ?_) | (with_reducible refine stAL (by assumption) (by with_unfolding_all (repeat (first | exact Up.head _ _ _ _ | apply Up.tail))) fun _ _ => ?_) | (with_reducible refine And.intro (fun _ => ?_) (fun _ => ?_)) | (refine stAM' (by assumption) (by with_unfolding_all (repeat (first | exact Up.head _ _ _ _ | apply Up.tail))) fun _ _ => ?_))
  refine bitsLen.c (x := x) (by omega) ?_ ?_
  · show IntKind.wrap .u64 (iXor .i64 r.1 r.2.1) = _
    rw [hr]
    exact IntWalk.u64_in x (by omega)
  refine ⟨by omega, ?_⟩
  rw [hlow]
  repeat' (first | (with_reducible refine ldM (by assumption) (by with_unfolding_all (repeat (first | exact List.mem_cons_self | refine List.mem_cons_of_mem _ ?_))) (by with_unfolding_all rfl) ?_) | (with_reducible refine ldAM (by assumption) (by with_unfolding_all (repeat (first | exact List.mem_cons_self | refine List.mem_cons_of_mem _ ?_))) ?_) | (with_reducible refine nwZ (by assumption) fun _ _ _ => ?_) | (with_reducible refine nwM' (by assumption) fun _ _ _ => ?_) | (with_reducible refine stM0 (by assumption) (by with_unfolding_all (repeat (first | exact Up.head _ _ _ _ | apply Up.tail))) fun _ _ => ?_) | (with_reducible refine stM1 (by assumption) (by with_unfolding_all (repeat (first | exact Up.head _ _ _ _ | apply Up.tail))) fun _ _ => ?_) | (with_reducible refine stM2 (by assumption) (by with_unfolding_all (repeat (first | exact Up.head _ _ _ _ | apply Up.tail))) fun _ _ => ?_) | (with_reducible refine stM3 (by assumption) (by with_unfolding_all (repeat (first | exact Up.head _ _ _ _ | apply Up.tail))) fun _ _ => ?_) | (with_reducible refine stAM' (by assumption) (by with_unfolding_all (repeat (first | exact Up.head _ _ _ _ | apply Up.tail))) fun _ _ => ?_) | (with_reducible refine stAL (by assumption) (by with_unfolding_all (repeat (first | exact Up.head _ _ _ _ | apply Up.tail))) fun _ _ => ?_) | (with_reducible refine And.intro (fun _ => ?_) (fun _ => ?_)) | (refine stAM' (by assumption) (by with_unfolding_all (repeat (first | exact Up.head _ _ _ _ | apply Up.tail))) fun _ _ => ?_))
  rename_i wa ba ma wb bb mb wc bc mc wd md we me
  clear ma mb mc md hlow
  generalize ((2 ^ Lib.bitLen x - 1 : Nat) : Int) = low at *
  replace me : M w we [(bc, ((0, 0, tdB r low, tdO r.2.2.2.1 low, ()) : T4)), (bb, ((0, 0, 0, 0, ()) : T4)), (ba, r)] := me
  have hd : Del [(bc, ((0, 0, tdB r low, tdO r.2.2.2.1 low, ()) : T4)), (bb, ((0, 0, 0, 0, ()) : T4)), (ba, r)] bc ((0, 0, tdB r low, tdO r.2.2.2.1 low, ()) : T4) [(bb, ((0, 0, 0, 0, ()) : T4)), (ba, r)] := Del.head _ _ _
  refine ⟨SpS we.heap.size bc (((tdF r low).1, 0, tdB r low, tdO r.2.2.2.1 low, ()) : T4), spsOk _ _ _, eqG r.1, keptEq, eqG (tdB r low), keptEq, eqG (tdF r low).1, keptEq, eqG r.2.1, keptEq, eqG (tdB r low), keptEq, eqG (tdO r.2.2.2.1 low), keptEq, eqG (tdF r low).2.1, keptEq, _, keptBx, ?_⟩
  refine ⟨fun w1 hs => ?_, fun t31 => ⟨fun w1 hs => ?_, fun t33 => ⟨fun w1 hs f31 f33 => ?_, fun t34 => ⟨fun w1 hs => ?_, fun t36 => ⟨fun w1 hs => ?_, fun t38 => ⟨fun w1 hs => ?_, fun t40 => ⟨fun w1 hs f36 f38 f40 => ?_, fun t42 => ⟨fun w1 hs f34 => ?_, fun st w1 hs f31 f33 f34 f36 f38 f40 f42 fs => ?_⟩⟩⟩⟩⟩⟩⟩⟩
  · have hm1 := me.sps hd hs
    exact ldM hm1 (by with_unfolding_all (repeat (first | exact List.mem_cons_self | refine List.mem_cons_of_mem _ ?_))) rfl (gkE rfl (SpS.refl _ _ _ _))
  · exact ldSps2 me hd hs (gkE rfl (SpS.refl _ _ _ _))
  · cases f31; cases f33
    exact gkE rfl (SpS.refl _ _ _ _)
  · have hm1 := me.sps hd hs
    exact ldM hm1 (by with_unfolding_all (repeat (first | exact List.mem_cons_self | refine List.mem_cons_of_mem _ ?_))) rfl (gkE rfl (SpS.refl _ _ _ _))
  · exact ldSps2 me hd hs (gkE rfl (SpS.refl _ _ _ _))
  · exact ldSps3 me hd hs (gkE rfl (SpS.refl _ _ _ _))
  · cases f36; cases f38; cases f40
    exact gkE rfl (SpS.refl _ _ _ _)
  · cases f34
    exact stSps0 me hd hs
  · cases f42
    have hm1 := me.spsB hd hs fs
    repeat' (first | (with_reducible refine ldM (by assumption) (by with_unfolding_all (repeat (first | exact List.mem_cons_self | refine List.mem_cons_of_mem _ ?_))) (by with_unfolding_all rfl) ?_) | (with_reducible refine ldAM (by assumption) (by with_unfolding_all (repeat (first | exact List.mem_cons_self | refine List.mem_cons_of_mem _ ?_))) ?_) | (with_reducible refine nwZ (by assumption) fun _ _ _ => ?_) | (with_reducible refine nwM' (by assumption) fun _ _ _ => ?_) | (with_reducible refine stM0 (by assumption) (by with_unfolding_all (repeat (first | exact Up.head _ _ _ _ | apply Up.tail))) fun _ _ => ?_) | (with_reducible refine stM1 (by assumption) (by with_unfolding_all (repeat (first | exact Up.head _ _ _ _ | apply Up.tail))) fun _ _ => ?_) | (with_reducible refine stM2 (by assumption) (by with_unfolding_all (repeat (first | exact Up.head _ _ _ _ | apply Up.tail))) fun _ _ => ?_) | (with_reducible refine stM3 (by assumption) (by with_unfolding_all (repeat (first | exact Up.head _ _ _ _ | apply Up.tail))) fun _ _ => ?_) | (with_reducible refine stAM' (by assumption) (by with_unfolding_all (repeat (first | exact Up.head _ _ _ _ | apply Up.tail))) fun _ _ => ?_) | (with_reducible refine stAL (by assumption) (by with_unfolding_all (repeat (first | exact Up.head _ _ _ _ | apply Up.tail))) fun _ _ => ?_) | (with_reducible refine And.intro (fun _ => ?_) (fun _ => ?_)) | (refine stAM' (by assumption) (by with_unfolding_all (repeat (first | exact Up.head _ _ _ _ | apply Up.tail))) fun _ _ => ?_))
    exact hk _ (by assumption : M w _ _).low
end
/-! ### the law -/
theorem tdF_rgk {k x lo hi : Nat} (hk : k ≤ 32) (hle : lo ≤ hi) (hhi : hi < 2 ^ 32) (h1 : lo / 2 ^ k = x / 2 ^ k) (h2 : hi / 2 ^ k = x / 2 ^ k) : tdF (rgk k x lo hi) ((2 ^ kk lo hi - 1 : Nat) : Int) = ivl lo hi := by
  have hj : kk lo hi ≤ k := kk_part (h1.trans h2.symm) (by omega) (by omega)
  have hs := kk_same (a := lo) (b := hi) (by omega) (by omega)
  unfold ivl
  generalize kk lo hi = j at *
  have hlt : ∀ q : Nat, q ≤ 32 → 2 ^ q - 1 < 2 ^ 63 := fun q hq => by
    have := Nat.pow_le_pow_right (n := 2) (by omega) hq
    omega
  have eO : tdO ((2 ^ k - 1 : Nat) : Int) ((2 ^ j - 1 : Nat) : Int) = ((2 ^ j - 1 : Nat) : Int) := by
    unfold tdO
    rw [iAnd_nat (hlt k hk) (hlt j (by omega)), mask_and hj]
  have c1 := cutN_le k x
  have c2 := cutN_le j lo
  have ce := cut_eq h1
  have c3 := cutN_le k lo
  have eB : tdB (rgk k x lo hi) ((2 ^ j - 1 : Nat) : Int) = ((cutN j lo : Nat) : Int) := by
    show iAndNot .i64 (iOr .i64 ((cutN k x : Nat) : Int) (iAndNot .i64 (lo : Int) ((2 ^ j - 1 : Nat) : Int))) (tdO ((2 ^ k - 1 : Nat) : Int) ((2 ^ j - 1 : Nat) : Int)) = _
    rw [eO, iAndNot_mask (by omega) (by omega), iOr_nat (by omega) (by omega), cut_or hj h1.symm, iAndNot_mask (by omega) (by omega), cut_cut]
  have eM : iOr .i64 ((cutN j lo : Nat) : Int) ((2 ^ j - 1 : Nat) : Int) = ((cutN j lo + (2 ^ j - 1) : Nat) : Int) := by
    rw [iOr_nat (by omega) (hlt j (by omega)), cut_mask]
  have c4 := cutN_lt j hi
  have c5 := cut_eq hs
  unfold tdF
  rw [eB]
  show ((if ((cutN j lo : Nat) : Int) > (lo : Int) then ((cutN j lo : Nat) : Int) else (lo : Int)), (if iOr .i64 ((cutN j lo : Nat) : Int) (tdO ((2 ^ k - 1 : Nat) : Int) ((2 ^ j - 1 : Nat) : Int)) < (hi : Int) then iOr .i64 ((cutN j lo : Nat) : Int) (tdO ((2 ^ k - 1 : Nat) : Int) ((2 ^ j - 1 : Nat) : Int)) else (hi : Int)), ((cutN j lo : Nat) : Int), tdO ((2 ^ k - 1 : Nat) : Int) ((2 ^ j - 1 : Nat) : Int), ()) = ((lo : Int), (hi : Int), ((cutN j lo : Nat) : Int), ((2 ^ j - 1 : Nat) : Int), ())
  rw [eO, eM, if_neg (by omega), if_neg (by omega)]
section
variable {w : World}
/-- A range of which the ends share what is known, tidied. -/
theorem impl.Range.tidy.c {k x lo hi : Nat} {K : T4 → World → Prop} (hk : k ≤ 32) (hle : lo ≤ hi) (hhi : hi < 2 ^ 32) (h1 : lo / 2 ^ k = x / 2 ^ k) (h2 : hi / 2 ^ k = x / 2 ^ k) (hK : ∀ w', Below w.heap.size w w' → K (ivl lo hi) w') :
    CallT (.o (.ag (R 4 (.i .i64)))) P0 195 [.agg (Tup.cells (R 4 (.i .i64)) (rgk k x lo hi)).toArray] w K := by
  refine impl.Range.tidy.g (x := lo ^^^ hi) (Nat.xor_lt_two_pow (by omega) hhi) (iXor_nat (by omega) (by omega)) fun w' hb => ?_
  have := tdF_rgk hk hle hhi h1 h2
  unfold kk at this
  rw [this]
  exact hK w' hb
end
end Go.Proofs.YtihllippchgkgaaGreat.V

/- Contracts: ranges of which numbers are known to be: what tidies them, whether they hold a number. -/
namespace Go.Proofs.YtihllippchgkgaaGreat.V
open Go Go.RowKit
set_option linter.unusedVariables false
set_option linter.unusedSimpArgs false
/-- A range of numbers, of which there is one. -/
def Gd (r : T4) : Prop := ∃ g : Rg, r = g.t ∧ g.okk ∧ ∃ n, g.has n
theorem tdF_t {g : Rg} (h : g.okk) : tdF g.t ((2 ^ kk g.mn g.mx - 1 : Nat) : Int) = (tidyG g).t := by
  obtain ⟨h1, h2, h3, h4, h5⟩ := h
  have hk := kk_le (lo := g.mn) (hi := g.mx) (by omega) (by omega)
  have hp := Nat.pow_le_pow_right (n := 2) (by omega) hk
  have h0 := Nat.two_pow_pos (kk g.mn g.mx)
  have o1 : g.op &&& (2 ^ kk g.mn g.mx - 1) ≤ g.op := Nat.and_le_left
  have a1 := andN_le g.mn (2 ^ kk g.mn g.mx - 1)
  have b1 : g.bt ||| andN g.mn (2 ^ kk g.mn g.mx - 1) < 2 ^ 32 := Nat.or_lt_two_pow h3 (by omega)
  have b2 := andN_le (g.bt ||| andN g.mn (2 ^ kk g.mn g.mx - 1)) (g.op &&& (2 ^ kk g.mn g.mx - 1))
  have eO : tdO (g.op : Int) ((2 ^ kk g.mn g.mx - 1 : Nat) : Int) = ((g.op &&& (2 ^ kk g.mn g.mx - 1) : Nat) : Int) := iAnd_nat (by omega) (by omega)
  have eB : tdB g.t ((2 ^ kk g.mn g.mx - 1 : Nat) : Int) = ((andN (g.bt ||| andN g.mn (2 ^ kk g.mn g.mx - 1)) (g.op &&& (2 ^ kk g.mn g.mx - 1)) : Nat) : Int) := by
    show iAndNot .i64 (iOr .i64 (g.bt : Int) (iAndNot .i64 (g.mn : Int) ((2 ^ kk g.mn g.mx - 1 : Nat) : Int))) (tdO (g.op : Int) ((2 ^ kk g.mn g.mx - 1 : Nat) : Int)) = _
    rw [eO, iAndNot_nat (by omega) (by omega), iOr_nat (by omega) (by omega), iAndNot_nat (by omega) (by omega)]
  have eM : iOr .i64 ((andN (g.bt ||| andN g.mn (2 ^ kk g.mn g.mx - 1)) (g.op &&& (2 ^ kk g.mn g.mx - 1)) : Nat) : Int) ((g.op &&& (2 ^ kk g.mn g.mx - 1) : Nat) : Int) = ((andN (g.bt ||| andN g.mn (2 ^ kk g.mn g.mx - 1)) (g.op &&& (2 ^ kk g.mn g.mx - 1)) ||| (g.op &&& (2 ^ kk g.mn g.mx - 1)) : Nat) : Int) := iOr_nat (by omega) (by omega)
  unfold tdF
  rw [eB]
  show ((if ((andN (g.bt ||| andN g.mn (2 ^ kk g.mn g.mx - 1)) (g.op &&& (2 ^ kk g.mn g.mx - 1)) : Nat) : Int) > (g.mn : Int) then _ else (g.mn : Int)), (if iOr .i64 _ (tdO (g.op : Int) _) < (g.mx : Int) then iOr .i64 _ (tdO (g.op : Int) _) else (g.mx : Int)), _, tdO (g.op : Int) _, ()) = (((max g.mn (andN (g.bt ||| andN g.mn (2 ^ kk g.mn g.mx - 1)) (g.op &&& (2 ^ kk g.mn g.mx - 1))) : Nat) : Int), ((min g.mx (andN (g.bt ||| andN g.mn (2 ^ kk g.mn g.mx - 1)) (g.op &&& (2 ^ kk g.mn g.mx - 1)) ||| (g.op &&& (2 ^ kk g.mn g.mx - 1))) : Nat) : Int), ((andN (g.bt ||| andN g.mn (2 ^ kk g.mn g.mx - 1)) (g.op &&& (2 ^ kk g.mn g.mx - 1)) : Nat) : Int), ((g.op &&& (2 ^ kk g.mn g.mx - 1) : Nat) : Int), ())
  rw [eO, eM]
  generalize andN (g.bt ||| andN g.mn (2 ^ kk g.mn g.mx - 1)) (g.op &&& (2 ^ kk g.mn g.mx - 1)) = B
  generalize g.op &&& (2 ^ kk g.mn g.mx - 1) = O
  have m1 : (if (B : Int) > (g.mn : Int) then (B : Int) else (g.mn : Int)) = ((max g.mn B : Nat) : Int) := by split <;> omega
  have m2 : (if ((B ||| O : Nat) : Int) < (g.mx : Int) then ((B ||| O : Nat) : Int) else (g.mx : Int)) = ((min g.mx (B ||| O) : Nat) : Int) := by split <;> omega
  rw [m1, m2]
theorem Gd.tidy {g : Rg} (h : g.okk) {n : Nat} (hn : g.has n) : Gd (tidyG g).t := ⟨tidyG g, rfl, (tidyG_has h hn).1, n, (tidyG_has h hn).2⟩
section
variable {w : World}
/-- Tidied, exactly. -/
theorem impl.Range.tidy.e {g : Rg} {K : T4 → World → Prop} (h : g.okk) (hk : ∀ w', Below w.heap.size w w' → K (tidyG g).t w') :
    CallT (.o (.ag (R 4 (.i .i64)))) P0 195 [.agg (Tup.cells (R 4 (.i .i64)) g.t).toArray] w K := by
  obtain ⟨h1, h2, h3, h4, h5⟩ := id h
  refine impl.Range.tidy.g (x := g.mn ^^^ g.mx) (Nat.xor_lt_two_pow h1 h2) (iXor_nat (by omega) (by omega)) fun w' hb => ?_
  have := tdF_t h
  unfold kk at this
  rw [this]
  exact hk w' hb
theorem impl.Range.tidy.q {r : T4} {K : T4 → World → Prop} (h : Gd r) (hk : ∀ r' w', Gd r' → Below w.heap.size w w' → K r' w') :
    CallT (.o (.ag (R 4 (.i .i64)))) P0 195 [.agg (Tup.cells (R 4 (.i .i64)) r).toArray] w K := by
  obtain ⟨g, rfl, hg, n, hn⟩ := h
  exact impl.Range.tidy.e hg fun w' hb => hk _ _ (Gd.tidy hg hn) hb
theorem okk_of {a b c d : Int} (h0 : 0 ≤ a ∧ a ≤ 4294967295) (h1 : a ≤ b ∧ b ≤ 4294967295) (h2 : 0 ≤ c ∧ c ≤ 4294967295) (h3 : 0 ≤ d ∧ d ≤ 4294967295) (h4 : iAnd .i64 c d = 0) : ∃ g : Rg, ((a, b, c, d, ()) : T4) = g.t ∧ g.okk := by
  obtain ⟨a, rfl⟩ := Int.eq_ofNat_of_zero_le h0.1
  obtain ⟨b, rfl⟩ := Int.eq_ofNat_of_zero_le (a := b) (by omega)
  obtain ⟨c, rfl⟩ := Int.eq_ofNat_of_zero_le h2.1
  obtain ⟨d, rfl⟩ := Int.eq_ofNat_of_zero_le h3.1
  refine ⟨⟨a, b, c, d⟩, rfl, by show a < _; omega, by show b < _; omega, by show c < _; omega, by show d < _; omega, fun i hi => ?_⟩
  have hi : d.testBit i = true := hi
  rw [iAnd_nat (by omega) (by omega)] at h4
  have h5 : c &&& d = 0 := by omega
  have h6 := congrArg (·.testBit i) h5
  simp only [Nat.testBit_and, hi, Bool.and_true, Nat.zero_testBit] at h6
  exact h6
theorem impl.RangeOk.q {r : T4} {K : Bool → World → Prop} (hk : ∀ b w', (b = true → ∃ g : Rg, r = g.t ∧ g.okk) → Below w.heap.size w w' → K b w') :
    CallT (.o (.lf .b)) P0 219 [.agg (Tup.cells (R 4 (.i .i64)) r).toArray] w K := by
  refine impl.RangeOk.ok ?_
  unfold impl.RangeOk.vc
  have hm := M.start w
  (repeat' (first | (first | (with_reducible refine ldM (by assumption) (by with_unfolding_all (repeat (first | exact List.mem_cons_self | refine List.mem_cons_of_mem _ ?_))) (by with_unfolding_all rfl) ?_) | (with_reducible refine ldAM (by assumption) (by with_unfolding_all (repeat (first | exact List.mem_cons_self | refine List.mem_cons_of_mem _ ?_))) ?_) | (with_reducible refine nwZ (by assumption) fun _ _ _ => ?_) | (with_reducible refine nwM' (by assumption) fun _ _ _ => ?_) | (with_reducible refine stM0 (by assumption) (by with_unfolding_all (repeat (first | exact Up.head _ _ _ _ | apply Up.tail))) fun _ _ => ?_) | (with_reducible refine stM1 (by assumption) (by with_unfolding_all (repeat (first | exact Up.head _ _ _ _ | apply Up.tail))) fun _ _ => ?_) | (with_reducible refine stM2 (by assumption) (by with_unfolding_all (repeat (first | exact Up.head _ _ _ _ | apply Up.tail))) fun _ _ => ?_) | (with_reducible refine stM3 (by assumption) (by with_unfolding_all (repeat (first | exact Up.head _ _ _ _ | apply Up.tail))) fun _ _ => ?_) | (with_reducible refine stAM' (by assumption) (by with_unfolding_all (repeat (first | exact Up.head _ _ _ _ | apply Up.tail))) fun _ _ => ?_) | (with_reducible refine stAL (by assumption) (by with_unfolding_all (repeat (first | exact Up.head _ _ _ _ | apply Up.tail))) fun _ _ => ?_) | (with_reducible refine And.intro (fun _ => ?_) (fun _ => ?_)) | (refine stAM' (by assumption) (by with_unfolding_all (repeat (first | exact Up.head _ _ _ _ | apply Up.tail))) fun _ _ => ?_)) | refine impl.numOk.c ?_ | refine impl.within.c ?_))
  all_goals
    refine hk _ _ (fun h => ?_) (by assumption : M w _ _).low
    simp only [decide_eq_true_eq, Bool.false_eq_true] at *
    try exact h.elim
  all_goals
    simp only [beq_iff_eq] at h
    exact okk_of (a := r.1) (b := r.2.1) (c := r.2.2.1) (d := r.2.2.2.1) (by assumption) (by assumption) (by assumption) (by assumption) h
theorem has_of {g : Rg} (hg : g.okk) {n : Int} (h1 : (g.mn : Int) ≤ n ∧ n ≤ g.mx) (h2 : iAndNot .i64 n (g.op : Int) = (g.bt : Int)) : ∃ m, g.has m := by
  obtain ⟨a1, a2, a3, a4, a5⟩ := hg
  obtain ⟨n, rfl⟩ := Int.eq_ofNat_of_zero_le (a := n) (by omega)
  refine ⟨n, by omega, by omega, fun i hi => ?_⟩
  rw [iAndNot_nat (by omega) (by omega)] at h2
  have h3 : andN n g.op = g.bt := by omega
  have h4 := congrArg (·.testBit i) h3
  simp only [andN_bit, hi, Bool.not_false, Bool.and_true] at h4
  exact h4
theorem impl.Range.has.q {g : Rg} (hg : g.okk) {n : Int} {K : Bool → World → Prop} (hk : ∀ b w', (b = true → ∃ m, g.has m) → Below w.heap.size w w' → K b w') :
    CallT (.o (.lf .b)) P0 223 [.agg (Tup.cells (R 4 (.i .i64)) g.t).toArray, .int .i64 n] w K := by
  refine impl.Range.has.ok ?_
  unfold impl.Range.has.vc
  have hm := M.start w
  (repeat' (first | (first | (with_reducible refine ldM (by assumption) (by with_unfolding_all (repeat (first | exact List.mem_cons_self | refine List.mem_cons_of_mem _ ?_))) (by with_unfolding_all rfl) ?_) | (with_reducible refine ldAM (by assumption) (by with_unfolding_all (repeat (first | exact List.mem_cons_self | refine List.mem_cons_of_mem _ ?_))) ?_) | (with_reducible refine nwZ (by assumption) fun _ _ _ => ?_) | (with_reducible refine nwM' (by assumption) fun _ _ _ => ?_) | (with_reducible refine stM0 (by assumption) (by with_unfolding_all (repeat (first | exact Up.head _ _ _ _ | apply Up.tail))) fun _ _ => ?_) | (with_reducible refine stM1 (by assumption) (by with_unfolding_all (repeat (first | exact Up.head _ _ _ _ | apply Up.tail))) fun _ _ => ?_) | (with_reducible refine stM2 (by assumption) (by with_unfolding_all (repeat (first | exact Up.head _ _ _ _ | apply Up.tail))) fun _ _ => ?_) | (with_reducible refine stM3 (by assumption) (by with_unfolding_all (repeat (first | exact Up.head _ _ _ _ | apply Up.tail))) fun _ _ => ?_) | (with_reducible refine stAM' (by assumption) (by with_unfolding_all (repeat (first | exact Up.head _ _ _ _ | apply Up.tail))) fun _ _ => ?_) | (with_reducible refine stAL (by assumption) (by with_unfolding_all (repeat (first | exact Up.head _ _ _ _ | apply Up.tail))) fun _ _ => ?_) | (with_reducible refine And.intro (fun _ => ?_) (fun _ => ?_)) | (refine stAM' (by assumption) (by with_unfolding_all (repeat (first | exact Up.head _ _ _ _ | apply Up.tail))) fun _ _ => ?_)) | refine impl.within.c ?_))
  · refine hk _ _ (fun h => ?_) (by assumption : M w _ _).low
    simp only [decide_eq_true_eq, beq_iff_eq] at *
    exact has_of hg (by assumption) h
  · exact hk _ _ (fun h => by simp at h) (by assumption : M w _ _).low
theorem impl.Range.above.q {r : T4} {K : Int → World → Prop} (hk : ∀ n w', Below w.heap.size w w' → K n w') :
    CallT (.o (.lf (.i .i64))) P0 222 [.agg (Tup.cells (R 4 (.i .i64)) r).toArray] w K := by
  refine impl.Range.above.ok ?_
  unfold impl.Range.above.vc
  have hm := M.start w
  repeat' (first | (with_reducible refine ldM (by assumption) (by with_unfolding_all (repeat (first | exact List.mem_cons_self | refine List.mem_cons_of_mem _ ?_))) (by with_unfolding_all rfl) ?_) | (with_reducible refine ldAM (by assumption) (by with_unfolding_all (repeat (first | exact List.mem_cons_self | refine List.mem_cons_of_mem _ ?_))) ?_) | (with_reducible refine nwZ (by assumption) fun _ _ _ => ?_) | (with_reducible refine nwM' (by assumption) fun _ _ _ => ?_) | (with_reducible refine stM0 (by assumption) (by with_unfolding_all (repeat (first | exact Up.head _ _ _ _ | apply Up.tail))) fun _ _ => ?_) | (with_reducible refine stM1 (by assumption) (by with_unfolding_all (repeat (first | exact Up.head _ _ _ _ | apply Up.tail))) fun _ _ => ?_) | (with_reducible refine stM2 (by assumption) (by with_unfolding_all (repeat (first | exact Up.head _ _ _ _ | apply Up.tail))) fun _ _ => ?_) | (with_reducible refine stM3 (by assumption) (by with_unfolding_all (repeat (first | exact Up.head _ _ _ _ | apply Up.tail))) fun _ _ => ?_) | (with_reducible refine stAM' (by assumption) (by with_unfolding_all (repeat (first | exact Up.head _ _ _ _ | apply Up.tail))) fun _ _ => ?_) | (with_reducible refine stAL (by assumption) (by with_unfolding_all (repeat (first | exact Up.head _ _ _ _ | apply Up.tail))) fun _ _ => ?_) | (with_reducible refine And.intro (fun _ => ?_) (fun _ => ?_)) | (refine stAM' (by assumption) (by with_unfolding_all (repeat (first | exact Up.head _ _ _ _ | apply Up.tail))) fun _ _ => ?_))
  rename_i w1 b1 m1
  refine ⟨fun i w' => (0 ≤ i ∧ i ≤ 32) ∧ M w w' [(b1, r)], fun i _ => (32 - i).toNat, ⟨by omega, m1⟩, fun i w2 hI _ => ?_⟩
  obtain ⟨hi, m2⟩ := hI
  clear m1 hm
  have hin : ∀ {i : Int}, 0 ≤ i → i < 32 → IntKind.wrap .i64 (i + 1) = i + 1 := fun h1 h2 => i64_of (by omega) (by omega)
  refine And.intro (fun hl => ?_) (fun hl => hk _ _ m2.low)
  simp only [decide_eq_true_eq] at hl
  rw [hin hi.1 hl]
  refine ⟨hi.1, fun w' => M w w' [(b1, r)], ?_, fun w3 m3 _ => ?_⟩
  · repeat' (first | (with_reducible refine ldM (by assumption) (by with_unfolding_all (repeat (first | exact List.mem_cons_self | refine List.mem_cons_of_mem _ ?_))) (by with_unfolding_all rfl) ?_) | (with_reducible refine ldAM (by assumption) (by with_unfolding_all (repeat (first | exact List.mem_cons_self | refine List.mem_cons_of_mem _ ?_))) ?_) | (with_reducible refine nwZ (by assumption) fun _ _ _ => ?_) | (with_reducible refine nwM' (by assumption) fun _ _ _ => ?_) | (with_reducible refine stM0 (by assumption) (by with_unfolding_all (repeat (first | exact Up.head _ _ _ _ | apply Up.tail))) fun _ _ => ?_) | (with_reducible refine stM1 (by assumption) (by with_unfolding_all (repeat (first | exact Up.head _ _ _ _ | apply Up.tail))) fun _ _ => ?_) | (with_reducible refine stM2 (by assumption) (by with_unfolding_all (repeat (first | exact Up.head _ _ _ _ | apply Up.tail))) fun _ _ => ?_) | (with_reducible refine stM3 (by assumption) (by with_unfolding_all (repeat (first | exact Up.head _ _ _ _ | apply Up.tail))) fun _ _ => ?_) | (with_reducible refine stAM' (by assumption) (by with_unfolding_all (repeat (first | exact Up.head _ _ _ _ | apply Up.tail))) fun _ _ => ?_) | (with_reducible refine stAL (by assumption) (by with_unfolding_all (repeat (first | exact Up.head _ _ _ _ | apply Up.tail))) fun _ _ => ?_) | (with_reducible refine And.intro (fun _ => ?_) (fun _ => ?_)) | (refine stAM' (by assumption) (by with_unfolding_all (repeat (first | exact Up.head _ _ _ _ | apply Up.tail))) fun _ _ => ?_))
    refine ⟨hi.1, ?_⟩
    repeat' (first | (with_reducible refine ldM (by assumption) (by with_unfolding_all (repeat (first | exact List.mem_cons_self | refine List.mem_cons_of_mem _ ?_))) (by with_unfolding_all rfl) ?_) | (with_reducible refine ldAM (by assumption) (by with_unfolding_all (repeat (first | exact List.mem_cons_self | refine List.mem_cons_of_mem _ ?_))) ?_) | (with_reducible refine nwZ (by assumption) fun _ _ _ => ?_) | (with_reducible refine nwM' (by assumption) fun _ _ _ => ?_) | (with_reducible refine stM0 (by assumption) (by with_unfolding_all (repeat (first | exact Up.head _ _ _ _ | apply Up.tail))) fun _ _ => ?_) | (with_reducible refine stM1 (by assumption) (by with_unfolding_all (repeat (first | exact Up.head _ _ _ _ | apply Up.tail))) fun _ _ => ?_) | (with_reducible refine stM2 (by assumption) (by with_unfolding_all (repeat (first | exact Up.head _ _ _ _ | apply Up.tail))) fun _ _ => ?_) | (with_reducible refine stM3 (by assumption) (by with_unfolding_all (repeat (first | exact Up.head _ _ _ _ | apply Up.tail))) fun _ _ => ?_) | (with_reducible refine stAM' (by assumption) (by with_unfolding_all (repeat (first | exact Up.head _ _ _ _ | apply Up.tail))) fun _ _ => ?_) | (with_reducible refine stAL (by assumption) (by with_unfolding_all (repeat (first | exact Up.head _ _ _ _ | apply Up.tail))) fun _ _ => ?_) | (with_reducible refine And.intro (fun _ => ?_) (fun _ => ?_)) | (refine stAM' (by assumption) (by with_unfolding_all (repeat (first | exact Up.head _ _ _ _ | apply Up.tail))) fun _ _ => ?_))
    · exact ⟨⟨by omega, by assumption⟩, by show (32 - (i + 1)).toNat < (32 - i).toNat; omega⟩
    · refine ⟨hi.1, ?_⟩
      repeat' (first | (with_reducible refine ldM (by assumption) (by with_unfolding_all (repeat (first | exact List.mem_cons_self | refine List.mem_cons_of_mem _ ?_))) (by with_unfolding_all rfl) ?_) | (with_reducible refine ldAM (by assumption) (by with_unfolding_all (repeat (first | exact List.mem_cons_self | refine List.mem_cons_of_mem _ ?_))) ?_) | (with_reducible refine nwZ (by assumption) fun _ _ _ => ?_) | (with_reducible refine nwM' (by assumption) fun _ _ _ => ?_) | (with_reducible refine stM0 (by assumption) (by with_unfolding_all (repeat (first | exact Up.head _ _ _ _ | apply Up.tail))) fun _ _ => ?_) | (with_reducible refine stM1 (by assumption) (by with_unfolding_all (repeat (first | exact Up.head _ _ _ _ | apply Up.tail))) fun _ _ => ?_) | (with_reducible refine stM2 (by assumption) (by with_unfolding_all (repeat (first | exact Up.head _ _ _ _ | apply Up.tail))) fun _ _ => ?_) | (with_reducible refine stM3 (by assumption) (by with_unfolding_all (repeat (first | exact Up.head _ _ _ _ | apply Up.tail))) fun _ _ => ?_) | (with_reducible refine stAM' (by assumption) (by with_unfolding_all (repeat (first | exact Up.head _ _ _ _ | apply Up.tail))) fun _ _ => ?_) | (with_reducible refine stAL (by assumption) (by with_unfolding_all (repeat (first | exact Up.head _ _ _ _ | apply Up.tail))) fun _ _ => ?_) | (with_reducible refine And.intro (fun _ => ?_) (fun _ => ?_)) | (refine stAM' (by assumption) (by with_unfolding_all (repeat (first | exact Up.head _ _ _ _ | apply Up.tail))) fun _ _ => ?_))
      · exact ⟨⟨by omega, by assumption⟩, by show (32 - (i + 1)).toNat < (32 - i).toNat; omega⟩
      · exact ⟨⟨by omega, by assumption⟩, by show (32 - (i + 1)).toNat < (32 - i).toNat; omega⟩
      · assumption
  · have hm3 : M w w3 [(b1, r)] := m3
    refine ⟨Below w3.heap.size, belOk w3, eqG r.1, keptEq, eqG _, keptEq, eqG r.2.2.1, keptEq, eqG _, keptEq, fun w4 hb => ?_, fun a => ⟨fun w4 hb => ⟨hi.1, gkE rfl (Below.refl _ _)⟩, fun a2 => ⟨fun w4 hb => ?_, fun a3 => ⟨fun w4 hb => ⟨hi.1, gkE rfl (Below.refl _ _)⟩, fun a4 w4 hb _ _ _ _ => hk _ _ (hm3.below hb).low⟩⟩⟩⟩
    · exact ldM (hm3.below hb) (by with_unfolding_all (repeat (first | exact List.mem_cons_self | refine List.mem_cons_of_mem _ ?_))) (by with_unfolding_all rfl) (gkE rfl (Below.refl _ _))
    · exact ldM (hm3.below hb) (by with_unfolding_all (repeat (first | exact List.mem_cons_self | refine List.mem_cons_of_mem _ ?_))) (by with_unfolding_all rfl) (gkE rfl (Below.refl _ _))
theorem impl.Range.least.q {g : Rg} (hg : g.okk) {K : Int → World → Prop} (hk : ∀ n w', (0 ≤ n → ∃ m, g.has m) → Below w.heap.size w w' → K n w') :
    CallT (.o (.lf (.i .i64))) P0 220 [.agg (Tup.cells (R 4 (.i .i64)) g.t).toArray] w K := by
  refine impl.Range.least.ok ?_
  unfold impl.Range.least.vc
  have hm := M.start w
  repeat' (first | (with_reducible refine ldM (by assumption) (by with_unfolding_all (repeat (first | exact List.mem_cons_self | refine List.mem_cons_of_mem _ ?_))) (by with_unfolding_all rfl) ?_) | (with_reducible refine ldAM (by assumption) (by with_unfolding_all (repeat (first | exact List.mem_cons_self | refine List.mem_cons_of_mem _ ?_))) ?_) | (with_reducible refine nwZ (by assumption) fun _ _ _ => ?_) | (with_reducible refine nwM' (by assumption) fun _ _ _ => ?_) | (with_reducible refine stM0 (by assumption) (by with_unfolding_all (repeat (first | exact Up.head _ _ _ _ | apply Up.tail))) fun _ _ => ?_) | (with_reducible refine stM1 (by assumption) (by with_unfolding_all (repeat (first | exact Up.head _ _ _ _ | apply Up.tail))) fun _ _ => ?_) | (with_reducible refine stM2 (by assumption) (by with_unfolding_all (repeat (first | exact Up.head _ _ _ _ | apply Up.tail))) fun _ _ => ?_) | (with_reducible refine stM3 (by assumption) (by with_unfolding_all (repeat (first | exact Up.head _ _ _ _ | apply Up.tail))) fun _ _ => ?_) | (with_reducible refine stAM' (by assumption) (by with_unfolding_all (repeat (first | exact Up.head _ _ _ _ | apply Up.tail))) fun _ _ => ?_) | (with_reducible refine stAL (by assumption) (by with_unfolding_all (repeat (first | exact Up.head _ _ _ _ | apply Up.tail))) fun _ _ => ?_) | (with_reducible refine And.intro (fun _ => ?_) (fun _ => ?_)) | (refine stAM' (by assumption) (by with_unfolding_all (repeat (first | exact Up.head _ _ _ _ | apply Up.tail))) fun _ _ => ?_))
  · refine impl.Range.above.q fun n w2 hb2 => ?_
    have m2 := (by assumption : M w _ _).below hb2
    refine And.intro (fun _ => hk _ _ (fun h => by omega) m2.low) (fun _ => ?_)
    refine ldAM m2 (by with_unfolding_all (repeat (first | exact List.mem_cons_self | refine List.mem_cons_of_mem _ ?_))) ?_
    refine impl.Range.has.q hg fun b w3 hh hb3 => ?_
    have m3 := m2.below hb3
    refine And.intro (fun _ => hk _ _ (fun h => by omega) m3.low) (fun hb => hk _ _ (fun _ => hh (by simpa using hb)) m3.low)
  · exact hk _ _ (fun h => by omega) (by assumption : M w _ _).low
  · refine impl.Range.has.q hg fun b w3 hh hb3 => ?_
    have m3 := (by assumption : M w _ _).below hb3
    refine And.intro (fun _ => hk _ _ (fun h => by omega) m3.low) (fun hb => hk _ _ (fun _ => hh (by simpa using hb)) m3.low)
theorem impl.Range.some.q {r : T4} {K : Bool → World → Prop} (hk : ∀ b w', (b = true → Gd r) → Below w.heap.size w w' → K b w') :
    CallT (.o (.lf .b)) P0 212 [.agg (Tup.cells (R 4 (.i .i64)) r).toArray] w K := by
  refine impl.Range.some.ok ?_
  unfold impl.Range.some.vc
  have hm := M.start w
  repeat' (first | (with_reducible refine ldM (by assumption) (by with_unfolding_all (repeat (first | exact List.mem_cons_self | refine List.mem_cons_of_mem _ ?_))) (by with_unfolding_all rfl) ?_) | (with_reducible refine ldAM (by assumption) (by with_unfolding_all (repeat (first | exact List.mem_cons_self | refine List.mem_cons_of_mem _ ?_))) ?_) | (with_reducible refine nwZ (by assumption) fun _ _ _ => ?_) | (with_reducible refine nwM' (by assumption) fun _ _ _ => ?_) | (with_reducible refine stM0 (by assumption) (by with_unfolding_all (repeat (first | exact Up.head _ _ _ _ | apply Up.tail))) fun _ _ => ?_) | (with_reducible refine stM1 (by assumption) (by with_unfolding_all (repeat (first | exact Up.head _ _ _ _ | apply Up.tail))) fun _ _ => ?_) | (with_reducible refine stM2 (by assumption) (by with_unfolding_all (repeat (first | exact Up.head _ _ _ _ | apply Up.tail))) fun _ _ => ?_) | (with_reducible refine stM3 (by assumption) (by with_unfolding_all (repeat (first | exact Up.head _ _ _ _ | apply Up.tail))) fun _ _ => ?_) | (with_reducible refine stAM' (by assumption) (by with_unfolding_all (repeat (first | exact Up.head _ _ _ _ | apply Up.tail))) fun _ _ => ?_) | (with_reducible refine stAL (by assumption) (by with_unfolding_all (repeat (first | exact Up.head _ _ _ _ | apply Up.tail))) fun _ _ => ?_) | (with_reducible refine And.intro (fun _ => ?_) (fun _ => ?_)) | (refine stAM' (by assumption) (by with_unfolding_all (repeat (first | exact Up.head _ _ _ _ | apply Up.tail))) fun _ _ => ?_))
  refine impl.RangeOk.q fun b w1 hh hb1 => ?_
  have m1 := (by assumption : M w _ _).below hb1
  refine And.intro (fun hc => ?_) (fun hc => hk _ _ (fun h => by simp at h) m1.low)
  refine ldAM m1 (by with_unfolding_all (repeat (first | exact List.mem_cons_self | refine List.mem_cons_of_mem _ ?_))) ?_
  obtain ⟨g, rfl, hg⟩ := hh hc
  refine impl.Range.least.q hg fun n w2 hn hb2 => ?_
  exact hk _ _ (fun h => ⟨g, rfl, hg, hn (by simpa using h)⟩) (m1.below hb2).low
theorem Gd.fromTo {lo hi : Nat} (h1 : lo ≤ hi) (h2 : hi < 2 ^ 32) : Gd (fromToG lo hi).t := ⟨_, rfl, (fromToG_has (n := lo) (Nat.le_refl _) h1 h2).1, lo, (fromToG_has (Nat.le_refl _) h1 h2).2⟩
theorem impl.fromTo.e {lo hi : Nat} {a b : Int} {K : T4 → World → Prop} (h1 : lo < 2 ^ 32) (h2 : hi < 2 ^ 32) (ha : a = lo) (hb : b = hi) (hk : ∀ w', Below w.heap.size w w' → K (fromToG lo hi).t w') :
    CallT (.o (.ag (R 4 (.i .i64)))) P0 205 [.int .i64 a, .int .i64 b] w K := by
  subst ha hb
  refine impl.fromTo.ok ?_
  unfold impl.fromTo.vc
  have hm := M.start w
  repeat' (first | (with_reducible refine ldM (by assumption) (by with_unfolding_all (repeat (first | exact List.mem_cons_self | refine List.mem_cons_of_mem _ ?_))) (by with_unfolding_all rfl) ?_) | (with_reducible refine ldAM (by assumption) (by with_unfolding_all (repeat (first | exact List.mem_cons_self | refine List.mem_cons_of_mem _ ?_))) ?_) | (with_reducible refine nwZ (by assumption) fun _ _ _ => ?_) | (with_reducible refine nwM' (by assumption) fun _ _ _ => ?_) | (with_reducible refine stM0 (by assumption) (by with_unfolding_all (repeat (first | exact Up.head _ _ _ _ | apply Up.tail))) fun _ _ => ?_) | (with_reducible refine stM1 (by assumption) (by with_unfolding_all (repeat (first | exact Up.head _ _ _ _ | apply Up.tail))) fun _ _ => ?_) | (with_reducible refine stM2 (by assumption) (by with_unfolding_all (repeat (first | exact Up.head _ _ _ _ | apply Up.tail))) fun _ _ => ?_) | (with_reducible refine stM3 (by assumption) (by with_unfolding_all (repeat (first | exact Up.head _ _ _ _ | apply Up.tail))) fun _ _ => ?_) | (with_reducible refine stAM' (by assumption) (by with_unfolding_all (repeat (first | exact Up.head _ _ _ _ | apply Up.tail))) fun _ _ => ?_) | (with_reducible refine stAL (by assumption) (by with_unfolding_all (repeat (first | exact Up.head _ _ _ _ | apply Up.tail))) fun _ _ => ?_) | (with_reducible refine And.intro (fun _ => ?_) (fun _ => ?_)) | (refine stAM' (by assumption) (by with_unfolding_all (repeat (first | exact Up.head _ _ _ _ | apply Up.tail))) fun _ _ => ?_))
  rename_i w1 b1 m1
  have e : (fromToG lo hi).t = (tidyG ⟨lo, hi, 0, M32⟩).t := rfl
  refine impl.Range.tidy.e (g := ⟨lo, hi, 0, M32⟩) ⟨h1, h2, by show 0 < _; omega, by show M32 < _; decide, fun i _ => Nat.zero_testBit i⟩ fun w2 hb => ?_
  have m2 := m1.below hb
  repeat' (first | (with_reducible refine ldM (by assumption) (by with_unfolding_all (repeat (first | exact List.mem_cons_self | refine List.mem_cons_of_mem _ ?_))) (by with_unfolding_all rfl) ?_) | (with_reducible refine ldAM (by assumption) (by with_unfolding_all (repeat (first | exact List.mem_cons_self | refine List.mem_cons_of_mem _ ?_))) ?_) | (with_reducible refine nwZ (by assumption) fun _ _ _ => ?_) | (with_reducible refine nwM' (by assumption) fun _ _ _ => ?_) | (with_reducible refine stM0 (by assumption) (by with_unfolding_all (repeat (first | exact Up.head _ _ _ _ | apply Up.tail))) fun _ _ => ?_) | (with_reducible refine stM1 (by assumption) (by with_unfolding_all (repeat (first | exact Up.head _ _ _ _ | apply Up.tail))) fun _ _ => ?_) | (with_reducible refine stM2 (by assumption) (by with_unfolding_all (repeat (first | exact Up.head _ _ _ _ | apply Up.tail))) fun _ _ => ?_) | (with_reducible refine stM3 (by assumption) (by with_unfolding_all (repeat (first | exact Up.head _ _ _ _ | apply Up.tail))) fun _ _ => ?_) | (with_reducible refine stAM' (by assumption) (by with_unfolding_all (repeat (first | exact Up.head _ _ _ _ | apply Up.tail))) fun _ _ => ?_) | (with_reducible refine stAL (by assumption) (by with_unfolding_all (repeat (first | exact Up.head _ _ _ _ | apply Up.tail))) fun _ _ => ?_) | (with_reducible refine And.intro (fun _ => ?_) (fun _ => ?_)) | (refine stAM' (by assumption) (by with_unfolding_all (repeat (first | exact Up.head _ _ _ _ | apply Up.tail))) fun _ _ => ?_))
  rename_i m3
  exact hk _ m3.low
theorem impl.fromTo.q {a b : Int} {K : T4 → World → Prop} (h0 : 0 ≤ a) (h1 : a ≤ b) (h2 : b ≤ 4294967295) (hk : ∀ r w', Gd r → Below w.heap.size w w' → K r w') :
    CallT (.o (.ag (R 4 (.i .i64)))) P0 205 [.int .i64 a, .int .i64 b] w K := by
  obtain ⟨a, rfl⟩ := Int.eq_ofNat_of_zero_le h0
  obtain ⟨b, rfl⟩ := Int.eq_ofNat_of_zero_le (a := b) (by omega)
  exact impl.fromTo.e (by omega) (by omega) rfl rfl fun w' hb => hk _ _ (Gd.fromTo (by omega) (by omega)) hb
end
end Go.Proofs.YtihllippchgkgaaGreat.V

/- Contracts: ranges of which numbers are known to be: what they have in common, what is left of them. -/
namespace Go.Proofs.YtihllippchgkgaaGreat.V
open Go Go.RowKit
set_option linter.unusedVariables false
set_option linter.unusedSimpArgs false
/-- What may become of the world while some boxes get values. -/
structure SpF (n : Nat) (B : List Nat) (Φ : T4 → Prop) (a c : World) : Prop where
  os : c.os = a.os
  tape : c.tape = a.tape
  output : c.output = a.output
  size : a.heap.size ≤ c.heap.size
  low : ∀ k, k < n → k ∉ B → c.heap[k]? = a.heap[k]?
  box : ∀ b, b ∈ B → c.heap[b]? = a.heap[b]? ∨ ∃ y, Φ y ∧ c.heap[b]? = some (bx y)
theorem SpF.refl (n : Nat) (B : List Nat) (Φ : T4 → Prop) (a : World) : SpF n B Φ a a := ⟨rfl, rfl, rfl, Nat.le_refl _, fun _ _ _ => rfl, fun _ _ => .inl rfl⟩
theorem SpF.trans {n : Nat} {B : List Nat} {Φ : T4 → Prop} {a c d : World} (h1 : SpF n B Φ a c) (h2 : SpF n B Φ c d) : SpF n B Φ a d :=
  ⟨h2.os.trans h1.os, h2.tape.trans h1.tape, h2.output.trans h1.output, Nat.le_trans h1.size h2.size, fun k hk hne => (h2.low k hk hne).trans (h1.low k hk hne), fun b hb => by
    rcases h2.box b hb with h | h
    · rcases h1.box b hb with h' | ⟨y, hy, h'⟩
      · exact .inl (h.trans h')
      · exact .inr ⟨y, hy, h.trans h'⟩
    · exact .inr h⟩
theorem SpF.of_below {n : Nat} {B : List Nat} {Φ : T4 → Prop} {a c : World} (h : Below n a c) (hb : ∀ b ∈ B, b < n) : SpF n B Φ a c := ⟨h.os, h.tape, h.output, h.size, fun k hk _ => h.block k hk, fun b hbB => .inl (h.block b (hb b hbB))⟩
theorem spfOk (B : List Nat) (Φ : T4 → Prop) (w : World) : SpOk (SpF w.heap.size B Φ) w :=
  ⟨fun a => SpF.refl _ _ _ a, fun a b c h1 h2 => h1.trans h2, by
    have hb : Below w.heap.size w w.drew := (Below.refl _ _).drew
    exact ⟨hb.os, hb.tape, hb.output, hb.size, fun k hk _ => hb.block k hk, fun _ _ => .inl rfl⟩⟩
def BxF (b : Nat) (Φ : T4 → Prop) (w : World) : Prop := ∃ y, Φ y ∧ w.heap[b]? = some (bx y)
theorem keptF {n b : Nat} {B : List Nat} {Φ : T4 → Prop} (hb : b ∈ B) : Kept (SpF n B Φ) (fun (_ : Unit) w => BxF b Φ w) := by
  rintro _ a c ⟨y, hy, h⟩ hac
  rcases hac.box b hb with e | e
  · exact ⟨y, hy, e.trans h⟩
  · exact e
/-- A value of which something is known. -/
def prG {α : Type} (q : α → Prop) : α → World → Prop := fun x _ => q x
theorem keptPr {α : Type} {q : α → Prop} {Sp : World → World → Prop} : Kept Sp (prG q) := fun _ _ _ h _ => h
theorem gkP {r : Rs} {Sp : World → World → Prop} {w1 w' : World} {x : r.T} {q : r.T → Prop} {v : Value} (hv : v = r.emb x) (h : Sp w1 w') (hq : q x) : GK r Sp w1 (prG q) v w' := ⟨x, hv, h, hq⟩
section
variable {w0 w w1 : World} {l r : List (Nat × T4)} {b : Nat} {x y : T4} {B : List Nat} {Φ : T4 → Prop}
theorem M.spf (hm : M w0 w l) (hs : SpF w.heap.size B Φ w w1) (hr : r.Sublist l) (hd : ∀ b ∈ B, w0.heap.size ≤ b ∧ b ∉ r.map (·.1)) : M w0 w1 r := by
  refine ⟨⟨hs.os.trans hm.low.os, hs.tape.trans hm.low.tape, hs.output.trans hm.low.output, Nat.le_trans hm.low.size hs.size, fun k hk => (hs.low k (by have := hm.low.size; omega) (fun hkB => by have := (hd k hkB).1; omega)).trans (hm.low.block k hk)⟩, fun c z hz => ?_, hm.one.sublist (hr.map _)⟩
  obtain ⟨h1, h2, h3⟩ := hm.box c z (hr.subset hz)
  have hne : c ∉ B := fun e => (hd c e).2 (List.mem_map.2 ⟨_, hz, rfl⟩)
  exact ⟨h1, by have := hs.size; omega, (hs.low c h2 hne).trans h3⟩
theorem M.cons (hm : M w0 w l) (h0 : w0.heap.size ≤ b) (hb : w.heap[b]? = some (bx y)) (hn : b ∉ l.map (·.1)) : M w0 w ((b, y) :: l) :=
  ⟨hm.low, fun c z hz => by
    rcases List.mem_cons.1 hz with e | e
    · simp only [Prod.mk.injEq] at e
      obtain ⟨rfl, rfl⟩ := e
      exact ⟨h0, (Array.getElem?_eq_some_iff.1 hb).1, hb⟩
    · exact hm.box c z e, by simp only [List.map_cons, List.nodup_cons]; exact ⟨hn, hm.one⟩⟩
/-- One box gets a value. -/
theorem M.spf1 (hm : M w0 w l) (hd : Del l b x r) (hs : SpF w.heap.size [b] Φ w w1) : M w0 w1 r :=
  hm.spf hs hd.sub fun c hc => by
    rw [List.mem_singleton] at hc; subst hc
    exact ⟨(hm.box _ x hd.mem).1, hd.ne hm.one⟩
theorem M.spf1B (hm : M w0 w l) (hd : Del l b x r) (hs : SpF w.heap.size [b] Φ w w1) (hy : BxF b Φ w1) : ∃ y, Φ y ∧ M w0 w1 ((b, y) :: r) := by
  obtain ⟨y, h1, h2⟩ := hy
  exact ⟨y, h1, (hm.spf1 hd hs).cons (hm.box _ x hd.mem).1 h2 (hd.ne hm.one)⟩
theorem Del.ne2 {l r r2 : List (Nat × T4)} {b b2 : Nat} {x x2 : T4} (h : Del l b x r) (h2 : Del r b2 x2 r2) (hn : (l.map (·.1)).Nodup) : b ∉ r2.map (·.1) ∧ b2 ∉ r2.map (·.1) ∧ b ≠ b2 := by
  have e1 := h.ne hn
  refine ⟨fun hb => e1 ((h2.sub.map _).subset hb), h2.ne (hn.sublist (h.sub.map _)), fun e => e1 ?_⟩
  subst e
  exact List.mem_map.2 ⟨_, h2.mem, rfl⟩
theorem M.spf2 {r2 : List (Nat × T4)} {b2 : Nat} {x2 : T4} (hm : M w0 w l) (hd : Del l b x r) (hd2 : Del r b2 x2 r2) (hs : SpF w.heap.size [b, b2] Φ w w1) : M w0 w1 r2 := by
  have hne := hd.ne2 hd2 hm.one
  refine hm.spf hs (hd2.sub.trans hd.sub) fun c hc => ?_
  simp only [List.mem_cons, List.not_mem_nil, or_false] at hc
  rcases hc with rfl | rfl
  · exact ⟨(hm.box _ x hd.mem).1, hne.1⟩
  · exact ⟨(hm.box _ x2 (hd.sub.subset hd2.mem)).1, hne.2.1⟩
theorem M.spf2B {r2 : List (Nat × T4)} {b2 : Nat} {x2 : T4} (hm : M w0 w l) (hd : Del l b x r) (hd2 : Del r b2 x2 r2) (hs : SpF w.heap.size [b, b2] Φ w w1) (hy : BxF b Φ w1) (hy2 : BxF b2 Φ w1) :
    ∃ y y2, Φ y ∧ Φ y2 ∧ M w0 w1 ((b, y) :: (b2, y2) :: r2) := by
  obtain ⟨y, h1, h2⟩ := hy
  obtain ⟨y2, h3, h4⟩ := hy2
  have hne := hd.ne2 hd2 hm.one
  refine ⟨y, y2, h1, h3, ((hm.spf2 hd hd2 hs).cons (hm.box _ x2 (hd.sub.subset hd2.mem)).1 h4 hne.2.1).cons (hm.box _ x hd.mem).1 h2 ?_⟩
  simp only [List.map_cons, List.mem_cons, not_or]
  exact ⟨hne.2.2, hne.1⟩
theorem stSpF {vs : List Value} (hm : M w0 w l) (hb : (b, x) ∈ l) (hs : SpF w.heap.size B Φ w w1) (hB : b ∈ B) (hvs : vs = Tup.cells (R 4 (.i .i64)) y) (hy : Φ y) :
    StA P0 ⟨b, 0, none⟩ vs w1 fun w2 => GK .z (SpF w.heap.size B Φ) w1 (fun _ w => BxF b Φ w) (.tuple #[]) w2 := by
  subst hvs
  have hbx := hm.box b x hb
  obtain ⟨z, hz⟩ : ∃ z : T4, w1.heap[b]? = some (bx z) := by
    rcases hs.box b hB with e | ⟨y, _, e⟩
    · exact ⟨x, e.trans hbx.2.2⟩
    · exact ⟨y, e⟩
  obtain ⟨w', hr, hg, hsz, hh⟩ := run_storeCells_at' P0 (b := b) (t := 90) (Tup.cells (R 4 (.i .i64)) y) 0 [] (Tup.cells (R 4 (.i .i64)) z) w1 (oneCell4 y) rfl (by simp [V.cells_length]) (by simpa [bx] using hz)
  have hh' : w'.heap[b]? = some (bx y) := by simpa [bx] using hh
  refine ⟨w', hr, (), rfl, ⟨hg.os, hg.tape, hg.output, hg.size, fun k hk hne => hg.block k (Nat.lt_of_lt_of_le hk hs.size) (fun e => ?_), fun c hc => ?_⟩, y, hy, hh'⟩
  · simp only [Option.some.injEq] at e
    subst e
    exact hne hB
  · by_cases e : c = b
    · subst e; exact .inr ⟨y, hy, hh'⟩
    · by_cases hl : c < w1.heap.size
      · exact .inl (hg.block c hl (by simpa using e))
      · refine .inl ?_
        have h1 : w1.heap[c]? = none := by simp; omega
        have h2 : w'.heap[c]? = none := by simp; omega
        rw [h1, h2]
theorem ldSpF (hm : M w0 w l) (hb : (b, x) ∈ l) (hs : SpF w.heap.size B Φ w w1) (hB : b ∈ B) (hx : Φ x) {K : T4 → World → Prop} (hk : ∀ v, Φ v → K v w1) : LdA (R 4 (.i .i64)) ⟨b, 0, none⟩ w1 K := by
  rcases hs.box b hB with e | ⟨y, hy, e⟩
  · exact ldAB (e.trans (hm.box b x hb).2.2) (by simp) (hk x hx)
  · exact ldAB e (by simp) (hk y hy)
theorem M.ltB (hm : M w0 w l) (hb : (b, x) ∈ l) : b < w.heap.size := (hm.box b x hb).2.1
end
section
variable {w : World}
theorem impl.Range.but.q {r other : T4} (hr : Gd r) {K : T4 × Bool × Unit → World → Prop} (hK : ∀ r' ok w', (ok = true → Gd r') → Below w.heap.size w w' → K (r', ok, ()) w') :
    CallT (.n [(.ag (R 4 (.i .i64))), (.lf .b)]) P0 198 [.agg (Tup.cells (R 4 (.i .i64)) r).toArray, .agg (Tup.cells (R 4 (.i .i64)) other).toArray] w K := by
  refine impl.Range.but.ok ?_
  unfold impl.Range.but.vc
  have hm := M.start w
  repeat' (first | (with_reducible refine ldM (by assumption) (by with_unfolding_all (repeat (first | exact List.mem_cons_self | refine List.mem_cons_of_mem _ ?_))) (by with_unfolding_all rfl) ?_) | (with_reducible refine ldAM (by assumption) (by with_unfolding_all (repeat (first | exact List.mem_cons_self | refine List.mem_cons_of_mem _ ?_))) ?_) | (with_reducible refine nwZ (by assumption) fun _ _ _ => ?_) | (with_reducible refine nwM' (by assumption) fun _ _ _ => ?_) | (with_reducible refine stM0 (by assumption) (by with_unfolding_all (repeat (first | exact Up.head _ _ _ _ | apply Up.tail))) fun _ _ => ?_) | (with_reducible refine stM1 (by assumption) (by with_unfolding_all (repeat (first | exact Up.head _ _ _ _ | apply Up.tail))) fun _ _ => ?_) | (with_reducible refine stM2 (by assumption) (by with_unfolding_all (repeat (first | exact Up.head _ _ _ _ | apply Up.tail))) fun _ _ => ?_) | (with_reducible refine stM3 (by assumption) (by with_unfolding_all (repeat (first | exact Up.head _ _ _ _ | apply Up.tail))) fun _ _ => ?_) | (with_reducible refine stAM' (by assumption) (by with_unfolding_all (repeat (first | exact Up.head _ _ _ _ | apply Up.tail))) fun _ _ => ?_) | (with_reducible refine stAL (by assumption) (by with_unfolding_all (repeat (first | exact Up.head _ _ _ _ | apply Up.tail))) fun _ _ => ?_) | (with_reducible refine And.intro (fun _ => ?_) (fun _ => ?_)) | (refine stAM' (by assumption) (by with_unfolding_all (repeat (first | exact Up.head _ _ _ _ | apply Up.tail))) fun _ _ => ?_))
  · exact hK _ _ _ (fun _ => hr) (by assumption : M w _ _).low
  · rename_i w1 b1 m1 w2 b2 m2 w3 b3 m3 hc w4 b4 m4 w5 m5
    refine ⟨fun w' => ∃ x, M w w' [(b4, x), (b3, ((0, 0, 0, 0, ()) : T4)), (b2, other), (b1, r)], ?_, fun w6 m6 _ => ?_⟩
    · repeat' (first | (with_reducible refine ldM (by assumption) (by with_unfolding_all (repeat (first | exact List.mem_cons_self | refine List.mem_cons_of_mem _ ?_))) (by with_unfolding_all rfl) ?_) | (with_reducible refine ldAM (by assumption) (by with_unfolding_all (repeat (first | exact List.mem_cons_self | refine List.mem_cons_of_mem _ ?_))) ?_) | (with_reducible refine nwZ (by assumption) fun _ _ _ => ?_) | (with_reducible refine nwM' (by assumption) fun _ _ _ => ?_) | (with_reducible refine stM0 (by assumption) (by with_unfolding_all (repeat (first | exact Up.head _ _ _ _ | apply Up.tail))) fun _ _ => ?_) | (with_reducible refine stM1 (by assumption) (by with_unfolding_all (repeat (first | exact Up.head _ _ _ _ | apply Up.tail))) fun _ _ => ?_) | (with_reducible refine stM2 (by assumption) (by with_unfolding_all (repeat (first | exact Up.head _ _ _ _ | apply Up.tail))) fun _ _ => ?_) | (with_reducible refine stM3 (by assumption) (by with_unfolding_all (repeat (first | exact Up.head _ _ _ _ | apply Up.tail))) fun _ _ => ?_) | (with_reducible refine stAM' (by assumption) (by with_unfolding_all (repeat (first | exact Up.head _ _ _ _ | apply Up.tail))) fun _ _ => ?_) | (with_reducible refine stAL (by assumption) (by with_unfolding_all (repeat (first | exact Up.head _ _ _ _ | apply Up.tail))) fun _ _ => ?_) | (with_reducible refine And.intro (fun _ => ?_) (fun _ => ?_)) | (refine stAM' (by assumption) (by with_unfolding_all (repeat (first | exact Up.head _ _ _ _ | apply Up.tail))) fun _ _ => ?_))
      · exact ⟨_, by assumption⟩
      · exact ⟨_, by assumption⟩
    · obtain ⟨x, m6⟩ := m6
      clear m5 m4 m3 m2 m1 hm
      repeat' (first | (with_reducible refine ldM (by assumption) (by with_unfolding_all (repeat (first | exact List.mem_cons_self | refine List.mem_cons_of_mem _ ?_))) (by with_unfolding_all rfl) ?_) | (with_reducible refine ldAM (by assumption) (by with_unfolding_all (repeat (first | exact List.mem_cons_self | refine List.mem_cons_of_mem _ ?_))) ?_) | (with_reducible refine nwZ (by assumption) fun _ _ _ => ?_) | (with_reducible refine nwM' (by assumption) fun _ _ _ => ?_) | (with_reducible refine stM0 (by assumption) (by with_unfolding_all (repeat (first | exact Up.head _ _ _ _ | apply Up.tail))) fun _ _ => ?_) | (with_reducible refine stM1 (by assumption) (by with_unfolding_all (repeat (first | exact Up.head _ _ _ _ | apply Up.tail))) fun _ _ => ?_) | (with_reducible refine stM2 (by assumption) (by with_unfolding_all (repeat (first | exact Up.head _ _ _ _ | apply Up.tail))) fun _ _ => ?_) | (with_reducible refine stM3 (by assumption) (by with_unfolding_all (repeat (first | exact Up.head _ _ _ _ | apply Up.tail))) fun _ _ => ?_) | (with_reducible refine stAM' (by assumption) (by with_unfolding_all (repeat (first | exact Up.head _ _ _ _ | apply Up.tail))) fun _ _ => ?_) | (with_reducible refine stAL (by assumption) (by with_unfolding_all (repeat (first | exact Up.head _ _ _ _ | apply Up.tail))) fun _ _ => ?_) | (with_reducible refine And.intro (fun _ => ?_) (fun _ => ?_)) | (refine stAM' (by assumption) (by with_unfolding_all (repeat (first | exact Up.head _ _ _ _ | apply Up.tail))) fun _ _ => ?_))
      all_goals
        refine impl.Range.some.q fun b w8 hs hb8 => ?_
        have m8 := (by assumption : M w _ _).below hb8
        refine And.intro (fun hc => ?_) (fun hc => ?_)
        · refine impl.noRange.c fun w9 hb9 => ?_
          have m9 := m8.below hb9
          repeat' (first | (with_reducible refine ldM (by assumption) (by with_unfolding_all (repeat (first | exact List.mem_cons_self | refine List.mem_cons_of_mem _ ?_))) (by with_unfolding_all rfl) ?_) | (with_reducible refine ldAM (by assumption) (by with_unfolding_all (repeat (first | exact List.mem_cons_self | refine List.mem_cons_of_mem _ ?_))) ?_) | (with_reducible refine nwZ (by assumption) fun _ _ _ => ?_) | (with_reducible refine nwM' (by assumption) fun _ _ _ => ?_) | (with_reducible refine stM0 (by assumption) (by with_unfolding_all (repeat (first | exact Up.head _ _ _ _ | apply Up.tail))) fun _ _ => ?_) | (with_reducible refine stM1 (by assumption) (by with_unfolding_all (repeat (first | exact Up.head _ _ _ _ | apply Up.tail))) fun _ _ => ?_) | (with_reducible refine stM2 (by assumption) (by with_unfolding_all (repeat (first | exact Up.head _ _ _ _ | apply Up.tail))) fun _ _ => ?_) | (with_reducible refine stM3 (by assumption) (by with_unfolding_all (repeat (first | exact Up.head _ _ _ _ | apply Up.tail))) fun _ _ => ?_) | (with_reducible refine stAM' (by assumption) (by with_unfolding_all (repeat (first | exact Up.head _ _ _ _ | apply Up.tail))) fun _ _ => ?_) | (with_reducible refine stAL (by assumption) (by with_unfolding_all (repeat (first | exact Up.head _ _ _ _ | apply Up.tail))) fun _ _ => ?_) | (with_reducible refine And.intro (fun _ => ?_) (fun _ => ?_)) | (refine stAM' (by assumption) (by with_unfolding_all (repeat (first | exact Up.head _ _ _ _ | apply Up.tail))) fun _ _ => ?_))
          exact hK _ _ _ (fun h => by simp at h) (by assumption : M w _ _).low
        · refine ldAM m8 (by with_unfolding_all (repeat (first | exact List.mem_cons_self | refine List.mem_cons_of_mem _ ?_))) ?_
          refine impl.Range.tidy.q (hs (by simpa using hc)) fun r' w9 hr' hb9 => ?_
          have m9 := m8.below hb9
          repeat' (first | (with_reducible refine ldM (by assumption) (by with_unfolding_all (repeat (first | exact List.mem_cons_self | refine List.mem_cons_of_mem _ ?_))) (by with_unfolding_all rfl) ?_) | (with_reducible refine ldAM (by assumption) (by with_unfolding_all (repeat (first | exact List.mem_cons_self | refine List.mem_cons_of_mem _ ?_))) ?_) | (with_reducible refine nwZ (by assumption) fun _ _ _ => ?_) | (with_reducible refine nwM' (by assumption) fun _ _ _ => ?_) | (with_reducible refine stM0 (by assumption) (by with_unfolding_all (repeat (first | exact Up.head _ _ _ _ | apply Up.tail))) fun _ _ => ?_) | (with_reducible refine stM1 (by assumption) (by with_unfolding_all (repeat (first | exact Up.head _ _ _ _ | apply Up.tail))) fun _ _ => ?_) | (with_reducible refine stM2 (by assumption) (by with_unfolding_all (repeat (first | exact Up.head _ _ _ _ | apply Up.tail))) fun _ _ => ?_) | (with_reducible refine stM3 (by assumption) (by with_unfolding_all (repeat (first | exact Up.head _ _ _ _ | apply Up.tail))) fun _ _ => ?_) | (with_reducible refine stAM' (by assumption) (by with_unfolding_all (repeat (first | exact Up.head _ _ _ _ | apply Up.tail))) fun _ _ => ?_) | (with_reducible refine stAL (by assumption) (by with_unfolding_all (repeat (first | exact Up.head _ _ _ _ | apply Up.tail))) fun _ _ => ?_) | (with_reducible refine And.intro (fun _ => ?_) (fun _ => ?_)) | (refine stAM' (by assumption) (by with_unfolding_all (repeat (first | exact Up.head _ _ _ _ | apply Up.tail))) fun _ _ => ?_))
          exact hK _ _ _ (fun _ => hr') (by assumption : M w _ _).low
theorem impl.meet.q {a b : T4} {K : T4 × Bool × Unit → World → Prop} (hK : ∀ r' ok w', (ok = true → Gd r') → Below w.heap.size w w' → K (r', ok, ()) w') :
    CallT (.n [(.ag (R 4 (.i .i64))), (.lf .b)]) P0 197 [.agg (Tup.cells (R 4 (.i .i64)) a).toArray, .agg (Tup.cells (R 4 (.i .i64)) b).toArray] w K := by
  refine impl.meet.ok ?_
  unfold impl.meet.vc
  have hm := M.start w
  repeat' (first | (with_reducible refine ldM (by assumption) (by with_unfolding_all (repeat (first | exact List.mem_cons_self | refine List.mem_cons_of_mem _ ?_))) (by with_unfolding_all rfl) ?_) | (with_reducible refine ldAM (by assumption) (by with_unfolding_all (repeat (first | exact List.mem_cons_self | refine List.mem_cons_of_mem _ ?_))) ?_) | (with_reducible refine nwZ (by assumption) fun _ _ _ => ?_) | (with_reducible refine nwM' (by assumption) fun _ _ _ => ?_) | (with_reducible refine stM0 (by assumption) (by with_unfolding_all (repeat (first | exact Up.head _ _ _ _ | apply Up.tail))) fun _ _ => ?_) | (with_reducible refine stM1 (by assumption) (by with_unfolding_all (repeat (first | exact Up.head _ _ _ _ | apply Up.tail))) fun _ _ => ?_) | (with_reducible refine stM2 (by assumption) (by with_unfolding_all (repeat (first | exact Up.head _ _ _ _ | apply Up.tail))) fun _ _ => ?_) | (with_reducible refine stM3 (by assumption) (by with_unfolding_all (repeat (first | exact Up.head _ _ _ _ | apply Up.tail))) fun _ _ => ?_) | (with_reducible refine stAM' (by assumption) (by with_unfolding_all (repeat (first | exact Up.head _ _ _ _ | apply Up.tail))) fun _ _ => ?_) | (with_reducible refine stAL (by assumption) (by with_unfolding_all (repeat (first | exact Up.head _ _ _ _ | apply Up.tail))) fun _ _ => ?_) | (with_reducible refine And.intro (fun _ => ?_) (fun _ => ?_)) | (refine stAM' (by assumption) (by with_unfolding_all (repeat (first | exact Up.head _ _ _ _ | apply Up.tail))) fun _ _ => ?_))
  · refine impl.noRange.c fun w9 hb9 => ?_
    have m9 := (by assumption : M w _ _).below hb9
    repeat' (first | (with_reducible refine ldM (by assumption) (by with_unfolding_all (repeat (first | exact List.mem_cons_self | refine List.mem_cons_of_mem _ ?_))) (by with_unfolding_all rfl) ?_) | (with_reducible refine ldAM (by assumption) (by with_unfolding_all (repeat (first | exact List.mem_cons_self | refine List.mem_cons_of_mem _ ?_))) ?_) | (with_reducible refine nwZ (by assumption) fun _ _ _ => ?_) | (with_reducible refine nwM' (by assumption) fun _ _ _ => ?_) | (with_reducible refine stM0 (by assumption) (by with_unfolding_all (repeat (first | exact Up.head _ _ _ _ | apply Up.tail))) fun _ _ => ?_) | (with_reducible refine stM1 (by assumption) (by with_unfolding_all (repeat (first | exact Up.head _ _ _ _ | apply Up.tail))) fun _ _ => ?_) | (with_reducible refine stM2 (by assumption) (by with_unfolding_all (repeat (first | exact Up.head _ _ _ _ | apply Up.tail))) fun _ _ => ?_) | (with_reducible refine stM3 (by assumption) (by with_unfolding_all (repeat (first | exact Up.head _ _ _ _ | apply Up.tail))) fun _ _ => ?_) | (with_reducible refine stAM' (by assumption) (by with_unfolding_all (repeat (first | exact Up.head _ _ _ _ | apply Up.tail))) fun _ _ => ?_) | (with_reducible refine stAL (by assumption) (by with_unfolding_all (repeat (first | exact Up.head _ _ _ _ | apply Up.tail))) fun _ _ => ?_) | (with_reducible refine And.intro (fun _ => ?_) (fun _ => ?_)) | (refine stAM' (by assumption) (by with_unfolding_all (repeat (first | exact Up.head _ _ _ _ | apply Up.tail))) fun _ _ => ?_))
    exact hK _ _ _ (fun h => by simp at h) (by assumption : M w _ _).low
  · refine impl.Range.some.q fun b w8 hs hb8 => ?_
    have m8 := (by assumption : M w _ _).below hb8
    refine And.intro (fun hc => ?_) (fun hc => ?_)
    · refine impl.noRange.c fun w9 hb9 => ?_
      have m9 := m8.below hb9
      repeat' (first | (with_reducible refine ldM (by assumption) (by with_unfolding_all (repeat (first | exact List.mem_cons_self | refine List.mem_cons_of_mem _ ?_))) (by with_unfolding_all rfl) ?_) | (with_reducible refine ldAM (by assumption) (by with_unfolding_all (repeat (first | exact List.mem_cons_self | refine List.mem_cons_of_mem _ ?_))) ?_) | (with_reducible refine nwZ (by assumption) fun _ _ _ => ?_) | (with_reducible refine nwM' (by assumption) fun _ _ _ => ?_) | (with_reducible refine stM0 (by assumption) (by with_unfolding_all (repeat (first | exact Up.head _ _ _ _ | apply Up.tail))) fun _ _ => ?_) | (with_reducible refine stM1 (by assumption) (by with_unfolding_all (repeat (first | exact Up.head _ _ _ _ | apply Up.tail))) fun _ _ => ?_) | (with_reducible refine stM2 (by assumption) (by with_unfolding_all (repeat (first | exact Up.head _ _ _ _ | apply Up.tail))) fun _ _ => ?_) | (with_reducible refine stM3 (by assumption) (by with_unfolding_all (repeat (first | exact Up.head _ _ _ _ | apply Up.tail))) fun _ _ => ?_) | (with_reducible refine stAM' (by assumption) (by with_unfolding_all (repeat (first | exact Up.head _ _ _ _ | apply Up.tail))) fun _ _ => ?_) | (with_reducible refine stAL (by assumption) (by with_unfolding_all (repeat (first | exact Up.head _ _ _ _ | apply Up.tail))) fun _ _ => ?_) | (with_reducible refine And.intro (fun _ => ?_) (fun _ => ?_)) | (refine stAM' (by assumption) (by with_unfolding_all (repeat (first | exact Up.head _ _ _ _ | apply Up.tail))) fun _ _ => ?_))
      exact hK _ _ _ (fun h => by simp at h) (by assumption : M w _ _).low
    · refine ldAM m8 (by with_unfolding_all (repeat (first | exact List.mem_cons_self | refine List.mem_cons_of_mem _ ?_))) ?_
      refine impl.Range.tidy.q (hs (by simpa using hc)) fun r' w9 hr' hb9 => ?_
      have m9 := m8.below hb9
      repeat' (first | (with_reducible refine ldM (by assumption) (by with_unfolding_all (repeat (first | exact List.mem_cons_self | refine List.mem_cons_of_mem _ ?_))) (by with_unfolding_all rfl) ?_) | (with_reducible refine ldAM (by assumption) (by with_unfolding_all (repeat (first | exact List.mem_cons_self | refine List.mem_cons_of_mem _ ?_))) ?_) | (with_reducible refine nwZ (by assumption) fun _ _ _ => ?_) | (with_reducible refine nwM' (by assumption) fun _ _ _ => ?_) | (with_reducible refine stM0 (by assumption) (by with_unfolding_all (repeat (first | exact Up.head _ _ _ _ | apply Up.tail))) fun _ _ => ?_) | (with_reducible refine stM1 (by assumption) (by with_unfolding_all (repeat (first | exact Up.head _ _ _ _ | apply Up.tail))) fun _ _ => ?_) | (with_reducible refine stM2 (by assumption) (by with_unfolding_all (repeat (first | exact Up.head _ _ _ _ | apply Up.tail))) fun _ _ => ?_) | (with_reducible refine stM3 (by assumption) (by with_unfolding_all (repeat (first | exact Up.head _ _ _ _ | apply Up.tail))) fun _ _ => ?_) | (with_reducible refine stAM' (by assumption) (by with_unfolding_all (repeat (first | exact Up.head _ _ _ _ | apply Up.tail))) fun _ _ => ?_) | (with_reducible refine stAL (by assumption) (by with_unfolding_all (repeat (first | exact Up.head _ _ _ _ | apply Up.tail))) fun _ _ => ?_) | (with_reducible refine And.intro (fun _ => ?_) (fun _ => ?_)) | (refine stAM' (by assumption) (by with_unfolding_all (repeat (first | exact Up.head _ _ _ _ | apply Up.tail))) fun _ _ => ?_))
      exact hK _ _ _ (fun _ => hr') (by assumption : M w _ _).low
theorem impl.below.q {a b : T4} {less : Bool} {K : T4 × T4 × Bool × Unit → World → Prop} (hK : ∀ x y ok w', (ok = true → Gd x ∧ Gd y) → Below w.heap.size w w' → K (x, y, ok, ()) w') :
    CallT (.n [(.ag (R 4 (.i .i64))), (.ag (R 4 (.i .i64))), (.lf .b)]) P0 196 [.agg (Tup.cells (R 4 (.i .i64)) a).toArray, .agg (Tup.cells (R 4 (.i .i64)) b).toArray, .bool less] w K := by
  refine impl.below.ok ?_
  unfold impl.below.vc
  have hm := M.start w
  repeat' (first | (with_reducible refine ldM (by assumption) (by with_unfolding_all (repeat (first | exact List.mem_cons_self | refine List.mem_cons_of_mem _ ?_))) (by with_unfolding_all rfl) ?_) | (with_reducible refine ldAM (by assumption) (by with_unfolding_all (repeat (first | exact List.mem_cons_self | refine List.mem_cons_of_mem _ ?_))) ?_) | (with_reducible refine nwZ (by assumption) fun _ _ _ => ?_) | (with_reducible refine nwM' (by assumption) fun _ _ _ => ?_) | (with_reducible refine stM0 (by assumption) (by with_unfolding_all (repeat (first | exact Up.head _ _ _ _ | apply Up.tail))) fun _ _ => ?_) | (with_reducible refine stM1 (by assumption) (by with_unfolding_all (repeat (first | exact Up.head _ _ _ _ | apply Up.tail))) fun _ _ => ?_) | (with_reducible refine stM2 (by assumption) (by with_unfolding_all (repeat (first | exact Up.head _ _ _ _ | apply Up.tail))) fun _ _ => ?_) | (with_reducible refine stM3 (by assumption) (by with_unfolding_all (repeat (first | exact Up.head _ _ _ _ | apply Up.tail))) fun _ _ => ?_) | (with_reducible refine stAM' (by assumption) (by with_unfolding_all (repeat (first | exact Up.head _ _ _ _ | apply Up.tail))) fun _ _ => ?_) | (with_reducible refine stAL (by assumption) (by with_unfolding_all (repeat (first | exact Up.head _ _ _ _ | apply Up.tail))) fun _ _ => ?_) | (with_reducible refine And.intro (fun _ => ?_) (fun _ => ?_)) | (refine stAM' (by assumption) (by with_unfolding_all (repeat (first | exact Up.head _ _ _ _ | apply Up.tail))) fun _ _ => ?_))
  rename_i w1 b1 m1 w2 b2 m2 w3 b3 m3 w4 b4 m4
  refine ⟨fun w' => ∃ x y, M w w' [(b4, ((0, 0, 0, 0, ()) : T4)), (b3, ((0, 0, 0, 0, ()) : T4)), (b2, y), (b1, x)], ?_, fun w5 m5 _ => ?_⟩
  · repeat' (first | (with_reducible refine ldM (by assumption) (by with_unfolding_all (repeat (first | exact List.mem_cons_self | refine List.mem_cons_of_mem _ ?_))) (by with_unfolding_all rfl) ?_) | (with_reducible refine ldAM (by assumption) (by with_unfolding_all (repeat (first | exact List.mem_cons_self | refine List.mem_cons_of_mem _ ?_))) ?_) | (with_reducible refine nwZ (by assumption) fun _ _ _ => ?_) | (with_reducible refine nwM' (by assumption) fun _ _ _ => ?_) | (with_reducible refine stM0 (by assumption) (by with_unfolding_all (repeat (first | exact Up.head _ _ _ _ | apply Up.tail))) fun _ _ => ?_) | (with_reducible refine stM1 (by assumption) (by with_unfolding_all (repeat (first | exact Up.head _ _ _ _ | apply Up.tail))) fun _ _ => ?_) | (with_reducible refine stM2 (by assumption) (by with_unfolding_all (repeat (first | exact Up.head _ _ _ _ | apply Up.tail))) fun _ _ => ?_) | (with_reducible refine stM3 (by assumption) (by with_unfolding_all (repeat (first | exact Up.head _ _ _ _ | apply Up.tail))) fun _ _ => ?_) | (with_reducible refine stAM' (by assumption) (by with_unfolding_all (repeat (first | exact Up.head _ _ _ _ | apply Up.tail))) fun _ _ => ?_) | (with_reducible refine stAL (by assumption) (by with_unfolding_all (repeat (first | exact Up.head _ _ _ _ | apply Up.tail))) fun _ _ => ?_) | (with_reducible refine And.intro (fun _ => ?_) (fun _ => ?_)) | (refine stAM' (by assumption) (by with_unfolding_all (repeat (first | exact Up.head _ _ _ _ | apply Up.tail))) fun _ _ => ?_))
    · exact ⟨_, _, by assumption⟩
    · exact ⟨_, _, by assumption⟩
  obtain ⟨x, y, m5⟩ := m5
  clear m1 m2 m3 m4 hm
  repeat' (first | (with_reducible refine ldM (by assumption) (by with_unfolding_all (repeat (first | exact List.mem_cons_self | refine List.mem_cons_of_mem _ ?_))) (by with_unfolding_all rfl) ?_) | (with_reducible refine ldAM (by assumption) (by with_unfolding_all (repeat (first | exact List.mem_cons_self | refine List.mem_cons_of_mem _ ?_))) ?_) | (with_reducible refine nwZ (by assumption) fun _ _ _ => ?_) | (with_reducible refine nwM' (by assumption) fun _ _ _ => ?_) | (with_reducible refine stM0 (by assumption) (by with_unfolding_all (repeat (first | exact Up.head _ _ _ _ | apply Up.tail))) fun _ _ => ?_) | (with_reducible refine stM1 (by assumption) (by with_unfolding_all (repeat (first | exact Up.head _ _ _ _ | apply Up.tail))) fun _ _ => ?_) | (with_reducible refine stM2 (by assumption) (by with_unfolding_all (repeat (first | exact Up.head _ _ _ _ | apply Up.tail))) fun _ _ => ?_) | (with_reducible refine stM3 (by assumption) (by with_unfolding_all (repeat (first | exact Up.head _ _ _ _ | apply Up.tail))) fun _ _ => ?_) | (with_reducible refine stAM' (by assumption) (by with_unfolding_all (repeat (first | exact Up.head _ _ _ _ | apply Up.tail))) fun _ _ => ?_) | (with_reducible refine stAL (by assumption) (by with_unfolding_all (repeat (first | exact Up.head _ _ _ _ | apply Up.tail))) fun _ _ => ?_) | (with_reducible refine And.intro (fun _ => ?_) (fun _ => ?_)) | (refine stAM' (by assumption) (by with_unfolding_all (repeat (first | exact Up.head _ _ _ _ | apply Up.tail))) fun _ _ => ?_))
  refine impl.Range.some.q fun ok w6 hs hb6 => ?_
  have m6 := m5.below hb6
  clear m5
  refine And.intro (fun hc => ?_) (fun hc => ?_)
  · refine impl.noRange.c fun w7 hb7 => ?_
    have m7 := m6.below hb7
    refine impl.noRange.c fun w8 hb8 => ?_
    have m8 := m7.below hb8
    clear m6 m7
    repeat' (first | (with_reducible refine ldM (by assumption) (by with_unfolding_all (repeat (first | exact List.mem_cons_self | refine List.mem_cons_of_mem _ ?_))) (by with_unfolding_all rfl) ?_) | (with_reducible refine ldAM (by assumption) (by with_unfolding_all (repeat (first | exact List.mem_cons_self | refine List.mem_cons_of_mem _ ?_))) ?_) | (with_reducible refine nwZ (by assumption) fun _ _ _ => ?_) | (with_reducible refine nwM' (by assumption) fun _ _ _ => ?_) | (with_reducible refine stM0 (by assumption) (by with_unfolding_all (repeat (first | exact Up.head _ _ _ _ | apply Up.tail))) fun _ _ => ?_) | (with_reducible refine stM1 (by assumption) (by with_unfolding_all (repeat (first | exact Up.head _ _ _ _ | apply Up.tail))) fun _ _ => ?_) | (with_reducible refine stM2 (by assumption) (by with_unfolding_all (repeat (first | exact Up.head _ _ _ _ | apply Up.tail))) fun _ _ => ?_) | (with_reducible refine stM3 (by assumption) (by with_unfolding_all (repeat (first | exact Up.head _ _ _ _ | apply Up.tail))) fun _ _ => ?_) | (with_reducible refine stAM' (by assumption) (by with_unfolding_all (repeat (first | exact Up.head _ _ _ _ | apply Up.tail))) fun _ _ => ?_) | (with_reducible refine stAL (by assumption) (by with_unfolding_all (repeat (first | exact Up.head _ _ _ _ | apply Up.tail))) fun _ _ => ?_) | (with_reducible refine And.intro (fun _ => ?_) (fun _ => ?_)) | (refine stAM' (by assumption) (by with_unfolding_all (repeat (first | exact Up.head _ _ _ _ | apply Up.tail))) fun _ _ => ?_))
    exact hK _ _ _ _ (fun h => by simp at h) (by assumption : M w _ _).low
  · refine ldAM m6 (by with_unfolding_all (repeat (first | exact List.mem_cons_self | refine List.mem_cons_of_mem _ ?_))) ?_
    refine impl.Range.some.q fun ok2 w7 hs2 hb7 => ?_
    have m7 := m6.below hb7
    clear m6
    refine And.intro (fun hc2 => ?_) (fun hc2 => ?_)
    · refine impl.noRange.c fun w8 hb8 => ?_
      have m8 := m7.below hb8
      refine impl.noRange.c fun w9 hb9 => ?_
      have m9 := m8.below hb9
      clear m7 m8
      repeat' (first | (with_reducible refine ldM (by assumption) (by with_unfolding_all (repeat (first | exact List.mem_cons_self | refine List.mem_cons_of_mem _ ?_))) (by with_unfolding_all rfl) ?_) | (with_reducible refine ldAM (by assumption) (by with_unfolding_all (repeat (first | exact List.mem_cons_self | refine List.mem_cons_of_mem _ ?_))) ?_) | (with_reducible refine nwZ (by assumption) fun _ _ _ => ?_) | (with_reducible refine nwM' (by assumption) fun _ _ _ => ?_) | (with_reducible refine stM0 (by assumption) (by with_unfolding_all (repeat (first | exact Up.head _ _ _ _ | apply Up.tail))) fun _ _ => ?_) | (with_reducible refine stM1 (by assumption) (by with_unfolding_all (repeat (first | exact Up.head _ _ _ _ | apply Up.tail))) fun _ _ => ?_) | (with_reducible refine stM2 (by assumption) (by with_unfolding_all (repeat (first | exact Up.head _ _ _ _ | apply Up.tail))) fun _ _ => ?_) | (with_reducible refine stM3 (by assumption) (by with_unfolding_all (repeat (first | exact Up.head _ _ _ _ | apply Up.tail))) fun _ _ => ?_) | (with_reducible refine stAM' (by assumption) (by with_unfolding_all (repeat (first | exact Up.head _ _ _ _ | apply Up.tail))) fun _ _ => ?_) | (with_reducible refine stAL (by assumption) (by with_unfolding_all (repeat (first | exact Up.head _ _ _ _ | apply Up.tail))) fun _ _ => ?_) | (with_reducible refine And.intro (fun _ => ?_) (fun _ => ?_)) | (refine stAM' (by assumption) (by with_unfolding_all (repeat (first | exact Up.head _ _ _ _ | apply Up.tail))) fun _ _ => ?_))
      exact hK _ _ _ _ (fun h => by simp at h) (by assumption : M w _ _).low
    · have hx := hs (by simpa using hc)
      have hy := hs2 (by simpa using hc2)
      have hd : Del [(b4, ((0, 0, 0, 0, ()) : T4)), (b3, ((0, 0, 0, 0, ()) : T4)), (b2, y), (b1, x)] b3 ((0, 0, 0, 0, ()) : T4) [(b4, ((0, 0, 0, 0, ()) : T4)), (b2, y), (b1, x)] := by (repeat (first | exact Del.head _ _ _ | apply Del.tail))
      refine ⟨SpF w7.heap.size [b3] Gd, spfOk _ _ _, prG Gd, keptPr, prG Gd, keptPr, prG Gd, keptPr, prG Gd, keptPr, _, keptF (b := b3) (by simp), fun w8 hs => ?_, fun t46 => ⟨fun w8 hs f => ?_, fun t47 => ⟨fun w8 hs => ?_, fun t48 => ⟨fun w8 hs f => ?_, fun t49 => ⟨fun w8 hs f => ?_, fun st w8 hs f1 f2 f3 f4 fs => ?_⟩⟩⟩⟩⟩
      · exact ldAM (m7.spf1 hd hs) (by with_unfolding_all (repeat (first | exact List.mem_cons_self | refine List.mem_cons_of_mem _ ?_))) (gkP rfl (SpF.refl _ _ _ _) hx)
      · refine impl.Range.tidy.q f fun r' w9 hr' hb9 => gkP rfl (SpF.of_below (hb9.mono hs.size) fun b hb => ?_) hr'
        rw [List.mem_singleton] at hb; subst hb
        exact m7.ltB hd.mem
      · exact ldAM (m7.spf1 hd hs) (by with_unfolding_all (repeat (first | exact List.mem_cons_self | refine List.mem_cons_of_mem _ ?_))) (gkP rfl (SpF.refl _ _ _ _) hy)
      · refine impl.Range.tidy.q f fun r' w9 hr' hb9 => gkP rfl (SpF.of_below (hb9.mono hs.size) fun b hb => ?_) hr'
        rw [List.mem_singleton] at hb; subst hb
        exact m7.ltB hd.mem
      · exact stSpF m7 hd.mem hs (by simp) rfl f
      · obtain ⟨z, hz, m8⟩ := m7.spf1B hd hs fs
        repeat' (first | (with_reducible refine ldM (by assumption) (by with_unfolding_all (repeat (first | exact List.mem_cons_self | refine List.mem_cons_of_mem _ ?_))) (by with_unfolding_all rfl) ?_) | (with_reducible refine ldAM (by assumption) (by with_unfolding_all (repeat (first | exact List.mem_cons_self | refine List.mem_cons_of_mem _ ?_))) ?_) | (with_reducible refine nwZ (by assumption) fun _ _ _ => ?_) | (with_reducible refine nwM' (by assumption) fun _ _ _ => ?_) | (with_reducible refine stM0 (by assumption) (by with_unfolding_all (repeat (first | exact Up.head _ _ _ _ | apply Up.tail))) fun _ _ => ?_) | (with_reducible refine stM1 (by assumption) (by with_unfolding_all (repeat (first | exact Up.head _ _ _ _ | apply Up.tail))) fun _ _ => ?_) | (with_reducible refine stM2 (by assumption) (by with_unfolding_all (repeat (first | exact Up.head _ _ _ _ | apply Up.tail))) fun _ _ => ?_) | (with_reducible refine stM3 (by assumption) (by with_unfolding_all (repeat (first | exact Up.head _ _ _ _ | apply Up.tail))) fun _ _ => ?_) | (with_reducible refine stAM' (by assumption) (by with_unfolding_all (repeat (first | exact Up.head _ _ _ _ | apply Up.tail))) fun _ _ => ?_) | (with_reducible refine stAL (by assumption) (by with_unfolding_all (repeat (first | exact Up.head _ _ _ _ | apply Up.tail))) fun _ _ => ?_) | (with_reducible refine And.intro (fun _ => ?_) (fun _ => ?_)) | (refine stAM' (by assumption) (by with_unfolding_all (repeat (first | exact Up.head _ _ _ _ | apply Up.tail))) fun _ _ => ?_))
        exact hK _ _ _ _ (fun _ => ⟨hz, f4⟩) (by assumption : M w _ _).low
end
end Go.Proofs.YtihllippchgkgaaGreat.V

/- Verification conditions, printed by this session's own program (wip/vc.py) and checked by the kernel. -/
namespace Go.Proofs.YtihllippchgkgaaGreat.V
open Go Go.RowKit
set_option linter.unusedVariables false
/- impl.rangeAll -/
def impl.rangeAll.pl : Pl := (.s (.r (D 1)) (.s (.r (D 2)) .z))
def impl.rangeAll.vc  (w : World) (K : Tup (R 4 (.i .i64)) → World → Prop) : Prop :=
Nw (zc P0 90) 90 w fun a_t0 w_ =>
StA P0 a_t0 [(.int .i64 0), (.int .i64 4294967295), (.int .i64 0), (.int .i64 4294967295)] w_ fun w__1 =>
LdA (R 4 (.i .i64)) a_t0 w__1 fun r w__2 =>
K r w__1
theorem impl.rangeAll.ok  {w : World} {K : Tup (R 4 (.i .i64)) → World → Prop} (h : impl.rangeAll.vc  w K) : CallT (.o (.ag (R 4 (.i .i64)))) P0 208 [] w K :=
  call_of Tryz.func208 rfl rfl (pl := impl.rangeAll.pl) (show VC P0 Tryz.f208 impl.rangeAll.pl (.o (.ag (R 4 (.i .i64)))) [] w K noP from Eq.mp (by kernel_rfl) h)
/- impl.reckon -/
def impl.reckon.pl : Pl := (.s (.r (D 1)) (.s (.s (.r (D 1)) (.b (.s (.r (D 2)) (.c (.s (.r (D 5)) .z) (.s (.r (D 2)) (.c (.s (.r (D 5)) .z) (.s (.r (D 2)) (.c (.s (.r (D 7)) .z) (.s (.r (D 2)) (.c (.s (.r (D 4)) .z) (.s (.r (D 2)) (.c (.s (.r (D 4)) .z) (.s (.r (D 2)) (.c (.s (.r (D 4)) .z) (.s (.r (D 2)) (.c (.s (.r (D 6)) .z) (.s (.r (D 2)) (.c (.s (.r (D 5)) .z) (.s (.r (D 2)) (.c (.s (.s (.r (D 2)) (.c (.s (.r (D 1)) .z) .z)) (.s (.r (D 4)) .z)) (.s (.r (D 2)) (.c (.s (.s (.r (D 2)) (.c (.s (.r (D 2)) .z) .z)) (.s (.r (D 4)) .z)) .z)))))))))))))))))))))) (.s (.r (D 2)) .z)))
def impl.reckon.vc (op : Int) (a : Int) (b : Int) (w : World) (K : Int → World → Prop) : Prop :=
(((op : Int) == 2) = true → K (iAnd .i64 (IntKind.wrap .i64 (a + b)) 4294967295) w) ∧
(((op : Int) == 2) = false → (((op : Int) == 3) = true → K (iAnd .i64 (IntKind.wrap .i64 (a - b)) 4294967295) w) ∧
(((op : Int) == 3) = false → (((op : Int) == 4) = true → K (IntKind.wrap .i64 (IntKind.wrap .u32 ((IntKind.wrap .u32 a) * (IntKind.wrap .u32 b)))) w) ∧
(((op : Int) == 4) = false → (((op : Int) == 5) = true → K (iAnd .i64 a b) w) ∧
(((op : Int) == 5) = false → (((op : Int) == 6) = true → K (iOr .i64 a b) w) ∧
(((op : Int) == 6) = false → (((op : Int) == 7) = true → K (iXor .i64 a b) w) ∧
(((op : Int) == 7) = false → (((op : Int) == 8) = true → (32 : Int) ≠ 0 ∧ (0 : Int) ≤ (Int.tmod b 32) ∧ K (iAnd .i64 (IntKind.wrap .i64 (a * 2 ^ (min (Int.toNat (Int.tmod b 32)) (IntKind.bits .i64)))) 4294967295) w) ∧
(((op : Int) == 8) = false → (((op : Int) == 9) = true → (32 : Int) ≠ 0 ∧ (0 : Int) ≤ (Int.tmod b 32) ∧ K (Int.fdiv a (2 ^ (min (Int.toNat (Int.tmod b 32)) (IntKind.bits .i64)))) w) ∧
(((op : Int) == 9) = false → (((op : Int) == 10) = true → (((b : Int) == 0) = true → K 0 w) ∧
(((b : Int) == 0) = false → (b : Int) ≠ 0 ∧ K (IntKind.wrap .i64 (Int.tdiv a b)) w)) ∧
(((op : Int) == 10) = false → (((op : Int) == 11) = true → (((b : Int) == 0) = true → K a w) ∧
(((b : Int) == 0) = false → (b : Int) ≠ 0 ∧ K (Int.tmod a b) w)) ∧
(((op : Int) == 11) = false → K b w))))))))))
theorem impl.reckon.ok {op : Int} {a : Int} {b : Int} {w : World} {K : Int → World → Prop} (h : impl.reckon.vc op a b w K) : CallT (.o (.lf (.i .i64))) P0 152 [(.int .i64 op), (.int .i64 a), (.int .i64 b)] w K :=
  call_of Tryz.func152 rfl rfl (pl := impl.reckon.pl) (show VC P0 Tryz.f152 impl.reckon.pl (.o (.lf (.i .i64))) [(.int .i64 op), (.int .i64 a), (.int .i64 b)] w K noP from Eq.mp (by kernel_rfl) h)
/- impl.added -/
def impl.added.pl : Pl := (.s (.r (D 3)) (.s (.r [.d, (.l (.lf (.i .i64))), .d, (.l (.lf (.i .i64))), .d, .d, (.l (.lf (.i .i64))), .d, (.l (.lf (.i .i64))), .d, .d, (.l (.lf (.i .i64))), .d, .d, (.l (.lf (.i .i64))), .d, .d, .d]) (.s (.r [.d, .d, .d, .d, (.l (.lf (.i .i64))), .d, .d, (.l (.lf (.i .i64))), .d, .d, .d]) (.s (.r (D 8)) (.s (.s (.r [.d, (.l (.lf (.i .i64))), .d, (.l (.lf (.i .i64))), .d, .d]) (.c (.g [(.q, []), ((.g (.o (.lf (.i .i64))) (.l (.lf (.i .i64)))), []), (.q, []), ((.g (.o (.lf (.i .i64))) (.l (.lf (.i .i64)))), []), (.q, [1, 3]), (.q, []), ((.g (.o (.lf (.i .i64))) (.l (.lf (.i .i64)))), []), (.q, []), ((.g (.o (.lf (.i .i64))) (.l (.lf (.i .i64)))), []), (.q, [6, 8]), (.q, []), ((.g .z .d), [1, 3])] [.d, .d]) .z)) (.s (.r [(.l (.ag (R 4 (.i .i64)))), (.c (.o (.ag (R 4 (.i .i64))))), .d]) .z))))))
def impl.added.vc (a : Tup (R 4 (.i .i64))) (b : Tup (R 4 (.i .i64))) (w : World) (K : Tup (R 4 (.i .i64)) → World → Prop) : Prop :=
Nw (Tup.cells (R 4 (.i .i64)) a).toArray 90 w fun a_a w_ =>
Nw (Tup.cells (R 4 (.i .i64)) b).toArray 90 w_ fun a_b w__1 =>
Nw (zc P0 90) 90 w__1 fun a_t4 w__2 =>
QLd (.i .i64) (Addr.add a_a 2) (fun w' => Below (World.heap w__2).size w__2 w') fun (t10 : Int) =>
QLd (.i .i64) (Addr.add a_b 2) (fun w' => Below (World.heap w__2).size w__2 w') fun (t12 : Int) =>
QLd (.i .i64) (Addr.add a_a 2) (fun w' => Below (World.heap w__2).size w__2 w') fun (t15 : Int) =>
QLd (.i .i64) (Addr.add a_b 2) (fun w' => Below (World.heap w__2).size w__2 w') fun (t17 : Int) =>
QLd (.i .i64) (Addr.add a_a 3) (fun w' => Below (World.heap w__2).size w__2 w') fun (t20 : Int) =>
QLd (.i .i64) (Addr.add a_b 3) (fun w' => Below (World.heap w__2).size w__2 w') fun (t23 : Int) =>
∀ w__3, Below (World.heap w__2).size w__2 w__3 →
Ld (.i .i64) (Addr.add a_a 3) w__3 fun (t29 : Int) w__4 =>
Ld (.i .i64) (Addr.add a_b 3) w__4 fun (t32 : Int) w__5 =>
Nw (zc P0 90) 90 w__5 fun a_out w__6 =>
StA P0 a_out [(.int .i64 0), (.int .i64 4294967295), (.int .i64 (iAnd .i64 (iAndNot .i64 (IntKind.wrap .i64 (t10 + t12)) (iAnd .i64 (iOr .i64 (iOr .i64 (iXor .i64 (IntKind.wrap .i64 (t10 + t12)) (IntKind.wrap .i64 ((IntKind.wrap .i64 ((IntKind.wrap .i64 (t15 + t17)) + t20)) + t23))) t29) t32) 4294967295)) 4294967295)), (.int .i64 (iAnd .i64 (iOr .i64 (iOr .i64 (iXor .i64 (IntKind.wrap .i64 (t10 + t12)) (IntKind.wrap .i64 ((IntKind.wrap .i64 ((IntKind.wrap .i64 (t15 + t17)) + t20)) + t23))) t29) t32) 4294967295))] w__6 fun w__7 =>
Ld (.i .i64) (Addr.add a_a 1) w__7 fun (t42 : Int) w__8 =>
Ld (.i .i64) (Addr.add a_b 1) w__8 fun (t44 : Int) w__9 =>
((decide (((IntKind.wrap .i64 (t42 + t44)) : Int) ≤ 4294967295)) = true → ∃ Sp : World → World → Prop, SpOk Sp w__9 ∧
∃ G_t48 : Int → World → Prop, Kept Sp G_t48 ∧
∃ G_t50 : Int → World → Prop, Kept Sp G_t50 ∧
∃ G_t53 : Int → World → Prop, Kept Sp G_t53 ∧
∃ G_t55 : Int → World → Prop, Kept Sp G_t55 ∧
∃ G_st : Unit → World → Prop, Kept Sp G_st ∧
(∀ w__10, Sp w__9 w__10 → Ld (.i .i64) (Addr.add a_a 0) w__10 fun (t48 : Int) w__11 =>
GK (.o (.lf (.i .i64))) Sp w__10 G_t48 (.int .i64 t48) w__11) ∧
∀ (t48_1 : Int), (∀ w__12, Sp w__9 w__12 → Ld (.i .i64) (Addr.add a_b 0) w__12 fun (t50 : Int) w__13 =>
GK (.o (.lf (.i .i64))) Sp w__12 G_t50 (.int .i64 t50) w__13) ∧
∀ (t50_1 : Int), (∀ w__14, Sp w__9 w__14 → Ld (.i .i64) (Addr.add a_a 1) w__14 fun (t53 : Int) w__15 =>
GK (.o (.lf (.i .i64))) Sp w__14 G_t53 (.int .i64 t53) w__15) ∧
∀ (t53_1 : Int), (∀ w__16, Sp w__9 w__16 → Ld (.i .i64) (Addr.add a_b 1) w__16 fun (t55 : Int) w__17 =>
GK (.o (.lf (.i .i64))) Sp w__16 G_t55 (.int .i64 t55) w__17) ∧
∀ (t55_1 : Int), (∀ w__18, Sp w__9 w__18 → G_t48 t48_1 w__18 → G_t50 t50_1 w__18 → St (Addr.add a_out 0) (.int .i64 (IntKind.wrap .i64 (t48_1 + t50_1))) w__18 fun w__19 =>
GK .z Sp w__18 G_st (.tuple #[]) w__19) ∧
∀ (st : Unit), ∀ w__20, Sp w__9 w__20 → G_t48 t48_1 w__20 → G_t50 t50_1 w__20 → G_t53 t53_1 w__20 → G_t55 t55_1 w__20 → G_st st w__20 → 
St (Addr.add a_out 1) (.int .i64 (IntKind.wrap .i64 (t53_1 + t55_1))) w__20 fun w__21 =>
LdA (R 4 (.i .i64)) a_out w__21 fun (t59 : Tup (R 4 (.i .i64))) w__22 =>
CallT (.o (.ag (R 4 (.i .i64)))) P0 195 [(.agg (Tup.cells (R 4 (.i .i64)) t59).toArray)] w__22 fun (t60 : Tup (R 4 (.i .i64))) w__23 =>
StA P0 a_t4 (Tup.cells (R 4 (.i .i64)) t60) w__23 fun w__24 =>
LdA (R 4 (.i .i64)) a_t4 w__24 fun r w__25 =>
K r w__24) ∧
((decide (((IntKind.wrap .i64 (t42 + t44)) : Int) ≤ 4294967295)) = false → LdA (R 4 (.i .i64)) a_out w__9 fun (t59_1 : Tup (R 4 (.i .i64))) w__26 =>
CallT (.o (.ag (R 4 (.i .i64)))) P0 195 [(.agg (Tup.cells (R 4 (.i .i64)) t59_1).toArray)] w__26 fun (t60_1 : Tup (R 4 (.i .i64))) w__27 =>
StA P0 a_t4 (Tup.cells (R 4 (.i .i64)) t60_1) w__27 fun w__28 =>
LdA (R 4 (.i .i64)) a_t4 w__28 fun r_1 w__29 =>
K r_1 w__28)
theorem impl.added.ok {a : Tup (R 4 (.i .i64))} {b : Tup (R 4 (.i .i64))} {w : World} {K : Tup (R 4 (.i .i64)) → World → Prop} (h : impl.added.vc a b w K) : CallT (.o (.ag (R 4 (.i .i64)))) P0 213 [(.agg (Tup.cells (R 4 (.i .i64)) a).toArray), (.agg (Tup.cells (R 4 (.i .i64)) b).toArray)] w K :=
  call_of Tryz.func213 rfl rfl (pl := impl.added.pl) (show VC P0 Tryz.f213 impl.added.pl (.o (.ag (R 4 (.i .i64)))) [(.agg (Tup.cells (R 4 (.i .i64)) a).toArray), (.agg (Tup.cells (R 4 (.i .i64)) b).toArray)] w K noP from Eq.mp (by kernel_rfl) h)
/- impl.times -/
def impl.times.pl : Pl := (.s (.r (D 3)) (.s (.s (.r [.d, (.l (.lf (.i .i64))), .d, .d, (.l (.lf (.i .i64))), .d, (.c (.n [(.lf (.i .u64)), (.lf (.i .u64))])), .d, .d, .d, .d, .d]) (.s (.r [.d, .d, (.sp .d), .d, .d, .d]) (.c (.s (.r [(.c (.o (.ag (R 4 (.i .i64))))), .d]) .z) .z))) (.s (.r [.d, (.l (.lf (.i .i64))), .d, (.l (.lf (.i .i64))), .d, .d, (.l (.lf (.i .i64))), .d, (.l (.lf (.i .i64))), .d, (.c (.o (.ag (R 4 (.i .i64))))), .d]) .z)))
def impl.times.vc (a : Tup (R 4 (.i .i64))) (b : Tup (R 4 (.i .i64))) (w : World) (K : Tup (R 4 (.i .i64)) → World → Prop) : Prop :=
Nw (Tup.cells (R 4 (.i .i64)) a).toArray 90 w fun a_a w_ =>
Nw (Tup.cells (R 4 (.i .i64)) b).toArray 90 w_ fun a_b w__1 =>
Nw (zc P0 90) 90 w__1 fun a_t4 w__2 =>
Ld (.i .i64) (Addr.add a_a 1) w__2 fun (t9 : Int) w__3 =>
Ld (.i .i64) (Addr.add a_b 1) w__3 fun (t12 : Int) w__4 =>
CallT (.n [(.lf (.i .u64)), (.lf (.i .u64))]) P0 221 [(.int .u64 (IntKind.wrap .u64 t9)), (.int .u64 (IntKind.wrap .u64 t12))] w__4 fun (t14 : (Int) × (Int) × Unit) w__5 =>
((decide ((t14.1 : Int) > 0)) = true → CallT (.o (.ag (R 4 (.i .i64)))) P0 208 [] w__5 fun (t23 : Tup (R 4 (.i .i64))) w__6 =>
StA P0 a_t4 (Tup.cells (R 4 (.i .i64)) t23) w__6 fun w__7 =>
LdA (R 4 (.i .i64)) a_t4 w__7 fun r w__8 =>
K r w__7) ∧
((decide ((t14.1 : Int) > 0)) = false → ((decide ((t14.2.1 : Int) > 4294967295)) = true → CallT (.o (.ag (R 4 (.i .i64)))) P0 208 [] w__5 fun (t23_1 : Tup (R 4 (.i .i64))) w__9 =>
StA P0 a_t4 (Tup.cells (R 4 (.i .i64)) t23_1) w__9 fun w__10 =>
LdA (R 4 (.i .i64)) a_t4 w__10 fun r_1 w__11 =>
K r_1 w__10) ∧
((decide ((t14.2.1 : Int) > 4294967295)) = false → Ld (.i .i64) (Addr.add a_a 0) w__5 fun (t25 : Int) w__12 =>
Ld (.i .i64) (Addr.add a_b 0) w__12 fun (t27 : Int) w__13 =>
Ld (.i .i64) (Addr.add a_a 1) w__13 fun (t30 : Int) w__14 =>
Ld (.i .i64) (Addr.add a_b 1) w__14 fun (t32 : Int) w__15 =>
CallT (.o (.ag (R 4 (.i .i64)))) P0 205 [(.int .i64 (IntKind.wrap .i64 (t25 * t27))), (.int .i64 (IntKind.wrap .i64 (t30 * t32)))] w__15 fun (t34 : Tup (R 4 (.i .i64))) w__16 =>
StA P0 a_t4 (Tup.cells (R 4 (.i .i64)) t34) w__16 fun w__17 =>
LdA (R 4 (.i .i64)) a_t4 w__17 fun r_2 w__18 =>
K r_2 w__17))
theorem impl.times.ok {a : Tup (R 4 (.i .i64))} {b : Tup (R 4 (.i .i64))} {w : World} {K : Tup (R 4 (.i .i64)) → World → Prop} (h : impl.times.vc a b w K) : CallT (.o (.ag (R 4 (.i .i64)))) P0 214 [(.agg (Tup.cells (R 4 (.i .i64)) a).toArray), (.agg (Tup.cells (R 4 (.i .i64)) b).toArray)] w K :=
  call_of Tryz.func214 rfl rfl (pl := impl.times.pl) (show VC P0 Tryz.f214 impl.times.pl (.o (.ag (R 4 (.i .i64)))) [(.agg (Tup.cells (R 4 (.i .i64)) a).toArray), (.agg (Tup.cells (R 4 (.i .i64)) b).toArray)] w K noP from Eq.mp (by kernel_rfl) h)
/- impl.bitwise -/
def impl.bitwise.pl : Pl := (.s (.r (D 3)) (.s (.r (D 3)) (.s (.s (.r (D 1)) (.b (.s (.r (D 2)) (.c (.s (.r [.d, (.l (.lf (.i .i64))), .d, (.l (.lf (.i .i64))), .d, .d, .d]) (.s (.r [.d, (.l (.lf (.i .i64))), .d, (.l (.lf (.i .i64))), .d, .d, (.l (.lf (.i .i64))), .d, (.l (.lf (.i .i64))), .d, .d, .d, (.l (.lf (.i .i64))), .d, .d, .d]) (.r [.d, (.l (.lf (.i .i64))), .d, (.l (.lf (.i .i64))), .d, .d, .d]))) (.s (.r (D 2)) (.c (.s (.r [.d, (.l (.lf (.i .i64))), .d, (.l (.lf (.i .i64))), .d, .d, .d]) (.s (.r [.d, (.l (.lf (.i .i64))), .d, (.l (.lf (.i .i64))), .d, .d, (.l (.lf (.i .i64))), .d, .d, .d]) (.r [.d, (.l (.lf (.i .i64))), .d, (.l (.lf (.i .i64))), .d, .d, .d]))) (.s (.r [.d, (.l (.lf (.i .i64))), .d, (.l (.lf (.i .i64))), .d, .d, .d]) (.r [.d, (.l (.lf (.i .i64))), .d, (.l (.lf (.i .i64))), .d, .d, (.l (.lf (.i .i64))), .d, .d, .d])))))))) (.s (.r [(.l (.ag (R 4 (.i .i64)))), (.c (.o (.ag (R 4 (.i .i64))))), .d]) .z))))
def impl.bitwise.vc (op : Int) (a : Tup (R 4 (.i .i64))) (b : Tup (R 4 (.i .i64))) (w : World) (K : Tup (R 4 (.i .i64)) → World → Prop) : Prop :=
Nw (Tup.cells (R 4 (.i .i64)) a).toArray 90 w fun a_a w_ =>
Nw (Tup.cells (R 4 (.i .i64)) b).toArray 90 w_ fun a_b w__1 =>
Nw (zc P0 90) 90 w__1 fun a_t6 w__2 =>
Nw (zc P0 90) 90 w__2 fun a_out w__3 =>
StA P0 a_out [(.int .i64 0), (.int .i64 4294967295), (.int .i64 0), (.int .i64 0)] w__3 fun w__4 =>
(((op : Int) == 5) = true → Ld (.i .i64) (Addr.add a_a 2) w__4 fun (t28 : Int) w__5 =>
Ld (.i .i64) (Addr.add a_b 2) w__5 fun (t30 : Int) w__6 =>
St (Addr.add a_out 2) (.int .i64 (iAnd .i64 t28 t30)) w__6 fun w__7 =>
Ld (.i .i64) (Addr.add a_a 2) w__7 fun (t34 : Int) w__8 =>
Ld (.i .i64) (Addr.add a_a 3) w__8 fun (t36 : Int) w__9 =>
Ld (.i .i64) (Addr.add a_b 2) w__9 fun (t39 : Int) w__10 =>
Ld (.i .i64) (Addr.add a_b 3) w__10 fun (t41 : Int) w__11 =>
Ld (.i .i64) (Addr.add a_out 2) w__11 fun (t45 : Int) w__12 =>
St (Addr.add a_out 3) (.int .i64 (iAndNot .i64 (iAnd .i64 (iOr .i64 t34 t36) (iOr .i64 t39 t41)) t45)) w__12 fun w__13 =>
Ld (.i .i64) (Addr.add a_a 1) w__13 fun (t49 : Int) w__14 =>
Ld (.i .i64) (Addr.add a_b 1) w__14 fun (t51 : Int) w__15 =>
St (Addr.add a_out 1) (.int .i64 (if (t51 : Int) < t49 then t51 else t49)) w__15 fun w__16 =>
LdA (R 4 (.i .i64)) a_out w__16 fun (t77 : Tup (R 4 (.i .i64))) w__17 =>
CallT (.o (.ag (R 4 (.i .i64)))) P0 195 [(.agg (Tup.cells (R 4 (.i .i64)) t77).toArray)] w__17 fun (t78 : Tup (R 4 (.i .i64))) w__18 =>
StA P0 a_t6 (Tup.cells (R 4 (.i .i64)) t78) w__18 fun w__19 =>
LdA (R 4 (.i .i64)) a_t6 w__19 fun r w__20 =>
K r w__19) ∧
(((op : Int) == 5) = false → (((op : Int) == 6) = true → Ld (.i .i64) (Addr.add a_a 2) w__4 fun (t57 : Int) w__21 =>
Ld (.i .i64) (Addr.add a_b 2) w__21 fun (t59 : Int) w__22 =>
St (Addr.add a_out 2) (.int .i64 (iOr .i64 t57 t59)) w__22 fun w__23 =>
Ld (.i .i64) (Addr.add a_a 3) w__23 fun (t63 : Int) w__24 =>
Ld (.i .i64) (Addr.add a_b 3) w__24 fun (t65 : Int) w__25 =>
Ld (.i .i64) (Addr.add a_out 2) w__25 fun (t68 : Int) w__26 =>
St (Addr.add a_out 3) (.int .i64 (iAndNot .i64 (iOr .i64 t63 t65) t68)) w__26 fun w__27 =>
Ld (.i .i64) (Addr.add a_a 0) w__27 fun (t72 : Int) w__28 =>
Ld (.i .i64) (Addr.add a_b 0) w__28 fun (t74 : Int) w__29 =>
St (Addr.add a_out 0) (.int .i64 (if (t74 : Int) > t72 then t74 else t72)) w__29 fun w__30 =>
LdA (R 4 (.i .i64)) a_out w__30 fun (t77_1 : Tup (R 4 (.i .i64))) w__31 =>
CallT (.o (.ag (R 4 (.i .i64)))) P0 195 [(.agg (Tup.cells (R 4 (.i .i64)) t77_1).toArray)] w__31 fun (t78_1 : Tup (R 4 (.i .i64))) w__32 =>
StA P0 a_t6 (Tup.cells (R 4 (.i .i64)) t78_1) w__32 fun w__33 =>
LdA (R 4 (.i .i64)) a_t6 w__33 fun r_1 w__34 =>
K r_1 w__33) ∧
(((op : Int) == 6) = false → Ld (.i .i64) (Addr.add a_a 3) w__4 fun (t11 : Int) w__35 =>
Ld (.i .i64) (Addr.add a_b 3) w__35 fun (t13 : Int) w__36 =>
St (Addr.add a_out 3) (.int .i64 (iOr .i64 t11 t13)) w__36 fun w__37 =>
Ld (.i .i64) (Addr.add a_a 2) w__37 fun (t17 : Int) w__38 =>
Ld (.i .i64) (Addr.add a_b 2) w__38 fun (t19 : Int) w__39 =>
Ld (.i .i64) (Addr.add a_out 3) w__39 fun (t22 : Int) w__40 =>
St (Addr.add a_out 2) (.int .i64 (iAndNot .i64 (iXor .i64 t17 t19) t22)) w__40 fun w__41 =>
LdA (R 4 (.i .i64)) a_out w__41 fun (t77_2 : Tup (R 4 (.i .i64))) w__42 =>
CallT (.o (.ag (R 4 (.i .i64)))) P0 195 [(.agg (Tup.cells (R 4 (.i .i64)) t77_2).toArray)] w__42 fun (t78_2 : Tup (R 4 (.i .i64))) w__43 =>
StA P0 a_t6 (Tup.cells (R 4 (.i .i64)) t78_2) w__43 fun w__44 =>
LdA (R 4 (.i .i64)) a_t6 w__44 fun r_2 w__45 =>
K r_2 w__44))
theorem impl.bitwise.ok {op : Int} {a : Tup (R 4 (.i .i64))} {b : Tup (R 4 (.i .i64))} {w : World} {K : Tup (R 4 (.i .i64)) → World → Prop} (h : impl.bitwise.vc op a b w K) : CallT (.o (.ag (R 4 (.i .i64)))) P0 215 [(.int .i64 op), (.agg (Tup.cells (R 4 (.i .i64)) a).toArray), (.agg (Tup.cells (R 4 (.i .i64)) b).toArray)] w K :=
  call_of Tryz.func215 rfl rfl (pl := impl.bitwise.pl) (show VC P0 Tryz.f215 impl.bitwise.pl (.o (.ag (R 4 (.i .i64)))) [(.int .i64 op), (.agg (Tup.cells (R 4 (.i .i64)) a).toArray), (.agg (Tup.cells (R 4 (.i .i64)) b).toArray)] w K noP from Eq.mp (by kernel_rfl) h)
/- impl.shifted -/
def impl.shifted.pl : Pl := (.s (.r (D 3)) (.s (.r [.d, (.l (.lf (.i .i64))), .d, .d]) (.s (.b (.j [(12, .b)] (.r [.d, (.l (.lf (.i .i64))), .d, (.l (.lf (.i .i64))), .d, (.sp .d), .d, .d, .d, .d]) (.c (.s (.r [.d, (.l (.lf (.i .i64))), (.c (.o (.ag (R 4 (.i .i64))))), .d]) .z) (.s (.r [.d, (.l (.lf (.i .i64))), .d, (.l (.lf (.i .i64))), .d, .d]) (.c (.s (.r [(.c (.o (.ag (R 4 (.i .i64))))), .d]) .z) (.s (.r (D 3)) (.c (.s (.g [(.q, []), ((.g (.o (.lf (.i .i64))) (.l (.lf (.i .i64)))), []), (.q, []), ((.g (.o (.lf (.i .i64))) .d), [1]), (.q, []), ((.g (.o (.lf (.i .i64))) (.l (.lf (.i .i64)))), []), (.q, []), ((.g (.o (.lf (.i .i64))) .d), [5]), (.q, []), ((.g (.o (.lf (.i .i64))) (.l (.lf (.i .i64)))), []), (.q, []), ((.g (.o (.lf (.i .i64))) .d), [9]), (.q, []), ((.g (.o (.lf (.i .i64))) (.l (.lf (.i .i64)))), []), (.q, []), ((.g (.o (.lf (.i .i64))) .d), [13]), ((.g (.o (.ag (R 4 (.i .i64)))) .d), [3, 7, 11, 15]), ((.g (.o (.ag (R 4 (.i .i64)))) (.c (.o (.ag (R 4 (.i .i64)))))), [16])] [.d]) .z) .z))))))) (.s (.g [(.q, []), ((.g (.o (.lf (.i .i64))) (.l (.lf (.i .i64)))), []), (.q, []), ((.g (.o (.lf (.i .i64))) .d), [1]), (.q, [3]), (.q, []), ((.g (.o (.lf (.i .i64))) (.l (.lf (.i .i64)))), []), (.q, []), ((.g (.o (.lf (.i .i64))) .d), [6]), (.q, [8]), ((.g (.o (.ag (R 4 (.i .i64)))) .d), [3, 8]), ((.g (.o (.lf .ad)) .d), [])] [.d]) (.s (.s (.r [.d, (.l (.lf (.i .i64))), .d, .d, .d]) (.c (.g [(.q, []), ((.g (.o (.lf (.i .i64))) (.l (.lf (.i .i64)))), []), (.q, []), ((.g (.o (.lf (.i .i64))) .d), [1]), (.q, []), ((.g (.o (.lf (.i .i64))) (.l (.lf (.i .i64)))), []), (.q, []), ((.g (.o (.lf (.i .i64))) .d), [5]), (.q, []), ((.g .z .d), [3])] [.d, .d]) .z)) (.s (.r [(.l (.ag (R 4 (.i .i64)))), (.c (.o (.ag (R 4 (.i .i64))))), .d]) .z))))))
set_option maxHeartbeats 4000000 in
def impl.shifted.vc (op : Int) (a : Tup (R 4 (.i .i64))) (b : Tup (R 4 (.i .i64))) (w : World) (K : Tup (R 4 (.i .i64)) → World → Prop) : Prop :=
Nw (Tup.cells (R 4 (.i .i64)) a).toArray 90 w fun a_a w_ =>
Nw (Tup.cells (R 4 (.i .i64)) b).toArray 90 w_ fun a_b w__1 =>
Nw (zc P0 90) 90 w__1 fun a_t6 w__2 =>
Ld (.i .i64) (Addr.add a_b 0) w__2 fun (t10 : Int) w__3 =>
(32 : Int) ≠ 0 ∧ ∃ J : Bool → World → Prop,
(Ld (.i .i64) (Addr.add a_b 0) w__3 fun (t14 : Int) w__4 =>
Ld (.i .i64) (Addr.add a_b 1) w__4 fun (t16 : Int) w__5 =>
(((t14 : Int) != t16) = true → J ((op : Int) == 9) w__5) ∧
(((t14 : Int) != t16) = false → J false w__5)) ∧
(∀ (t12 : Bool) w__6, J t12 w__6 → ∀ _ : Nat → Value,
(t12 = true → Ld (.i .i64) (Addr.add a_a 1) w__6 fun (t23 : Int) w__7 =>
CallT (.o (.ag (R 4 (.i .i64)))) P0 205 [(.int .i64 0), (.int .i64 t23)] w__7 fun (t24 : Tup (R 4 (.i .i64))) w__8 =>
StA P0 a_t6 (Tup.cells (R 4 (.i .i64)) t24) w__8 fun w__9 =>
LdA (R 4 (.i .i64)) a_t6 w__9 fun r w__10 =>
K r w__9) ∧
(t12 = false → Ld (.i .i64) (Addr.add a_b 0) w__6 fun (t27 : Int) w__11 =>
Ld (.i .i64) (Addr.add a_b 1) w__11 fun (t29 : Int) w__12 =>
(((t27 : Int) != t29) = true → CallT (.o (.ag (R 4 (.i .i64)))) P0 208 [] w__12 fun (t31 : Tup (R 4 (.i .i64))) w__13 =>
StA P0 a_t6 (Tup.cells (R 4 (.i .i64)) t31) w__13 fun w__14 =>
LdA (R 4 (.i .i64)) a_t6 w__14 fun r_1 w__15 =>
K r_1 w__14) ∧
(((t27 : Int) != t29) = false → (((op : Int) == 9) = true → ∃ Sp : World → World → Prop, SpOk Sp w__12 ∧
∃ G_t36 : Int → World → Prop, Kept Sp G_t36 ∧
∃ G_t38 : Int → World → Prop, Kept Sp G_t38 ∧
∃ G_t40 : Int → World → Prop, Kept Sp G_t40 ∧
∃ G_t42 : Int → World → Prop, Kept Sp G_t42 ∧
∃ G_t44 : Int → World → Prop, Kept Sp G_t44 ∧
∃ G_t46 : Int → World → Prop, Kept Sp G_t46 ∧
∃ G_t48 : Int → World → Prop, Kept Sp G_t48 ∧
∃ G_t50 : Int → World → Prop, Kept Sp G_t50 ∧
∃ G_t51 : Tup (R 4 (.i .i64)) → World → Prop, Kept Sp G_t51 ∧
∃ G_t52 : Tup (R 4 (.i .i64)) → World → Prop, Kept Sp G_t52 ∧
(∀ w__16, Sp w__12 w__16 → Ld (.i .i64) (Addr.add a_a 0) w__16 fun (t36 : Int) w__17 =>
GK (.o (.lf (.i .i64))) Sp w__16 G_t36 (.int .i64 t36) w__17) ∧
∀ (t36_1 : Int), (∀ w__18, Sp w__12 w__18 → G_t36 t36_1 w__18 → (0 : Int) ≤ (Int.tmod t10 32) ∧ GK (.o (.lf (.i .i64))) Sp w__18 G_t38 (.int .i64 (Int.fdiv t36_1 (2 ^ (min (Int.toNat (Int.tmod t10 32)) (IntKind.bits .i64))))) w__18) ∧
∀ (t38 : Int), (∀ w__19, Sp w__12 w__19 → Ld (.i .i64) (Addr.add a_a 1) w__19 fun (t40 : Int) w__20 =>
GK (.o (.lf (.i .i64))) Sp w__19 G_t40 (.int .i64 t40) w__20) ∧
∀ (t40_1 : Int), (∀ w__21, Sp w__12 w__21 → G_t40 t40_1 w__21 → (0 : Int) ≤ (Int.tmod t10 32) ∧ GK (.o (.lf (.i .i64))) Sp w__21 G_t42 (.int .i64 (Int.fdiv t40_1 (2 ^ (min (Int.toNat (Int.tmod t10 32)) (IntKind.bits .i64))))) w__21) ∧
∀ (t42 : Int), (∀ w__22, Sp w__12 w__22 → Ld (.i .i64) (Addr.add a_a 2) w__22 fun (t44 : Int) w__23 =>
GK (.o (.lf (.i .i64))) Sp w__22 G_t44 (.int .i64 t44) w__23) ∧
∀ (t44_1 : Int), (∀ w__24, Sp w__12 w__24 → G_t44 t44_1 w__24 → (0 : Int) ≤ (Int.tmod t10 32) ∧ GK (.o (.lf (.i .i64))) Sp w__24 G_t46 (.int .i64 (Int.fdiv t44_1 (2 ^ (min (Int.toNat (Int.tmod t10 32)) (IntKind.bits .i64))))) w__24) ∧
∀ (t46 : Int), (∀ w__25, Sp w__12 w__25 → Ld (.i .i64) (Addr.add a_a 3) w__25 fun (t48 : Int) w__26 =>
GK (.o (.lf (.i .i64))) Sp w__25 G_t48 (.int .i64 t48) w__26) ∧
∀ (t48_1 : Int), (∀ w__27, Sp w__12 w__27 → G_t48 t48_1 w__27 → (0 : Int) ≤ (Int.tmod t10 32) ∧ GK (.o (.lf (.i .i64))) Sp w__27 G_t50 (.int .i64 (Int.fdiv t48_1 (2 ^ (min (Int.toNat (Int.tmod t10 32)) (IntKind.bits .i64))))) w__27) ∧
∀ (t50 : Int), (∀ w__28, Sp w__12 w__28 → G_t38 t38 w__28 → G_t42 t42 w__28 → G_t46 t46 w__28 → G_t50 t50 w__28 → GK (.o (.ag (R 4 (.i .i64)))) Sp w__28 G_t51 (.agg #[(.int .i64 t38), (.int .i64 t42), (.int .i64 t46), (.int .i64 t50)]) w__28) ∧
∀ (t51 : Tup (R 4 (.i .i64))), (∀ w__29, Sp w__12 w__29 → G_t51 t51 w__29 → CallT (.o (.ag (R 4 (.i .i64)))) P0 195 [(.agg (Tup.cells (R 4 (.i .i64)) t51).toArray)] w__29 fun (t52 : Tup (R 4 (.i .i64))) w__30 =>
GK (.o (.ag (R 4 (.i .i64)))) Sp w__29 G_t52 (.agg (Tup.cells (R 4 (.i .i64)) t52).toArray) w__30) ∧
∀ (t52_1 : Tup (R 4 (.i .i64))), ∀ w__31, Sp w__12 w__31 → G_t36 t36_1 w__31 → G_t38 t38 w__31 → G_t40 t40_1 w__31 → G_t42 t42 w__31 → G_t44 t44_1 w__31 → G_t46 t46 w__31 → G_t48 t48_1 w__31 → G_t50 t50 w__31 → G_t51 t51 w__31 → G_t52 t52_1 w__31 → 
StA P0 a_t6 (Tup.cells (R 4 (.i .i64)) t52_1) w__31 fun w__32 =>
LdA (R 4 (.i .i64)) a_t6 w__32 fun r_2 w__33 =>
K r_2 w__32) ∧
(((op : Int) == 9) = false → ∃ Sp_1 : World → World → Prop, SpOk Sp_1 w__12 ∧
∃ G_t54 : Int → World → Prop, Kept Sp_1 G_t54 ∧
∃ G_t56 : Int → World → Prop, Kept Sp_1 G_t56 ∧
∃ G_t59 : Int → World → Prop, Kept Sp_1 G_t59 ∧
∃ G_t61 : Int → World → Prop, Kept Sp_1 G_t61 ∧
∃ G_t63 : Tup (R 4 (.i .i64)) → World → Prop, Kept Sp_1 G_t63 ∧
∃ G_out : Addr → World → Prop, Kept Sp_1 G_out ∧
(∀ w__34, Sp_1 w__12 w__34 → Ld (.i .i64) (Addr.add a_a 2) w__34 fun (t54 : Int) w__35 =>
GK (.o (.lf (.i .i64))) Sp_1 w__34 G_t54 (.int .i64 t54) w__35) ∧
∀ (t54_1 : Int), (∀ w__36, Sp_1 w__12 w__36 → G_t54 t54_1 w__36 → (0 : Int) ≤ (Int.tmod t10 32) ∧ GK (.o (.lf (.i .i64))) Sp_1 w__36 G_t56 (.int .i64 (IntKind.wrap .i64 (t54_1 * 2 ^ (min (Int.toNat (Int.tmod t10 32)) (IntKind.bits .i64))))) w__36) ∧
∀ (t56 : Int), (∀ w__37, Sp_1 w__12 w__37 → Ld (.i .i64) (Addr.add a_a 3) w__37 fun (t59 : Int) w__38 =>
GK (.o (.lf (.i .i64))) Sp_1 w__37 G_t59 (.int .i64 t59) w__38) ∧
∀ (t59_1 : Int), (∀ w__39, Sp_1 w__12 w__39 → G_t59 t59_1 w__39 → (0 : Int) ≤ (Int.tmod t10 32) ∧ GK (.o (.lf (.i .i64))) Sp_1 w__39 G_t61 (.int .i64 (IntKind.wrap .i64 (t59_1 * 2 ^ (min (Int.toNat (Int.tmod t10 32)) (IntKind.bits .i64))))) w__39) ∧
∀ (t61 : Int), (∀ w__40, Sp_1 w__12 w__40 → G_t56 t56 w__40 → G_t61 t61 w__40 → GK (.o (.ag (R 4 (.i .i64)))) Sp_1 w__40 G_t63 (.agg #[(.int .i64 0), (.int .i64 4294967295), (.int .i64 (iAnd .i64 t56 4294967295)), (.int .i64 (iAnd .i64 t61 4294967295))]) w__40) ∧
∀ (t63 : Tup (R 4 (.i .i64))), (∀ w__41, Sp_1 w__12 w__41 → Nw (zc P0 90) 90 w__41 fun a_out w__42 =>
GK (.o (.lf .ad)) Sp_1 w__41 G_out (.pointer (some a_out)) w__42) ∧
∀ (out : Addr), ∀ w__43, Sp_1 w__12 w__43 → G_t54 t54_1 w__43 → G_t56 t56 w__43 → G_t59 t59_1 w__43 → G_t61 t61 w__43 → G_t63 t63 w__43 → G_out out w__43 → 
StA P0 out (Tup.cells (R 4 (.i .i64)) t63) w__43 fun w__44 =>
Ld (.i .i64) (Addr.add a_a 1) w__44 fun (t65 : Int) w__45 =>
(0 : Int) ≤ (Int.tmod t10 32) ∧ ((decide (((IntKind.wrap .i64 (t65 * 2 ^ (min (Int.toNat (Int.tmod t10 32)) (IntKind.bits .i64)))) : Int) ≤ 4294967295)) = true → ∃ Sp_2 : World → World → Prop, SpOk Sp_2 w__45 ∧
∃ G_t70 : Int → World → Prop, Kept Sp_2 G_t70 ∧
∃ G_t72 : Int → World → Prop, Kept Sp_2 G_t72 ∧
∃ G_t74 : Int → World → Prop, Kept Sp_2 G_t74 ∧
∃ G_t76 : Int → World → Prop, Kept Sp_2 G_t76 ∧
∃ G_st : Unit → World → Prop, Kept Sp_2 G_st ∧
(∀ w__46, Sp_2 w__45 w__46 → Ld (.i .i64) (Addr.add a_a 0) w__46 fun (t70 : Int) w__47 =>
GK (.o (.lf (.i .i64))) Sp_2 w__46 G_t70 (.int .i64 t70) w__47) ∧
∀ (t70_1 : Int), (∀ w__48, Sp_2 w__45 w__48 → G_t70 t70_1 w__48 → (0 : Int) ≤ (Int.tmod t10 32) ∧ GK (.o (.lf (.i .i64))) Sp_2 w__48 G_t72 (.int .i64 (IntKind.wrap .i64 (t70_1 * 2 ^ (min (Int.toNat (Int.tmod t10 32)) (IntKind.bits .i64))))) w__48) ∧
∀ (t72 : Int), (∀ w__49, Sp_2 w__45 w__49 → Ld (.i .i64) (Addr.add a_a 1) w__49 fun (t74 : Int) w__50 =>
GK (.o (.lf (.i .i64))) Sp_2 w__49 G_t74 (.int .i64 t74) w__50) ∧
∀ (t74_1 : Int), (∀ w__51, Sp_2 w__45 w__51 → G_t74 t74_1 w__51 → (0 : Int) ≤ (Int.tmod t10 32) ∧ GK (.o (.lf (.i .i64))) Sp_2 w__51 G_t76 (.int .i64 (IntKind.wrap .i64 (t74_1 * 2 ^ (min (Int.toNat (Int.tmod t10 32)) (IntKind.bits .i64))))) w__51) ∧
∀ (t76 : Int), (∀ w__52, Sp_2 w__45 w__52 → G_t72 t72 w__52 → St (Addr.add out 0) (.int .i64 t72) w__52 fun w__53 =>
GK .z Sp_2 w__52 G_st (.tuple #[]) w__53) ∧
∀ (st : Unit), ∀ w__54, Sp_2 w__45 w__54 → G_t70 t70_1 w__54 → G_t72 t72 w__54 → G_t74 t74_1 w__54 → G_t76 t76 w__54 → G_st st w__54 → 
St (Addr.add out 1) (.int .i64 t76) w__54 fun w__55 =>
LdA (R 4 (.i .i64)) out w__55 fun (t79 : Tup (R 4 (.i .i64))) w__56 =>
CallT (.o (.ag (R 4 (.i .i64)))) P0 195 [(.agg (Tup.cells (R 4 (.i .i64)) t79).toArray)] w__56 fun (t80 : Tup (R 4 (.i .i64))) w__57 =>
StA P0 a_t6 (Tup.cells (R 4 (.i .i64)) t80) w__57 fun w__58 =>
LdA (R 4 (.i .i64)) a_t6 w__58 fun r_3 w__59 =>
K r_3 w__58) ∧
((decide (((IntKind.wrap .i64 (t65 * 2 ^ (min (Int.toNat (Int.tmod t10 32)) (IntKind.bits .i64)))) : Int) ≤ 4294967295)) = false → LdA (R 4 (.i .i64)) out w__45 fun (t79_1 : Tup (R 4 (.i .i64))) w__60 =>
CallT (.o (.ag (R 4 (.i .i64)))) P0 195 [(.agg (Tup.cells (R 4 (.i .i64)) t79_1).toArray)] w__60 fun (t80_1 : Tup (R 4 (.i .i64))) w__61 =>
StA P0 a_t6 (Tup.cells (R 4 (.i .i64)) t80_1) w__61 fun w__62 =>
LdA (R 4 (.i .i64)) a_t6 w__62 fun r_4 w__63 =>
K r_4 w__62)))))
theorem impl.shifted.ok {op : Int} {a : Tup (R 4 (.i .i64))} {b : Tup (R 4 (.i .i64))} {w : World} {K : Tup (R 4 (.i .i64)) → World → Prop} (h : impl.shifted.vc op a b w K) : CallT (.o (.ag (R 4 (.i .i64)))) P0 216 [(.int .i64 op), (.agg (Tup.cells (R 4 (.i .i64)) a).toArray), (.agg (Tup.cells (R 4 (.i .i64)) b).toArray)] w K :=
  call_of Tryz.func216 rfl rfl (pl := impl.shifted.pl) (show VC P0 Tryz.f216 impl.shifted.pl (.o (.ag (R 4 (.i .i64)))) [(.int .i64 op), (.agg (Tup.cells (R 4 (.i .i64)) a).toArray), (.agg (Tup.cells (R 4 (.i .i64)) b).toArray)] w K noP from Eq.mp (by kernel_rfl) h)
/- impl.parted -/
def impl.parted.pl : Pl := (.s (.r (D 3)) (.s (.b (.j [(7, .b)] (.r [.d, .d, (.sp .d), .d, (.l (.lf (.i .i64))), .d, .d, .d]) (.c (.s (.g [(.q, []), ((.g (.o (.lf (.i .i64))) (.l (.lf (.i .i64)))), []), (.q, []), ((.g (.o (.lf (.i .i64))) (.l (.lf (.i .i64)))), []), ((.g (.o (.lf (.i .i64))) .d), [1, 3]), (.q, []), ((.g (.o (.lf (.i .i64))) (.l (.lf (.i .i64)))), []), (.q, []), ((.g (.o (.lf (.i .i64))) (.l (.lf (.i .i64)))), []), ((.g (.o (.lf (.i .i64))) .d), [6, 8]), ((.g (.o (.ag (R 4 (.i .i64)))) (.c (.o (.ag (R 4 (.i .i64)))))), [4, 9])] [.d]) .z) (.j [(26, .b)] (.r [.d, .d, (.sp .d), .d, (.l (.lf (.i .i64))), .d, (.l (.lf (.i .i64))), .d, .d, .d]) (.c (.s (.r [(.l (.ag (R 4 (.i .i64)))), .d]) .z) (.s (.r [.d, .d, (.sp .d), .d, (.l (.lf (.i .i64))), .d, .d, (.sp .d), .d, (.l (.lf (.i .i64))), .d, .d, (.l (.lf (.i .i64))), .d, .d, .d]) (.c (.s (.r [.d, (.l (.lf (.i .i64))), .d, (.c (.o (.ag (R 4 (.i .i64))))), .d]) .z) .z))))))) (.s (.r [.d, (.l (.lf (.i .i64))), (.c (.o (.ag (R 4 (.i .i64))))), .d]) .z)))
def impl.parted.vc (op : Int) (a : Tup (R 4 (.i .i64))) (b : Tup (R 4 (.i .i64))) (w : World) (K : Tup (R 4 (.i .i64)) → World → Prop) : Prop :=
Nw (Tup.cells (R 4 (.i .i64)) a).toArray 90 w fun a_a w_ =>
Nw (Tup.cells (R 4 (.i .i64)) b).toArray 90 w_ fun a_b w__1 =>
Nw (zc P0 90) 90 w__1 fun a_t6 w__2 =>
∃ J : Bool → World → Prop,
((((op : Int) == 10) = true → Ld (.i .i64) (Addr.add a_b 0) w__2 fun (t12 : Int) w__3 =>
J (decide ((t12 : Int) > 0)) w__3) ∧
(((op : Int) == 10) = false → J false w__2)) ∧
(∀ (t7 : Bool) w__4, J t7 w__4 → ∀ _ : Nat → Value,
(t7 = true → ∃ Sp : World → World → Prop, SpOk Sp w__4 ∧
∃ G_t16 : Int → World → Prop, Kept Sp G_t16 ∧
∃ G_t18 : Int → World → Prop, Kept Sp G_t18 ∧
∃ G_t19 : Int → World → Prop, Kept Sp G_t19 ∧
∃ G_t21 : Int → World → Prop, Kept Sp G_t21 ∧
∃ G_t23 : Int → World → Prop, Kept Sp G_t23 ∧
∃ G_t24 : Int → World → Prop, Kept Sp G_t24 ∧
∃ G_t25 : Tup (R 4 (.i .i64)) → World → Prop, Kept Sp G_t25 ∧
(∀ w__5, Sp w__4 w__5 → Ld (.i .i64) (Addr.add a_a 0) w__5 fun (t16 : Int) w__6 =>
GK (.o (.lf (.i .i64))) Sp w__5 G_t16 (.int .i64 t16) w__6) ∧
∀ (t16_1 : Int), (∀ w__7, Sp w__4 w__7 → Ld (.i .i64) (Addr.add a_b 1) w__7 fun (t18 : Int) w__8 =>
GK (.o (.lf (.i .i64))) Sp w__7 G_t18 (.int .i64 t18) w__8) ∧
∀ (t18_1 : Int), (∀ w__9, Sp w__4 w__9 → G_t16 t16_1 w__9 → G_t18 t18_1 w__9 → (t18_1 : Int) ≠ 0 ∧ GK (.o (.lf (.i .i64))) Sp w__9 G_t19 (.int .i64 (IntKind.wrap .i64 (Int.tdiv t16_1 t18_1))) w__9) ∧
∀ (t19 : Int), (∀ w__10, Sp w__4 w__10 → Ld (.i .i64) (Addr.add a_a 1) w__10 fun (t21 : Int) w__11 =>
GK (.o (.lf (.i .i64))) Sp w__10 G_t21 (.int .i64 t21) w__11) ∧
∀ (t21_1 : Int), (∀ w__12, Sp w__4 w__12 → Ld (.i .i64) (Addr.add a_b 0) w__12 fun (t23 : Int) w__13 =>
GK (.o (.lf (.i .i64))) Sp w__12 G_t23 (.int .i64 t23) w__13) ∧
∀ (t23_1 : Int), (∀ w__14, Sp w__4 w__14 → G_t21 t21_1 w__14 → G_t23 t23_1 w__14 → (t23_1 : Int) ≠ 0 ∧ GK (.o (.lf (.i .i64))) Sp w__14 G_t24 (.int .i64 (IntKind.wrap .i64 (Int.tdiv t21_1 t23_1))) w__14) ∧
∀ (t24 : Int), (∀ w__15, Sp w__4 w__15 → G_t19 t19 w__15 → G_t24 t24 w__15 → CallT (.o (.ag (R 4 (.i .i64)))) P0 205 [(.int .i64 t19), (.int .i64 t24)] w__15 fun (t25 : Tup (R 4 (.i .i64))) w__16 =>
GK (.o (.ag (R 4 (.i .i64)))) Sp w__15 G_t25 (.agg (Tup.cells (R 4 (.i .i64)) t25).toArray) w__16) ∧
∀ (t25_1 : Tup (R 4 (.i .i64))), ∀ w__17, Sp w__4 w__17 → G_t16 t16_1 w__17 → G_t18 t18_1 w__17 → G_t19 t19 w__17 → G_t21 t21_1 w__17 → G_t23 t23_1 w__17 → G_t24 t24 w__17 → G_t25 t25_1 w__17 → 
StA P0 a_t6 (Tup.cells (R 4 (.i .i64)) t25_1) w__17 fun w__18 =>
LdA (R 4 (.i .i64)) a_t6 w__18 fun r w__19 =>
K r w__18) ∧
(t7 = false → ∃ J_1 : Bool → World → Prop,
((((op : Int) == 11) = true → Ld (.i .i64) (Addr.add a_a 1) w__4 fun (t31 : Int) w__20 =>
Ld (.i .i64) (Addr.add a_b 0) w__20 fun (t33 : Int) w__21 =>
J_1 (decide ((t31 : Int) < t33)) w__21) ∧
(((op : Int) == 11) = false → J_1 false w__4)) ∧
(∀ (t26 : Bool) w__22, J_1 t26 w__22 → ∀ _ : Nat → Value,
(t26 = true → LdA (R 4 (.i .i64)) a_a w__22 fun (t36 : Tup (R 4 (.i .i64))) w__23 =>
StA P0 a_t6 (Tup.cells (R 4 (.i .i64)) t36) w__23 fun w__24 =>
LdA (R 4 (.i .i64)) a_t6 w__24 fun r_1 w__25 =>
K r_1 w__24) ∧
(t26 = false → (((op : Int) == 11) = true → Ld (.i .i64) (Addr.add a_b 0) w__22 fun (t42 : Int) w__26 =>
((decide ((t42 : Int) > 0)) = true → Ld (.i .i64) (Addr.add a_b 1) w__26 fun (t47 : Int) w__27 =>
Ld (.i .i64) (Addr.add a_a 1) w__27 fun (t50 : Int) w__28 =>
((decide (((IntKind.wrap .i64 (t47 - 1)) : Int) < t50)) = true → Ld (.i .i64) (Addr.add a_b 1) w__28 fun (t54 : Int) w__29 =>
CallT (.o (.ag (R 4 (.i .i64)))) P0 205 [(.int .i64 0), (.int .i64 (IntKind.wrap .i64 (t54 - 1)))] w__29 fun (t56 : Tup (R 4 (.i .i64))) w__30 =>
StA P0 a_t6 (Tup.cells (R 4 (.i .i64)) t56) w__30 fun w__31 =>
LdA (R 4 (.i .i64)) a_t6 w__31 fun r_2 w__32 =>
K r_2 w__31) ∧
((decide (((IntKind.wrap .i64 (t47 - 1)) : Int) < t50)) = false → Ld (.i .i64) (Addr.add a_a 1) w__28 fun (t58 : Int) w__33 =>
CallT (.o (.ag (R 4 (.i .i64)))) P0 205 [(.int .i64 0), (.int .i64 t58)] w__33 fun (t59 : Tup (R 4 (.i .i64))) w__34 =>
StA P0 a_t6 (Tup.cells (R 4 (.i .i64)) t59) w__34 fun w__35 =>
LdA (R 4 (.i .i64)) a_t6 w__35 fun r_3 w__36 =>
K r_3 w__35)) ∧
((decide ((t42 : Int) > 0)) = false → Ld (.i .i64) (Addr.add a_a 1) w__26 fun (t58_1 : Int) w__37 =>
CallT (.o (.ag (R 4 (.i .i64)))) P0 205 [(.int .i64 0), (.int .i64 t58_1)] w__37 fun (t59_1 : Tup (R 4 (.i .i64))) w__38 =>
StA P0 a_t6 (Tup.cells (R 4 (.i .i64)) t59_1) w__38 fun w__39 =>
LdA (R 4 (.i .i64)) a_t6 w__39 fun r_4 w__40 =>
K r_4 w__39)) ∧
(((op : Int) == 11) = false → Ld (.i .i64) (Addr.add a_a 1) w__22 fun (t58_2 : Int) w__41 =>
CallT (.o (.ag (R 4 (.i .i64)))) P0 205 [(.int .i64 0), (.int .i64 t58_2)] w__41 fun (t59_2 : Tup (R 4 (.i .i64))) w__42 =>
StA P0 a_t6 (Tup.cells (R 4 (.i .i64)) t59_2) w__42 fun w__43 =>
LdA (R 4 (.i .i64)) a_t6 w__43 fun r_5 w__44 =>
K r_5 w__43)))))
theorem impl.parted.ok {op : Int} {a : Tup (R 4 (.i .i64))} {b : Tup (R 4 (.i .i64))} {w : World} {K : Tup (R 4 (.i .i64)) → World → Prop} (h : impl.parted.vc op a b w K) : CallT (.o (.ag (R 4 (.i .i64)))) P0 217 [(.int .i64 op), (.agg (Tup.cells (R 4 (.i .i64)) a).toArray), (.agg (Tup.cells (R 4 (.i .i64)) b).toArray)] w K :=
  call_of Tryz.func217 rfl rfl (pl := impl.parted.pl) (show VC P0 Tryz.f217 impl.parted.pl (.o (.ag (R 4 (.i .i64)))) [(.int .i64 op), (.agg (Tup.cells (R 4 (.i .i64)) a).toArray), (.agg (Tup.cells (R 4 (.i .i64)) b).toArray)] w K noP from Eq.mp (by kernel_rfl) h)
/- impl.rangeOf -/
def impl.rangeOf.pl : Pl := (.s (.r (D 3)) (.s (.g [((.g (.o (.ag (R 4 (.i .i64)))) (.l (.ag (R 4 (.i .i64))))), []), ((.g (.o (.ag (R 4 (.i .i64)))) (.c (.o (.ag (R 4 (.i .i64)))))), [0]), ((.g (.o (.ag (R 4 (.i .i64)))) (.l (.ag (R 4 (.i .i64))))), []), ((.g (.o (.ag (R 4 (.i .i64)))) (.c (.o (.ag (R 4 (.i .i64)))))), [2]), ((.g .z .d), [1])] [.d]) (.j [] (.s (.r [.d, (.l (.lf (.i .i64))), .d, (.l (.lf (.i .i64))), .d, (.sp .d), .d, (.l (.lf (.i .i64))), .d, (.l (.lf (.i .i64))), .d, .d]) (.c (.s (.r [.d, .d, (.l (.lf (.i .i64))), .d, (.l (.lf (.i .i64))), (.c (.o (.lf (.i .i64)))), (.c (.o (.ag (R 4 (.i .i64))))), .d]) .z) .z)) (.s (.s (.r (D 1)) (.b (.s (.r (D 2)) (.c (.s (.r [(.l (.ag (R 4 (.i .i64)))), .d]) .z) (.s (.r (D 2)) (.c (.s (.r [(.l (.ag (R 4 (.i .i64)))), (.l (.ag (R 4 (.i .i64)))), (.c (.o (.ag (R 4 (.i .i64))))), .d]) .z) (.s (.r (D 2)) (.c (.s (.s (.r [.d, (.l (.lf (.i .i64))), .d, (.l (.lf (.i .i64))), .d]) (.c (.s (.r [(.c (.o (.ag (R 4 (.i .i64))))), .d]) .z) .z)) (.s (.r [.d, (.l (.lf (.i .i64))), .d, (.l (.lf (.i .i64))), .d, .d, (.l (.lf (.i .i64))), .d, (.l (.lf (.i .i64))), .d, (.c (.o (.ag (R 4 (.i .i64))))), .d]) .z)) (.s (.r (D 2)) (.c (.s (.r [(.l (.ag (R 4 (.i .i64)))), (.l (.ag (R 4 (.i .i64)))), (.c (.o (.ag (R 4 (.i .i64))))), .d]) .z) (.j [(63, .b)] (.s (.r (D 2)) (.c .z (.s (.r (D 2)) (.c .z (.r (D 2)))))) (.c (.s (.r [.d, (.l (.ag (R 4 (.i .i64)))), (.l (.ag (R 4 (.i .i64)))), (.c (.o (.ag (R 4 (.i .i64))))), .d]) .z) (.s (.s (.r (D 2)) (.c .z (.r (D 2)))) (.c (.s (.r [.d, (.l (.ag (R 4 (.i .i64)))), (.l (.ag (R 4 (.i .i64)))), (.c (.o (.ag (R 4 (.i .i64))))), .d]) .z) .z)))))))))))))) (.s (.r [.d, (.l (.ag (R 4 (.i .i64)))), (.l (.ag (R 4 (.i .i64)))), (.c (.o (.ag (R 4 (.i .i64))))), .d]) .z)))))
set_option maxHeartbeats 4000000 in
def impl.rangeOf.vc (op : Int) (a : Tup (R 4 (.i .i64))) (b : Tup (R 4 (.i .i64))) (w : World) (K : Tup (R 4 (.i .i64)) → World → Prop) : Prop :=
Nw (Tup.cells (R 4 (.i .i64)) a).toArray 90 w fun a_a w_ =>
Nw (Tup.cells (R 4 (.i .i64)) b).toArray 90 w_ fun a_b w__1 =>
Nw (zc P0 90) 90 w__1 fun a_t6 w__2 =>
∃ Sp : World → World → Prop, SpOk Sp w__2 ∧
∃ G_t7 : Tup (R 4 (.i .i64)) → World → Prop, Kept Sp G_t7 ∧
∃ G_t8 : Tup (R 4 (.i .i64)) → World → Prop, Kept Sp G_t8 ∧
∃ G_t9 : Tup (R 4 (.i .i64)) → World → Prop, Kept Sp G_t9 ∧
∃ G_t10 : Tup (R 4 (.i .i64)) → World → Prop, Kept Sp G_t10 ∧
∃ G_st : Unit → World → Prop, Kept Sp G_st ∧
(∀ w__3, Sp w__2 w__3 → LdA (R 4 (.i .i64)) a_a w__3 fun (t7 : Tup (R 4 (.i .i64))) w__4 =>
GK (.o (.ag (R 4 (.i .i64)))) Sp w__3 G_t7 (.agg (Tup.cells (R 4 (.i .i64)) t7).toArray) w__4) ∧
∀ (t7_1 : Tup (R 4 (.i .i64))), (∀ w__5, Sp w__2 w__5 → G_t7 t7_1 w__5 → CallT (.o (.ag (R 4 (.i .i64)))) P0 195 [(.agg (Tup.cells (R 4 (.i .i64)) t7_1).toArray)] w__5 fun (t8 : Tup (R 4 (.i .i64))) w__6 =>
GK (.o (.ag (R 4 (.i .i64)))) Sp w__5 G_t8 (.agg (Tup.cells (R 4 (.i .i64)) t8).toArray) w__6) ∧
∀ (t8_1 : Tup (R 4 (.i .i64))), (∀ w__7, Sp w__2 w__7 → LdA (R 4 (.i .i64)) a_b w__7 fun (t9 : Tup (R 4 (.i .i64))) w__8 =>
GK (.o (.ag (R 4 (.i .i64)))) Sp w__7 G_t9 (.agg (Tup.cells (R 4 (.i .i64)) t9).toArray) w__8) ∧
∀ (t9_1 : Tup (R 4 (.i .i64))), (∀ w__9, Sp w__2 w__9 → G_t9 t9_1 w__9 → CallT (.o (.ag (R 4 (.i .i64)))) P0 195 [(.agg (Tup.cells (R 4 (.i .i64)) t9_1).toArray)] w__9 fun (t10 : Tup (R 4 (.i .i64))) w__10 =>
GK (.o (.ag (R 4 (.i .i64)))) Sp w__9 G_t10 (.agg (Tup.cells (R 4 (.i .i64)) t10).toArray) w__10) ∧
∀ (t10_1 : Tup (R 4 (.i .i64))), (∀ w__11, Sp w__2 w__11 → G_t8 t8_1 w__11 → StA P0 a_a (Tup.cells (R 4 (.i .i64)) t8_1) w__11 fun w__12 =>
GK .z Sp w__11 G_st (.tuple #[]) w__12) ∧
∀ (st : Unit), ∀ w__13, Sp w__2 w__13 → G_t7 t7_1 w__13 → G_t8 t8_1 w__13 → G_t9 t9_1 w__13 → G_t10 t10_1 w__13 → G_st st w__13 → 
StA P0 a_b (Tup.cells (R 4 (.i .i64)) t10_1) w__13 fun w__14 =>
∃ J : World → Prop,
(Ld (.i .i64) (Addr.add a_a 0) w__14 fun (t12 : Int) w__15 =>
Ld (.i .i64) (Addr.add a_a 1) w__15 fun (t14 : Int) w__16 =>
(((t12 : Int) == t14) = true → Ld (.i .i64) (Addr.add a_b 0) w__16 fun (t18 : Int) w__17 =>
Ld (.i .i64) (Addr.add a_b 1) w__17 fun (t20 : Int) w__18 =>
(((t18 : Int) == t20) = true → Ld (.i .i64) (Addr.add a_a 0) w__18 fun (t25 : Int) w__19 =>
Ld (.i .i64) (Addr.add a_b 0) w__19 fun (t27 : Int) w__20 =>
CallT (.o (.lf (.i .i64))) P0 152 [(.int .i64 op), (.int .i64 t25), (.int .i64 t27)] w__20 fun (t28 : Int) w__21 =>
CallT (.o (.ag (R 4 (.i .i64)))) P0 193 [(.int .i64 t28)] w__21 fun (t29 : Tup (R 4 (.i .i64))) w__22 =>
StA P0 a_t6 (Tup.cells (R 4 (.i .i64)) t29) w__22 fun w__23 =>
LdA (R 4 (.i .i64)) a_t6 w__23 fun r w__24 =>
K r w__23) ∧
(((t18 : Int) == t20) = false → J w__18)) ∧
(((t12 : Int) == t14) = false → J w__16)) ∧
(∀  w__25, J w__25 → ∀ _ : Nat → Value,
(((op : Int) == 1) = true → LdA (R 4 (.i .i64)) a_b w__25 fun (t33 : Tup (R 4 (.i .i64))) w__26 =>
StA P0 a_t6 (Tup.cells (R 4 (.i .i64)) t33) w__26 fun w__27 =>
LdA (R 4 (.i .i64)) a_t6 w__27 fun r_1 w__28 =>
K r_1 w__27) ∧
(((op : Int) == 1) = false → (((op : Int) == 2) = true → LdA (R 4 (.i .i64)) a_a w__25 fun (t36 : Tup (R 4 (.i .i64))) w__29 =>
LdA (R 4 (.i .i64)) a_b w__29 fun (t37 : Tup (R 4 (.i .i64))) w__30 =>
CallT (.o (.ag (R 4 (.i .i64)))) P0 213 [(.agg (Tup.cells (R 4 (.i .i64)) t36).toArray), (.agg (Tup.cells (R 4 (.i .i64)) t37).toArray)] w__30 fun (t38 : Tup (R 4 (.i .i64))) w__31 =>
StA P0 a_t6 (Tup.cells (R 4 (.i .i64)) t38) w__31 fun w__32 =>
LdA (R 4 (.i .i64)) a_t6 w__32 fun r_2 w__33 =>
K r_2 w__32) ∧
(((op : Int) == 2) = false → (((op : Int) == 3) = true → Ld (.i .i64) (Addr.add a_a 0) w__25 fun (t42 : Int) w__34 =>
Ld (.i .i64) (Addr.add a_b 1) w__34 fun (t44 : Int) w__35 =>
((decide ((t42 : Int) < t44)) = true → CallT (.o (.ag (R 4 (.i .i64)))) P0 208 [] w__35 fun (t46 : Tup (R 4 (.i .i64))) w__36 =>
StA P0 a_t6 (Tup.cells (R 4 (.i .i64)) t46) w__36 fun w__37 =>
LdA (R 4 (.i .i64)) a_t6 w__37 fun r_3 w__38 =>
K r_3 w__37) ∧
((decide ((t42 : Int) < t44)) = false → Ld (.i .i64) (Addr.add a_a 0) w__35 fun (t48 : Int) w__39 =>
Ld (.i .i64) (Addr.add a_b 1) w__39 fun (t50 : Int) w__40 =>
Ld (.i .i64) (Addr.add a_a 1) w__40 fun (t53 : Int) w__41 =>
Ld (.i .i64) (Addr.add a_b 0) w__41 fun (t55 : Int) w__42 =>
CallT (.o (.ag (R 4 (.i .i64)))) P0 205 [(.int .i64 (IntKind.wrap .i64 (t48 - t50))), (.int .i64 (IntKind.wrap .i64 (t53 - t55)))] w__42 fun (t57 : Tup (R 4 (.i .i64))) w__43 =>
StA P0 a_t6 (Tup.cells (R 4 (.i .i64)) t57) w__43 fun w__44 =>
LdA (R 4 (.i .i64)) a_t6 w__44 fun r_4 w__45 =>
K r_4 w__44)) ∧
(((op : Int) == 3) = false → (((op : Int) == 4) = true → LdA (R 4 (.i .i64)) a_a w__25 fun (t60 : Tup (R 4 (.i .i64))) w__46 =>
LdA (R 4 (.i .i64)) a_b w__46 fun (t61 : Tup (R 4 (.i .i64))) w__47 =>
CallT (.o (.ag (R 4 (.i .i64)))) P0 214 [(.agg (Tup.cells (R 4 (.i .i64)) t60).toArray), (.agg (Tup.cells (R 4 (.i .i64)) t61).toArray)] w__47 fun (t62 : Tup (R 4 (.i .i64))) w__48 =>
StA P0 a_t6 (Tup.cells (R 4 (.i .i64)) t62) w__48 fun w__49 =>
LdA (R 4 (.i .i64)) a_t6 w__49 fun r_5 w__50 =>
K r_5 w__49) ∧
(((op : Int) == 4) = false → ∃ J_1 : Bool → World → Prop,
((((op : Int) == 5) = true → J_1 ((op : Int) == 5) w__25) ∧
(((op : Int) == 5) = false → (((op : Int) == 6) = true → J_1 ((op : Int) == 6) w__25) ∧
(((op : Int) == 6) = false → J_1 ((op : Int) == 7) w__25))) ∧
(∀ (t63 : Bool) w__51, J_1 t63 w__51 → ∀ _ : Nat → Value,
(t63 = true → LdA (R 4 (.i .i64)) a_a w__51 fun (t68 : Tup (R 4 (.i .i64))) w__52 =>
LdA (R 4 (.i .i64)) a_b w__52 fun (t69 : Tup (R 4 (.i .i64))) w__53 =>
CallT (.o (.ag (R 4 (.i .i64)))) P0 215 [(.int .i64 op), (.agg (Tup.cells (R 4 (.i .i64)) t68).toArray), (.agg (Tup.cells (R 4 (.i .i64)) t69).toArray)] w__53 fun (t70 : Tup (R 4 (.i .i64))) w__54 =>
StA P0 a_t6 (Tup.cells (R 4 (.i .i64)) t70) w__54 fun w__55 =>
LdA (R 4 (.i .i64)) a_t6 w__55 fun r_6 w__56 =>
K r_6 w__55) ∧
(t63 = false → (((op : Int) == 8) = true → (((op : Int) == 8) = true → LdA (R 4 (.i .i64)) a_a w__51 fun (t75 : Tup (R 4 (.i .i64))) w__57 =>
LdA (R 4 (.i .i64)) a_b w__57 fun (t76 : Tup (R 4 (.i .i64))) w__58 =>
CallT (.o (.ag (R 4 (.i .i64)))) P0 216 [(.int .i64 op), (.agg (Tup.cells (R 4 (.i .i64)) t75).toArray), (.agg (Tup.cells (R 4 (.i .i64)) t76).toArray)] w__58 fun (t77 : Tup (R 4 (.i .i64))) w__59 =>
StA P0 a_t6 (Tup.cells (R 4 (.i .i64)) t77) w__59 fun w__60 =>
LdA (R 4 (.i .i64)) a_t6 w__60 fun r_7 w__61 =>
K r_7 w__60) ∧
(((op : Int) == 8) = false → LdA (R 4 (.i .i64)) a_a w__51 fun (t79 : Tup (R 4 (.i .i64))) w__62 =>
LdA (R 4 (.i .i64)) a_b w__62 fun (t80 : Tup (R 4 (.i .i64))) w__63 =>
CallT (.o (.ag (R 4 (.i .i64)))) P0 217 [(.int .i64 op), (.agg (Tup.cells (R 4 (.i .i64)) t79).toArray), (.agg (Tup.cells (R 4 (.i .i64)) t80).toArray)] w__63 fun (t81 : Tup (R 4 (.i .i64))) w__64 =>
StA P0 a_t6 (Tup.cells (R 4 (.i .i64)) t81) w__64 fun w__65 =>
LdA (R 4 (.i .i64)) a_t6 w__65 fun r_8 w__66 =>
K r_8 w__65)) ∧
(((op : Int) == 8) = false → (((op : Int) == 9) = true → LdA (R 4 (.i .i64)) a_a w__51 fun (t75_1 : Tup (R 4 (.i .i64))) w__67 =>
LdA (R 4 (.i .i64)) a_b w__67 fun (t76_1 : Tup (R 4 (.i .i64))) w__68 =>
CallT (.o (.ag (R 4 (.i .i64)))) P0 216 [(.int .i64 op), (.agg (Tup.cells (R 4 (.i .i64)) t75_1).toArray), (.agg (Tup.cells (R 4 (.i .i64)) t76_1).toArray)] w__68 fun (t77_1 : Tup (R 4 (.i .i64))) w__69 =>
StA P0 a_t6 (Tup.cells (R 4 (.i .i64)) t77_1) w__69 fun w__70 =>
LdA (R 4 (.i .i64)) a_t6 w__70 fun r_9 w__71 =>
K r_9 w__70) ∧
(((op : Int) == 9) = false → LdA (R 4 (.i .i64)) a_a w__51 fun (t79_1 : Tup (R 4 (.i .i64))) w__72 =>
LdA (R 4 (.i .i64)) a_b w__72 fun (t80_1 : Tup (R 4 (.i .i64))) w__73 =>
CallT (.o (.ag (R 4 (.i .i64)))) P0 217 [(.int .i64 op), (.agg (Tup.cells (R 4 (.i .i64)) t79_1).toArray), (.agg (Tup.cells (R 4 (.i .i64)) t80_1).toArray)] w__73 fun (t81_1 : Tup (R 4 (.i .i64))) w__74 =>
StA P0 a_t6 (Tup.cells (R 4 (.i .i64)) t81_1) w__74 fun w__75 =>
LdA (R 4 (.i .i64)) a_t6 w__75 fun r_10 w__76 =>
K r_10 w__75)))))))))
theorem impl.rangeOf.ok {op : Int} {a : Tup (R 4 (.i .i64))} {b : Tup (R 4 (.i .i64))} {w : World} {K : Tup (R 4 (.i .i64)) → World → Prop} (h : impl.rangeOf.vc op a b w K) : CallT (.o (.ag (R 4 (.i .i64)))) P0 203 [(.int .i64 op), (.agg (Tup.cells (R 4 (.i .i64)) a).toArray), (.agg (Tup.cells (R 4 (.i .i64)) b).toArray)] w K :=
  call_of Tryz.func203 rfl rfl (pl := impl.rangeOf.pl) (show VC P0 Tryz.f203 impl.rangeOf.pl (.o (.ag (R 4 (.i .i64)))) [(.int .i64 op), (.agg (Tup.cells (R 4 (.i .i64)) a).toArray), (.agg (Tup.cells (R 4 (.i .i64)) b).toArray)] w K noP from Eq.mp (by kernel_rfl) h)
/- impl.signed -/
def impl.signed.pl : Pl := (.s (.r (D 1)) (.s (.r (D 5)) .z))
def impl.signed.vc (n : Int) (w : World) (K : Int → World → Prop) : Prop :=
K (IntKind.wrap .i64 (IntKind.wrap .i32 (IntKind.wrap .u32 n))) w
theorem impl.signed.ok {n : Int} {w : World} {K : Int → World → Prop} (h : impl.signed.vc n w K) : CallT (.o (.lf (.i .i64))) P0 181 [(.int .i64 n)] w K :=
  call_of Tryz.func181 rfl rfl (pl := impl.signed.pl) (show VC P0 Tryz.f181 impl.signed.pl (.o (.lf (.i .i64))) [(.int .i64 n)] w K noP from Eq.mp (by kernel_rfl) h)
/- impl.knowNum -/
def impl.knowNum.pl : Pl := (.s (.r (D 2)) (.s (.r [(.l (.ag (R 4 (.i .i64)))), .d, .d]) .z))
def impl.knowNum.vc (r : Tup (R 4 (.i .i64))) (w : World) (K : Tup (R 9 (.i .i64)) → World → Prop) : Prop :=
Nw (Tup.cells (R 4 (.i .i64)) r).toArray 90 w fun a_r w_ =>
Nw (zc P0 92) 92 w_ fun a_t2 w__1 =>
LdA (R 4 (.i .i64)) a_r w__1 fun (t3 : Tup (R 4 (.i .i64))) w__2 =>
StA P0 a_t2 [(.int .i64 1), (.int .i64 t3.1), (.int .i64 t3.2.1), (.int .i64 t3.2.2.1), (.int .i64 t3.2.2.2.1), (.int .i64 0), (.int .i64 0), (.int .i64 0), (.int .i64 0)] w__2 fun w__3 =>
LdA (R 9 (.i .i64)) a_t2 w__3 fun r_1 w__4 =>
K r_1 w__3
theorem impl.knowNum.ok {r : Tup (R 4 (.i .i64))} {w : World} {K : Tup (R 9 (.i .i64)) → World → Prop} (h : impl.knowNum.vc r w K) : CallT (.o (.ag (R 9 (.i .i64)))) P0 192 [(.agg (Tup.cells (R 4 (.i .i64)) r).toArray)] w K :=
  call_of Tryz.func192 rfl rfl (pl := impl.knowNum.pl) (show VC P0 Tryz.f192 impl.knowNum.pl (.o (.ag (R 9 (.i .i64)))) [(.agg (Tup.cells (R 4 (.i .i64)) r).toArray)] w K noP from Eq.mp (by kernel_rfl) h)
end Go.Proofs.YtihllippchgkgaaGreat.V

/- Contracts: what an op makes of numbers of two ranges: sums, products, bits, shifts, quotients. -/
namespace Go.Proofs.YtihllippchgkgaaGreat.V
open Go Go.RowKit
set_option linter.unusedVariables false
set_option linter.unusedSimpArgs false
/-- What is there stays. -/
def Grw (a c : World) : Prop := Below a.heap.size a c
theorem Grw.refl (a : World) : Grw a a := Below.refl _ _
theorem grwOk (w : World) : SpOk Grw w := ⟨fun a => Below.refl _ _, fun a b c h1 h2 => h1.trans (h2.mono h1.size), (Below.refl _ _).drew⟩
theorem Grw.low {a c : World} (h : Grw a c) : Below a.heap.size a c := h
section
variable {w0 w w1 : World} {l r : List (Nat × T4)} {b : Nat} {x y : T4}
theorem M.fresh (hm : M w0 w l) : w.heap.size ∉ l.map (·.1) := fun h => by
  obtain ⟨p, hp, hpe⟩ := List.mem_map.1 h
  have := (hm.box p.1 p.2 hp).2.1
  omega
theorem nwZG (hm : M w0 w l) {K : Addr → World → Prop} (hk : ∀ b w', Below w.heap.size w w' → M w0 w' ((b, ((0, 0, 0, 0, ()) : T4)) :: l) → K ⟨b, 0, none⟩ w') : Nw (zc P0 90) 90 w K := by
  refine nw fun w' hb hs hc => hk _ w' hb ((hm.below hb).cons hm.low.size (by rw [hc, zcRange]; rfl) hm.fresh)
end
theorem tm32 (q : Nat) : Int.tmod (q : Int) 32 = ((q % 32 : Nat) : Int) := by rw [Int.tmod_eq_emod_of_nonneg (by omega)]; omega
theorem sh32 (q : Nat) : min (Int.toNat (Int.tmod (q : Int) 32)) (IntKind.bits .i64) = q % 32 := by
  rw [tm32]
  have : IntKind.bits .i64 = 64 := rfl
  omega
theorem shl_lt {p : Nat} (q : Nat) (hp : p < 2 ^ 32) : p <<< (q % 32) < 2 ^ 63 := by
  have h2 : 2 ^ (q % 32) ≤ 2 ^ 31 := Nat.pow_le_pow_right (by omega) (by omega)
  have h3 : p * 2 ^ (q % 32) ≤ p * 2 ^ 31 := Nat.mul_le_mul_left _ h2
  rw [Nat.shiftLeft_eq]
  omega
theorem shl32 {p : Nat} (q : Nat) (hp : p < 2 ^ 32) : IntKind.wrap .i64 ((p : Int) * 2 ^ (min (Int.toNat (Int.tmod (q : Int) 32)) (IntKind.bits .i64))) = ((p <<< (q % 32) : Nat) : Int) := by
  rw [sh32]
  have h1 : ((p : Int) * 2 ^ (q % 32)) = ((p <<< (q % 32) : Nat) : Int) := by rw [Nat.shiftLeft_eq]; simp
  rw [h1]
  exact i64_nat (shl_lt q hp)
theorem shr32 {p : Nat} (q : Nat) : Int.fdiv (p : Int) (2 ^ (min (Int.toNat (Int.tmod (q : Int) 32)) (IntKind.bits .i64))) = ((p >>> (q % 32) : Nat) : Int) := by
  rw [sh32, Nat.shiftRight_eq_div_pow, Int.fdiv_eq_ediv_of_nonneg _ (by exact Int.le_of_lt (Int.pow_pos (by omega)))]
  simp
theorem i64_add {p q : Nat} (h : p + q < 2 ^ 63) : IntKind.wrap .i64 ((p : Int) + (q : Int)) = ((p + q : Nat) : Int) := by
  rw [show (p : Int) + (q : Int) = ((p + q : Nat) : Int) by omega]
  exact i64_nat h
theorem iAnd_top32 {p : Nat} (h : p < 2 ^ 63) : iAnd .i64 (p : Int) 4294967295 = ((p &&& M32 : Nat) : Int) := iAnd_nat (b := M32) h (by decide)
theorem Gd.le {r : T4} (h : Gd r) : ∃ a b c d : Nat, r = ((a : Int), (b : Int), (c : Int), (d : Int), ()) ∧ a ≤ b ∧ b < 2 ^ 32 := by
  obtain ⟨g, rfl, hg, n, hn⟩ := h
  exact ⟨g.mn, g.mx, g.bt, g.op, rfl, Nat.le_trans hn.1 hn.2.1, hg.2.1⟩
theorem Gd.all : Gd ((0, 4294967295, 0, 4294967295, ()) : T4) := ⟨allG, rfl, (allG_has (n := 0) (by omega)).1, 0, (allG_has (by omega)).2⟩
theorem Gd.one {n : Nat} (h : n < 2 ^ 32) : Gd (((n : Int), (n : Int), (n : Int), 0, ()) : T4) := ⟨oneG n, rfl, (oneG_has h).1, n, (oneG_has h).2⟩
section
variable {w : World}
theorem impl.rangeAll.q {K : T4 → World → Prop} (hk : ∀ r w', Gd r → Below w.heap.size w w' → K r w') : CallT (.o (.ag (R 4 (.i .i64)))) P0 208 [] w K := by
  refine impl.rangeAll.ok ?_
  unfold impl.rangeAll.vc
  have hm := M.start w
  repeat' (first | (with_reducible refine ldM (by assumption) (by with_unfolding_all (repeat (first | exact List.mem_cons_self | refine List.mem_cons_of_mem _ ?_))) (by with_unfolding_all rfl) ?_) | (with_reducible refine ldAM (by assumption) (by with_unfolding_all (repeat (first | exact List.mem_cons_self | refine List.mem_cons_of_mem _ ?_))) ?_) | (with_reducible refine nwZ (by assumption) fun _ _ _ => ?_) | (with_reducible refine nwM' (by assumption) fun _ _ _ => ?_) | (with_reducible refine stM0 (by assumption) (by with_unfolding_all (repeat (first | exact Up.head _ _ _ _ | apply Up.tail))) fun _ _ => ?_) | (with_reducible refine stM1 (by assumption) (by with_unfolding_all (repeat (first | exact Up.head _ _ _ _ | apply Up.tail))) fun _ _ => ?_) | (with_reducible refine stM2 (by assumption) (by with_unfolding_all (repeat (first | exact Up.head _ _ _ _ | apply Up.tail))) fun _ _ => ?_) | (with_reducible refine stM3 (by assumption) (by with_unfolding_all (repeat (first | exact Up.head _ _ _ _ | apply Up.tail))) fun _ _ => ?_) | (with_reducible refine stAM' (by assumption) (by with_unfolding_all (repeat (first | exact Up.head _ _ _ _ | apply Up.tail))) fun _ _ => ?_) | (with_reducible refine stAL (by assumption) (by with_unfolding_all (repeat (first | exact Up.head _ _ _ _ | apply Up.tail))) fun _ _ => ?_) | (with_reducible refine And.intro (fun _ => ?_) (fun _ => ?_)) | (refine stAM' (by assumption) (by with_unfolding_all (repeat (first | exact Up.head _ _ _ _ | apply Up.tail))) fun _ _ => ?_))
  exact hk _ _ Gd.all (by assumption : M w _ _).low
theorem impl.RangeOne.q {n : Int} {K : T4 → World → Prop} (h0 : 0 ≤ n) (h1 : n ≤ 4294967295) (hk : ∀ r w', Gd r → Below w.heap.size w w' → K r w') : CallT (.o (.ag (R 4 (.i .i64)))) P0 193 [.int .i64 n] w K := by
  obtain ⟨n, rfl⟩ := Int.eq_ofNat_of_zero_le h0
  exact impl.RangeOne.c h0 h1 fun w' hb => hk _ _ (Gd.one (by omega)) hb
theorem impl.reckon.q {op a b : Int} {K : Int → World → Prop} (ha : 0 ≤ a ∧ a ≤ 4294967295) (hb : 0 ≤ b ∧ b ≤ 4294967295) (hk : ∀ n, 0 ≤ n → n ≤ 4294967295 → K n w) :
    CallT (.o (.lf (.i .i64))) P0 152 [.int .i64 op, .int .i64 a, .int .i64 b] w K := by
  obtain ⟨a, rfl⟩ := Int.eq_ofNat_of_zero_le ha.1
  obtain ⟨b, rfl⟩ := Int.eq_ofNat_of_zero_le hb.1
  have h1 : a < 2 ^ 32 := by omega
  have h2 : b < 2 ^ 32 := by omega
  have hn : ∀ n : Nat, n < 2 ^ 32 → K (n : Int) w := fun n h => hk _ (by omega) (by omega)
  have hM : ∀ n : Nat, n &&& M32 < 2 ^ 32 := fun n => Nat.lt_of_le_of_lt Nat.and_le_right (by decide)
  have ht : (0 : Int) ≤ Int.tmod (b : Int) 32 := by rw [tm32]; omega
  refine impl.reckon.ok ?_
  unfold impl.reckon.vc
  refine ⟨fun _ => ?_, fun _ => ⟨fun _ => ?_, fun _ => ⟨fun _ => ?_, fun _ => ⟨fun _ => ?_, fun _ => ⟨fun _ => ?_, fun _ => ⟨fun _ => ?_, fun _ => ⟨fun _ => ⟨by omega, ht, ?_⟩, fun _ => ⟨fun _ => ⟨by omega, ht, ?_⟩, fun _ => ⟨fun _ => ⟨fun _ => hn 0 (by omega), fun hb0 => ?_⟩, fun _ => ⟨fun _ => ⟨fun _ => hn a h1, fun hb0 => ?_⟩, fun _ => hn b h2⟩⟩⟩⟩⟩⟩⟩⟩⟩⟩
  · rw [i64_add (by omega), iAnd_top32 (by omega)]; exact hn _ (hM _)
  · have e : iAnd .i64 (IntKind.wrap .i64 ((a : Int) - (b : Int))) 4294967295 = (((a + 2 ^ 32 - b) % 2 ^ 32 : Nat) : Int) := by
      rw [i64_of (by omega) (by omega)]
      have hbv : (BitVec.ofInt 64 ((a : Int) - (b : Int)) &&& BitVec.ofInt 64 4294967295).toNat = (a + 2 ^ 32 - b) % 2 ^ 32 := by
        rw [BitVec.toNat_and, BitVec.toNat_ofInt, show (BitVec.ofInt 64 4294967295).toNat = 2 ^ 32 - 1 by decide, Nat.and_two_pow_sub_one_eq_mod]
        omega
      show IntKind.wrap .i64 (((BitVec.ofInt 64 ((a : Int) - (b : Int)) &&& BitVec.ofInt 64 4294967295).toNat : Nat) : Int) = _
      rw [hbv]
      exact i64_nat (by omega)
    rw [e]; exact hn _ (Nat.mod_lt _ (by omega))
  · have e : ∀ x : Int, ∃ m : Nat, m < 2 ^ 32 ∧ IntKind.wrap .i64 (IntKind.wrap .u32 x) = (m : Int) := fun x => by
      have h : IntKind.wrap .u32 x = x % 4294967296 := IntKind.wrap_u32 x
      refine ⟨(x % 4294967296).toNat, by omega, ?_⟩
      rw [h, i64_of (by omega) (by omega)]
      omega
    obtain ⟨m, hm, e⟩ := e (IntKind.wrap .u32 (a : Int) * IntKind.wrap .u32 (b : Int))
    rw [e]; exact hn m hm
  · rw [iAnd_nat (by omega) (by omega)]; exact hn _ (Nat.lt_of_le_of_lt Nat.and_le_left h1)
  · rw [iOr_nat (by omega) (by omega)]; exact hn _ (Nat.or_lt_two_pow h1 h2)
  · rw [iXor_nat (by omega) (by omega)]; exact hn _ (Nat.xor_lt_two_pow h1 h2)
  · rw [shl32 b h1, iAnd_top32 (shl_lt b h1)]; exact hn _ (hM _)
  · rw [shr32 b]; exact hn _ (Nat.lt_of_le_of_lt (shr_le _ _) h1)
  · simp only [beq_eq_false_iff_ne, ne_eq] at hb0
    refine ⟨hb0, ?_⟩
    have h3 := Nat.div_le_self a b
    have e : IntKind.wrap .i64 (Int.tdiv (a : Int) (b : Int)) = ((a / b : Nat) : Int) := by
      rw [Int.tdiv_eq_ediv_of_nonneg (by omega), show (a : Int) / (b : Int) = ((a / b : Nat) : Int) from rfl]
      exact i64_nat (by omega)
    rw [e]; exact hn _ (by omega)
  · simp only [beq_eq_false_iff_ne, ne_eq] at hb0
    refine ⟨hb0, ?_⟩
    have h3 := Nat.mod_le a b
    have e : Int.tmod (a : Int) (b : Int) = ((a % b : Nat) : Int) := by
      rw [Int.tmod_eq_emod_of_nonneg (by omega)]; rfl
    rw [e]; exact hn _ (by omega)
theorem mul64.c {x y : Nat} (hx : x < 18446744073709551616) (hy : y < 18446744073709551616) {K : Int × Int × Unit → World → Prop} (hk : K (((x * y / 18446744073709551616 : Nat) : Int), ((x * y % 18446744073709551616 : Nat) : Int), ()) w) :
    CallT (.n [(.lf (.i .u64)), (.lf (.i .u64))]) P0 221 [.int .u64 (x : Int), .int .u64 (y : Int)] w K := by
  refine Calls.mono (Tryz.bits_Mul64 x y hx hy w) fun e w' h => ?_
  obtain ⟨rfl, rfl⟩ := h
  exact ⟨(((x * y / 18446744073709551616 : Nat) : Int), ((x * y % 18446744073709551616 : Nat) : Int), ()), rfl, hk⟩
theorem impl.times.q {a b : T4} (ha : Gd a) (hb : Gd b) {K : T4 → World → Prop} (hk : ∀ r w', Gd r → Below w.heap.size w w' → K r w') :
    CallT (.o (.ag (R 4 (.i .i64)))) P0 214 [.agg (Tup.cells (R 4 (.i .i64)) a).toArray, .agg (Tup.cells (R 4 (.i .i64)) b).toArray] w K := by
  obtain ⟨a, rfl, ha, m, hm⟩ := ha
  obtain ⟨b, rfl, hb, n, hn⟩ := hb
  have ha1 : a.mn ≤ a.mx := Nat.le_trans hm.1 hm.2.1
  have hb1 : b.mn ≤ b.mx := Nat.le_trans hn.1 hn.2.1
  have ha2 := ha.2.1
  have hb2 := hb.2.1
  refine impl.times.ok ?_
  unfold impl.times.vc
  have hm0 := M.start w
  repeat' (first | (with_reducible refine ldM (by assumption) (by with_unfolding_all (repeat (first | exact List.mem_cons_self | refine List.mem_cons_of_mem _ ?_))) (by with_unfolding_all rfl) ?_) | (with_reducible refine ldAM (by assumption) (by with_unfolding_all (repeat (first | exact List.mem_cons_self | refine List.mem_cons_of_mem _ ?_))) ?_) | (with_reducible refine nwZ (by assumption) fun _ _ _ => ?_) | (with_reducible refine nwM' (by assumption) fun _ _ _ => ?_) | (with_reducible refine stM0 (by assumption) (by with_unfolding_all (repeat (first | exact Up.head _ _ _ _ | apply Up.tail))) fun _ _ => ?_) | (with_reducible refine stM1 (by assumption) (by with_unfolding_all (repeat (first | exact Up.head _ _ _ _ | apply Up.tail))) fun _ _ => ?_) | (with_reducible refine stM2 (by assumption) (by with_unfolding_all (repeat (first | exact Up.head _ _ _ _ | apply Up.tail))) fun _ _ => ?_) | (with_reducible refine stM3 (by assumption) (by with_unfolding_all (repeat (first | exact Up.head _ _ _ _ | apply Up.tail))) fun _ _ => ?_) | (with_reducible refine stAM' (by assumption) (by with_unfolding_all (repeat (first | exact Up.head _ _ _ _ | apply Up.tail))) fun _ _ => ?_) | (with_reducible refine stAL (by assumption) (by with_unfolding_all (repeat (first | exact Up.head _ _ _ _ | apply Up.tail))) fun _ _ => ?_) | (with_reducible refine And.intro (fun _ => ?_) (fun _ => ?_)) | (refine stAM' (by assumption) (by with_unfolding_all (repeat (first | exact Up.head _ _ _ _ | apply Up.tail))) fun _ _ => ?_))
  have eu : ∀ n : Nat, n < 2 ^ 32 → IntKind.wrap .u64 (n : Int) = (n : Int) := fun n h => IntWalk.u64_in n (by omega)
  have q1 : a.mx * b.mx ≤ (2 ^ 32 - 1) * (2 ^ 32 - 1) := Nat.mul_le_mul (by omega) (by omega)
  have q0 : a.mn * b.mn ≤ a.mx * b.mx := Nat.mul_le_mul ha1 hb1
  have e1 : IntKind.wrap .u64 a.t.2.1 = (a.mx : Int) := eu a.mx ha2
  have e2 : IntKind.wrap .u64 b.t.2.1 = (b.mx : Int) := eu b.mx hb2
  rw [e1, e2]
  refine mul64.c (by omega) (by omega) ?_
  have em : a.mx * b.mx % 18446744073709551616 = a.mx * b.mx := Nat.mod_eq_of_lt (by omega)
  rw [em]
  generalize hp : a.mx * b.mx = p at *
  generalize hq : a.mn * b.mn = q at *
  refine ⟨fun _ => ?_, fun _ => ⟨fun _ => ?_, fun hc => ?_⟩⟩
  · refine impl.rangeAll.q fun r w2 hr hb2 => ?_
    have m2 := (by assumption : M w _ _).below hb2
    repeat' (first | (with_reducible refine ldM (by assumption) (by with_unfolding_all (repeat (first | exact List.mem_cons_self | refine List.mem_cons_of_mem _ ?_))) (by with_unfolding_all rfl) ?_) | (with_reducible refine ldAM (by assumption) (by with_unfolding_all (repeat (first | exact List.mem_cons_self | refine List.mem_cons_of_mem _ ?_))) ?_) | (with_reducible refine nwZ (by assumption) fun _ _ _ => ?_) | (with_reducible refine nwM' (by assumption) fun _ _ _ => ?_) | (with_reducible refine stM0 (by assumption) (by with_unfolding_all (repeat (first | exact Up.head _ _ _ _ | apply Up.tail))) fun _ _ => ?_) | (with_reducible refine stM1 (by assumption) (by with_unfolding_all (repeat (first | exact Up.head _ _ _ _ | apply Up.tail))) fun _ _ => ?_) | (with_reducible refine stM2 (by assumption) (by with_unfolding_all (repeat (first | exact Up.head _ _ _ _ | apply Up.tail))) fun _ _ => ?_) | (with_reducible refine stM3 (by assumption) (by with_unfolding_all (repeat (first | exact Up.head _ _ _ _ | apply Up.tail))) fun _ _ => ?_) | (with_reducible refine stAM' (by assumption) (by with_unfolding_all (repeat (first | exact Up.head _ _ _ _ | apply Up.tail))) fun _ _ => ?_) | (with_reducible refine stAL (by assumption) (by with_unfolding_all (repeat (first | exact Up.head _ _ _ _ | apply Up.tail))) fun _ _ => ?_) | (with_reducible refine And.intro (fun _ => ?_) (fun _ => ?_)) | (refine stAM' (by assumption) (by with_unfolding_all (repeat (first | exact Up.head _ _ _ _ | apply Up.tail))) fun _ _ => ?_))
    exact hk _ _ hr (by assumption : M w _ _).low
  · refine impl.rangeAll.q fun r w2 hr hb2 => ?_
    have m2 := (by assumption : M w _ _).below hb2
    repeat' (first | (with_reducible refine ldM (by assumption) (by with_unfolding_all (repeat (first | exact List.mem_cons_self | refine List.mem_cons_of_mem _ ?_))) (by with_unfolding_all rfl) ?_) | (with_reducible refine ldAM (by assumption) (by with_unfolding_all (repeat (first | exact List.mem_cons_self | refine List.mem_cons_of_mem _ ?_))) ?_) | (with_reducible refine nwZ (by assumption) fun _ _ _ => ?_) | (with_reducible refine nwM' (by assumption) fun _ _ _ => ?_) | (with_reducible refine stM0 (by assumption) (by with_unfolding_all (repeat (first | exact Up.head _ _ _ _ | apply Up.tail))) fun _ _ => ?_) | (with_reducible refine stM1 (by assumption) (by with_unfolding_all (repeat (first | exact Up.head _ _ _ _ | apply Up.tail))) fun _ _ => ?_) | (with_reducible refine stM2 (by assumption) (by with_unfolding_all (repeat (first | exact Up.head _ _ _ _ | apply Up.tail))) fun _ _ => ?_) | (with_reducible refine stM3 (by assumption) (by with_unfolding_all (repeat (first | exact Up.head _ _ _ _ | apply Up.tail))) fun _ _ => ?_) | (with_reducible refine stAM' (by assumption) (by with_unfolding_all (repeat (first | exact Up.head _ _ _ _ | apply Up.tail))) fun _ _ => ?_) | (with_reducible refine stAL (by assumption) (by with_unfolding_all (repeat (first | exact Up.head _ _ _ _ | apply Up.tail))) fun _ _ => ?_) | (with_reducible refine And.intro (fun _ => ?_) (fun _ => ?_)) | (refine stAM' (by assumption) (by with_unfolding_all (repeat (first | exact Up.head _ _ _ _ | apply Up.tail))) fun _ _ => ?_))
    exact hk _ _ hr (by assumption : M w _ _).low
  · simp only [decide_eq_false_iff_not] at hc
    repeat' (first | (with_reducible refine ldM (by assumption) (by with_unfolding_all (repeat (first | exact List.mem_cons_self | refine List.mem_cons_of_mem _ ?_))) (by with_unfolding_all rfl) ?_) | (with_reducible refine ldAM (by assumption) (by with_unfolding_all (repeat (first | exact List.mem_cons_self | refine List.mem_cons_of_mem _ ?_))) ?_) | (with_reducible refine nwZ (by assumption) fun _ _ _ => ?_) | (with_reducible refine nwM' (by assumption) fun _ _ _ => ?_) | (with_reducible refine stM0 (by assumption) (by with_unfolding_all (repeat (first | exact Up.head _ _ _ _ | apply Up.tail))) fun _ _ => ?_) | (with_reducible refine stM1 (by assumption) (by with_unfolding_all (repeat (first | exact Up.head _ _ _ _ | apply Up.tail))) fun _ _ => ?_) | (with_reducible refine stM2 (by assumption) (by with_unfolding_all (repeat (first | exact Up.head _ _ _ _ | apply Up.tail))) fun _ _ => ?_) | (with_reducible refine stM3 (by assumption) (by with_unfolding_all (repeat (first | exact Up.head _ _ _ _ | apply Up.tail))) fun _ _ => ?_) | (with_reducible refine stAM' (by assumption) (by with_unfolding_all (repeat (first | exact Up.head _ _ _ _ | apply Up.tail))) fun _ _ => ?_) | (with_reducible refine stAL (by assumption) (by with_unfolding_all (repeat (first | exact Up.head _ _ _ _ | apply Up.tail))) fun _ _ => ?_) | (with_reducible refine And.intro (fun _ => ?_) (fun _ => ?_)) | (refine stAM' (by assumption) (by with_unfolding_all (repeat (first | exact Up.head _ _ _ _ | apply Up.tail))) fun _ _ => ?_))
    refine impl.fromTo.q ?_ ?_ ?_ fun r w2 hr hb2 => ?_
    · show 0 ≤ IntKind.wrap .i64 ((a.mn : Int) * (b.mn : Int))
      rw [← Int.natCast_mul, hq, i64_nat (by omega)]; omega
    · show IntKind.wrap .i64 ((a.mn : Int) * (b.mn : Int)) ≤ IntKind.wrap .i64 ((a.mx : Int) * (b.mx : Int))
      rw [← Int.natCast_mul, ← Int.natCast_mul, hq, hp, i64_nat (by omega), i64_nat (by omega)]; omega
    · show IntKind.wrap .i64 ((a.mx : Int) * (b.mx : Int)) ≤ _
      rw [← Int.natCast_mul, hp, i64_nat (by omega)]; omega
    · have m2 := (by assumption : M w _ _).below hb2
      repeat' (first | (with_reducible refine ldM (by assumption) (by with_unfolding_all (repeat (first | exact List.mem_cons_self | refine List.mem_cons_of_mem _ ?_))) (by with_unfolding_all rfl) ?_) | (with_reducible refine ldAM (by assumption) (by with_unfolding_all (repeat (first | exact List.mem_cons_self | refine List.mem_cons_of_mem _ ?_))) ?_) | (with_reducible refine nwZ (by assumption) fun _ _ _ => ?_) | (with_reducible refine nwM' (by assumption) fun _ _ _ => ?_) | (with_reducible refine stM0 (by assumption) (by with_unfolding_all (repeat (first | exact Up.head _ _ _ _ | apply Up.tail))) fun _ _ => ?_) | (with_reducible refine stM1 (by assumption) (by with_unfolding_all (repeat (first | exact Up.head _ _ _ _ | apply Up.tail))) fun _ _ => ?_) | (with_reducible refine stM2 (by assumption) (by with_unfolding_all (repeat (first | exact Up.head _ _ _ _ | apply Up.tail))) fun _ _ => ?_) | (with_reducible refine stM3 (by assumption) (by with_unfolding_all (repeat (first | exact Up.head _ _ _ _ | apply Up.tail))) fun _ _ => ?_) | (with_reducible refine stAM' (by assumption) (by with_unfolding_all (repeat (first | exact Up.head _ _ _ _ | apply Up.tail))) fun _ _ => ?_) | (with_reducible refine stAL (by assumption) (by with_unfolding_all (repeat (first | exact Up.head _ _ _ _ | apply Up.tail))) fun _ _ => ?_) | (with_reducible refine And.intro (fun _ => ?_) (fun _ => ?_)) | (refine stAM' (by assumption) (by with_unfolding_all (repeat (first | exact Up.head _ _ _ _ | apply Up.tail))) fun _ _ => ?_))
      exact hk _ _ hr (by assumption : M w _ _).low
theorem impl.bitwise.q {op : Int} (ho : op = 5 ∨ op = 6 ∨ op = 7) {a b : T4} (ha : Gd a) (hb : Gd b) {K : T4 → World → Prop} (hk : ∀ r w', Gd r → Below w.heap.size w w' → K r w') :
    CallT (.o (.ag (R 4 (.i .i64)))) P0 215 [.int .i64 op, .agg (Tup.cells (R 4 (.i .i64)) a).toArray, .agg (Tup.cells (R 4 (.i .i64)) b).toArray] w K := by
  obtain ⟨a, rfl, ha, m, hm⟩ := ha
  obtain ⟨b, rfl, hb, n, hn⟩ := hb
  have hG := bitG_has (op := op) ha hb hm hn
  have hG' : Gd (bitG op a b).t := ⟨_, rfl, hG.1, _, hG.2⟩
  obtain ⟨a1, a2, a3, a4, a5⟩ := id ha
  obtain ⟨b1, b2, b3, b4, b5⟩ := id hb
  have o1 : a.bt ||| a.op < 2 ^ 32 := Nat.or_lt_two_pow a3 a4
  have o2 : b.bt ||| b.op < 2 ^ 32 := Nat.or_lt_two_pow b3 b4
  have o3 : a.op ||| b.op < 2 ^ 32 := Nat.or_lt_two_pow a4 b4
  have o4 : a.bt ||| b.bt < 2 ^ 32 := Nat.or_lt_two_pow a3 b3
  have o5 : a.bt ^^^ b.bt < 2 ^ 32 := Nat.xor_lt_two_pow a3 b3
  have o6 : (a.bt ||| a.op) &&& (b.bt ||| b.op) < 2 ^ 32 := Nat.lt_of_le_of_lt Nat.and_le_left o1
  have o7 : a.bt &&& b.bt < 2 ^ 32 := Nat.lt_of_le_of_lt Nat.and_le_left a3
  have hM : M32 < 2 ^ 32 := by decide
  refine impl.bitwise.ok ?_
  unfold impl.bitwise.vc
  have hm := M.start w
  repeat' (first | (with_reducible refine ldM (by assumption) (by with_unfolding_all (repeat (first | exact List.mem_cons_self | refine List.mem_cons_of_mem _ ?_))) (by with_unfolding_all rfl) ?_) | (with_reducible refine ldAM (by assumption) (by with_unfolding_all (repeat (first | exact List.mem_cons_self | refine List.mem_cons_of_mem _ ?_))) ?_) | (with_reducible refine nwZ (by assumption) fun _ _ _ => ?_) | (with_reducible refine nwM' (by assumption) fun _ _ _ => ?_) | (with_reducible refine stM0 (by assumption) (by with_unfolding_all (repeat (first | exact Up.head _ _ _ _ | apply Up.tail))) fun _ _ => ?_) | (with_reducible refine stM1 (by assumption) (by with_unfolding_all (repeat (first | exact Up.head _ _ _ _ | apply Up.tail))) fun _ _ => ?_) | (with_reducible refine stM2 (by assumption) (by with_unfolding_all (repeat (first | exact Up.head _ _ _ _ | apply Up.tail))) fun _ _ => ?_) | (with_reducible refine stM3 (by assumption) (by with_unfolding_all (repeat (first | exact Up.head _ _ _ _ | apply Up.tail))) fun _ _ => ?_) | (with_reducible refine stAM' (by assumption) (by with_unfolding_all (repeat (first | exact Up.head _ _ _ _ | apply Up.tail))) fun _ _ => ?_) | (with_reducible refine stAL (by assumption) (by with_unfolding_all (repeat (first | exact Up.head _ _ _ _ | apply Up.tail))) fun _ _ => ?_) | (with_reducible refine And.intro (fun _ => ?_) (fun _ => ?_)) | (refine stAM' (by assumption) (by with_unfolding_all (repeat (first | exact Up.head _ _ _ _ | apply Up.tail))) fun _ _ => ?_))
  all_goals
    have fin : ∀ (g : Rg) (y : T4) (wl : World), (tidyG g).t = (bitG op a b).t → g.okk → y = g.t → CallT (.o (.ag (R 4 (.i .i64)))) P0 195 [.agg (Tup.cells (R 4 (.i .i64)) y).toArray] wl fun r w2 => Gd r ∧ Below wl.heap.size wl w2 := by
      intro g y wl e hg hy
      subst hy
      exact impl.Range.tidy.e hg fun w2 hb2 => ⟨by rw [e]; exact hG', hb2⟩
  · have h5 := (by assumption : (op == 5) = true)
    simp only [beq_iff_eq] at h5
    subst h5
    refine CallT.imp (fin ⟨0, min a.mx b.mx, a.bt &&& b.bt, andN ((a.bt ||| a.op) &&& (b.bt ||| b.op)) (a.bt &&& b.bt)⟩ _ _ rfl ⟨by show 0 < _; omega, by show min _ _ < _; omega, o7, Nat.lt_of_le_of_lt (andN_le _ _) o6, fun i hi => ?_⟩ ?_) ?_
    · have hi : (andN ((a.bt ||| a.op) &&& (b.bt ||| b.op)) (a.bt &&& b.bt)).testBit i = true := hi
      rw [andN_bit, Bool.and_eq_true, Bool.not_eq_true'] at hi
      exact hi.2
    · have m1 : (if ((b.mx : Int)) < ((a.mx : Int)) then (b.mx : Int) else (a.mx : Int)) = ((min a.mx b.mx : Nat) : Int) := by split <;> omega
      show ((0 : Int), (if ((b.mx : Int)) < ((a.mx : Int)) then (b.mx : Int) else (a.mx : Int)), iAnd .i64 (a.bt : Int) (b.bt : Int), iAndNot .i64 (iAnd .i64 (iOr .i64 (a.bt : Int) (a.op : Int)) (iOr .i64 (b.bt : Int) (b.op : Int))) (iAnd .i64 (a.bt : Int) (b.bt : Int)), ()) = _
      rw [m1, iAnd_nat (by omega) (by omega), iOr_nat (by omega) (by omega), iOr_nat (by omega) (by omega), iAnd_nat (by omega) (by omega), iAndNot_nat (by omega) (by omega)]
      rfl
    · rintro r w2 ⟨hr, hb2⟩
      have m2 := (by assumption : M w _ _).below hb2
      repeat' (first | (with_reducible refine ldM (by assumption) (by with_unfolding_all (repeat (first | exact List.mem_cons_self | refine List.mem_cons_of_mem _ ?_))) (by with_unfolding_all rfl) ?_) | (with_reducible refine ldAM (by assumption) (by with_unfolding_all (repeat (first | exact List.mem_cons_self | refine List.mem_cons_of_mem _ ?_))) ?_) | (with_reducible refine nwZ (by assumption) fun _ _ _ => ?_) | (with_reducible refine nwM' (by assumption) fun _ _ _ => ?_) | (with_reducible refine stM0 (by assumption) (by with_unfolding_all (repeat (first | exact Up.head _ _ _ _ | apply Up.tail))) fun _ _ => ?_) | (with_reducible refine stM1 (by assumption) (by with_unfolding_all (repeat (first | exact Up.head _ _ _ _ | apply Up.tail))) fun _ _ => ?_) | (with_reducible refine stM2 (by assumption) (by with_unfolding_all (repeat (first | exact Up.head _ _ _ _ | apply Up.tail))) fun _ _ => ?_) | (with_reducible refine stM3 (by assumption) (by with_unfolding_all (repeat (first | exact Up.head _ _ _ _ | apply Up.tail))) fun _ _ => ?_) | (with_reducible refine stAM' (by assumption) (by with_unfolding_all (repeat (first | exact Up.head _ _ _ _ | apply Up.tail))) fun _ _ => ?_) | (with_reducible refine stAL (by assumption) (by with_unfolding_all (repeat (first | exact Up.head _ _ _ _ | apply Up.tail))) fun _ _ => ?_) | (with_reducible refine And.intro (fun _ => ?_) (fun _ => ?_)) | (refine stAM' (by assumption) (by with_unfolding_all (repeat (first | exact Up.head _ _ _ _ | apply Up.tail))) fun _ _ => ?_))
      exact hk _ _ hr (by assumption : M w _ _).low
  · have h6 := (by assumption : (op == 6) = true)
    simp only [beq_iff_eq] at h6
    subst h6
    refine CallT.imp (fin ⟨max a.mn b.mn, M32, a.bt ||| b.bt, andN (a.op ||| b.op) (a.bt ||| b.bt)⟩ _ _ rfl ⟨by show max _ _ < _; omega, hM, o4, Nat.lt_of_le_of_lt (andN_le _ _) o3, fun i hi => ?_⟩ ?_) ?_
    · have hi : (andN (a.op ||| b.op) (a.bt ||| b.bt)).testBit i = true := hi
      rw [andN_bit] at hi
      show (a.bt ||| b.bt).testBit i = false
      simp only [Bool.and_eq_true, Bool.not_eq_true'] at hi
      exact hi.2
    · have m1 : (if ((b.mn : Int)) > ((a.mn : Int)) then (b.mn : Int) else (a.mn : Int)) = ((max a.mn b.mn : Nat) : Int) := by split <;> omega
      show ((if ((b.mn : Int)) > ((a.mn : Int)) then (b.mn : Int) else (a.mn : Int)), (4294967295 : Int), iOr .i64 (a.bt : Int) (b.bt : Int), iAndNot .i64 (iOr .i64 (a.op : Int) (b.op : Int)) (iOr .i64 (a.bt : Int) (b.bt : Int)), ()) = _
      rw [m1, iOr_nat (by omega) (by omega), iOr_nat (by omega) (by omega), iAndNot_nat (by omega) (by omega)]
      rfl
    · rintro r w2 ⟨hr, hb2⟩
      have m2 := (by assumption : M w _ _).below hb2
      repeat' (first | (with_reducible refine ldM (by assumption) (by with_unfolding_all (repeat (first | exact List.mem_cons_self | refine List.mem_cons_of_mem _ ?_))) (by with_unfolding_all rfl) ?_) | (with_reducible refine ldAM (by assumption) (by with_unfolding_all (repeat (first | exact List.mem_cons_self | refine List.mem_cons_of_mem _ ?_))) ?_) | (with_reducible refine nwZ (by assumption) fun _ _ _ => ?_) | (with_reducible refine nwM' (by assumption) fun _ _ _ => ?_) | (with_reducible refine stM0 (by assumption) (by with_unfolding_all (repeat (first | exact Up.head _ _ _ _ | apply Up.tail))) fun _ _ => ?_) | (with_reducible refine stM1 (by assumption) (by with_unfolding_all (repeat (first | exact Up.head _ _ _ _ | apply Up.tail))) fun _ _ => ?_) | (with_reducible refine stM2 (by assumption) (by with_unfolding_all (repeat (first | exact Up.head _ _ _ _ | apply Up.tail))) fun _ _ => ?_) | (with_reducible refine stM3 (by assumption) (by with_unfolding_all (repeat (first | exact Up.head _ _ _ _ | apply Up.tail))) fun _ _ => ?_) | (with_reducible refine stAM' (by assumption) (by with_unfolding_all (repeat (first | exact Up.head _ _ _ _ | apply Up.tail))) fun _ _ => ?_) | (with_reducible refine stAL (by assumption) (by with_unfolding_all (repeat (first | exact Up.head _ _ _ _ | apply Up.tail))) fun _ _ => ?_) | (with_reducible refine And.intro (fun _ => ?_) (fun _ => ?_)) | (refine stAM' (by assumption) (by with_unfolding_all (repeat (first | exact Up.head _ _ _ _ | apply Up.tail))) fun _ _ => ?_))
      exact hk _ _ hr (by assumption : M w _ _).low
  · have h5 := (by assumption : (op == 5) = false)
    have h6 := (by assumption : (op == 6) = false)
    simp only [beq_eq_false_iff_ne, ne_eq] at h5 h6
    obtain rfl : op = 7 := by omega
    refine CallT.imp (fin ⟨0, M32, andN (a.bt ^^^ b.bt) (a.op ||| b.op), a.op ||| b.op⟩ _ _ rfl ⟨by show 0 < _; omega, hM, Nat.lt_of_le_of_lt (andN_le _ _) o5, o3, fun i hi => ?_⟩ ?_) ?_
    · have hi : (a.op ||| b.op).testBit i = true := hi
      show (andN (a.bt ^^^ b.bt) (a.op ||| b.op)).testBit i = false
      rw [andN_bit, hi]; simp
    · show ((0 : Int), (4294967295 : Int), iAndNot .i64 (iXor .i64 (a.bt : Int) (b.bt : Int)) (iOr .i64 (a.op : Int) (b.op : Int)), iOr .i64 (a.op : Int) (b.op : Int), ()) = _
      rw [iOr_nat (by omega) (by omega), iXor_nat (by omega) (by omega), iAndNot_nat (by omega) (by omega)]
      rfl
    · rintro r w2 ⟨hr, hb2⟩
      have m2 := (by assumption : M w _ _).below hb2
      repeat' (first | (with_reducible refine ldM (by assumption) (by with_unfolding_all (repeat (first | exact List.mem_cons_self | refine List.mem_cons_of_mem _ ?_))) (by with_unfolding_all rfl) ?_) | (with_reducible refine ldAM (by assumption) (by with_unfolding_all (repeat (first | exact List.mem_cons_self | refine List.mem_cons_of_mem _ ?_))) ?_) | (with_reducible refine nwZ (by assumption) fun _ _ _ => ?_) | (with_reducible refine nwM' (by assumption) fun _ _ _ => ?_) | (with_reducible refine stM0 (by assumption) (by with_unfolding_all (repeat (first | exact Up.head _ _ _ _ | apply Up.tail))) fun _ _ => ?_) | (with_reducible refine stM1 (by assumption) (by with_unfolding_all (repeat (first | exact Up.head _ _ _ _ | apply Up.tail))) fun _ _ => ?_) | (with_reducible refine stM2 (by assumption) (by with_unfolding_all (repeat (first | exact Up.head _ _ _ _ | apply Up.tail))) fun _ _ => ?_) | (with_reducible refine stM3 (by assumption) (by with_unfolding_all (repeat (first | exact Up.head _ _ _ _ | apply Up.tail))) fun _ _ => ?_) | (with_reducible refine stAM' (by assumption) (by with_unfolding_all (repeat (first | exact Up.head _ _ _ _ | apply Up.tail))) fun _ _ => ?_) | (with_reducible refine stAL (by assumption) (by with_unfolding_all (repeat (first | exact Up.head _ _ _ _ | apply Up.tail))) fun _ _ => ?_) | (with_reducible refine And.intro (fun _ => ?_) (fun _ => ?_)) | (refine stAM' (by assumption) (by with_unfolding_all (repeat (first | exact Up.head _ _ _ _ | apply Up.tail))) fun _ _ => ?_))
      exact hk _ _ hr (by assumption : M w _ _).low
end
end Go.Proofs.YtihllippchgkgaaGreat.V

/- Contracts: what an op makes of numbers of two ranges: sums, shifts, quotients; all ops. -/
namespace Go.Proofs.YtihllippchgkgaaGreat.V
open Go Go.RowKit
set_option linter.unusedVariables false
set_option linter.unusedSimpArgs false
section
variable {w : World}
theorem impl.added.q {a b : T4} (ha : Gd a) (hb : Gd b) {K : T4 → World → Prop} (hk : ∀ r w', Gd r → Below w.heap.size w w' → K r w') :
    CallT (.o (.ag (R 4 (.i .i64)))) P0 213 [.agg (Tup.cells (R 4 (.i .i64)) a).toArray, .agg (Tup.cells (R 4 (.i .i64)) b).toArray] w K := by
  obtain ⟨a, rfl, ha, m, hm⟩ := ha
  obtain ⟨b, rfl, hb, n, hn⟩ := hb
  have hG := addG_has ha hb hm hn
  have hG' : Gd (addG a b).t := ⟨_, rfl, hG.1, _, hG.2⟩
  obtain ⟨a1, a2, a3, a4, a5⟩ := id ha
  obtain ⟨b1, b2, b3, b4, b5⟩ := id hb
  have ha0 : a.mn ≤ a.mx := Nat.le_trans hm.1 hm.2.1
  have hb0 : b.mn ≤ b.mx := Nat.le_trans hn.1 hn.2.1
  have hxlt : (a.bt + b.bt) ^^^ (a.bt + b.bt + a.op + b.op) < 2 ^ 40 := Nat.xor_lt_two_pow (by omega) (by omega)
  have h1lt : ((a.bt + b.bt) ^^^ (a.bt + b.bt + a.op + b.op)) ||| a.op < 2 ^ 40 := Nat.or_lt_two_pow hxlt (by omega)
  have h2lt : ((a.bt + b.bt) ^^^ (a.bt + b.bt + a.op + b.op)) ||| a.op ||| b.op < 2 ^ 40 := Nat.or_lt_two_pow h1lt (by omega)
  have h3 := andN_le (a.bt + b.bt) ((((a.bt + b.bt) ^^^ (a.bt + b.bt + a.op + b.op)) ||| a.op ||| b.op) &&& M32)
  have h4 : ∀ n : Nat, n &&& M32 < 2 ^ 32 := fun n => Nat.lt_of_le_of_lt Nat.and_le_right (by decide)
  have hOk : ∀ p q : Nat, p < 2 ^ 32 → q < 2 ^ 32 → Rg.okk ⟨p, q, andN (a.bt + b.bt) ((((a.bt + b.bt) ^^^ (a.bt + b.bt + a.op + b.op)) ||| a.op ||| b.op) &&& M32) &&& M32, (((a.bt + b.bt) ^^^ (a.bt + b.bt + a.op + b.op)) ||| a.op ||| b.op) &&& M32⟩ := fun p q hp hq => ⟨hp, hq, h4 _, h4 _, fun i hi => by
    have hi : ((((a.bt + b.bt) ^^^ (a.bt + b.bt + a.op + b.op)) ||| a.op ||| b.op) &&& M32).testBit i = true := hi
    show (andN (a.bt + b.bt) ((((a.bt + b.bt) ^^^ (a.bt + b.bt + a.op + b.op)) ||| a.op ||| b.op) &&& M32) &&& M32).testBit i = false
    rw [Nat.testBit_and, andN_bit, hi]; simp⟩
  have eo : iAnd .i64 (iOr .i64 (iOr .i64 (iXor .i64 (IntKind.wrap .i64 ((a.bt : Int) + (b.bt : Int))) (IntKind.wrap .i64 ((IntKind.wrap .i64 ((IntKind.wrap .i64 ((a.bt : Int) + (b.bt : Int))) + (a.op : Int))) + (b.op : Int)))) (a.op : Int)) (b.op : Int)) 4294967295 = (((((a.bt + b.bt) ^^^ (a.bt + b.bt + a.op + b.op)) ||| a.op ||| b.op) &&& M32 : Nat) : Int) := by
    rw [i64_add (by omega), i64_add (by omega), i64_add (by omega), iXor_nat (by omega) (by omega), iOr_nat (by omega) (by omega), iOr_nat (by omega) (by omega), iAnd_top32 (by omega)]
  have eb : iAnd .i64 (iAndNot .i64 (IntKind.wrap .i64 ((a.bt : Int) + (b.bt : Int))) (((((a.bt + b.bt) ^^^ (a.bt + b.bt + a.op + b.op)) ||| a.op ||| b.op) &&& M32 : Nat) : Int)) 4294967295 = ((andN (a.bt + b.bt) ((((a.bt + b.bt) ^^^ (a.bt + b.bt + a.op + b.op)) ||| a.op ||| b.op) &&& M32) &&& M32 : Nat) : Int) := by
    have := h4 (((a.bt + b.bt) ^^^ (a.bt + b.bt + a.op + b.op)) ||| a.op ||| b.op)
    rw [i64_add (by omega), iAndNot_nat (by omega) (by omega), iAnd_top32 (by omega)]
  have hu : addG a b = if a.mx + b.mx ≤ M32 then tidyG ⟨a.mn + b.mn, a.mx + b.mx, andN (a.bt + b.bt) ((((a.bt + b.bt) ^^^ (a.bt + b.bt + a.op + b.op)) ||| a.op ||| b.op) &&& M32) &&& M32, (((a.bt + b.bt) ^^^ (a.bt + b.bt + a.op + b.op)) ||| a.op ||| b.op) &&& M32⟩ else tidyG ⟨0, M32, andN (a.bt + b.bt) ((((a.bt + b.bt) ^^^ (a.bt + b.bt + a.op + b.op)) ||| a.op ||| b.op) &&& M32) &&& M32, (((a.bt + b.bt) ^^^ (a.bt + b.bt + a.op + b.op)) ||| a.op ||| b.op) &&& M32⟩ := rfl
  rw [hu] at hG'
  generalize hO : ((((a.bt + b.bt) ^^^ (a.bt + b.bt + a.op + b.op)) ||| a.op ||| b.op) &&& M32) = O at *
  generalize hB : (andN (a.bt + b.bt) O &&& M32) = B at *
  have hM : M32 = 4294967295 := rfl
  refine impl.added.ok ?_
  unfold impl.added.vc
  have hm0 := M.start w
  repeat' (first | (with_reducible refine ldM (by assumption) (by with_unfolding_all (repeat (first | exact List.mem_cons_self | refine List.mem_cons_of_mem _ ?_))) (by with_unfolding_all rfl) ?_) | (with_reducible refine ldAM (by assumption) (by with_unfolding_all (repeat (first | exact List.mem_cons_self | refine List.mem_cons_of_mem _ ?_))) ?_) | (with_reducible refine nwZ (by assumption) fun _ _ _ => ?_) | (with_reducible refine nwM' (by assumption) fun _ _ _ => ?_) | (with_reducible refine stM0 (by assumption) (by with_unfolding_all (repeat (first | exact Up.head _ _ _ _ | apply Up.tail))) fun _ _ => ?_) | (with_reducible refine stM1 (by assumption) (by with_unfolding_all (repeat (first | exact Up.head _ _ _ _ | apply Up.tail))) fun _ _ => ?_) | (with_reducible refine stM2 (by assumption) (by with_unfolding_all (repeat (first | exact Up.head _ _ _ _ | apply Up.tail))) fun _ _ => ?_) | (with_reducible refine stM3 (by assumption) (by with_unfolding_all (repeat (first | exact Up.head _ _ _ _ | apply Up.tail))) fun _ _ => ?_) | (with_reducible refine stAM' (by assumption) (by with_unfolding_all (repeat (first | exact Up.head _ _ _ _ | apply Up.tail))) fun _ _ => ?_) | (with_reducible refine stAL (by assumption) (by with_unfolding_all (repeat (first | exact Up.head _ _ _ _ | apply Up.tail))) fun _ _ => ?_) | (with_reducible refine And.intro (fun _ => ?_) (fun _ => ?_)) | (refine stAM' (by assumption) (by with_unfolding_all (repeat (first | exact Up.head _ _ _ _ | apply Up.tail))) fun _ _ => ?_))
  rename_i w1 b1' m1 w2 b2' m2 w3 b3' m3
  refine qldM m3 (by with_unfolding_all (repeat (first | exact List.mem_cons_self | refine List.mem_cons_of_mem _ ?_))) (by with_unfolding_all rfl) (qldM m3 (by with_unfolding_all (repeat (first | exact List.mem_cons_self | refine List.mem_cons_of_mem _ ?_))) (by with_unfolding_all rfl) (qldM m3 (by with_unfolding_all (repeat (first | exact List.mem_cons_self | refine List.mem_cons_of_mem _ ?_))) (by with_unfolding_all rfl) (qldM m3 (by with_unfolding_all (repeat (first | exact List.mem_cons_self | refine List.mem_cons_of_mem _ ?_))) (by with_unfolding_all rfl) (qldM m3 (by with_unfolding_all (repeat (first | exact List.mem_cons_self | refine List.mem_cons_of_mem _ ?_))) (by with_unfolding_all rfl) (qldM m3 (by with_unfolding_all (repeat (first | exact List.mem_cons_self | refine List.mem_cons_of_mem _ ?_))) (by with_unfolding_all rfl) fun w4 hb4 => ?_)))))
  have m4 := m3.below hb4
  clear m1 m2 m3
  repeat' (first | (with_reducible refine ldM (by assumption) (by with_unfolding_all (repeat (first | exact List.mem_cons_self | refine List.mem_cons_of_mem _ ?_))) (by with_unfolding_all rfl) ?_) | (with_reducible refine ldAM (by assumption) (by with_unfolding_all (repeat (first | exact List.mem_cons_self | refine List.mem_cons_of_mem _ ?_))) ?_) | (with_reducible refine nwZ (by assumption) fun _ _ _ => ?_) | (with_reducible refine nwM' (by assumption) fun _ _ _ => ?_) | (with_reducible refine stM0 (by assumption) (by with_unfolding_all (repeat (first | exact Up.head _ _ _ _ | apply Up.tail))) fun _ _ => ?_) | (with_reducible refine stM1 (by assumption) (by with_unfolding_all (repeat (first | exact Up.head _ _ _ _ | apply Up.tail))) fun _ _ => ?_) | (with_reducible refine stM2 (by assumption) (by with_unfolding_all (repeat (first | exact Up.head _ _ _ _ | apply Up.tail))) fun _ _ => ?_) | (with_reducible refine stM3 (by assumption) (by with_unfolding_all (repeat (first | exact Up.head _ _ _ _ | apply Up.tail))) fun _ _ => ?_) | (with_reducible refine stAM' (by assumption) (by with_unfolding_all (repeat (first | exact Up.head _ _ _ _ | apply Up.tail))) fun _ _ => ?_) | (with_reducible refine stAL (by assumption) (by with_unfolding_all (repeat (first | exact Up.head _ _ _ _ | apply Up.tail))) fun _ _ => ?_) | (with_reducible refine And.intro (fun _ => ?_) (fun _ => ?_)) | (refine stAM' (by assumption) (by with_unfolding_all (repeat (first | exact Up.head _ _ _ _ | apply Up.tail))) fun _ _ => ?_))
  all_goals
    rename_i w5 b5' m5 w6 m6 hc
  · replace m6 : M w w6 [(b5', Rg.t ⟨0, M32, B, O⟩), (b3', ((0, 0, 0, 0, ()) : T4)), (b2', b.t), (b1', a.t)] := by
      have e : Rg.t ⟨0, M32, B, O⟩ = ((0, 4294967295, (B : Int), (O : Int), ()) : T4) := rfl
      rw [e, ← eb, ← eo]; exact m6
    have hc' : decide (IntKind.wrap .i64 ((a.mx : Int) + (b.mx : Int)) ≤ 4294967295) = true := hc
    rw [i64_add (by omega)] at hc'
    simp only [decide_eq_true_eq] at hc'
    rw [if_pos (by omega)] at hG'
    clear m5
    have hd : Del [(b5', Rg.t ⟨0, M32, B, O⟩), (b3', ((0, 0, 0, 0, ()) : T4)), (b2', b.t), (b1', a.t)] b5' (Rg.t ⟨0, M32, B, O⟩) [(b3', ((0, 0, 0, 0, ()) : T4)), (b2', b.t), (b1', a.t)] := Del.head _ _ _
    have e1 : IntKind.wrap .i64 ((a.mn : Int) + (b.mn : Int)) = ((a.mn + b.mn : Nat) : Int) := i64_add (by omega)
    have e2 : IntKind.wrap .i64 ((a.mx : Int) + (b.mx : Int)) = ((a.mx + b.mx : Nat) : Int) := i64_add (by omega)
    refine ⟨SpS w6.heap.size b5' ((((a.mn + b.mn : Nat) : Int), (Rg.t ⟨0, M32, B, O⟩).2) : T4), spsOk _ _ _, eqG (a.mn : Int), keptEq, eqG (b.mn : Int), keptEq, eqG (a.mx : Int), keptEq, eqG (b.mx : Int), keptEq, _, keptBx, fun w7 hs => ?_, fun t48 => ⟨fun w7 hs => ?_, fun t50 => ⟨fun w7 hs => ?_, fun t53 => ⟨fun w7 hs => ?_, fun t55 => ⟨fun w7 hs f1 f2 => ?_, fun st w7 hs f1 f2 f3 f4 fs => ?_⟩⟩⟩⟩⟩
    · exact ldM (m6.sps hd hs) (by with_unfolding_all (repeat (first | exact List.mem_cons_self | refine List.mem_cons_of_mem _ ?_))) (by with_unfolding_all rfl) (gkE rfl (SpS.refl _ _ _ _))
    · exact ldM (m6.sps hd hs) (by with_unfolding_all (repeat (first | exact List.mem_cons_self | refine List.mem_cons_of_mem _ ?_))) (by with_unfolding_all rfl) (gkE rfl (SpS.refl _ _ _ _))
    · exact ldM (m6.sps hd hs) (by with_unfolding_all (repeat (first | exact List.mem_cons_self | refine List.mem_cons_of_mem _ ?_))) (by with_unfolding_all rfl) (gkE rfl (SpS.refl _ _ _ _))
    · exact ldM (m6.sps hd hs) (by with_unfolding_all (repeat (first | exact List.mem_cons_self | refine List.mem_cons_of_mem _ ?_))) (by with_unfolding_all rfl) (gkE rfl (SpS.refl _ _ _ _))
    · cases f1; cases f2
      rw [e1]
      exact stSps0 m6 hd hs
    · cases f3; cases f4
      have m7 := m6.spsB hd hs fs
      rw [e2]
      repeat' (first | (with_reducible refine ldM (by assumption) (by with_unfolding_all (repeat (first | exact List.mem_cons_self | refine List.mem_cons_of_mem _ ?_))) (by with_unfolding_all rfl) ?_) | (with_reducible refine ldAM (by assumption) (by with_unfolding_all (repeat (first | exact List.mem_cons_self | refine List.mem_cons_of_mem _ ?_))) ?_) | (with_reducible refine nwZ (by assumption) fun _ _ _ => ?_) | (with_reducible refine nwM' (by assumption) fun _ _ _ => ?_) | (with_reducible refine stM0 (by assumption) (by with_unfolding_all (repeat (first | exact Up.head _ _ _ _ | apply Up.tail))) fun _ _ => ?_) | (with_reducible refine stM1 (by assumption) (by with_unfolding_all (repeat (first | exact Up.head _ _ _ _ | apply Up.tail))) fun _ _ => ?_) | (with_reducible refine stM2 (by assumption) (by with_unfolding_all (repeat (first | exact Up.head _ _ _ _ | apply Up.tail))) fun _ _ => ?_) | (with_reducible refine stM3 (by assumption) (by with_unfolding_all (repeat (first | exact Up.head _ _ _ _ | apply Up.tail))) fun _ _ => ?_) | (with_reducible refine stAM' (by assumption) (by with_unfolding_all (repeat (first | exact Up.head _ _ _ _ | apply Up.tail))) fun _ _ => ?_) | (with_reducible refine stAL (by assumption) (by with_unfolding_all (repeat (first | exact Up.head _ _ _ _ | apply Up.tail))) fun _ _ => ?_) | (with_reducible refine And.intro (fun _ => ?_) (fun _ => ?_)) | (refine stAM' (by assumption) (by with_unfolding_all (repeat (first | exact Up.head _ _ _ _ | apply Up.tail))) fun _ _ => ?_))
      refine impl.Range.tidy.e (g := ⟨a.mn + b.mn, a.mx + b.mx, B, O⟩) (hOk _ _ (by omega) (by omega)) fun w8 hb8 => ?_
      have m8 := (by assumption : M w _ _).below hb8
      repeat' (first | (with_reducible refine ldM (by assumption) (by with_unfolding_all (repeat (first | exact List.mem_cons_self | refine List.mem_cons_of_mem _ ?_))) (by with_unfolding_all rfl) ?_) | (with_reducible refine ldAM (by assumption) (by with_unfolding_all (repeat (first | exact List.mem_cons_self | refine List.mem_cons_of_mem _ ?_))) ?_) | (with_reducible refine nwZ (by assumption) fun _ _ _ => ?_) | (with_reducible refine nwM' (by assumption) fun _ _ _ => ?_) | (with_reducible refine stM0 (by assumption) (by with_unfolding_all (repeat (first | exact Up.head _ _ _ _ | apply Up.tail))) fun _ _ => ?_) | (with_reducible refine stM1 (by assumption) (by with_unfolding_all (repeat (first | exact Up.head _ _ _ _ | apply Up.tail))) fun _ _ => ?_) | (with_reducible refine stM2 (by assumption) (by with_unfolding_all (repeat (first | exact Up.head _ _ _ _ | apply Up.tail))) fun _ _ => ?_) | (with_reducible refine stM3 (by assumption) (by with_unfolding_all (repeat (first | exact Up.head _ _ _ _ | apply Up.tail))) fun _ _ => ?_) | (with_reducible refine stAM' (by assumption) (by with_unfolding_all (repeat (first | exact Up.head _ _ _ _ | apply Up.tail))) fun _ _ => ?_) | (with_reducible refine stAL (by assumption) (by with_unfolding_all (repeat (first | exact Up.head _ _ _ _ | apply Up.tail))) fun _ _ => ?_) | (with_reducible refine And.intro (fun _ => ?_) (fun _ => ?_)) | (refine stAM' (by assumption) (by with_unfolding_all (repeat (first | exact Up.head _ _ _ _ | apply Up.tail))) fun _ _ => ?_))
      exact hk _ _ hG' (by assumption : M w _ _).low
  · have hc' : decide (IntKind.wrap .i64 ((a.mx : Int) + (b.mx : Int)) ≤ 4294967295) = false := hc
    rw [i64_add (by omega)] at hc'
    simp only [decide_eq_false_iff_not] at hc'
    rw [if_neg (by omega)] at hG'
    have key : ∀ y : T4, y = Rg.t ⟨0, M32, B, O⟩ → ∀ {K' : T4 → World → Prop}, (∀ w', Below w6.heap.size w6 w' → K' (tidyG ⟨0, M32, B, O⟩).t w') → CallT (.o (.ag (R 4 (.i .i64)))) P0 195 [.agg (Tup.cells (R 4 (.i .i64)) y).toArray] w6 K' := by
      intro y hy K' hK'
      subst hy
      exact impl.Range.tidy.e (hOk _ _ (by omega) (by omega)) hK'
    refine key _ ?_ fun w8 hb8 => ?_
    · have e : Rg.t ⟨0, M32, B, O⟩ = ((0, 4294967295, (B : Int), (O : Int), ()) : T4) := rfl
      rw [e, ← eb, ← eo]; rfl
    · have m8 := (by assumption : M w _ _).below hb8
      repeat' (first | (with_reducible refine ldM (by assumption) (by with_unfolding_all (repeat (first | exact List.mem_cons_self | refine List.mem_cons_of_mem _ ?_))) (by with_unfolding_all rfl) ?_) | (with_reducible refine ldAM (by assumption) (by with_unfolding_all (repeat (first | exact List.mem_cons_self | refine List.mem_cons_of_mem _ ?_))) ?_) | (with_reducible refine nwZ (by assumption) fun _ _ _ => ?_) | (with_reducible refine nwM' (by assumption) fun _ _ _ => ?_) | (with_reducible refine stM0 (by assumption) (by with_unfolding_all (repeat (first | exact Up.head _ _ _ _ | apply Up.tail))) fun _ _ => ?_) | (with_reducible refine stM1 (by assumption) (by with_unfolding_all (repeat (first | exact Up.head _ _ _ _ | apply Up.tail))) fun _ _ => ?_) | (with_reducible refine stM2 (by assumption) (by with_unfolding_all (repeat (first | exact Up.head _ _ _ _ | apply Up.tail))) fun _ _ => ?_) | (with_reducible refine stM3 (by assumption) (by with_unfolding_all (repeat (first | exact Up.head _ _ _ _ | apply Up.tail))) fun _ _ => ?_) | (with_reducible refine stAM' (by assumption) (by with_unfolding_all (repeat (first | exact Up.head _ _ _ _ | apply Up.tail))) fun _ _ => ?_) | (with_reducible refine stAL (by assumption) (by with_unfolding_all (repeat (first | exact Up.head _ _ _ _ | apply Up.tail))) fun _ _ => ?_) | (with_reducible refine And.intro (fun _ => ?_) (fun _ => ?_)) | (refine stAM' (by assumption) (by with_unfolding_all (repeat (first | exact Up.head _ _ _ _ | apply Up.tail))) fun _ _ => ?_))
      exact hk _ _ hG' (by assumption : M w _ _).low
theorem impl.parted.q {op : Int} (ho : op = 10 ∨ op = 11) {a b : T4} (ha : Gd a) (hb : Gd b) {K : T4 → World → Prop} (hk : ∀ r w', Gd r → Below w.heap.size w w' → K r w') :
    CallT (.o (.ag (R 4 (.i .i64)))) P0 217 [.int .i64 op, .agg (Tup.cells (R 4 (.i .i64)) a).toArray, .agg (Tup.cells (R 4 (.i .i64)) b).toArray] w K := by
  have hA := ha
  obtain ⟨a, rfl, ha, m, hm⟩ := ha
  obtain ⟨b, rfl, hb, n, hn⟩ := hb
  obtain ⟨a1, a2, a3, a4, a5⟩ := id ha
  obtain ⟨b1, b2, b3, b4, b5⟩ := id hb
  have ha0 : a.mn ≤ a.mx := Nat.le_trans hm.1 hm.2.1
  have hb0 : b.mn ≤ b.mx := Nat.le_trans hn.1 hn.2.1
  refine impl.parted.ok ?_
  unfold impl.parted.vc
  have hm0 := M.start w
  repeat' (first | (with_reducible refine ldM (by assumption) (by with_unfolding_all (repeat (first | exact List.mem_cons_self | refine List.mem_cons_of_mem _ ?_))) (by with_unfolding_all rfl) ?_) | (with_reducible refine ldAM (by assumption) (by with_unfolding_all (repeat (first | exact List.mem_cons_self | refine List.mem_cons_of_mem _ ?_))) ?_) | (with_reducible refine nwZ (by assumption) fun _ _ _ => ?_) | (with_reducible refine nwM' (by assumption) fun _ _ _ => ?_) | (with_reducible refine stM0 (by assumption) (by with_unfolding_all (repeat (first | exact Up.head _ _ _ _ | apply Up.tail))) fun _ _ => ?_) | (with_reducible refine stM1 (by assumption) (by with_unfolding_all (repeat (first | exact Up.head _ _ _ _ | apply Up.tail))) fun _ _ => ?_) | (with_reducible refine stM2 (by assumption) (by with_unfolding_all (repeat (first | exact Up.head _ _ _ _ | apply Up.tail))) fun _ _ => ?_) | (with_reducible refine stM3 (by assumption) (by with_unfolding_all (repeat (first | exact Up.head _ _ _ _ | apply Up.tail))) fun _ _ => ?_) | (with_reducible refine stAM' (by assumption) (by with_unfolding_all (repeat (first | exact Up.head _ _ _ _ | apply Up.tail))) fun _ _ => ?_) | (with_reducible refine stAL (by assumption) (by with_unfolding_all (repeat (first | exact Up.head _ _ _ _ | apply Up.tail))) fun _ _ => ?_) | (with_reducible refine And.intro (fun _ => ?_) (fun _ => ?_)) | (refine stAM' (by assumption) (by with_unfolding_all (repeat (first | exact Up.head _ _ _ _ | apply Up.tail))) fun _ _ => ?_))
  rename_i w1 b1' m1 w2 b2' m2 w3 b3' m3
  have hl : ∀ {w' : World}, M w w' [(b3', ((0, 0, 0, 0, ()) : T4)), (b2', b.t), (b1', a.t)] → ∀ {K' : T4 → World → Prop}, (∀ r w2, Gd r → M w w2 [(b3', ((0, 0, 0, 0, ()) : T4)), (b2', b.t), (b1', a.t)] → K' r w2) → ∀ {x y : Nat} {x' y' : Int}, x ≤ y → y < 2 ^ 32 → x' = (x : Int) → y' = (y : Int) →
      CallT (.o (.ag (R 4 (.i .i64)))) P0 205 [.int .i64 x', .int .i64 y'] w' K' := by
    intro w' m' K' hK' x y x' y' h1 h2 hx hy
    subst hx hy
    exact impl.fromTo.q (by omega) (by omega) (by omega) fun r w2 hr hb2 => hK' r w2 hr (m'.below hb2)
  refine ⟨fun t w' => M w w' [(b3', ((0, 0, 0, 0, ()) : T4)), (b2', b.t), (b1', a.t)] ∧ (t = true → 0 < b.mn), ?_, fun t7 w4 hJ _ => ?_⟩
  · repeat' (first | (with_reducible refine ldM (by assumption) (by with_unfolding_all (repeat (first | exact List.mem_cons_self | refine List.mem_cons_of_mem _ ?_))) (by with_unfolding_all rfl) ?_) | (with_reducible refine ldAM (by assumption) (by with_unfolding_all (repeat (first | exact List.mem_cons_self | refine List.mem_cons_of_mem _ ?_))) ?_) | (with_reducible refine nwZ (by assumption) fun _ _ _ => ?_) | (with_reducible refine nwM' (by assumption) fun _ _ _ => ?_) | (with_reducible refine stM0 (by assumption) (by with_unfolding_all (repeat (first | exact Up.head _ _ _ _ | apply Up.tail))) fun _ _ => ?_) | (with_reducible refine stM1 (by assumption) (by with_unfolding_all (repeat (first | exact Up.head _ _ _ _ | apply Up.tail))) fun _ _ => ?_) | (with_reducible refine stM2 (by assumption) (by with_unfolding_all (repeat (first | exact Up.head _ _ _ _ | apply Up.tail))) fun _ _ => ?_) | (with_reducible refine stM3 (by assumption) (by with_unfolding_all (repeat (first | exact Up.head _ _ _ _ | apply Up.tail))) fun _ _ => ?_) | (with_reducible refine stAM' (by assumption) (by with_unfolding_all (repeat (first | exact Up.head _ _ _ _ | apply Up.tail))) fun _ _ => ?_) | (with_reducible refine stAL (by assumption) (by with_unfolding_all (repeat (first | exact Up.head _ _ _ _ | apply Up.tail))) fun _ _ => ?_) | (with_reducible refine And.intro (fun _ => ?_) (fun _ => ?_)) | (refine stAM' (by assumption) (by with_unfolding_all (repeat (first | exact Up.head _ _ _ _ | apply Up.tail))) fun _ _ => ?_))
    · refine ⟨by assumption, fun h => ?_⟩
      have h : decide ((b.mn : Int) > 0) = true := h
      simpa using h
    · exact ⟨by assumption, fun h => by simp at h⟩
  obtain ⟨m4, h7⟩ := hJ
  clear m1 m2 m3 hm0
  refine And.intro (fun ht => ?_) (fun ht => ?_)
  · have hpos := h7 ht
    have q1 : IntKind.wrap .i64 (Int.tdiv (a.mn : Int) (b.mx : Int)) = ((a.mn / b.mx : Nat) : Int) := by
      have := Nat.div_le_self a.mn b.mx
      rw [Int.tdiv_eq_ediv_of_nonneg (by omega), show (a.mn : Int) / (b.mx : Int) = ((a.mn / b.mx : Nat) : Int) from rfl]
      exact i64_nat (by omega)
    have q2 : IntKind.wrap .i64 (Int.tdiv (a.mx : Int) (b.mn : Int)) = ((a.mx / b.mn : Nat) : Int) := by
      have := Nat.div_le_self a.mx b.mn
      rw [Int.tdiv_eq_ediv_of_nonneg (by omega), show (a.mx : Int) / (b.mn : Int) = ((a.mx / b.mn : Nat) : Int) from rfl]
      exact i64_nat (by omega)
    have q3 : a.mn / b.mx ≤ a.mx / b.mn := Nat.le_trans (Nat.div_le_div_right ha0) (Nat.div_le_div_left hb0 hpos)
    have q4 := Nat.div_le_self a.mx b.mn
    refine ⟨Grw, grwOk _, eqG (a.mn : Int), keptEq, eqG (b.mx : Int), keptEq, eqG ((a.mn / b.mx : Nat) : Int), keptEq, eqG (a.mx : Int), keptEq, eqG (b.mn : Int), keptEq, eqG ((a.mx / b.mn : Nat) : Int), keptEq, prG Gd, keptPr,
      fun w5 hg => ?_, fun t16 => ⟨fun w5 hg => ?_, fun t18 => ⟨fun w5 hg f1 f2 => ?_, fun t19 => ⟨fun w5 hg => ?_, fun t21 => ⟨fun w5 hg => ?_, fun t23 => ⟨fun w5 hg f1 f2 => ?_, fun t24 => ⟨fun w5 hg f1 f2 => ?_, fun t25 w5 hg f1 f2 f3 f4 f5 f6 f7 => ?_⟩⟩⟩⟩⟩⟩⟩
    · exact ldM (m4.below hg) (by with_unfolding_all (repeat (first | exact List.mem_cons_self | refine List.mem_cons_of_mem _ ?_))) (by with_unfolding_all rfl) (gkE rfl (Grw.refl _))
    · exact ldM (m4.below hg) (by with_unfolding_all (repeat (first | exact List.mem_cons_self | refine List.mem_cons_of_mem _ ?_))) (by with_unfolding_all rfl) (gkE rfl (Grw.refl _))
    · cases f1; cases f2
      exact ⟨by omega, gkE (by rw [q1]; rfl) (Grw.refl _)⟩
    · exact ldM (m4.below hg) (by with_unfolding_all (repeat (first | exact List.mem_cons_self | refine List.mem_cons_of_mem _ ?_))) (by with_unfolding_all rfl) (gkE rfl (Grw.refl _))
    · exact ldM (m4.below hg) (by with_unfolding_all (repeat (first | exact List.mem_cons_self | refine List.mem_cons_of_mem _ ?_))) (by with_unfolding_all rfl) (gkE rfl (Grw.refl _))
    · cases f1; cases f2
      exact ⟨by omega, gkE (by rw [q2]; rfl) (Grw.refl _)⟩
    · cases f1; cases f2
      exact impl.fromTo.e (lo := a.mn / b.mx) (hi := a.mx / b.mn) (Nat.lt_of_le_of_lt (Nat.le_trans q3 q4) a2) (Nat.lt_of_le_of_lt q4 a2) rfl rfl fun w2 hb2 => gkP rfl hb2 (Gd.fromTo q3 (Nat.lt_of_le_of_lt q4 a2))
    · have m5 := m4.below hg
      repeat' (first | (with_reducible refine ldM (by assumption) (by with_unfolding_all (repeat (first | exact List.mem_cons_self | refine List.mem_cons_of_mem _ ?_))) (by with_unfolding_all rfl) ?_) | (with_reducible refine ldAM (by assumption) (by with_unfolding_all (repeat (first | exact List.mem_cons_self | refine List.mem_cons_of_mem _ ?_))) ?_) | (with_reducible refine nwZ (by assumption) fun _ _ _ => ?_) | (with_reducible refine nwM' (by assumption) fun _ _ _ => ?_) | (with_reducible refine stM0 (by assumption) (by with_unfolding_all (repeat (first | exact Up.head _ _ _ _ | apply Up.tail))) fun _ _ => ?_) | (with_reducible refine stM1 (by assumption) (by with_unfolding_all (repeat (first | exact Up.head _ _ _ _ | apply Up.tail))) fun _ _ => ?_) | (with_reducible refine stM2 (by assumption) (by with_unfolding_all (repeat (first | exact Up.head _ _ _ _ | apply Up.tail))) fun _ _ => ?_) | (with_reducible refine stM3 (by assumption) (by with_unfolding_all (repeat (first | exact Up.head _ _ _ _ | apply Up.tail))) fun _ _ => ?_) | (with_reducible refine stAM' (by assumption) (by with_unfolding_all (repeat (first | exact Up.head _ _ _ _ | apply Up.tail))) fun _ _ => ?_) | (with_reducible refine stAL (by assumption) (by with_unfolding_all (repeat (first | exact Up.head _ _ _ _ | apply Up.tail))) fun _ _ => ?_) | (with_reducible refine And.intro (fun _ => ?_) (fun _ => ?_)) | (refine stAM' (by assumption) (by with_unfolding_all (repeat (first | exact Up.head _ _ _ _ | apply Up.tail))) fun _ _ => ?_))
      exact hk _ _ f7 (by assumption : M w _ _).low
  · refine ⟨fun t w' => M w w' [(b3', ((0, 0, 0, 0, ()) : T4)), (b2', b.t), (b1', a.t)], ?_, fun t26 w5 m5 _ => ?_⟩
    · repeat' (first | (with_reducible refine ldM (by assumption) (by with_unfolding_all (repeat (first | exact List.mem_cons_self | refine List.mem_cons_of_mem _ ?_))) (by with_unfolding_all rfl) ?_) | (with_reducible refine ldAM (by assumption) (by with_unfolding_all (repeat (first | exact List.mem_cons_self | refine List.mem_cons_of_mem _ ?_))) ?_) | (with_reducible refine nwZ (by assumption) fun _ _ _ => ?_) | (with_reducible refine nwM' (by assumption) fun _ _ _ => ?_) | (with_reducible refine stM0 (by assumption) (by with_unfolding_all (repeat (first | exact Up.head _ _ _ _ | apply Up.tail))) fun _ _ => ?_) | (with_reducible refine stM1 (by assumption) (by with_unfolding_all (repeat (first | exact Up.head _ _ _ _ | apply Up.tail))) fun _ _ => ?_) | (with_reducible refine stM2 (by assumption) (by with_unfolding_all (repeat (first | exact Up.head _ _ _ _ | apply Up.tail))) fun _ _ => ?_) | (with_reducible refine stM3 (by assumption) (by with_unfolding_all (repeat (first | exact Up.head _ _ _ _ | apply Up.tail))) fun _ _ => ?_) | (with_reducible refine stAM' (by assumption) (by with_unfolding_all (repeat (first | exact Up.head _ _ _ _ | apply Up.tail))) fun _ _ => ?_) | (with_reducible refine stAL (by assumption) (by with_unfolding_all (repeat (first | exact Up.head _ _ _ _ | apply Up.tail))) fun _ _ => ?_) | (with_reducible refine And.intro (fun _ => ?_) (fun _ => ?_)) | (refine stAM' (by assumption) (by with_unfolding_all (repeat (first | exact Up.head _ _ _ _ | apply Up.tail))) fun _ _ => ?_))
      all_goals assumption
    · replace m5 : M w w5 [(b3', ((0, 0, 0, 0, ()) : T4)), (b2', b.t), (b1', a.t)] := m5
      clear m4
      have fin : ∀ {w' : World} {r : T4}, Gd r → M w w' [(b3', ((0, 0, 0, 0, ()) : T4)), (b2', b.t), (b1', a.t)] → StA P0 ⟨b3', 0, none⟩ (Tup.cells (R 4 (.i .i64)) r) w' fun w_1 => LdA (R 4 (.i .i64)) ⟨b3', 0, none⟩ w_1 fun r_1 w_2 => K r_1 w_1 := by
        intro w' r hr m'
        repeat' (first | (with_reducible refine ldM (by assumption) (by with_unfolding_all (repeat (first | exact List.mem_cons_self | refine List.mem_cons_of_mem _ ?_))) (by with_unfolding_all rfl) ?_) | (with_reducible refine ldAM (by assumption) (by with_unfolding_all (repeat (first | exact List.mem_cons_self | refine List.mem_cons_of_mem _ ?_))) ?_) | (with_reducible refine nwZ (by assumption) fun _ _ _ => ?_) | (with_reducible refine nwM' (by assumption) fun _ _ _ => ?_) | (with_reducible refine stM0 (by assumption) (by with_unfolding_all (repeat (first | exact Up.head _ _ _ _ | apply Up.tail))) fun _ _ => ?_) | (with_reducible refine stM1 (by assumption) (by with_unfolding_all (repeat (first | exact Up.head _ _ _ _ | apply Up.tail))) fun _ _ => ?_) | (with_reducible refine stM2 (by assumption) (by with_unfolding_all (repeat (first | exact Up.head _ _ _ _ | apply Up.tail))) fun _ _ => ?_) | (with_reducible refine stM3 (by assumption) (by with_unfolding_all (repeat (first | exact Up.head _ _ _ _ | apply Up.tail))) fun _ _ => ?_) | (with_reducible refine stAM' (by assumption) (by with_unfolding_all (repeat (first | exact Up.head _ _ _ _ | apply Up.tail))) fun _ _ => ?_) | (with_reducible refine stAL (by assumption) (by with_unfolding_all (repeat (first | exact Up.head _ _ _ _ | apply Up.tail))) fun _ _ => ?_) | (with_reducible refine And.intro (fun _ => ?_) (fun _ => ?_)) | (refine stAM' (by assumption) (by with_unfolding_all (repeat (first | exact Up.head _ _ _ _ | apply Up.tail))) fun _ _ => ?_))
        exact hk _ _ hr (by assumption : M w _ _).low
      repeat' (first | (with_reducible refine ldM (by assumption) (by with_unfolding_all (repeat (first | exact List.mem_cons_self | refine List.mem_cons_of_mem _ ?_))) (by with_unfolding_all rfl) ?_) | (with_reducible refine ldAM (by assumption) (by with_unfolding_all (repeat (first | exact List.mem_cons_self | refine List.mem_cons_of_mem _ ?_))) ?_) | (with_reducible refine nwZ (by assumption) fun _ _ _ => ?_) | (with_reducible refine nwM' (by assumption) fun _ _ _ => ?_) | (with_reducible refine stM0 (by assumption) (by with_unfolding_all (repeat (first | exact Up.head _ _ _ _ | apply Up.tail))) fun _ _ => ?_) | (with_reducible refine stM1 (by assumption) (by with_unfolding_all (repeat (first | exact Up.head _ _ _ _ | apply Up.tail))) fun _ _ => ?_) | (with_reducible refine stM2 (by assumption) (by with_unfolding_all (repeat (first | exact Up.head _ _ _ _ | apply Up.tail))) fun _ _ => ?_) | (with_reducible refine stM3 (by assumption) (by with_unfolding_all (repeat (first | exact Up.head _ _ _ _ | apply Up.tail))) fun _ _ => ?_) | (with_reducible refine stAM' (by assumption) (by with_unfolding_all (repeat (first | exact Up.head _ _ _ _ | apply Up.tail))) fun _ _ => ?_) | (with_reducible refine stAL (by assumption) (by with_unfolding_all (repeat (first | exact Up.head _ _ _ _ | apply Up.tail))) fun _ _ => ?_) | (with_reducible refine And.intro (fun _ => ?_) (fun _ => ?_)) | (refine stAM' (by assumption) (by with_unfolding_all (repeat (first | exact Up.head _ _ _ _ | apply Up.tail))) fun _ _ => ?_))
      · exact hk _ _ hA (by assumption : M w _ _).low
      · rename_i h1 h2 h3 h4
        have h3' : decide ((b.mn : Int) > 0) = true := by assumption
        simp only [decide_eq_true_eq] at h3'
        exact hl (by assumption) (fun r w2 hr m2 => fin hr m2) (x := 0) (y := b.mx - 1) (by omega) (by omega) rfl (by show IntKind.wrap .i64 ((b.mx : Int) - 1) = _; rw [i64_of (by omega) (by omega)]; omega)
      · exact hl (by assumption) (fun r w2 hr m2 => fin hr m2) (x := 0) (y := a.mx) (by omega) (by omega) rfl rfl
      · exact hl (by assumption) (fun r w2 hr m2 => fin hr m2) (x := 0) (y := a.mx) (by omega) (by omega) rfl rfl
      · exact hl (by assumption) (fun r w2 hr m2 => fin hr m2) (x := 0) (y := a.mx) (by omega) (by omega) rfl rfl
theorem impl.shifted.q {op : Int} (ho : op = 8 ∨ op = 9) {a b : T4} (ha : Gd a) (hb : Gd b) {K : T4 → World → Prop} (hk : ∀ r w', Gd r → Below w.heap.size w w' → K r w') :
    CallT (.o (.ag (R 4 (.i .i64)))) P0 216 [.int .i64 op, .agg (Tup.cells (R 4 (.i .i64)) a).toArray, .agg (Tup.cells (R 4 (.i .i64)) b).toArray] w K := by
  obtain ⟨a, rfl, ha, m, hm⟩ := ha
  obtain ⟨b, rfl, hb, n, hn⟩ := hb
  have hG := shG_has (op := op) ha hb hm hn
  have hG' : Gd (shG op a b).t := ⟨_, rfl, hG.1, _, hG.2⟩
  unfold shG at hG'
  obtain ⟨a1, a2, a3, a4, a5⟩ := id ha
  obtain ⟨b1, b2, b3, b4, b5⟩ := id hb
  have ha0 : a.mn ≤ a.mx := Nat.le_trans hm.1 hm.2.1
  have ht : (0 : Int) ≤ Int.tmod (b.mn : Int) 32 := by rw [tm32]; omega
  have hM : ∀ n : Nat, n &&& M32 < 2 ^ 32 := fun n => Nat.lt_of_le_of_lt Nat.and_le_right (by decide)
  have e32 : M32 = 4294967295 := rfl
  refine impl.shifted.ok ?_
  unfold impl.shifted.vc
  have hm0 := M.start w
  repeat' (first | (with_reducible refine ldM (by assumption) (by with_unfolding_all (repeat (first | exact List.mem_cons_self | refine List.mem_cons_of_mem _ ?_))) (by with_unfolding_all rfl) ?_) | (with_reducible refine ldAM (by assumption) (by with_unfolding_all (repeat (first | exact List.mem_cons_self | refine List.mem_cons_of_mem _ ?_))) ?_) | (with_reducible refine nwZ (by assumption) fun _ _ _ => ?_) | (with_reducible refine nwM' (by assumption) fun _ _ _ => ?_) | (with_reducible refine stM0 (by assumption) (by with_unfolding_all (repeat (first | exact Up.head _ _ _ _ | apply Up.tail))) fun _ _ => ?_) | (with_reducible refine stM1 (by assumption) (by with_unfolding_all (repeat (first | exact Up.head _ _ _ _ | apply Up.tail))) fun _ _ => ?_) | (with_reducible refine stM2 (by assumption) (by with_unfolding_all (repeat (first | exact Up.head _ _ _ _ | apply Up.tail))) fun _ _ => ?_) | (with_reducible refine stM3 (by assumption) (by with_unfolding_all (repeat (first | exact Up.head _ _ _ _ | apply Up.tail))) fun _ _ => ?_) | (with_reducible refine stAM' (by assumption) (by with_unfolding_all (repeat (first | exact Up.head _ _ _ _ | apply Up.tail))) fun _ _ => ?_) | (with_reducible refine stAL (by assumption) (by with_unfolding_all (repeat (first | exact Up.head _ _ _ _ | apply Up.tail))) fun _ _ => ?_) | (with_reducible refine And.intro (fun _ => ?_) (fun _ => ?_)) | (refine stAM' (by assumption) (by with_unfolding_all (repeat (first | exact Up.head _ _ _ _ | apply Up.tail))) fun _ _ => ?_))
  rename_i w1 b1' m1 w2 b2' m2 w3 b3' m3
  have fin : ∀ {w' : World} {r : T4} {l : List (Nat × T4)}, Gd r → M w w' l → (b3', ((0, 0, 0, 0, ()) : T4)) ∈ l → (∀ y, ∃ l', Up l b3' ((0, 0, 0, 0, ()) : T4) y l' ∧ (b3', y) ∈ l') → StA P0 ⟨b3', 0, none⟩ (Tup.cells (R 4 (.i .i64)) r) w' fun w_1 => LdA (R 4 (.i .i64)) ⟨b3', 0, none⟩ w_1 fun r_1 w_2 => K r_1 w_1 := by
    intro w' r l hr m' hin hup
    obtain ⟨l', hu, hi⟩ := hup r
    exact stAM' m' hu fun w2 m2 => ldAM m2 hi (hk _ _ hr m2.low)
  have up0 : ∀ y, ∃ l', Up [(b3', ((0, 0, 0, 0, ()) : T4)), (b2', b.t), (b1', a.t)] b3' ((0, 0, 0, 0, ()) : T4) y l' ∧ (b3', y) ∈ l' := fun y => ⟨_, Up.head _ _ _ _, List.mem_cons_self⟩
  refine ⟨by omega, fun t w' => M w w' [(b3', ((0, 0, 0, 0, ()) : T4)), (b2', b.t), (b1', a.t)] ∧ t = (decide (b.mn ≠ b.mx) && op == 9), ?_, fun t12 w4 hJ _ => ?_⟩
  · repeat' (first | (with_reducible refine ldM (by assumption) (by with_unfolding_all (repeat (first | exact List.mem_cons_self | refine List.mem_cons_of_mem _ ?_))) (by with_unfolding_all rfl) ?_) | (with_reducible refine ldAM (by assumption) (by with_unfolding_all (repeat (first | exact List.mem_cons_self | refine List.mem_cons_of_mem _ ?_))) ?_) | (with_reducible refine nwZ (by assumption) fun _ _ _ => ?_) | (with_reducible refine nwM' (by assumption) fun _ _ _ => ?_) | (with_reducible refine stM0 (by assumption) (by with_unfolding_all (repeat (first | exact Up.head _ _ _ _ | apply Up.tail))) fun _ _ => ?_) | (with_reducible refine stM1 (by assumption) (by with_unfolding_all (repeat (first | exact Up.head _ _ _ _ | apply Up.tail))) fun _ _ => ?_) | (with_reducible refine stM2 (by assumption) (by with_unfolding_all (repeat (first | exact Up.head _ _ _ _ | apply Up.tail))) fun _ _ => ?_) | (with_reducible refine stM3 (by assumption) (by with_unfolding_all (repeat (first | exact Up.head _ _ _ _ | apply Up.tail))) fun _ _ => ?_) | (with_reducible refine stAM' (by assumption) (by with_unfolding_all (repeat (first | exact Up.head _ _ _ _ | apply Up.tail))) fun _ _ => ?_) | (with_reducible refine stAL (by assumption) (by with_unfolding_all (repeat (first | exact Up.head _ _ _ _ | apply Up.tail))) fun _ _ => ?_) | (with_reducible refine And.intro (fun _ => ?_) (fun _ => ?_)) | (refine stAM' (by assumption) (by with_unfolding_all (repeat (first | exact Up.head _ _ _ _ | apply Up.tail))) fun _ _ => ?_))
    · refine ⟨by assumption, ?_⟩
      have h : ((b.mn : Int) != (b.mx : Int)) = true := by assumption
      have h2 : b.mn ≠ b.mx := by simp at h; omega
      simp [h2]
    · refine ⟨by assumption, ?_⟩
      have h : ((b.mn : Int) != (b.mx : Int)) = false := by assumption
      have h2 : b.mn = b.mx := by simp at h; omega
      simp [h2]
  obtain ⟨m4, h12⟩ := hJ
  clear m1 m2 m3 hm0
  refine And.intro (fun ht12 => ?_) (fun ht12 => ?_)
  · repeat' (first | (with_reducible refine ldM (by assumption) (by with_unfolding_all (repeat (first | exact List.mem_cons_self | refine List.mem_cons_of_mem _ ?_))) (by with_unfolding_all rfl) ?_) | (with_reducible refine ldAM (by assumption) (by with_unfolding_all (repeat (first | exact List.mem_cons_self | refine List.mem_cons_of_mem _ ?_))) ?_) | (with_reducible refine nwZ (by assumption) fun _ _ _ => ?_) | (with_reducible refine nwM' (by assumption) fun _ _ _ => ?_) | (with_reducible refine stM0 (by assumption) (by with_unfolding_all (repeat (first | exact Up.head _ _ _ _ | apply Up.tail))) fun _ _ => ?_) | (with_reducible refine stM1 (by assumption) (by with_unfolding_all (repeat (first | exact Up.head _ _ _ _ | apply Up.tail))) fun _ _ => ?_) | (with_reducible refine stM2 (by assumption) (by with_unfolding_all (repeat (first | exact Up.head _ _ _ _ | apply Up.tail))) fun _ _ => ?_) | (with_reducible refine stM3 (by assumption) (by with_unfolding_all (repeat (first | exact Up.head _ _ _ _ | apply Up.tail))) fun _ _ => ?_) | (with_reducible refine stAM' (by assumption) (by with_unfolding_all (repeat (first | exact Up.head _ _ _ _ | apply Up.tail))) fun _ _ => ?_) | (with_reducible refine stAL (by assumption) (by with_unfolding_all (repeat (first | exact Up.head _ _ _ _ | apply Up.tail))) fun _ _ => ?_) | (with_reducible refine And.intro (fun _ => ?_) (fun _ => ?_)) | (refine stAM' (by assumption) (by with_unfolding_all (repeat (first | exact Up.head _ _ _ _ | apply Up.tail))) fun _ _ => ?_))
    refine impl.fromTo.e (lo := 0) (hi := a.mx) (by omega) (by omega) rfl rfl fun w5 hb5 => ?_
    have m5 := m4.below hb5
    rw [ht12] at h12
    simp only [Bool.true_eq, Bool.and_eq_true, decide_eq_true_eq, beq_iff_eq] at h12
    rw [if_pos h12.1, if_pos h12.2] at hG'
    exact fin hG' m5 (by with_unfolding_all (repeat (first | exact List.mem_cons_self | refine List.mem_cons_of_mem _ ?_))) up0
  rw [ht12] at h12
  simp only [Bool.false_eq, Bool.and_eq_false_iff, decide_eq_false_iff_not, beq_eq_false_iff_ne, ne_eq, Decidable.not_not] at h12
  repeat' (first | (with_reducible refine ldM (by assumption) (by with_unfolding_all (repeat (first | exact List.mem_cons_self | refine List.mem_cons_of_mem _ ?_))) (by with_unfolding_all rfl) ?_) | (with_reducible refine ldAM (by assumption) (by with_unfolding_all (repeat (first | exact List.mem_cons_self | refine List.mem_cons_of_mem _ ?_))) ?_) | (with_reducible refine nwZ (by assumption) fun _ _ _ => ?_) | (with_reducible refine nwM' (by assumption) fun _ _ _ => ?_) | (with_reducible refine stM0 (by assumption) (by with_unfolding_all (repeat (first | exact Up.head _ _ _ _ | apply Up.tail))) fun _ _ => ?_) | (with_reducible refine stM1 (by assumption) (by with_unfolding_all (repeat (first | exact Up.head _ _ _ _ | apply Up.tail))) fun _ _ => ?_) | (with_reducible refine stM2 (by assumption) (by with_unfolding_all (repeat (first | exact Up.head _ _ _ _ | apply Up.tail))) fun _ _ => ?_) | (with_reducible refine stM3 (by assumption) (by with_unfolding_all (repeat (first | exact Up.head _ _ _ _ | apply Up.tail))) fun _ _ => ?_) | (with_reducible refine stAM' (by assumption) (by with_unfolding_all (repeat (first | exact Up.head _ _ _ _ | apply Up.tail))) fun _ _ => ?_) | (with_reducible refine stAL (by assumption) (by with_unfolding_all (repeat (first | exact Up.head _ _ _ _ | apply Up.tail))) fun _ _ => ?_) | (with_reducible refine And.intro (fun _ => ?_) (fun _ => ?_)) | (refine stAM' (by assumption) (by with_unfolding_all (repeat (first | exact Up.head _ _ _ _ | apply Up.tail))) fun _ _ => ?_))
  · refine impl.rangeAll.q fun r w5 hr hb5 => ?_
    exact fin hr (m4.below hb5) (by with_unfolding_all (repeat (first | exact List.mem_cons_self | refine List.mem_cons_of_mem _ ?_))) up0
  all_goals
    have h : ((b.mn : Int) != (b.mx : Int)) = false := by assumption
    have heq : b.mn = b.mx := by simp at h; omega
    rw [if_neg (by simpa using heq)] at hG'
  · have h9 : (op == 9) = true := by assumption
    rw [if_pos (by simpa using h9)] at hG'
    have s1 := shr_le a.mx (b.mn % 32)
    have s2 := shr_le a.bt (b.mn % 32)
    have s3 := shr_le a.op (b.mn % 32)
    have s4 := shr_le a.mn (b.mn % 32)
    refine ⟨Grw, grwOk _, eqG (a.mn : Int), keptEq, eqG ((a.mn >>> (b.mn % 32) : Nat) : Int), keptEq, eqG (a.mx : Int), keptEq, eqG ((a.mx >>> (b.mn % 32) : Nat) : Int), keptEq, eqG (a.bt : Int), keptEq, eqG ((a.bt >>> (b.mn % 32) : Nat) : Int), keptEq, eqG (a.op : Int), keptEq, eqG ((a.op >>> (b.mn % 32) : Nat) : Int), keptEq,
      eqG (Rg.t ⟨a.mn >>> (b.mn % 32), a.mx >>> (b.mn % 32), a.bt >>> (b.mn % 32), a.op >>> (b.mn % 32)⟩), keptEq, prG Gd, keptPr,
      fun w5 hg => ?_, fun t1 => ⟨fun w5 hg f => ?_, fun t2 => ⟨fun w5 hg => ?_, fun t3 => ⟨fun w5 hg f => ?_, fun t4 => ⟨fun w5 hg => ?_, fun t5 => ⟨fun w5 hg f => ?_, fun t6 => ⟨fun w5 hg => ?_, fun t7 => ⟨fun w5 hg f => ?_, fun t8 => ⟨fun w5 hg f1 f2 f3 f4 => ?_, fun t9 => ⟨fun w5 hg f => ?_, fun t10 w5 hg f1 f2 f3 f4 f5 f6 f7 f8 f9 f10 => ?_⟩⟩⟩⟩⟩⟩⟩⟩⟩⟩
    · exact ldM (m4.below hg) (by with_unfolding_all (repeat (first | exact List.mem_cons_self | refine List.mem_cons_of_mem _ ?_))) (by with_unfolding_all rfl) (gkE rfl (Grw.refl _))
    · cases f; exact ⟨ht, gkE (by exact congrArg (Value.int .i64) (shr32 b.mn)) (Grw.refl _)⟩
    · exact ldM (m4.below hg) (by with_unfolding_all (repeat (first | exact List.mem_cons_self | refine List.mem_cons_of_mem _ ?_))) (by with_unfolding_all rfl) (gkE rfl (Grw.refl _))
    · cases f; exact ⟨ht, gkE (by exact congrArg (Value.int .i64) (shr32 b.mn)) (Grw.refl _)⟩
    · exact ldM (m4.below hg) (by with_unfolding_all (repeat (first | exact List.mem_cons_self | refine List.mem_cons_of_mem _ ?_))) (by with_unfolding_all rfl) (gkE rfl (Grw.refl _))
    · cases f; exact ⟨ht, gkE (by exact congrArg (Value.int .i64) (shr32 b.mn)) (Grw.refl _)⟩
    · exact ldM (m4.below hg) (by with_unfolding_all (repeat (first | exact List.mem_cons_self | refine List.mem_cons_of_mem _ ?_))) (by with_unfolding_all rfl) (gkE rfl (Grw.refl _))
    · cases f; exact ⟨ht, gkE (by exact congrArg (Value.int .i64) (shr32 b.mn)) (Grw.refl _)⟩
    · cases f1; cases f2; cases f3; cases f4
      exact gkE rfl (Grw.refl _)
    · cases f
      exact impl.Range.tidy.e ⟨by show _ >>> _ < _; omega, by show _ >>> _ < _; omega, by show _ >>> _ < _; omega, by show _ >>> _ < _; omega, fun i hi => by
        have hi : (a.op >>> (b.mn % 32)).testBit i = true := hi
        show (a.bt >>> (b.mn % 32)).testBit i = false
        rw [Nat.testBit_shiftRight] at hi ⊢
        exact a5 _ hi⟩ fun w6 hb6 => gkP rfl hb6 hG'
    · exact fin f10 (m4.below hg) (by with_unfolding_all (repeat (first | exact List.mem_cons_self | refine List.mem_cons_of_mem _ ?_))) up0
  · have h9 : (op == 9) = false := by assumption
    rw [if_neg (by simpa using h9)] at hG'
    have hOk : ∀ p q : Nat, p < 2 ^ 32 → q < 2 ^ 32 → Rg.okk ⟨p, q, a.bt <<< (b.mn % 32) &&& M32, a.op <<< (b.mn % 32) &&& M32⟩ := fun p q hp hq => ⟨hp, hq, hM _, hM _, fun i hi => by
      have hi : (a.op <<< (b.mn % 32) &&& M32).testBit i = true := hi
      show (a.bt <<< (b.mn % 32) &&& M32).testBit i = false
      rw [Nat.testBit_and, Nat.testBit_shiftLeft] at hi ⊢
      simp only [Bool.and_eq_true] at hi
      rw [a5 _ hi.1.2]; simp⟩
    have qb : iAnd .i64 ((a.bt <<< (b.mn % 32) : Nat) : Int) 4294967295 = ((a.bt <<< (b.mn % 32) &&& M32 : Nat) : Int) := iAnd_top32 (shl_lt b.mn a3)
    have qo : iAnd .i64 ((a.op <<< (b.mn % 32) : Nat) : Int) 4294967295 = ((a.op <<< (b.mn % 32) &&& M32 : Nat) : Int) := iAnd_top32 (shl_lt b.mn a4)
    refine ⟨Grw, grwOk _, eqG (a.bt : Int), keptEq, eqG ((a.bt <<< (b.mn % 32) : Nat) : Int), keptEq, eqG (a.op : Int), keptEq, eqG ((a.op <<< (b.mn % 32) : Nat) : Int), keptEq,
      eqG (Rg.t ⟨0, M32, a.bt <<< (b.mn % 32) &&& M32, a.op <<< (b.mn % 32) &&& M32⟩), keptEq, (fun x w' => ∃ b4', x = ⟨b4', 0, none⟩ ∧ M w w' [(b4', ((0, 0, 0, 0, ()) : T4)), (b3', ((0, 0, 0, 0, ()) : T4)), (b2', b.t), (b1', a.t)]), (fun x w1 w2 hx hg => ?_),
      fun w5 hg => ?_, fun t1 => ⟨fun w5 hg f => ?_, fun t2 => ⟨fun w5 hg => ?_, fun t3 => ⟨fun w5 hg f => ?_, fun t4 => ⟨fun w5 hg f1 f2 => ?_, fun t5 => ⟨fun w5 hg => ?_, fun out w5 hg f1 f2 f3 f4 f5 f6 => ?_⟩⟩⟩⟩⟩⟩
    · obtain ⟨b4', e, hm4⟩ := hx
      exact ⟨b4', e, hm4.below hg⟩
    · exact ldM (m4.below hg) (by with_unfolding_all (repeat (first | exact List.mem_cons_self | refine List.mem_cons_of_mem _ ?_))) (by with_unfolding_all rfl) (gkE rfl (Grw.refl _))
    · cases f; exact ⟨ht, gkE (by exact congrArg (Value.int .i64) (shl32 b.mn a3)) (Grw.refl _)⟩
    · exact ldM (m4.below hg) (by with_unfolding_all (repeat (first | exact List.mem_cons_self | refine List.mem_cons_of_mem _ ?_))) (by with_unfolding_all rfl) (gkE rfl (Grw.refl _))
    · cases f; exact ⟨ht, gkE (by exact congrArg (Value.int .i64) (shl32 b.mn a4)) (Grw.refl _)⟩
    · cases f1; cases f2
      rw [qb, qo]
      exact gkE rfl (Grw.refl _)
    · exact nwZG (m4.below hg) fun b4' w6 hb6 m6 => ⟨_, rfl, hb6, b4', rfl, m6⟩
    · obtain ⟨b4', rfl, m5⟩ := f6
      cases f5
      have e3 : (Rg.t ⟨0, M32, a.bt <<< (b.mn % 32) &&& M32, a.op <<< (b.mn % 32) &&& M32⟩) = ((0, 4294967295, ((a.bt <<< (b.mn % 32) &&& M32 : Nat) : Int), ((a.op <<< (b.mn % 32) &&& M32 : Nat) : Int), ()) : T4) := rfl
      refine stAM' m5 (by with_unfolding_all (repeat (first | exact Up.head _ _ _ _ | apply Up.tail))) fun w6 m6 => ?_
      replace m6 : M w w6 [(b4', Rg.t ⟨0, M32, a.bt <<< (b.mn % 32) &&& M32, a.op <<< (b.mn % 32) &&& M32⟩), (b3', ((0, 0, 0, 0, ()) : T4)), (b2', b.t), (b1', a.t)] := m6
      have up1 : ∀ (z : T4) y, ∃ l', Up [(b4', z), (b3', ((0, 0, 0, 0, ()) : T4)), (b2', b.t), (b1', a.t)] b3' ((0, 0, 0, 0, ()) : T4) y l' ∧ (b3', y) ∈ l' := fun z y => ⟨_, Up.tail _ _ _ _ _ _ (Up.head _ _ _ _), List.mem_cons_of_mem _ List.mem_cons_self⟩
      refine ldM m6 (by with_unfolding_all (repeat (first | exact List.mem_cons_self | refine List.mem_cons_of_mem _ ?_))) (by with_unfolding_all rfl) ⟨ht, And.intro (fun hc => ?_) (fun hc => ?_)⟩
      · have hc' : decide (IntKind.wrap .i64 ((a.mx : Int) * 2 ^ (min (Int.toNat (Int.tmod (b.mn : Int) 32)) (IntKind.bits .i64))) ≤ 4294967295) = true := hc
        rw [shl32 b.mn a2] at hc'
        simp only [decide_eq_true_eq] at hc'
        have hcn : a.mx <<< (b.mn % 32) ≤ M32 := by omega
        rw [if_pos hcn] at hG'
        have hle := shl_mono (b.mn % 32) ha0
        have hd : Del [(b4', Rg.t ⟨0, M32, a.bt <<< (b.mn % 32) &&& M32, a.op <<< (b.mn % 32) &&& M32⟩), (b3', ((0, 0, 0, 0, ()) : T4)), (b2', b.t), (b1', a.t)] b4' (Rg.t ⟨0, M32, a.bt <<< (b.mn % 32) &&& M32, a.op <<< (b.mn % 32) &&& M32⟩) [(b3', ((0, 0, 0, 0, ()) : T4)), (b2', b.t), (b1', a.t)] := Del.head _ _ _
        refine ⟨SpS w6.heap.size b4' ((((a.mn <<< (b.mn % 32) : Nat) : Int), (Rg.t ⟨0, M32, a.bt <<< (b.mn % 32) &&& M32, a.op <<< (b.mn % 32) &&& M32⟩).2) : T4), spsOk _ _ _, eqG (a.mn : Int), keptEq, eqG ((a.mn <<< (b.mn % 32) : Nat) : Int), keptEq, eqG (a.mx : Int), keptEq, eqG ((a.mx <<< (b.mn % 32) : Nat) : Int), keptEq, _, keptBx,
          fun w7 hs => ?_, fun t1 => ⟨fun w7 hs f => ?_, fun t2 => ⟨fun w7 hs => ?_, fun t3 => ⟨fun w7 hs f => ?_, fun t4 => ⟨fun w7 hs f => ?_, fun st w7 hs f1 f2 f3 f4 fs => ?_⟩⟩⟩⟩⟩
        · exact ldM (m6.sps hd hs) (by with_unfolding_all (repeat (first | exact List.mem_cons_self | refine List.mem_cons_of_mem _ ?_))) (by with_unfolding_all rfl) (gkE rfl (SpS.refl _ _ _ _))
        · cases f; exact ⟨ht, gkE (by exact congrArg (Value.int .i64) (shl32 b.mn a1)) (SpS.refl _ _ _ _)⟩
        · exact ldM (m6.sps hd hs) (by with_unfolding_all (repeat (first | exact List.mem_cons_self | refine List.mem_cons_of_mem _ ?_))) (by with_unfolding_all rfl) (gkE rfl (SpS.refl _ _ _ _))
        · cases f; exact ⟨ht, gkE (by exact congrArg (Value.int .i64) (shl32 b.mn a2)) (SpS.refl _ _ _ _)⟩
        · cases f
          exact stSps0 m6 hd hs
        · cases f4
          have m7 := m6.spsB hd hs fs
          repeat' (first | (with_reducible refine ldM (by assumption) (by with_unfolding_all (repeat (first | exact List.mem_cons_self | refine List.mem_cons_of_mem _ ?_))) (by with_unfolding_all rfl) ?_) | (with_reducible refine ldAM (by assumption) (by with_unfolding_all (repeat (first | exact List.mem_cons_self | refine List.mem_cons_of_mem _ ?_))) ?_) | (with_reducible refine nwZ (by assumption) fun _ _ _ => ?_) | (with_reducible refine nwM' (by assumption) fun _ _ _ => ?_) | (with_reducible refine stM0 (by assumption) (by with_unfolding_all (repeat (first | exact Up.head _ _ _ _ | apply Up.tail))) fun _ _ => ?_) | (with_reducible refine stM1 (by assumption) (by with_unfolding_all (repeat (first | exact Up.head _ _ _ _ | apply Up.tail))) fun _ _ => ?_) | (with_reducible refine stM2 (by assumption) (by with_unfolding_all (repeat (first | exact Up.head _ _ _ _ | apply Up.tail))) fun _ _ => ?_) | (with_reducible refine stM3 (by assumption) (by with_unfolding_all (repeat (first | exact Up.head _ _ _ _ | apply Up.tail))) fun _ _ => ?_) | (with_reducible refine stAM' (by assumption) (by with_unfolding_all (repeat (first | exact Up.head _ _ _ _ | apply Up.tail))) fun _ _ => ?_) | (with_reducible refine stAL (by assumption) (by with_unfolding_all (repeat (first | exact Up.head _ _ _ _ | apply Up.tail))) fun _ _ => ?_) | (with_reducible refine And.intro (fun _ => ?_) (fun _ => ?_)) | (refine stAM' (by assumption) (by with_unfolding_all (repeat (first | exact Up.head _ _ _ _ | apply Up.tail))) fun _ _ => ?_))
          refine impl.Range.tidy.e (g := ⟨a.mn <<< (b.mn % 32), a.mx <<< (b.mn % 32), a.bt <<< (b.mn % 32) &&& M32, a.op <<< (b.mn % 32) &&& M32⟩) (hOk _ _ (by omega) (by omega)) fun w8 hb8 => ?_
          exact fin hG' ((by assumption : M w _ _).below hb8) (by with_unfolding_all (repeat (first | exact List.mem_cons_self | refine List.mem_cons_of_mem _ ?_))) (up1 _)
      · have hc' : decide (IntKind.wrap .i64 ((a.mx : Int) * 2 ^ (min (Int.toNat (Int.tmod (b.mn : Int) 32)) (IntKind.bits .i64))) ≤ 4294967295) = false := hc
        rw [shl32 b.mn a2] at hc'
        simp only [decide_eq_false_iff_not] at hc'
        have hcn : ¬ a.mx <<< (b.mn % 32) ≤ M32 := by omega
        rw [if_neg hcn] at hG'
        repeat' (first | (with_reducible refine ldM (by assumption) (by with_unfolding_all (repeat (first | exact List.mem_cons_self | refine List.mem_cons_of_mem _ ?_))) (by with_unfolding_all rfl) ?_) | (with_reducible refine ldAM (by assumption) (by with_unfolding_all (repeat (first | exact List.mem_cons_self | refine List.mem_cons_of_mem _ ?_))) ?_) | (with_reducible refine nwZ (by assumption) fun _ _ _ => ?_) | (with_reducible refine nwM' (by assumption) fun _ _ _ => ?_) | (with_reducible refine stM0 (by assumption) (by with_unfolding_all (repeat (first | exact Up.head _ _ _ _ | apply Up.tail))) fun _ _ => ?_) | (with_reducible refine stM1 (by assumption) (by with_unfolding_all (repeat (first | exact Up.head _ _ _ _ | apply Up.tail))) fun _ _ => ?_) | (with_reducible refine stM2 (by assumption) (by with_unfolding_all (repeat (first | exact Up.head _ _ _ _ | apply Up.tail))) fun _ _ => ?_) | (with_reducible refine stM3 (by assumption) (by with_unfolding_all (repeat (first | exact Up.head _ _ _ _ | apply Up.tail))) fun _ _ => ?_) | (with_reducible refine stAM' (by assumption) (by with_unfolding_all (repeat (first | exact Up.head _ _ _ _ | apply Up.tail))) fun _ _ => ?_) | (with_reducible refine stAL (by assumption) (by with_unfolding_all (repeat (first | exact Up.head _ _ _ _ | apply Up.tail))) fun _ _ => ?_) | (with_reducible refine And.intro (fun _ => ?_) (fun _ => ?_)) | (refine stAM' (by assumption) (by with_unfolding_all (repeat (first | exact Up.head _ _ _ _ | apply Up.tail))) fun _ _ => ?_))
        refine impl.Range.tidy.e (g := ⟨0, M32, a.bt <<< (b.mn % 32) &&& M32, a.op <<< (b.mn % 32) &&& M32⟩) (hOk _ _ (by omega) (by omega)) fun w8 hb8 => ?_
        exact fin hG' ((by assumption : M w _ _).below hb8) (by with_unfolding_all (repeat (first | exact List.mem_cons_self | refine List.mem_cons_of_mem _ ?_))) (up1 _)
theorem impl.rangeOf.q {op : Int} (ho : 1 ≤ op ∧ op ≤ 11) {a b : T4} (ha : Gd a) (hb : Gd b) {K : T4 → World → Prop} (hk : ∀ r w', Gd r → Below w.heap.size w w' → K r w') :
    CallT (.o (.ag (R 4 (.i .i64)))) P0 203 [.int .i64 op, .agg (Tup.cells (R 4 (.i .i64)) a).toArray, .agg (Tup.cells (R 4 (.i .i64)) b).toArray] w K := by
  refine impl.rangeOf.ok ?_
  unfold impl.rangeOf.vc
  have hm0 := M.start w
  repeat' (first | (with_reducible refine ldM (by assumption) (by with_unfolding_all (repeat (first | exact List.mem_cons_self | refine List.mem_cons_of_mem _ ?_))) (by with_unfolding_all rfl) ?_) | (with_reducible refine ldAM (by assumption) (by with_unfolding_all (repeat (first | exact List.mem_cons_self | refine List.mem_cons_of_mem _ ?_))) ?_) | (with_reducible refine nwZ (by assumption) fun _ _ _ => ?_) | (with_reducible refine nwM' (by assumption) fun _ _ _ => ?_) | (with_reducible refine stM0 (by assumption) (by with_unfolding_all (repeat (first | exact Up.head _ _ _ _ | apply Up.tail))) fun _ _ => ?_) | (with_reducible refine stM1 (by assumption) (by with_unfolding_all (repeat (first | exact Up.head _ _ _ _ | apply Up.tail))) fun _ _ => ?_) | (with_reducible refine stM2 (by assumption) (by with_unfolding_all (repeat (first | exact Up.head _ _ _ _ | apply Up.tail))) fun _ _ => ?_) | (with_reducible refine stM3 (by assumption) (by with_unfolding_all (repeat (first | exact Up.head _ _ _ _ | apply Up.tail))) fun _ _ => ?_) | (with_reducible refine stAM' (by assumption) (by with_unfolding_all (repeat (first | exact Up.head _ _ _ _ | apply Up.tail))) fun _ _ => ?_) | (with_reducible refine stAL (by assumption) (by with_unfolding_all (repeat (first | exact Up.head _ _ _ _ | apply Up.tail))) fun _ _ => ?_) | (with_reducible refine And.intro (fun _ => ?_) (fun _ => ?_)) | (refine stAM' (by assumption) (by with_unfolding_all (repeat (first | exact Up.head _ _ _ _ | apply Up.tail))) fun _ _ => ?_))
  rename_i w1 b1 m1 w2 b2 m2 w3 b3 m3
  clear m1 m2 hm0
  have hd : Del [(b3, ((0, 0, 0, 0, ()) : T4)), (b2, b), (b1, a)] b1 a [(b3, ((0, 0, 0, 0, ()) : T4)), (b2, b)] := by (repeat (first | exact Del.head _ _ _ | apply Del.tail))
  have hB : ∀ c ∈ [b1], c < w3.heap.size := fun c hc => by rw [List.mem_singleton] at hc; subst hc; exact m3.ltB hd.mem
  refine ⟨SpF w3.heap.size [b1] Gd, spfOk _ _ _, prG Gd, keptPr, prG Gd, keptPr, prG Gd, keptPr, prG Gd, keptPr, _, keptF (b := b1) (by simp), fun w4 hs => ?_, fun t7 => ⟨fun w4 hs f => ?_, fun t8 => ⟨fun w4 hs => ?_, fun t9 => ⟨fun w4 hs f => ?_, fun t10 => ⟨fun w4 hs f => ?_, fun st w4 hs f1 f2 f3 f4 fs => ?_⟩⟩⟩⟩⟩
  · exact ldSpF m3 hd.mem hs (by simp) ha fun v hv => gkP rfl (SpF.refl _ _ _ _) hv
  · exact impl.Range.tidy.q f fun r' w9 hr' hb9 => gkP rfl (SpF.of_below (hb9.mono hs.size) hB) hr'
  · exact ldAM (m3.spf1 hd hs) (by with_unfolding_all (repeat (first | exact List.mem_cons_self | refine List.mem_cons_of_mem _ ?_))) (gkP rfl (SpF.refl _ _ _ _) hb)
  · exact impl.Range.tidy.q f fun r' w9 hr' hb9 => gkP rfl (SpF.of_below (hb9.mono hs.size) hB) hr'
  · exact stSpF m3 hd.mem hs (by simp) rfl f
  · obtain ⟨x, hx, m4⟩ := m3.spf1B hd hs fs
    clear hs fs hB hd m3
    have hy := f4
    repeat' (first | (with_reducible refine ldM (by assumption) (by with_unfolding_all (repeat (first | exact List.mem_cons_self | refine List.mem_cons_of_mem _ ?_))) (by with_unfolding_all rfl) ?_) | (with_reducible refine ldAM (by assumption) (by with_unfolding_all (repeat (first | exact List.mem_cons_self | refine List.mem_cons_of_mem _ ?_))) ?_) | (with_reducible refine nwZ (by assumption) fun _ _ _ => ?_) | (with_reducible refine nwM' (by assumption) fun _ _ _ => ?_) | (with_reducible refine stM0 (by assumption) (by with_unfolding_all (repeat (first | exact Up.head _ _ _ _ | apply Up.tail))) fun _ _ => ?_) | (with_reducible refine stM1 (by assumption) (by with_unfolding_all (repeat (first | exact Up.head _ _ _ _ | apply Up.tail))) fun _ _ => ?_) | (with_reducible refine stM2 (by assumption) (by with_unfolding_all (repeat (first | exact Up.head _ _ _ _ | apply Up.tail))) fun _ _ => ?_) | (with_reducible refine stM3 (by assumption) (by with_unfolding_all (repeat (first | exact Up.head _ _ _ _ | apply Up.tail))) fun _ _ => ?_) | (with_reducible refine stAM' (by assumption) (by with_unfolding_all (repeat (first | exact Up.head _ _ _ _ | apply Up.tail))) fun _ _ => ?_) | (with_reducible refine stAL (by assumption) (by with_unfolding_all (repeat (first | exact Up.head _ _ _ _ | apply Up.tail))) fun _ _ => ?_) | (with_reducible refine And.intro (fun _ => ?_) (fun _ => ?_)) | (refine stAM' (by assumption) (by with_unfolding_all (repeat (first | exact Up.head _ _ _ _ | apply Up.tail))) fun _ _ => ?_))
    rename_i w5 m5
    clear m4
    refine ⟨fun w' => M w w' [(b1, x), (b3, ((0, 0, 0, 0, ()) : T4)), (b2, t10)], ?_, fun w6 m6 _ => ?_⟩
    · repeat' (first | (with_reducible refine ldM (by assumption) (by with_unfolding_all (repeat (first | exact List.mem_cons_self | refine List.mem_cons_of_mem _ ?_))) (by with_unfolding_all rfl) ?_) | (with_reducible refine ldAM (by assumption) (by with_unfolding_all (repeat (first | exact List.mem_cons_self | refine List.mem_cons_of_mem _ ?_))) ?_) | (with_reducible refine nwZ (by assumption) fun _ _ _ => ?_) | (with_reducible refine nwM' (by assumption) fun _ _ _ => ?_) | (with_reducible refine stM0 (by assumption) (by with_unfolding_all (repeat (first | exact Up.head _ _ _ _ | apply Up.tail))) fun _ _ => ?_) | (with_reducible refine stM1 (by assumption) (by with_unfolding_all (repeat (first | exact Up.head _ _ _ _ | apply Up.tail))) fun _ _ => ?_) | (with_reducible refine stM2 (by assumption) (by with_unfolding_all (repeat (first | exact Up.head _ _ _ _ | apply Up.tail))) fun _ _ => ?_) | (with_reducible refine stM3 (by assumption) (by with_unfolding_all (repeat (first | exact Up.head _ _ _ _ | apply Up.tail))) fun _ _ => ?_) | (with_reducible refine stAM' (by assumption) (by with_unfolding_all (repeat (first | exact Up.head _ _ _ _ | apply Up.tail))) fun _ _ => ?_) | (with_reducible refine stAL (by assumption) (by with_unfolding_all (repeat (first | exact Up.head _ _ _ _ | apply Up.tail))) fun _ _ => ?_) | (with_reducible refine And.intro (fun _ => ?_) (fun _ => ?_)) | (refine stAM' (by assumption) (by with_unfolding_all (repeat (first | exact Up.head _ _ _ _ | apply Up.tail))) fun _ _ => ?_))
      · obtain ⟨g, rfl, hg, n, hn⟩ := id hx
        obtain ⟨g', rfl, hg', n', hn'⟩ := id hy
        refine impl.reckon.q ?_ ?_ fun n h0 h1 => ?_
        · show 0 ≤ (g.mn : Int) ∧ (g.mn : Int) ≤ _
          have := hg.1; omega
        · show 0 ≤ (g'.mn : Int) ∧ (g'.mn : Int) ≤ _
          have := hg'.1; omega
        · refine impl.RangeOne.q h0 h1 fun r w7 hr hb7 => ?_
          have m7 := m5.below hb7
          repeat' (first | (with_reducible refine ldM (by assumption) (by with_unfolding_all (repeat (first | exact List.mem_cons_self | refine List.mem_cons_of_mem _ ?_))) (by with_unfolding_all rfl) ?_) | (with_reducible refine ldAM (by assumption) (by with_unfolding_all (repeat (first | exact List.mem_cons_self | refine List.mem_cons_of_mem _ ?_))) ?_) | (with_reducible refine nwZ (by assumption) fun _ _ _ => ?_) | (with_reducible refine nwM' (by assumption) fun _ _ _ => ?_) | (with_reducible refine stM0 (by assumption) (by with_unfolding_all (repeat (first | exact Up.head _ _ _ _ | apply Up.tail))) fun _ _ => ?_) | (with_reducible refine stM1 (by assumption) (by with_unfolding_all (repeat (first | exact Up.head _ _ _ _ | apply Up.tail))) fun _ _ => ?_) | (with_reducible refine stM2 (by assumption) (by with_unfolding_all (repeat (first | exact Up.head _ _ _ _ | apply Up.tail))) fun _ _ => ?_) | (with_reducible refine stM3 (by assumption) (by with_unfolding_all (repeat (first | exact Up.head _ _ _ _ | apply Up.tail))) fun _ _ => ?_) | (with_reducible refine stAM' (by assumption) (by with_unfolding_all (repeat (first | exact Up.head _ _ _ _ | apply Up.tail))) fun _ _ => ?_) | (with_reducible refine stAL (by assumption) (by with_unfolding_all (repeat (first | exact Up.head _ _ _ _ | apply Up.tail))) fun _ _ => ?_) | (with_reducible refine And.intro (fun _ => ?_) (fun _ => ?_)) | (refine stAM' (by assumption) (by with_unfolding_all (repeat (first | exact Up.head _ _ _ _ | apply Up.tail))) fun _ _ => ?_))
          exact hk _ _ hr (by assumption : M w _ _).low
      · assumption
      · assumption
    · replace m6 : M w w6 [(b1, x), (b3, ((0, 0, 0, 0, ()) : T4)), (b2, t10)] := m6
      clear m5
      have fin : ∀ {w' : World} {r : T4}, Gd r → Below w6.heap.size w6 w' → StA P0 ⟨b3, 0, none⟩ (Tup.cells (R 4 (.i .i64)) r) w' fun w_1 => LdA (R 4 (.i .i64)) ⟨b3, 0, none⟩ w_1 fun r_1 w_2 => K r_1 w_1 := by
        intro w' r hr hb'
        have m' := m6.below hb'
        repeat' (first | (with_reducible refine ldM (by assumption) (by with_unfolding_all (repeat (first | exact List.mem_cons_self | refine List.mem_cons_of_mem _ ?_))) (by with_unfolding_all rfl) ?_) | (with_reducible refine ldAM (by assumption) (by with_unfolding_all (repeat (first | exact List.mem_cons_self | refine List.mem_cons_of_mem _ ?_))) ?_) | (with_reducible refine nwZ (by assumption) fun _ _ _ => ?_) | (with_reducible refine nwM' (by assumption) fun _ _ _ => ?_) | (with_reducible refine stM0 (by assumption) (by with_unfolding_all (repeat (first | exact Up.head _ _ _ _ | apply Up.tail))) fun _ _ => ?_) | (with_reducible refine stM1 (by assumption) (by with_unfolding_all (repeat (first | exact Up.head _ _ _ _ | apply Up.tail))) fun _ _ => ?_) | (with_reducible refine stM2 (by assumption) (by with_unfolding_all (repeat (first | exact Up.head _ _ _ _ | apply Up.tail))) fun _ _ => ?_) | (with_reducible refine stM3 (by assumption) (by with_unfolding_all (repeat (first | exact Up.head _ _ _ _ | apply Up.tail))) fun _ _ => ?_) | (with_reducible refine stAM' (by assumption) (by with_unfolding_all (repeat (first | exact Up.head _ _ _ _ | apply Up.tail))) fun _ _ => ?_) | (with_reducible refine stAL (by assumption) (by with_unfolding_all (repeat (first | exact Up.head _ _ _ _ | apply Up.tail))) fun _ _ => ?_) | (with_reducible refine And.intro (fun _ => ?_) (fun _ => ?_)) | (refine stAM' (by assumption) (by with_unfolding_all (repeat (first | exact Up.head _ _ _ _ | apply Up.tail))) fun _ _ => ?_))
        exact hk _ _ hr (by assumption : M w _ _).low
      refine And.intro (fun h1 => ?_) (fun h1 => ?_)
      · refine ldAM m6 (by with_unfolding_all (repeat (first | exact List.mem_cons_self | refine List.mem_cons_of_mem _ ?_))) ?_
        exact fin hy (Below.refl _ _)
      refine And.intro (fun h2 => ?_) (fun h2 => ?_)
      · refine ldAM m6 (by with_unfolding_all (repeat (first | exact List.mem_cons_self | refine List.mem_cons_of_mem _ ?_))) (ldAM m6 (by with_unfolding_all (repeat (first | exact List.mem_cons_self | refine List.mem_cons_of_mem _ ?_))) ?_)
        exact impl.added.q hx hy fun r w7 hr hb7 => fin hr hb7
      refine And.intro (fun h3 => ?_) (fun h3 => ?_)
      · obtain ⟨g, rfl, hg, n, hn⟩ := id hx
        obtain ⟨g', rfl, hg', n', hn'⟩ := id hy
        have l1 : g.mn ≤ g.mx := Nat.le_trans hn.1 hn.2.1
        have l2 : g'.mn ≤ g'.mx := Nat.le_trans hn'.1 hn'.2.1
        have u1 := hg.2.1
        have u2 := hg'.2.1
        repeat' (first | (with_reducible refine ldM (by assumption) (by with_unfolding_all (repeat (first | exact List.mem_cons_self | refine List.mem_cons_of_mem _ ?_))) (by with_unfolding_all rfl) ?_) | (with_reducible refine ldAM (by assumption) (by with_unfolding_all (repeat (first | exact List.mem_cons_self | refine List.mem_cons_of_mem _ ?_))) ?_) | (with_reducible refine nwZ (by assumption) fun _ _ _ => ?_) | (with_reducible refine nwM' (by assumption) fun _ _ _ => ?_) | (with_reducible refine stM0 (by assumption) (by with_unfolding_all (repeat (first | exact Up.head _ _ _ _ | apply Up.tail))) fun _ _ => ?_) | (with_reducible refine stM1 (by assumption) (by with_unfolding_all (repeat (first | exact Up.head _ _ _ _ | apply Up.tail))) fun _ _ => ?_) | (with_reducible refine stM2 (by assumption) (by with_unfolding_all (repeat (first | exact Up.head _ _ _ _ | apply Up.tail))) fun _ _ => ?_) | (with_reducible refine stM3 (by assumption) (by with_unfolding_all (repeat (first | exact Up.head _ _ _ _ | apply Up.tail))) fun _ _ => ?_) | (with_reducible refine stAM' (by assumption) (by with_unfolding_all (repeat (first | exact Up.head _ _ _ _ | apply Up.tail))) fun _ _ => ?_) | (with_reducible refine stAL (by assumption) (by with_unfolding_all (repeat (first | exact Up.head _ _ _ _ | apply Up.tail))) fun _ _ => ?_) | (with_reducible refine And.intro (fun _ => ?_) (fun _ => ?_)) | (refine stAM' (by assumption) (by with_unfolding_all (repeat (first | exact Up.head _ _ _ _ | apply Up.tail))) fun _ _ => ?_))
        · exact impl.rangeAll.q fun r w7 hr hb7 => fin hr hb7
        · have hc : decide ((g.mn : Int) < (g'.mx : Int)) = false := by assumption
          simp only [decide_eq_false_iff_not] at hc
          refine impl.fromTo.q ?_ ?_ ?_ fun r w7 hr hb7 => fin hr hb7
          · show 0 ≤ IntKind.wrap .i64 ((g.mn : Int) - (g'.mx : Int))
            rw [i64_of (by omega) (by omega)]; omega
          · show IntKind.wrap .i64 ((g.mn : Int) - (g'.mx : Int)) ≤ IntKind.wrap .i64 ((g.mx : Int) - (g'.mn : Int))
            rw [i64_of (by omega) (by omega), i64_of (by omega) (by omega)]; omega
          · show IntKind.wrap .i64 ((g.mx : Int) - (g'.mn : Int)) ≤ _
            rw [i64_of (by omega) (by omega)]; omega
      refine And.intro (fun h4 => ?_) (fun h4 => ?_)
      · refine ldAM m6 (by with_unfolding_all (repeat (first | exact List.mem_cons_self | refine List.mem_cons_of_mem _ ?_))) (ldAM m6 (by with_unfolding_all (repeat (first | exact List.mem_cons_self | refine List.mem_cons_of_mem _ ?_))) ?_)
        exact impl.times.q hx hy fun r w7 hr hb7 => fin hr hb7
      simp only [beq_eq_false_iff_ne, ne_eq] at h1 h2 h3 h4
      refine ⟨fun t w' => w' = w6 ∧ (t = true ↔ (op = 5 ∨ op = 6 ∨ op = 7)), ⟨fun h5 => ⟨rfl, ?_⟩, fun h5 => ⟨fun h6 => ⟨rfl, ?_⟩, fun h6 => ⟨rfl, ?_⟩⟩⟩, fun t w7 hJ _ => ?_⟩
      · simp at h5 ⊢; omega
      · simp at h5 h6 ⊢; omega
      · simp at h5 h6 ⊢; omega
      · obtain ⟨rfl, hJ⟩ := hJ
        refine And.intro (fun ht => ?_) (fun ht => ?_)
        · refine ldAM m6 (by with_unfolding_all (repeat (first | exact List.mem_cons_self | refine List.mem_cons_of_mem _ ?_))) (ldAM m6 (by with_unfolding_all (repeat (first | exact List.mem_cons_self | refine List.mem_cons_of_mem _ ?_))) ?_)
          exact impl.bitwise.q (hJ.1 ht) hx hy fun r w7 hr hb7 => fin hr hb7
        · have h567 : ¬ (op = 5 ∨ op = 6 ∨ op = 7) := fun h => by rw [hJ.2 h] at ht; simp at ht
          refine And.intro (fun h8 => And.intro (fun _ => ?_) (fun h8' => ?_)) (fun h8 => And.intro (fun h9 => ?_) (fun h9 => ?_))
          · refine ldAM m6 (by with_unfolding_all (repeat (first | exact List.mem_cons_self | refine List.mem_cons_of_mem _ ?_))) (ldAM m6 (by with_unfolding_all (repeat (first | exact List.mem_cons_self | refine List.mem_cons_of_mem _ ?_))) ?_)
            exact impl.shifted.q (.inl (by simpa using h8)) hx hy fun r w7 hr hb7 => fin hr hb7
          · rw [h8] at h8'; simp at h8'
          · refine ldAM m6 (by with_unfolding_all (repeat (first | exact List.mem_cons_self | refine List.mem_cons_of_mem _ ?_))) (ldAM m6 (by with_unfolding_all (repeat (first | exact List.mem_cons_self | refine List.mem_cons_of_mem _ ?_))) ?_)
            exact impl.shifted.q (.inr (by simpa using h9)) hx hy fun r w7 hr hb7 => fin hr hb7
          · refine ldAM m6 (by with_unfolding_all (repeat (first | exact List.mem_cons_self | refine List.mem_cons_of_mem _ ?_))) (ldAM m6 (by with_unfolding_all (repeat (first | exact List.mem_cons_self | refine List.mem_cons_of_mem _ ?_))) ?_)
            simp only [beq_eq_false_iff_ne, ne_eq] at h8 h9
            exact impl.parted.q (by omega) hx hy fun r w7 hr hb7 => fin hr hb7
end
end Go.Proofs.YtihllippchgkgaaGreat.V

/- Contracts: what two ranges are if an op holds of their numbers, or not. -/
namespace Go.Proofs.YtihllippchgkgaaGreat.V
open Go Go.RowKit
set_option linter.unusedVariables false
set_option linter.unusedSimpArgs false
section
variable {w : World}
theorem up1 {l : List (Nat × T4)} {b : Nat} {x y : T4} : Up ((b, x) :: l) b x y ((b, y) :: l) := Up.head _ _ _ _
theorem impl.branch.q {op : Int} {is : Bool} {a b : T4} (ha : Gd a) (hb : Gd b) {K : T4 × T4 × Bool × Unit → World → Prop} (hK : ∀ x y ok w', (ok = true → Gd x ∧ Gd y) → Below w.heap.size w w' → K (x, y, ok, ()) w') :
    CallT (.n [(.ag (R 4 (.i .i64))), (.ag (R 4 (.i .i64))), (.lf .b)]) P0 175 [.int .i64 op, .agg (Tup.cells (R 4 (.i .i64)) a).toArray, .agg (Tup.cells (R 4 (.i .i64)) b).toArray, .bool is] w K := by
  refine impl.branch.ok ?_
  unfold impl.branch.vc
  have hm0 := M.start w
  repeat' (first | (with_reducible refine ldM (by assumption) (by with_unfolding_all (repeat (first | exact List.mem_cons_self | refine List.mem_cons_of_mem _ ?_))) (by with_unfolding_all rfl) ?_) | (with_reducible refine ldAM (by assumption) (by with_unfolding_all (repeat (first | exact List.mem_cons_self | refine List.mem_cons_of_mem _ ?_))) ?_) | (with_reducible refine nwZ (by assumption) fun _ _ _ => ?_) | (with_reducible refine nwM' (by assumption) fun _ _ _ => ?_) | (with_reducible refine stM0 (by assumption) (by with_unfolding_all (repeat (first | exact Up.head _ _ _ _ | apply Up.tail))) fun _ _ => ?_) | (with_reducible refine stM1 (by assumption) (by with_unfolding_all (repeat (first | exact Up.head _ _ _ _ | apply Up.tail))) fun _ _ => ?_) | (with_reducible refine stM2 (by assumption) (by with_unfolding_all (repeat (first | exact Up.head _ _ _ _ | apply Up.tail))) fun _ _ => ?_) | (with_reducible refine stM3 (by assumption) (by with_unfolding_all (repeat (first | exact Up.head _ _ _ _ | apply Up.tail))) fun _ _ => ?_) | (with_reducible refine stAM' (by assumption) (by with_unfolding_all (repeat (first | exact Up.head _ _ _ _ | apply Up.tail))) fun _ _ => ?_) | (with_reducible refine stAL (by assumption) (by with_unfolding_all (repeat (first | exact Up.head _ _ _ _ | apply Up.tail))) fun _ _ => ?_) | (with_reducible refine And.intro (fun _ => ?_) (fun _ => ?_)) | (refine stAM' (by assumption) (by with_unfolding_all (repeat (first | exact Up.head _ _ _ _ | apply Up.tail))) fun _ _ => ?_))
  rename_i w1 b1 m1 w2 b2 m2 w3 b3 m3 w4 b4 m4
  clear m1 m2 m3 hm0
  have hd : Del [(b4, ((0, 0, 0, 0, ()) : T4)), (b3, ((0, 0, 0, 0, ()) : T4)), (b2, b), (b1, a)] b1 a [(b4, ((0, 0, 0, 0, ()) : T4)), (b3, ((0, 0, 0, 0, ()) : T4)), (b2, b)] := by (repeat (first | exact Del.head _ _ _ | apply Del.tail))
  have hB : ∀ c ∈ [b1], c < w4.heap.size := fun c hc => by rw [List.mem_singleton] at hc; subst hc; exact m4.ltB hd.mem
  refine ⟨SpF w4.heap.size [b1] Gd, spfOk _ _ _, prG Gd, keptPr, prG Gd, keptPr, prG Gd, keptPr, prG Gd, keptPr, _, keptF (b := b1) (by simp), fun w5 hs => ?_, fun t7 => ⟨fun w5 hs f => ?_, fun t8 => ⟨fun w5 hs => ?_, fun t9 => ⟨fun w5 hs f => ?_, fun t10 => ⟨fun w5 hs f => ?_, fun st w5 hs f1 f2 f3 f4 fs => ?_⟩⟩⟩⟩⟩
  · exact ldSpF m4 hd.mem hs (by simp) ha fun v hv => gkP rfl (SpF.refl _ _ _ _) hv
  · exact impl.Range.tidy.q f fun r' w9 hr' hb9 => gkP rfl (SpF.of_below (hb9.mono hs.size) hB) hr'
  · exact ldAM (m4.spf1 hd hs) (by with_unfolding_all (repeat (first | exact List.mem_cons_self | refine List.mem_cons_of_mem _ ?_))) (gkP rfl (SpF.refl _ _ _ _) hb)
  · exact impl.Range.tidy.q f fun r' w9 hr' hb9 => gkP rfl (SpF.of_below (hb9.mono hs.size) hB) hr'
  · exact stSpF m4 hd.mem hs (by simp) rfl f
  obtain ⟨x, hx, m5⟩ := m4.spf1B hd hs fs
  clear hs fs hB hd m4
  have hy := f4
  refine stAM' m5 (by with_unfolding_all (repeat (first | exact Up.head _ _ _ _ | apply Up.tail))) fun w6 m6 => ?_
  replace m6 : M w w6 [(b1, x), (b4, ((0, 0, 0, 0, ()) : T4)), (b3, ((0, 0, 0, 0, ()) : T4)), (b2, t10)] := m6
  clear m5
  -- two results are laid down
  have two : ∀ {w' : World} {l : List (Nat × T4)} {b5 b6 : Nat} {p q : T4} {ok : Bool}, (ok = true → Gd p ∧ Gd q) →
      M w w' ([(b5, p), (b6, q), (b1, x), (b4, ((0, 0, 0, 0, ()) : T4)), (b3, ((0, 0, 0, 0, ()) : T4)), (b2, t10)]) → ∃ Sp : World → World → Prop, SpOk Sp w' ∧
      ∃ G1 : T4 → World → Prop, Kept Sp G1 ∧ ∃ G2 : T4 → World → Prop, Kept Sp G2 ∧ ∃ G3 : Unit → World → Prop, Kept Sp G3 ∧ ∃ G4 : Unit → World → Prop, Kept Sp G4 ∧
      (∀ w1, Sp w' w1 → LdA (R 4 (.i .i64)) ⟨b5, 0, none⟩ w1 fun (t : T4) w2 => GK (.o (.ag (R 4 (.i .i64)))) Sp w1 G1 (.agg (Tup.cells (R 4 (.i .i64)) t).toArray) w2) ∧
      ∀ t44 : T4, (∀ w1, Sp w' w1 → LdA (R 4 (.i .i64)) ⟨b6, 0, none⟩ w1 fun (t : T4) w2 => GK (.o (.ag (R 4 (.i .i64)))) Sp w1 G2 (.agg (Tup.cells (R 4 (.i .i64)) t).toArray) w2) ∧
      ∀ t45 : T4, (∀ w1, Sp w' w1 → G1 t44 w1 → StA P0 ⟨b3, 0, none⟩ (Tup.cells (R 4 (.i .i64)) t44) w1 fun w2 => GK .z Sp w1 G3 (.tuple #[]) w2) ∧
      ∀ s1 : Unit, (∀ w1, Sp w' w1 → G2 t45 w1 → StA P0 ⟨b4, 0, none⟩ (Tup.cells (R 4 (.i .i64)) t45) w1 fun w2 => GK .z Sp w1 G4 (.tuple #[]) w2) ∧
      ∀ s2 : Unit, ∀ w1, Sp w' w1 → G1 t44 w1 → G2 t45 w1 → G3 s1 w1 → G4 s2 w1 → LdA (R 4 (.i .i64)) ⟨b3, 0, none⟩ w1 fun r w2 => LdA (R 4 (.i .i64)) ⟨b4, 0, none⟩ w1 fun r1 w3 => K (r, (r1, (ok, ()))) w1 := by
    intro w' l b5 b6 p q ok hok m'
    have hd3 : Del [(b5, p), (b6, q), (b1, x), (b4, ((0, 0, 0, 0, ()) : T4)), (b3, ((0, 0, 0, 0, ()) : T4)), (b2, t10)] b3 ((0, 0, 0, 0, ()) : T4) [(b5, p), (b6, q), (b1, x), (b4, ((0, 0, 0, 0, ()) : T4)), (b2, t10)] := by (repeat (first | exact Del.head _ _ _ | apply Del.tail))
    have hd4 : Del [(b5, p), (b6, q), (b1, x), (b4, ((0, 0, 0, 0, ()) : T4)), (b2, t10)] b4 ((0, 0, 0, 0, ()) : T4) [(b5, p), (b6, q), (b1, x), (b2, t10)] := by (repeat (first | exact Del.head _ _ _ | apply Del.tail))
    have hin4 : (b4, ((0, 0, 0, 0, ()) : T4)) ∈ [(b5, p), (b6, q), (b1, x), (b4, ((0, 0, 0, 0, ()) : T4)), (b3, ((0, 0, 0, 0, ()) : T4)), (b2, t10)] := hd3.sub.subset hd4.mem
    refine ⟨SpF w'.heap.size [b3, b4] (fun y => ok = true → Gd y), spfOk _ _ _, prG (fun y => ok = true → Gd y), keptPr, prG (fun y => ok = true → Gd y), keptPr, _, keptF (b := b3) (by simp), _, keptF (b := b4) (by simp), fun w1 hs => ?_, fun t44 => ⟨fun w1 hs => ?_, fun t45 => ⟨fun w1 hs f => ?_, fun s1 => ⟨fun w1 hs f => ?_, fun s2 w1 hs f1 f2 f3 f4 => ?_⟩⟩⟩⟩
    · exact ldAM (m'.spf2 hd3 hd4 hs) (by with_unfolding_all (repeat (first | exact List.mem_cons_self | refine List.mem_cons_of_mem _ ?_))) (gkP rfl (SpF.refl _ _ _ _) fun h => (hok h).1)
    · exact ldAM (m'.spf2 hd3 hd4 hs) (by with_unfolding_all (repeat (first | exact List.mem_cons_self | refine List.mem_cons_of_mem _ ?_))) (gkP rfl (SpF.refl _ _ _ _) fun h => (hok h).2)
    · exact stSpF m' hd3.mem hs (by simp) rfl f
    · exact stSpF m' hin4 hs (by simp) rfl f
    · obtain ⟨y, y2, h1, h2, m2⟩ := m'.spf2B hd3 hd4 hs f3 f4
      refine ldAM m2 (by with_unfolding_all (repeat (first | exact List.mem_cons_self | refine List.mem_cons_of_mem _ ?_))) (ldAM m2 (by with_unfolding_all (repeat (first | exact List.mem_cons_self | refine List.mem_cons_of_mem _ ?_))) ?_)
      exact hK _ _ _ _ (fun h => ⟨h1 h, h2 h⟩) m2.low
  have fin : ∀ {w' : World} {p q : T4} {ok : Bool} {l : List (Nat × T4)}, (ok = true → Gd p ∧ Gd q) → M w w' (l ++ [(b1, x), (b4, ((0, 0, 0, 0, ()) : T4)), (b3, ((0, 0, 0, 0, ()) : T4)), (b2, t10)]) →
      StA P0 ⟨b3, 0, none⟩ (Tup.cells (R 4 (.i .i64)) p) w' fun w1 => StA P0 ⟨b4, 0, none⟩ (Tup.cells (R 4 (.i .i64)) q) w1 fun w2 => LdA (R 4 (.i .i64)) ⟨b3, 0, none⟩ w2 fun r w3 => LdA (R 4 (.i .i64)) ⟨b4, 0, none⟩ w2 fun r1 w4 => K (r, (r1, (ok, ()))) w2 := by
    intro w' p q ok l hok m'
    have u1 : ∀ l : List (Nat × T4), Up (l ++ [(b1, x), (b4, ((0, 0, 0, 0, ()) : T4)), (b3, ((0, 0, 0, 0, ()) : T4)), (b2, t10)]) b3 ((0, 0, 0, 0, ()) : T4) p (l ++ [(b1, x), (b4, ((0, 0, 0, 0, ()) : T4)), (b3, p), (b2, t10)]) := fun l => by
      induction l with
      | nil => exact Up.tail _ _ _ _ _ _ (Up.tail _ _ _ _ _ _ (Up.head _ _ _ _))
      | cons c l ih => exact Up.tail _ _ _ _ _ _ ih
    have u2 : ∀ l : List (Nat × T4), Up (l ++ [(b1, x), (b4, ((0, 0, 0, 0, ()) : T4)), (b3, p), (b2, t10)]) b4 ((0, 0, 0, 0, ()) : T4) q (l ++ [(b1, x), (b4, q), (b3, p), (b2, t10)]) := fun l => by
      induction l with
      | nil => exact Up.tail _ _ _ _ _ _ (Up.head _ _ _ _)
      | cons c l ih => exact Up.tail _ _ _ _ _ _ ih
    refine stAM' m' (u1 l) fun w1 m1 => stAM' m1 (u2 l) fun w2 m2 => ?_
    refine ldAM m2 (x := p) (by simp) (ldAM m2 (x := q) (by simp) ?_)
    exact hK _ _ _ _ hok m2.low
  refine And.intro (fun h14 => ?_) (fun h14 => And.intro (fun h15 => ?_) (fun h15 => And.intro (fun his => ?_) (fun his => ?_)))
  · refine ldAM m6 (by with_unfolding_all (repeat (first | exact List.mem_cons_self | refine List.mem_cons_of_mem _ ?_))) (ldAM m6 (by with_unfolding_all (repeat (first | exact List.mem_cons_self | refine List.mem_cons_of_mem _ ?_))) ?_)
    exact impl.below.q fun p q ok w7 hok hb7 => fin (l := []) hok (m6.below hb7)
  · refine ldAM m6 (by with_unfolding_all (repeat (first | exact List.mem_cons_self | refine List.mem_cons_of_mem _ ?_))) (ldAM m6 (by with_unfolding_all (repeat (first | exact List.mem_cons_self | refine List.mem_cons_of_mem _ ?_))) ?_)
    refine impl.below.q fun p q ok w7 hok hb7 => ?_
    have m7 := m6.below hb7
    clear m6
    refine nwZ m7 fun w8 b8 m8 => nwZ m8 fun w9 b9 m9 => ?_
    refine stAM' m9 (by with_unfolding_all (repeat (first | exact Up.head _ _ _ _ | apply Up.tail))) fun w10 m10 => stAM' m10 (by with_unfolding_all (repeat (first | exact Up.head _ _ _ _ | apply Up.tail))) fun w11 m11 => ?_
    exact two (l := []) (fun h => ⟨(hok h).2, (hok h).1⟩) m11
  · refine ldAM m6 (by with_unfolding_all (repeat (first | exact List.mem_cons_self | refine List.mem_cons_of_mem _ ?_))) (ldAM m6 (by with_unfolding_all (repeat (first | exact List.mem_cons_self | refine List.mem_cons_of_mem _ ?_))) ?_)
    refine impl.meet.q fun p ok w7 hok hb7 => ?_
    have m7 := m6.below hb7
    clear m6
    refine nwZ m7 fun w8 b8 m8 => ?_
    refine stAM' m8 (by with_unfolding_all (repeat (first | exact Up.head _ _ _ _ | apply Up.tail))) fun w10 m10 => ?_
    replace m10 : M w w10 [(b8, p), (b1, x), (b4, ((0, 0, 0, 0, ()) : T4)), (b3, ((0, 0, 0, 0, ()) : T4)), (b2, t10)] := m10
    have hd3 : Del [(b8, p), (b1, x), (b4, ((0, 0, 0, 0, ()) : T4)), (b3, ((0, 0, 0, 0, ()) : T4)), (b2, t10)] b3 ((0, 0, 0, 0, ()) : T4) [(b8, p), (b1, x), (b4, ((0, 0, 0, 0, ()) : T4)), (b2, t10)] := by (repeat (first | exact Del.head _ _ _ | apply Del.tail))
    have hd4 : Del [(b8, p), (b1, x), (b4, ((0, 0, 0, 0, ()) : T4)), (b2, t10)] b4 ((0, 0, 0, 0, ()) : T4) [(b8, p), (b1, x), (b2, t10)] := by (repeat (first | exact Del.head _ _ _ | apply Del.tail))
    have hin4 : (b4, ((0, 0, 0, 0, ()) : T4)) ∈ [(b8, p), (b1, x), (b4, ((0, 0, 0, 0, ()) : T4)), (b3, ((0, 0, 0, 0, ()) : T4)), (b2, t10)] := hd3.sub.subset hd4.mem
    refine ⟨SpF w10.heap.size [b3, b4] (fun y => ok = true → Gd y), spfOk _ _ _, prG (fun y => ok = true → Gd y), keptPr, prG (fun y => ok = true → Gd y), keptPr, _, keptF (b := b3) (by simp), _, keptF (b := b4) (by simp), fun w1 hs => ?_, fun t44 => ⟨fun w1 hs => ?_, fun t45 => ⟨fun w1 hs f => ?_, fun s1 => ⟨fun w1 hs f => ?_, fun s2 w1 hs f1 f2 f3 f4 => ?_⟩⟩⟩⟩
    · exact ldAM (m10.spf2 hd3 hd4 hs) (by with_unfolding_all (repeat (first | exact List.mem_cons_self | refine List.mem_cons_of_mem _ ?_))) (gkP rfl (SpF.refl _ _ _ _) hok)
    · exact ldAM (m10.spf2 hd3 hd4 hs) (by with_unfolding_all (repeat (first | exact List.mem_cons_self | refine List.mem_cons_of_mem _ ?_))) (gkP rfl (SpF.refl _ _ _ _) hok)
    · exact stSpF m10 hd3.mem hs (by simp) rfl f
    · exact stSpF m10 hin4 hs (by simp) rfl f
    · obtain ⟨y, y2, h1, h2, m2⟩ := m10.spf2B hd3 hd4 hs f3 f4
      refine ldAM m2 (by with_unfolding_all (repeat (first | exact List.mem_cons_self | refine List.mem_cons_of_mem _ ?_))) (ldAM m2 (by with_unfolding_all (repeat (first | exact List.mem_cons_self | refine List.mem_cons_of_mem _ ?_))) ?_)
      exact hK _ _ _ _ (fun h => ⟨h1 h, h2 h⟩) m2.low
  · refine ldAM m6 (by with_unfolding_all (repeat (first | exact List.mem_cons_self | refine List.mem_cons_of_mem _ ?_))) (ldAM m6 (by with_unfolding_all (repeat (first | exact List.mem_cons_self | refine List.mem_cons_of_mem _ ?_))) ?_)
    refine impl.Range.but.q hx fun p ok w7 hok hb7 => ?_
    have m7 := m6.below hb7
    clear m6
    refine nwZ m7 fun w8 b8 m8 => ?_
    refine stAM' m8 (by with_unfolding_all (repeat (first | exact Up.head _ _ _ _ | apply Up.tail))) fun w9 m9 => ?_
    refine ldAM m9 (by with_unfolding_all (repeat (first | exact List.mem_cons_self | refine List.mem_cons_of_mem _ ?_))) (ldAM m9 (by with_unfolding_all (repeat (first | exact List.mem_cons_self | refine List.mem_cons_of_mem _ ?_))) ?_)
    refine impl.Range.but.q hy fun q ok2 w10 hok2 hb10 => ?_
    have m10 := m9.below hb10
    clear m7 m8 m9
    refine nwZ m10 fun w11 b11 m11 => ?_
    refine stAM' m11 (by with_unfolding_all (repeat (first | exact Up.head _ _ _ _ | apply Up.tail))) fun w12 m12 => ?_
    replace m12 : M w w12 ([(b11, q), (b8, p)] ++ [(b1, x), (b4, ((0, 0, 0, 0, ()) : T4)), (b3, ((0, 0, 0, 0, ()) : T4)), (b2, t10)]) := m12
    clear m10 m11
    refine And.intro (fun hc => ?_) (fun hc => And.intro (fun hc2 => ?_) (fun hc2 => ?_))
    · refine impl.noRange.c fun w13 hb13 => impl.noRange.c fun w14 hb14 => ?_
      exact fin (fun h => by simp at h) ((m12.below hb13).below hb14)
    · refine impl.noRange.c fun w13 hb13 => impl.noRange.c fun w14 hb14 => ?_
      exact fin (fun h => by simp at h) ((m12.below hb13).below hb14)
    · have hp := hok (by simpa using hc)
      have hq := hok2 (by simpa using hc2)
      have hd3 : Del ([(b11, q), (b8, p)] ++ [(b1, x), (b4, ((0, 0, 0, 0, ()) : T4)), (b3, ((0, 0, 0, 0, ()) : T4)), (b2, t10)]) b3 ((0, 0, 0, 0, ()) : T4) [(b11, q), (b8, p), (b1, x), (b4, ((0, 0, 0, 0, ()) : T4)), (b2, t10)] := by (repeat (first | exact Del.head _ _ _ | apply Del.tail))
      refine ⟨SpF w12.heap.size [b3] Gd, spfOk _ _ _, prG Gd, keptPr, prG Gd, keptPr, _, keptF (b := b3) (by simp), fun w1 hs => ?_, fun t44 => ⟨fun w1 hs => ?_, fun t45 => ⟨fun w1 hs f => ?_, fun s1 w1 hs f1 f2 f3 => ?_⟩⟩⟩
      · exact ldAM (m12.spf1 hd3 hs) (by with_unfolding_all (repeat (first | exact List.mem_cons_self | refine List.mem_cons_of_mem _ ?_))) (gkP rfl (SpF.refl _ _ _ _) hp)
      · exact ldAM (m12.spf1 hd3 hs) (by with_unfolding_all (repeat (first | exact List.mem_cons_self | refine List.mem_cons_of_mem _ ?_))) (gkP rfl (SpF.refl _ _ _ _) hq)
      · exact stSpF m12 hd3.mem hs (by simp) rfl f
      · obtain ⟨z, hz, m2⟩ := m12.spf1B hd3 hs f3
        refine stAM' m2 (by with_unfolding_all (repeat (first | exact Up.head _ _ _ _ | apply Up.tail))) fun w2 m3 => ?_
        refine ldAM m3 (by with_unfolding_all (repeat (first | exact List.mem_cons_self | refine List.mem_cons_of_mem _ ?_))) (ldAM m3 (by with_unfolding_all (repeat (first | exact List.mem_cons_self | refine List.mem_cons_of_mem _ ?_))) ?_)
        exact hK _ _ _ _ (fun _ => ⟨hz, f2⟩) m3.low
end
end Go.Proofs.YtihllippchgkgaaGreat.V
