/- Texts of one proof, put together in build order by pack.py (the last one states what is proved). -/
import Derived.Test.YtdlnoabihfnmmaaB4
/- Contracts: a range and a number that meet, or are one below the other, in the reference. -/
namespace Go.Proofs.Ytdlnoabihfnmmaa.V
open Go Go.RowKit
set_option linter.unusedVariables false
set_option linter.unusedSimpArgs false
theorem meet_bits2 {k lo n : Nat} (hk : k ≤ 32) (hlo : lo < 2 ^ 32) (hn : n < 2 ^ 32) : iAnd .i64 (iAnd .i64 (iXor .i64 4294967295 ((2 ^ k - 1 : Nat) : Int)) (iXor .i64 4294967295 0)) (iXor .i64 ((cutN k lo : Nat) : Int) (n : Int)) = ((cutN k (cutN k lo ^^^ n) : Nat) : Int) := by
  have c := cutN_le k lo
  have hp := Nat.pow_le_pow_right (n := 2) (by omega) hk
  have hx := Nat.xor_lt_two_pow (n := 32) (x := cutN k lo) (y := n) (by omega) hn
  have h4 : 4294967295 ^^^ (2 ^ k - 1) < 2 ^ 32 := Nat.xor_lt_two_pow (by omega) (by omega)
  have e1 : iXor .i64 4294967295 0 = ((4294967295 : Nat) : Int) := by decide
  have e2 : (4294967295 ^^^ (2 ^ k - 1)) &&& 4294967295 = 4294967295 ^^^ (2 ^ k - 1) := by
    rw [show (4294967295 : Nat) = 2 ^ 32 - 1 by decide, Nat.and_two_pow_sub_one_eq_mod]
    exact Nat.mod_eq_of_lt h4
  rw [iXor_top hk, e1, iAnd_nat (by omega) (by omega), e2, iXor_nat (by omega) (by omega), iAnd_nat (by omega) (by omega), Nat.and_comm, and_top hk hx]
section
variable {w : World}
theorem spec.l2Meet.c {lo hi n : Nat} {K : T4 × Bool × Unit → World → Prop} (hle : lo ≤ hi) (hhi : hi < 2 ^ 31) (hn : n < 2 ^ 31)
    (hK : ∀ w', Below w.heap.size w w' → K (if lo ≤ n ∧ n ≤ hi then (ivl n n, true, ()) else (nR, false, ())) w') :
    CallT (.n [(.ag (R 4 (.i .i64))), (.lf .b)]) P0 69 [.agg (Tup.cells (R 4 (.i .i64)) (ivl lo hi)).toArray, .agg (Tup.cells (R 4 (.i .i64)) (ivl n n)).toArray] w K := by
  refine spec.l2Meet.ok ?_
  unfold spec.l2Meet.vc
  have hm := M.start w
  have h1 := kk_same (a := lo) (b := hi) (by omega) (by omega)
  have hk : kk lo hi ≤ 32 := kk_le (by omega) (by omega)
  have hb := meet_bits2 (k := kk lo hi) (lo := lo) (n := n) hk (by omega) (by omega)
  have ev2 : (ivl n n).2.2.1 = (n : Int) := by rw [ivl_one]
  have ev3 : (ivl n n).2.2.2.1 = (0 : Int) := by rw [ivl_one]
  refine nwM' hm fun w1 ba m1 => nwM' m1 fun w2 bb m2 => nwZ m2 fun w3 bt m3 => ?_
  clear hm m1 m2
  refine qcl' (r := .o (.lf (.i .i64))) (4294967295 : Int) (fun w K' h => spec.l2Top.c h) ?_
  refine qldM m3 (by with_unfolding_all (repeat (first | exact List.mem_cons_self | refine List.mem_cons_of_mem _ ?_))) (by with_unfolding_all rfl) ?_
  intro w4 hb4
  have m4 := m3.below hb4
  clear m3
  refine qcl' (r := .o (.lf (.i .i64))) (4294967295 : Int) (fun w K' h => spec.l2Top.c h) ?_
  refine qldM m4 (by with_unfolding_all (repeat (first | exact List.mem_cons_self | refine List.mem_cons_of_mem _ ?_))) (by with_unfolding_all rfl) ?_
  refine qldM m4 (by with_unfolding_all (repeat (first | exact List.mem_cons_self | refine List.mem_cons_of_mem _ ?_))) (by with_unfolding_all rfl) ?_
  refine qldM m4 (by with_unfolding_all (repeat (first | exact List.mem_cons_self | refine List.mem_cons_of_mem _ ?_))) (by with_unfolding_all rfl) ?_
  intro w5 hb5
  have m5 := m4.below hb5
  clear m4
  refine And.intro (fun hc => ?_) (fun hc => ?_)
  · have hc' : (iAnd .i64 (iAnd .i64 (iXor .i64 4294967295 ((2 ^ kk lo hi - 1 : Nat) : Int)) (iXor .i64 4294967295 (ivl n n).2.2.2.1)) (iXor .i64 ((cutN (kk lo hi) lo : Nat) : Int) (ivl n n).2.2.1) != 0) = true := hc
    rw [ev2, ev3, hb] at hc'
    repeat' (first | (with_reducible refine ldM (by assumption) (by with_unfolding_all (repeat (first | exact List.mem_cons_self | refine List.mem_cons_of_mem _ ?_))) (by with_unfolding_all rfl) ?_) | (with_reducible refine ldAM (by assumption) (by with_unfolding_all (repeat (first | exact List.mem_cons_self | refine List.mem_cons_of_mem _ ?_))) ?_) | (with_reducible refine nwZ (by assumption) fun _ _ _ => ?_) | (with_reducible refine nwM' (by assumption) fun _ _ _ => ?_) | (with_reducible refine stM0 (by assumption) (by with_unfolding_all (repeat (first | exact Up.head _ _ _ _ | apply Up.tail))) fun _ _ => ?_) | (with_reducible refine stM1 (by assumption) (by with_unfolding_all (repeat (first | exact Up.head _ _ _ _ | apply Up.tail))) fun _ _ => ?_) | (with_reducible refine stM2 (by assumption) (by with_unfolding_all (repeat (first | exact Up.head _ _ _ _ | apply Up.tail))) fun _ _ => ?_) | (with_reducible refine stM3 (by assumption) (by with_unfolding_all (repeat (first | exact Up.head _ _ _ _ | apply Up.tail))) fun _ _ => ?_) | (with_reducible refine stAM' (by assumption) (by with_unfolding_all (repeat (first | exact Up.head _ _ _ _ | apply Up.tail))) fun _ _ => ?_) | (with_reducible refine stAL (by assumption) (by with_unfolding_all (repeat (first | exact Up.head _ _ _ _ | apply Up.tail))) fun _ _ => ?_) | (with_reducible refine And.intro (fun _ => ?_) (fun _ => ?_)) | (refine stAM' (by assumption) (by with_unfolding_all (repeat (first | exact Up.head _ _ _ _ | apply Up.tail))) fun _ _ => ?_))
    rename_i m10
    refine kof (hK _ m10.low) (if_neg fun h => ?_)
    have := (part_div h1 h.1 h.2 (Nat.le_refl _)).1
    have h0 := cut_xor.2 this
    rw [h0] at hc'
    simp at hc'
  · have hc' : (iAnd .i64 (iAnd .i64 (iXor .i64 4294967295 ((2 ^ kk lo hi - 1 : Nat) : Int)) (iXor .i64 4294967295 (ivl n n).2.2.2.1)) (iXor .i64 ((cutN (kk lo hi) lo : Nat) : Int) (ivl n n).2.2.1) != 0) = false := hc
    rw [ev2, ev3, hb] at hc'
    have h0 : cutN (kk lo hi) (cutN (kk lo hi) lo ^^^ n) = 0 := by simpa using hc'
    have hd := cut_xor.1 h0
    generalize hkk : kk lo hi = k at *
    have cl := cutN_le k lo
    have hp := Nat.pow_le_pow_right (n := 2) (by omega) hk
    have hbx : (((lo : Int), (hi : Int), iOr .i64 ((cutN k lo : Nat) : Int) (ivl n n).2.2.1, iAnd .i64 ((2 ^ k - 1 : Nat) : Int) (ivl n n).2.2.2.1, ()) : T4) = rgk 0 n lo hi := by
      have e1 := iOr_nat (a := cutN k lo) (b := n) (by omega) (by omega)
      have e2 : iAnd .i64 ((2 ^ k - 1 : Nat) : Int) 0 = 0 := by
        have := iAnd_nat (a := 2 ^ k - 1) (b := 0) (by omega) (by omega)
        simpa using this
      have e3 := cut_or (k := k) (j := 0) (Nat.zero_le _) hd.symm
      have e4 : cutN 0 n = n := by simp [cutN]
      rw [e4] at e3
      rw [ev2, ev3, e1, e3, e2]
      unfold rgk
      rw [e4]
      rfl
    have ea : ivl lo hi = rgk k lo lo hi := by unfold ivl; rw [hkk]
    rw [ea] at m5
    refine ldM m5 (by with_unfolding_all (repeat (first | exact List.mem_cons_self | refine List.mem_cons_of_mem _ ?_))) (by with_unfolding_all rfl) (ldM m5 (by with_unfolding_all (repeat (first | exact List.mem_cons_self | refine List.mem_cons_of_mem _ ?_))) (by with_unfolding_all rfl) (ldM m5 (by with_unfolding_all (repeat (first | exact List.mem_cons_self | refine List.mem_cons_of_mem _ ?_))) (by with_unfolding_all rfl) (ldM m5 (by with_unfolding_all (repeat (first | exact List.mem_cons_self | refine List.mem_cons_of_mem _ ?_))) (by with_unfolding_all rfl) (ldM m5 (by with_unfolding_all (repeat (first | exact List.mem_cons_self | refine List.mem_cons_of_mem _ ?_))) (by with_unfolding_all rfl) (ldM m5 (by with_unfolding_all (repeat (first | exact List.mem_cons_self | refine List.mem_cons_of_mem _ ?_))) (by with_unfolding_all rfl) ?_)))))
    refine nwZ m5 fun w6 bo m6 => ?_
    clear m5
    refine stAL m6 (by with_unfolding_all (repeat (first | exact Up.head _ _ _ _ | apply Up.tail))) fun w7 m7 => ?_
    replace m7 : M w w7 [(bo, (((lo : Int), (hi : Int), iOr .i64 ((cutN k lo : Nat) : Int) (ivl n n).2.2.1, iAnd .i64 ((2 ^ k - 1 : Nat) : Int) (ivl n n).2.2.2.1, ()) : T4)), (bt, ((0, 0, 0, 0, ()) : T4)), (bb, ivl n n), (ba, rgk k lo lo hi)] := m7
    rw [hbx] at m7
    clear m6 hc hc' hbx
    refine ⟨fun w' => M w w' [(bo, rgk 0 n ((if (n : Int) > (lo : Int) then (n : Int) else (lo : Int))) hi), (bt, ((0, 0, 0, 0, ()) : T4)), (bb, ivl n n), (ba, rgk k lo lo hi)], ?_, fun w8 m8 _ => ?_⟩
    · refine ldM m7 (by with_unfolding_all (repeat (first | exact List.mem_cons_self | refine List.mem_cons_of_mem _ ?_))) (by with_unfolding_all rfl) (ldM m7 (by with_unfolding_all (repeat (first | exact List.mem_cons_self | refine List.mem_cons_of_mem _ ?_))) (by with_unfolding_all rfl) (And.intro (fun hq => ?_) (fun hq => ?_)))
      · have hq' : (n : Int) > (lo : Int) := of_decide_eq_true hq
        rw [if_pos hq']
        refine ldM m7 (by with_unfolding_all (repeat (first | exact List.mem_cons_self | refine List.mem_cons_of_mem _ ?_))) (by with_unfolding_all rfl) ?_
        exact stM0 m7 (by with_unfolding_all (repeat (first | exact Up.head _ _ _ _ | apply Up.tail))) fun w3 m3 => m3
      · have hq' : ¬ (n : Int) > (lo : Int) := of_decide_eq_false hq
        rw [if_neg hq']
        exact m7
    · clear m7
      refine ⟨fun w' => M w w' [(bo, rgk 0 n ((if (n : Int) > (lo : Int) then (n : Int) else (lo : Int))) (if (n : Int) < (hi : Int) then (n : Int) else (hi : Int))), (bt, ((0, 0, 0, 0, ()) : T4)), (bb, ivl n n), (ba, rgk k lo lo hi)], ?_, fun w9 m9 _ => ?_⟩
      · refine ldM m8 (by with_unfolding_all (repeat (first | exact List.mem_cons_self | refine List.mem_cons_of_mem _ ?_))) (by with_unfolding_all rfl) (ldM m8 (by with_unfolding_all (repeat (first | exact List.mem_cons_self | refine List.mem_cons_of_mem _ ?_))) (by with_unfolding_all rfl) (And.intro (fun hq => ?_) (fun hq => ?_)))
        · have hq' : (n : Int) < (hi : Int) := of_decide_eq_true hq
          rw [if_pos hq']
          refine ldM m8 (by with_unfolding_all (repeat (first | exact List.mem_cons_self | refine List.mem_cons_of_mem _ ?_))) (by with_unfolding_all rfl) ?_
          exact stM1 m8 (by with_unfolding_all (repeat (first | exact Up.head _ _ _ _ | apply Up.tail))) fun w3 m3 => m3
        · have hq' : ¬ (n : Int) < (hi : Int) := of_decide_eq_false hq
          rw [if_neg hq']
          exact m8
      · clear m8
        refine ldM m9 (by with_unfolding_all (repeat (first | exact List.mem_cons_self | refine List.mem_cons_of_mem _ ?_))) (by with_unfolding_all rfl) (ldM m9 (by with_unfolding_all (repeat (first | exact List.mem_cons_self | refine List.mem_cons_of_mem _ ?_))) (by with_unfolding_all rfl) (And.intro (fun hq => ?_) (fun hq => ?_)))
        · have hq' : (if (n : Int) > (lo : Int) then (n : Int) else (lo : Int)) > (if (n : Int) < (hi : Int) then (n : Int) else (hi : Int)) := of_decide_eq_true hq
          repeat' (first | (with_reducible refine ldM (by assumption) (by with_unfolding_all (repeat (first | exact List.mem_cons_self | refine List.mem_cons_of_mem _ ?_))) (by with_unfolding_all rfl) ?_) | (with_reducible refine ldAM (by assumption) (by with_unfolding_all (repeat (first | exact List.mem_cons_self | refine List.mem_cons_of_mem _ ?_))) ?_) | (with_reducible refine nwZ (by assumption) fun _ _ _ => ?_) | (with_reducible refine nwM' (by assumption) fun _ _ _ => ?_) | (with_reducible refine stM0 (by assumption) (by with_unfolding_all (repeat (first | exact Up.head _ _ _ _ | apply Up.tail))) fun _ _ => ?_) | (with_reducible refine stM1 (by assumption) (by with_unfolding_all (repeat (first | exact Up.head _ _ _ _ | apply Up.tail))) fun _ _ => ?_) | (with_reducible refine stM2 (by assumption) (by with_unfolding_all (repeat (first | exact Up.head _ _ _ _ | apply Up.tail))) fun _ _ => ?_) | (with_reducible refine stM3 (by assumption) (by with_unfolding_all (repeat (first | exact Up.head _ _ _ _ | apply Up.tail))) fun _ _ => ?_) | (with_reducible refine stAM' (by assumption) (by with_unfolding_all (repeat (first | exact Up.head _ _ _ _ | apply Up.tail))) fun _ _ => ?_) | (with_reducible refine stAL (by assumption) (by with_unfolding_all (repeat (first | exact Up.head _ _ _ _ | apply Up.tail))) fun _ _ => ?_) | (with_reducible refine And.intro (fun _ => ?_) (fun _ => ?_)) | (refine stAM' (by assumption) (by with_unfolding_all (repeat (first | exact Up.head _ _ _ _ | apply Up.tail))) fun _ _ => ?_))
          rename_i m10
          refine kof (hK _ m10.low) (if_neg fun h => ?_)
          split at hq' <;> split at hq' <;> omega
        · have hq' : ¬ (if (n : Int) > (lo : Int) then (n : Int) else (lo : Int)) > (if (n : Int) < (hi : Int) then (n : Int) else (hi : Int)) := of_decide_eq_false hq
          have hin : lo ≤ n ∧ n ≤ hi := by split at hq' <;> split at hq' <;> omega
          rw [show (if (n : Int) > (lo : Int) then (n : Int) else (lo : Int)) = (n : Int) by split <;> omega, show (if (n : Int) < (hi : Int) then (n : Int) else (hi : Int)) = (n : Int) by split <;> omega] at m9
          refine ldAM m9 (by with_unfolding_all (repeat (first | exact List.mem_cons_self | refine List.mem_cons_of_mem _ ?_))) ?_
          refine spec.l2Some.c (k := 0) (x := n) (lo := n) (hi := (n : Int)) (by omega) (by omega) (by omega) rfl fun w10 hb10 => ?_
          have m10 := m9.below hb10
          refine And.intro (fun hd => ?_) (fun _ => ?_)
          · simp at hd
          · refine ldAM m10 (by with_unfolding_all (repeat (first | exact List.mem_cons_self | refine List.mem_cons_of_mem _ ?_))) ?_
            refine spec.l2Tidy.c (k := 0) (x := n) (lo := n) (hi := n) (by omega) (Nat.le_refl _) (by omega) rfl rfl fun w11 hb11 => ?_
            have m11 := m10.below hb11
            clear m9 m10
            repeat' (first | (with_reducible refine ldM (by assumption) (by with_unfolding_all (repeat (first | exact List.mem_cons_self | refine List.mem_cons_of_mem _ ?_))) (by with_unfolding_all rfl) ?_) | (with_reducible refine ldAM (by assumption) (by with_unfolding_all (repeat (first | exact List.mem_cons_self | refine List.mem_cons_of_mem _ ?_))) ?_) | (with_reducible refine nwZ (by assumption) fun _ _ _ => ?_) | (with_reducible refine nwM' (by assumption) fun _ _ _ => ?_) | (with_reducible refine stM0 (by assumption) (by with_unfolding_all (repeat (first | exact Up.head _ _ _ _ | apply Up.tail))) fun _ _ => ?_) | (with_reducible refine stM1 (by assumption) (by with_unfolding_all (repeat (first | exact Up.head _ _ _ _ | apply Up.tail))) fun _ _ => ?_) | (with_reducible refine stM2 (by assumption) (by with_unfolding_all (repeat (first | exact Up.head _ _ _ _ | apply Up.tail))) fun _ _ => ?_) | (with_reducible refine stM3 (by assumption) (by with_unfolding_all (repeat (first | exact Up.head _ _ _ _ | apply Up.tail))) fun _ _ => ?_) | (with_reducible refine stAM' (by assumption) (by with_unfolding_all (repeat (first | exact Up.head _ _ _ _ | apply Up.tail))) fun _ _ => ?_) | (with_reducible refine stAL (by assumption) (by with_unfolding_all (repeat (first | exact Up.head _ _ _ _ | apply Up.tail))) fun _ _ => ?_) | (with_reducible refine And.intro (fun _ => ?_) (fun _ => ?_)) | (refine stAM' (by assumption) (by with_unfolding_all (repeat (first | exact Up.head _ _ _ _ | apply Up.tail))) fun _ _ => ?_))
            rename_i m12
            exact kof (hK _ m12.low) (if_pos hin)
set_option maxHeartbeats 1000000 in
theorem spec.l2Below.c {la ha lb hb : Nat} {by_ : Nat} {K : T4 × T4 × Bool × Unit → World → Prop} (h31 : la ≤ ha ∧ ha < 2 ^ 31 ∧ lb ≤ hb ∧ hb < 2 ^ 31) (hy : by_ ≤ 1)
    (hK : ∀ w', Below w.heap.size w w' → K (bwT la (if (hb : Int) - by_ < ha then (hb : Int) - by_ else ha) (if (la : Int) + by_ > lb then (la : Int) + by_ else lb) hb) w') :
    CallT (.n [(.ag (R 4 (.i .i64))), (.ag (R 4 (.i .i64))), (.lf .b)]) P0 71 [.agg (Tup.cells (R 4 (.i .i64)) (ivl la ha)).toArray, .agg (Tup.cells (R 4 (.i .i64)) (ivl lb hb)).toArray, .int .i64 by_] w K := by
  refine spec.l2Below.ok ?_
  unfold spec.l2Below.vc
  have hm := M.start w
  have hk1 := kk_same (a := la) (b := ha) (by omega) (by omega)
  have hkl : kk la ha ≤ 32 := kk_le (by omega) (by omega)
  have hk2 := kk_same (a := lb) (b := hb) (by omega) (by omega)
  have hkb : kk lb hb ≤ 32 := kk_le (by omega) (by omega)
  generalize hah : (if (hb : Int) - by_ < ha then (hb : Int) - by_ else (ha : Int)) = ah at *
  generalize hbl : (if (la : Int) + by_ > lb then (la : Int) + by_ else (lb : Int)) = bl at *
  have q1 : IntKind.wrap .i64 ((hb : Int) - by_) = (hb : Int) - by_ := i64_of (by omega) (by omega)
  have q2 : IntKind.wrap .i64 ((la : Int) + by_) = (la : Int) + by_ := i64_of (by omega) (by omega)
  refine nwM' hm fun w1 ba m1 => nwM' m1 fun w2 bb m2 => nwZ m2 fun w3 b6 m3 => nwZ m3 fun w4 b7 m4 => ?_
  clear hm m1 m2 m3
  refine ⟨fun w' => M w w' [(b7, ((0, 0, 0, 0, ()) : T4)), (b6, ((0, 0, 0, 0, ()) : T4)), (bb, ivl lb hb), (ba, rgk (kk la ha) la la ah)], ?_, fun w8 m8 _ => ?_⟩
  · refine ldM m4 (by with_unfolding_all (repeat (first | exact List.mem_cons_self | refine List.mem_cons_of_mem _ ?_))) (by with_unfolding_all rfl) (ldM m4 (by with_unfolding_all (repeat (first | exact List.mem_cons_self | refine List.mem_cons_of_mem _ ?_))) (by with_unfolding_all rfl) (And.intro (fun hq => ?_) (fun hq => ?_)))
    · have hq' : (ha : Int) > IntKind.wrap .i64 ((hb : Int) - by_) := of_decide_eq_true hq
      rw [q1] at hq'
      refine ldM m4 (by with_unfolding_all (repeat (first | exact List.mem_cons_self | refine List.mem_cons_of_mem _ ?_))) (by with_unfolding_all rfl) ?_
      refine stM1 m4 (by with_unfolding_all (repeat (first | exact Up.head _ _ _ _ | apply Up.tail))) fun w5 m5 => ?_
      have e : IntKind.wrap .i64 ((hb : Int) - by_) = ah := by rw [q1, ← hah, if_pos (by omega)]
      rw [← e]
      exact m5
    · have hq' : ¬ (ha : Int) > IntKind.wrap .i64 ((hb : Int) - by_) := of_decide_eq_false hq
      rw [q1] at hq'
      have e : (ha : Int) = ah := by rw [← hah]; split <;> omega
      rw [← e]
      exact m4
  · clear m4
    refine ⟨fun w' => M w w' [(b7, ((0, 0, 0, 0, ()) : T4)), (b6, ((0, 0, 0, 0, ()) : T4)), (bb, rgk (kk lb hb) lb bl hb), (ba, rgk (kk la ha) la la ah)], ?_, fun w13 m13 _ => ?_⟩
    · refine ldM m8 (by with_unfolding_all (repeat (first | exact List.mem_cons_self | refine List.mem_cons_of_mem _ ?_))) (by with_unfolding_all rfl) (ldM m8 (by with_unfolding_all (repeat (first | exact List.mem_cons_self | refine List.mem_cons_of_mem _ ?_))) (by with_unfolding_all rfl) (And.intro (fun hq => ?_) (fun hq => ?_)))
      · have hq' : (lb : Int) < IntKind.wrap .i64 ((la : Int) + by_) := of_decide_eq_true hq
        rw [q2] at hq'
        refine ldM m8 (by with_unfolding_all (repeat (first | exact List.mem_cons_self | refine List.mem_cons_of_mem _ ?_))) (by with_unfolding_all rfl) ?_
        refine stM0 m8 (by with_unfolding_all (repeat (first | exact Up.head _ _ _ _ | apply Up.tail))) fun w5 m5 => ?_
        have e : IntKind.wrap .i64 ((la : Int) + by_) = bl := by rw [q2, ← hbl, if_pos (by omega)]
        rw [← e]
        exact m5
      · have hq' : ¬ (lb : Int) < IntKind.wrap .i64 ((la : Int) + by_) := of_decide_eq_false hq
        rw [q2] at hq'
        have e : (lb : Int) = bl := by rw [← hbl]; split <;> omega
        rw [← e]
        exact m8
    · clear m8
      have hA : (la : Int) ≤ ah → (la : Int).toNat / 2 ^ kk la ha = la / 2 ^ kk la ha ∧ ah.toNat / 2 ^ kk la ha = la / 2 ^ kk la ha := fun h => kk_in h31.1 h31.2.1 h (by omega) (by split at hah <;> omega)
      have hB : bl ≤ (hb : Int) → bl.toNat / 2 ^ kk lb hb = lb / 2 ^ kk lb hb ∧ (hb : Int).toNat / 2 ^ kk lb hb = lb / 2 ^ kk lb hb := fun h => kk_in h31.2.2.1 h31.2.2.2 h (by split at hbl <;> omega) (by omega)
      have hbl0 : 0 ≤ bl := by split at hbl <;> omega
      have hbl1 : bl ≤ 2 ^ 31 := by split at hbl <;> omega
      have hah1 : ah ≤ ha := by split at hah <;> omega
      refine ⟨fun t w' => M w w' [(b7, ((0, 0, 0, 0, ()) : T4)), (b6, ((0, 0, 0, 0, ()) : T4)), (bb, rgk (kk lb hb) lb bl hb), (ba, rgk (kk la ha) la la ah)] ∧ t = !decide ((la : Int) ≤ ah ∧ bl ≤ hb), ?_, ?_⟩
      · refine ldM m13 (by with_unfolding_all (repeat (first | exact List.mem_cons_self | refine List.mem_cons_of_mem _ ?_))) (by with_unfolding_all rfl) (ldM m13 (by with_unfolding_all (repeat (first | exact List.mem_cons_self | refine List.mem_cons_of_mem _ ?_))) (by with_unfolding_all rfl) (And.intro (fun hq => ?_) (fun hq => ?_)))
        · have hq' : (la : Int) > ah := of_decide_eq_true hq
          exact ⟨m13, by simp; omega⟩
        · have hq' : ¬ (la : Int) > ah := of_decide_eq_false hq
          refine ldM m13 (by with_unfolding_all (repeat (first | exact List.mem_cons_self | refine List.mem_cons_of_mem _ ?_))) (by with_unfolding_all rfl) (ldM m13 (by with_unfolding_all (repeat (first | exact List.mem_cons_self | refine List.mem_cons_of_mem _ ?_))) (by with_unfolding_all rfl) (And.intro (fun hr => ?_) (fun hr => ?_)))
          · have hr' : bl > (hb : Int) := of_decide_eq_true hr
            exact ⟨m13, by simp; omega⟩
          · have hr' : ¬ bl > (hb : Int) := of_decide_eq_false hr
            obtain ⟨nb, hnb⟩ : ∃ nb : Nat, bl = nb := ⟨bl.toNat, by omega⟩
            refine ldAM m13 (by with_unfolding_all (repeat (first | exact List.mem_cons_self | refine List.mem_cons_of_mem _ ?_))) ?_
            refine spec.l2Some.c (k := kk la ha) (x := la) (lo := la) hkl (by omega) (by omega) rfl fun w14 hb14 => ?_
            have m14 := m13.below hb14
            refine And.intro (fun hs => ?_) (fun _ => ?_)
            · simp at hs; omega
            · subst hnb
              refine ldAM m14 (by with_unfolding_all (repeat (first | exact List.mem_cons_self | refine List.mem_cons_of_mem _ ?_))) ?_
              refine spec.l2Some.c (k := kk lb hb) (x := lb) (lo := nb) hkb (by omega) (by omega) (hB (by omega)).1 fun w15 hb15 => ?_
              have m15 := m14.below hb15
              exact ⟨m15, by simp; omega⟩
      · rintro t w14 ⟨m14, rfl⟩ _
        clear m13
        refine And.intro (fun hq => ?_) (fun hq => ?_)
        · have hq' : ¬ ((la : Int) ≤ ah ∧ bl ≤ hb) := by simp at hq; omega
          repeat' (first | (with_reducible refine ldM (by assumption) (by with_unfolding_all (repeat (first | exact List.mem_cons_self | refine List.mem_cons_of_mem _ ?_))) (by with_unfolding_all rfl) ?_) | (with_reducible refine ldAM (by assumption) (by with_unfolding_all (repeat (first | exact List.mem_cons_self | refine List.mem_cons_of_mem _ ?_))) ?_) | (with_reducible refine nwZ (by assumption) fun _ _ _ => ?_) | (with_reducible refine nwM' (by assumption) fun _ _ _ => ?_) | (with_reducible refine stM0 (by assumption) (by with_unfolding_all (repeat (first | exact Up.head _ _ _ _ | apply Up.tail))) fun _ _ => ?_) | (with_reducible refine stM1 (by assumption) (by with_unfolding_all (repeat (first | exact Up.head _ _ _ _ | apply Up.tail))) fun _ _ => ?_) | (with_reducible refine stM2 (by assumption) (by with_unfolding_all (repeat (first | exact Up.head _ _ _ _ | apply Up.tail))) fun _ _ => ?_) | (with_reducible refine stM3 (by assumption) (by with_unfolding_all (repeat (first | exact Up.head _ _ _ _ | apply Up.tail))) fun _ _ => ?_) | (with_reducible refine stAM' (by assumption) (by with_unfolding_all (repeat (first | exact Up.head _ _ _ _ | apply Up.tail))) fun _ _ => ?_) | (with_reducible refine stAL (by assumption) (by with_unfolding_all (repeat (first | exact Up.head _ _ _ _ | apply Up.tail))) fun _ _ => ?_) | (with_reducible refine And.intro (fun _ => ?_) (fun _ => ?_)) | (refine stAM' (by assumption) (by with_unfolding_all (repeat (first | exact Up.head _ _ _ _ | apply Up.tail))) fun _ _ => ?_))
          rename_i m16
          exact kof (hK _ m16.low) (bwT_neg hq')
        · have hq' : (la : Int) ≤ ah ∧ bl ≤ hb := by simpa using hq
          obtain ⟨na, hna⟩ : ∃ na : Nat, ah = na := ⟨ah.toNat, by omega⟩
          obtain ⟨nb, hnb⟩ : ∃ nb : Nat, bl = nb := ⟨bl.toNat, by omega⟩
          have hA' := (hA hq'.1).2
          have hB' := (hB hq'.2).1
          clear hA hB
          subst hna hnb
          simp only [Int.toNat_natCast] at hA' hB'
          have hK' := bwT_pos hq' rfl rfl rfl rfl
          have hd : Del [(b7, ((0, 0, 0, 0, ()) : T4)), (b6, ((0, 0, 0, 0, ()) : T4)), (bb, rgk (kk lb hb) lb nb hb), (ba, rgk (kk la ha) la la na)] b6 ((0, 0, 0, 0, ()) : T4) [(b7, ((0, 0, 0, 0, ()) : T4)), (bb, rgk (kk lb hb) lb nb hb), (ba, rgk (kk la ha) la la na)] := by (repeat (first | exact Del.head _ _ _ | apply Del.tail))
          refine ⟨SpS w14.heap.size b6 (ivl la na), spsOk _ _ _, eqG (rgk (kk la ha) la la na), keptEq, eqG (ivl la na), keptEq, eqG (rgk (kk lb hb) lb nb hb), keptEq, eqG (ivl nb hb), keptEq, _, keptBx, fun w8 hs => ?_, fun t57 => ⟨fun w8 hs f => ?_, fun t58 => ⟨fun w8 hs => ?_, fun t59 => ⟨fun w8 hs f => ?_, fun t60 => ⟨fun w8 hs f47 => ?_, fun st w8 hs f46 f47 f48 f49 fs => ?_⟩⟩⟩⟩⟩
          · exact ldAM (m14.sps hd hs) (by with_unfolding_all (repeat (first | exact List.mem_cons_self | refine List.mem_cons_of_mem _ ?_))) (gkE rfl (SpS.refl _ _ _ _))
          · cases f
            refine spec.l2Tidy.c (k := kk la ha) (x := la) (lo := la) (hi := na) hkl (by omega) (by omega) rfl hA' fun w9 hb9 => gkE rfl ?_
            exact SpS.of_below (hb9.mono hs.size) (m14.box b6 _ hd.mem).2.1
          · exact ldAM (m14.sps hd hs) (by with_unfolding_all (repeat (first | exact List.mem_cons_self | refine List.mem_cons_of_mem _ ?_))) (gkE rfl (SpS.refl _ _ _ _))
          · cases f
            refine spec.l2Tidy.c (k := kk lb hb) (x := lb) (lo := nb) (hi := hb) hkb (by omega) (by omega) hB' hk2.symm fun w9 hb9 => gkE rfl ?_
            exact SpS.of_below (hb9.mono hs.size) (m14.box b6 _ hd.mem).2.1
          · cases f47
            exact stSps m14 hd hs rfl
          · cases f49
            have m8 := m14.spsB hd hs fs
            clear m14
            repeat' (first | (with_reducible refine ldM (by assumption) (by with_unfolding_all (repeat (first | exact List.mem_cons_self | refine List.mem_cons_of_mem _ ?_))) (by with_unfolding_all rfl) ?_) | (with_reducible refine ldAM (by assumption) (by with_unfolding_all (repeat (first | exact List.mem_cons_self | refine List.mem_cons_of_mem _ ?_))) ?_) | (with_reducible refine nwZ (by assumption) fun _ _ _ => ?_) | (with_reducible refine nwM' (by assumption) fun _ _ _ => ?_) | (with_reducible refine stM0 (by assumption) (by with_unfolding_all (repeat (first | exact Up.head _ _ _ _ | apply Up.tail))) fun _ _ => ?_) | (with_reducible refine stM1 (by assumption) (by with_unfolding_all (repeat (first | exact Up.head _ _ _ _ | apply Up.tail))) fun _ _ => ?_) | (with_reducible refine stM2 (by assumption) (by with_unfolding_all (repeat (first | exact Up.head _ _ _ _ | apply Up.tail))) fun _ _ => ?_) | (with_reducible refine stM3 (by assumption) (by with_unfolding_all (repeat (first | exact Up.head _ _ _ _ | apply Up.tail))) fun _ _ => ?_) | (with_reducible refine stAM' (by assumption) (by with_unfolding_all (repeat (first | exact Up.head _ _ _ _ | apply Up.tail))) fun _ _ => ?_) | (with_reducible refine stAL (by assumption) (by with_unfolding_all (repeat (first | exact Up.head _ _ _ _ | apply Up.tail))) fun _ _ => ?_) | (with_reducible refine And.intro (fun _ => ?_) (fun _ => ?_)) | (refine stAM' (by assumption) (by with_unfolding_all (repeat (first | exact Up.head _ _ _ _ | apply Up.tail))) fun _ _ => ?_))
            rename_i m9
            exact kof (hK _ m9.low) hK'
end
end Go.Proofs.Ytdlnoabihfnmmaa.V

/- Contracts: what is left of a range and a number, in the reference. -/
namespace Go.Proofs.Ytdlnoabihfnmmaa.V
open Go Go.RowKit
set_option linter.unusedVariables false
set_option linter.unusedSimpArgs false
section
variable {w0 w : World} {b8 b9 ba bb : Nat} {lo hi n : Nat} {K : T4 × T4 × Bool × Unit → World → Prop}
/-- What the second branch hands back: a box that is made for it is handed back twice. -/
theorem tailM (hm : M w0 w [(b9, ((0, 0, 0, 0, ()) : T4)), (b8, ((0, 0, 0, 0, ()) : T4)), (bb, ivl n n), (ba, ivl lo hi)]) (p : T4 × Bool × Unit) (hp : ∀ w', Below w0.heap.size w0 w' → K (p.1, p.1, p.2) w') :
    Nw (zc P0 45) 45 w fun a_m w8 => StA P0 a_m (Tup.cells (R 4 (.i .i64)) p.1) w8 fun w45 =>
        ∃ Sp : World → World → Prop, SpOk Sp w45 ∧ ∃ G1 : Tup (R 4 (.i .i64)) → World → Prop, Kept Sp G1 ∧ ∃ G2 : Tup (R 4 (.i .i64)) → World → Prop, Kept Sp G2 ∧ ∃ G3 : Unit → World → Prop, Kept Sp G3 ∧ ∃ G4 : Unit → World → Prop, Kept Sp G4 ∧
        (∀ w1, Sp w45 w1 → LdA (R 4 (.i .i64)) a_m w1 fun (t : Tup (R 4 (.i .i64))) w2 => GK (.o (.ag (R 4 (.i .i64)))) Sp w1 G1 (.agg (Tup.cells (R 4 (.i .i64)) t).toArray) w2) ∧
        ∀ (t1 : Tup (R 4 (.i .i64))), (∀ w1, Sp w45 w1 → LdA (R 4 (.i .i64)) a_m w1 fun (t : Tup (R 4 (.i .i64))) w2 => GK (.o (.ag (R 4 (.i .i64)))) Sp w1 G2 (.agg (Tup.cells (R 4 (.i .i64)) t).toArray) w2) ∧
        ∀ (t2 : Tup (R 4 (.i .i64))), (∀ w1, Sp w45 w1 → G1 t1 w1 → StA P0 ⟨b8, 0, none⟩ (Tup.cells (R 4 (.i .i64)) t1) w1 fun w2 => GK .z Sp w1 G3 (.tuple #[]) w2) ∧
        ∀ (s1 : Unit), (∀ w1, Sp w45 w1 → G2 t2 w1 → StA P0 ⟨b9, 0, none⟩ (Tup.cells (R 4 (.i .i64)) t2) w1 fun w2 => GK .z Sp w1 G4 (.tuple #[]) w2) ∧
        ∀ (s2 : Unit), ∀ w1, Sp w45 w1 → G1 t1 w1 → G2 t2 w1 → G3 s1 w1 → G4 s2 w1 → LdA (R 4 (.i .i64)) ⟨b8, 0, none⟩ w1 fun r w2 => LdA (R 4 (.i .i64)) ⟨b9, 0, none⟩ w1 fun r1 w3 => K (r, (r1, (p.2.1, ()))) w1 := by
  refine nwZ hm fun w8 bm m8 => stAM' m8 (by with_unfolding_all (repeat (first | exact Up.head _ _ _ _ | apply Up.tail))) fun w9 m9 => ?_
  replace m9 : M w0 w9 [(bm, p.1), (b9, ((0, 0, 0, 0, ()) : T4)), (b8, ((0, 0, 0, 0, ()) : T4)), (bb, ivl n n), (ba, ivl lo hi)] := m9
  exact tailT (K := fun r r1 w => K (r, (r1, (p.2.1, ()))) w) (x1 := (0, 0, 0, 0, ())) (x2 := (0, 0, 0, 0, ())) (r1 := [(bm, p.1), (b9, ((0, 0, 0, 0, ()) : T4)), (bb, ivl n n), (ba, ivl lo hi)]) (r := [(bm, p.1), (bb, ivl n n), (ba, ivl lo hi)]) m9 (by (repeat (first | exact Del.head _ _ _ | apply Del.tail))) (by (repeat (first | exact Del.head _ _ _ | apply Del.tail))) (by with_unfolding_all (repeat (first | exact List.mem_cons_self | refine List.mem_cons_of_mem _ ?_))) (by with_unfolding_all (repeat (first | exact List.mem_cons_self | refine List.mem_cons_of_mem _ ?_))) fun w12 m12 => hp _ m12.low
/-- The same with two boxes, turned. -/
theorem tailS (hm : M w0 w [(b9, ((0, 0, 0, 0, ()) : T4)), (b8, ((0, 0, 0, 0, ()) : T4)), (bb, ivl n n), (ba, ivl lo hi)]) (p : T4 × T4 × Bool × Unit) (hp : ∀ w', Below w0.heap.size w0 w' → K (swT p) w') :
    Nw (zc P0 45) 45 w fun a_y w7 => Nw (zc P0 45) 45 w7 fun a_x w8 => StA P0 a_y (Tup.cells (R 4 (.i .i64)) p.1) w8 fun w9 => StA P0 a_x (Tup.cells (R 4 (.i .i64)) p.2.1) w9 fun w45 =>
        ∃ Sp : World → World → Prop, SpOk Sp w45 ∧ ∃ G1 : Tup (R 4 (.i .i64)) → World → Prop, Kept Sp G1 ∧ ∃ G2 : Tup (R 4 (.i .i64)) → World → Prop, Kept Sp G2 ∧ ∃ G3 : Unit → World → Prop, Kept Sp G3 ∧ ∃ G4 : Unit → World → Prop, Kept Sp G4 ∧
        (∀ w1, Sp w45 w1 → LdA (R 4 (.i .i64)) a_x w1 fun (t : Tup (R 4 (.i .i64))) w2 => GK (.o (.ag (R 4 (.i .i64)))) Sp w1 G1 (.agg (Tup.cells (R 4 (.i .i64)) t).toArray) w2) ∧
        ∀ (t1 : Tup (R 4 (.i .i64))), (∀ w1, Sp w45 w1 → LdA (R 4 (.i .i64)) a_y w1 fun (t : Tup (R 4 (.i .i64))) w2 => GK (.o (.ag (R 4 (.i .i64)))) Sp w1 G2 (.agg (Tup.cells (R 4 (.i .i64)) t).toArray) w2) ∧
        ∀ (t2 : Tup (R 4 (.i .i64))), (∀ w1, Sp w45 w1 → G1 t1 w1 → StA P0 ⟨b8, 0, none⟩ (Tup.cells (R 4 (.i .i64)) t1) w1 fun w2 => GK .z Sp w1 G3 (.tuple #[]) w2) ∧
        ∀ (s1 : Unit), (∀ w1, Sp w45 w1 → G2 t2 w1 → StA P0 ⟨b9, 0, none⟩ (Tup.cells (R 4 (.i .i64)) t2) w1 fun w2 => GK .z Sp w1 G4 (.tuple #[]) w2) ∧
        ∀ (s2 : Unit), ∀ w1, Sp w45 w1 → G1 t1 w1 → G2 t2 w1 → G3 s1 w1 → G4 s2 w1 → LdA (R 4 (.i .i64)) ⟨b8, 0, none⟩ w1 fun r w2 => LdA (R 4 (.i .i64)) ⟨b9, 0, none⟩ w1 fun r1 w3 => K (r, (r1, (p.2.2.1, ()))) w1 := by
  refine nwZ hm fun w7 by_ m7 => nwZ m7 fun w8 bx_ m8 => stAM' m8 (by with_unfolding_all (repeat (first | exact Up.head _ _ _ _ | apply Up.tail))) fun w9 m9 => stAM' m9 (by with_unfolding_all (repeat (first | exact Up.head _ _ _ _ | apply Up.tail))) fun w10 m10 => ?_
  replace m10 : M w0 w10 [(bx_, p.2.1), (by_, p.1), (b9, ((0, 0, 0, 0, ()) : T4)), (b8, ((0, 0, 0, 0, ()) : T4)), (bb, ivl n n), (ba, ivl lo hi)] := m10
  exact tailT (K := fun r r1 w => K (r, (r1, (p.2.2.1, ()))) w) (x1 := (0, 0, 0, 0, ())) (x2 := (0, 0, 0, 0, ())) (r1 := [(bx_, p.2.1), (by_, p.1), (b9, ((0, 0, 0, 0, ()) : T4)), (bb, ivl n n), (ba, ivl lo hi)]) (r := [(bx_, p.2.1), (by_, p.1), (bb, ivl n n), (ba, ivl lo hi)]) m10 (by (repeat (first | exact Del.head _ _ _ | apply Del.tail))) (by (repeat (first | exact Del.head _ _ _ | apply Del.tail))) (by with_unfolding_all (repeat (first | exact List.mem_cons_self | refine List.mem_cons_of_mem _ ?_))) (by with_unfolding_all (repeat (first | exact List.mem_cons_self | refine List.mem_cons_of_mem _ ?_))) fun w12 m12 => hp _ m12.low
theorem tailP (hm : M w0 w [(b9, ((0, 0, 0, 0, ()) : T4)), (b8, ((0, 0, 0, 0, ()) : T4)), (bb, ivl n n), (ba, ivl lo hi)]) (p : T4 × T4 × Bool × Unit) (hp : ∀ w', Below w0.heap.size w0 w' → K p w') :
    StA P0 ⟨b8, 0, none⟩ (Tup.cells (R 4 (.i .i64)) p.1) w fun w19 => StA P0 ⟨b9, 0, none⟩ (Tup.cells (R 4 (.i .i64)) p.2.1) w19 fun w20 => LdA (R 4 (.i .i64)) ⟨b8, 0, none⟩ w20 fun r w21 => LdA (R 4 (.i .i64)) ⟨b9, 0, none⟩ w20 fun r1 w22 => K (r, (r1, (p.2.2.1, ()))) w20 := by
  repeat' (first | (with_reducible refine ldM (by assumption) (by with_unfolding_all (repeat (first | exact List.mem_cons_self | refine List.mem_cons_of_mem _ ?_))) (by with_unfolding_all rfl) ?_) | (with_reducible refine ldAM (by assumption) (by with_unfolding_all (repeat (first | exact List.mem_cons_self | refine List.mem_cons_of_mem _ ?_))) ?_) | (with_reducible refine nwZ (by assumption) fun _ _ _ => ?_) | (with_reducible refine nwM' (by assumption) fun _ _ _ => ?_) | (with_reducible refine stM0 (by assumption) (by with_unfolding_all (repeat (first | exact Up.head _ _ _ _ | apply Up.tail))) fun _ _ => ?_) | (with_reducible refine stM1 (by assumption) (by with_unfolding_all (repeat (first | exact Up.head _ _ _ _ | apply Up.tail))) fun _ _ => ?_) | (with_reducible refine stM2 (by assumption) (by with_unfolding_all (repeat (first | exact Up.head _ _ _ _ | apply Up.tail))) fun _ _ => ?_) | (with_reducible refine stM3 (by assumption) (by with_unfolding_all (repeat (first | exact Up.head _ _ _ _ | apply Up.tail))) fun _ _ => ?_) | (with_reducible refine stAM' (by assumption) (by with_unfolding_all (repeat (first | exact Up.head _ _ _ _ | apply Up.tail))) fun _ _ => ?_) | (with_reducible refine stAL (by assumption) (by with_unfolding_all (repeat (first | exact Up.head _ _ _ _ | apply Up.tail))) fun _ _ => ?_) | (with_reducible refine And.intro (fun _ => ?_) (fun _ => ?_)) | (refine stAM' (by assumption) (by with_unfolding_all (repeat (first | exact Up.head _ _ _ _ | apply Up.tail))) fun _ _ => ?_))
  rename_i m9
  exact hp _ m9.low
end
section
variable {w : World}
set_option maxHeartbeats 4000000 in
theorem spec.l2Branch.c {op : Int} {lo hi n : Nat} {is_ : Bool} {K : T4 × T4 × Bool × Unit → World → Prop} (ho : 12 ≤ op ∧ op ≤ 15) (hle : lo ≤ hi) (hhi : hi < 2 ^ 31) (hn : n < 2 ^ 31)
    (hK : ∀ w', Below w.heap.size w w' → K (brT op lo hi n is_) w') :
    CallT (.n [(.ag (R 4 (.i .i64))), (.ag (R 4 (.i .i64))), (.lf .b)]) P0 49 [.int .i64 op, .agg (Tup.cells (R 4 (.i .i64)) (ivl lo hi)).toArray, .agg (Tup.cells (R 4 (.i .i64)) (ivl n n)).toArray, .bool is_] w K := by
  refine spec.l2Branch.ok ?_
  unfold spec.l2Branch.vc
  have hm := M.start w
  refine nwM' hm fun w1 ba m1 => nwM' m1 fun w2 bb m2 => nwZ m2 fun w3 b8 m3 => nwZ m3 fun w4 b9 m4 => ?_
  clear hm m1 m2 m3
  refine ⟨fun t w' => M w w' [(b9, ((0, 0, 0, 0, ()) : T4)), (b8, ((0, 0, 0, 0, ()) : T4)), (bb, ivl n n), (ba, ivl lo hi)] ∧ t = decide (op ≤ 13 ∧ is_ = decide (op = 12)), ?_, ?_⟩
  · refine And.intro (fun h => ⟨m4, ?_⟩) (fun h => ⟨m4, ?_⟩)
    · rw [decide_eq_decide]
      have : (op == 12) = is_ := by simpa using h
      rw [← this]
      exact ⟨fun h => ⟨h, rfl⟩, fun h => h.1⟩
    · have : ¬ ((op == 12) = is_) := by simpa using h
      symm
      rw [decide_eq_false_iff_not]
      exact fun h2 => this h2.2.symm
  rintro t w5 ⟨m5, rfl⟩ _
  clear m4
  refine And.intro (fun h1 => ?_) (fun h1 => And.intro (fun h2 => ?_) (fun h2 => ?_))
  · simp only [decide_eq_true_eq] at h1
    have e := brT_same (lo := lo) (hi := hi) (n := n) ⟨ho.1, h1.1⟩ h1.2
    refine ldAM m5 (by with_unfolding_all (repeat (first | exact List.mem_cons_self | refine List.mem_cons_of_mem _ ?_))) (ldAM m5 (by with_unfolding_all (repeat (first | exact List.mem_cons_self | refine List.mem_cons_of_mem _ ?_))) ?_)
    refine spec.l2Meet.c hle hhi hn fun w6 hb6 => ?_
    have m6 := m5.below hb6
    refine tailM m6 _ fun w' hb' => kof (hK w' hb') ?_
    rw [e]
    split <;> rfl
  · simp only [decide_eq_true_eq] at h2
    simp only [decide_eq_false_iff_not] at h1
    have hno : ¬ is_ = decide (op = 12) := fun h => h1 ⟨h2, h⟩
    have e := brT_but (lo := lo) (hi := hi) (n := n) ⟨ho.1, h2⟩ hno
    refine ldAM m5 (by with_unfolding_all (repeat (first | exact List.mem_cons_self | refine List.mem_cons_of_mem _ ?_))) (ldAM m5 (by with_unfolding_all (repeat (first | exact List.mem_cons_self | refine List.mem_cons_of_mem _ ?_))) ?_)
    refine spec.l2Apart.c hle hhi fun w7 hb7 => ?_
    have m7 := m5.below hb7
    clear m5
    have two : ∀ {w8 : World} {Kp : T4 × Bool × Unit → World → Prop}, (∀ w' y, Below w8.heap.size w8 w' → (¬ (lo = n ∧ hi = n) → y = (ivl n n, true, ())) → Kp y w') → CallT (.n [(.ag (R 4 (.i .i64))), (.lf .b)]) P0 70 [.agg (Tup.cells (R 4 (.i .i64)) (ivl n n)).toArray, .agg (Tup.cells (R 4 (.i .i64)) (ivl lo hi)).toArray] w8 Kp := by
      intro w8 Kp hKp
      by_cases hq : lo = hi
      · subst hq
        refine spec.l2Apart.c (lo := n) (hi := n) (n := lo) (Nat.le_refl _) hn fun w9 hb9 => hKp _ _ hb9 fun hne => ?_
        rw [if_neg (by omega), if_neg (by omega), if_neg (by omega)]
      · refine spec.l2Apart.n (fun e => hq (by have e' : (lo : Int) = (hi : Int) := e; omega)) fun w9 hb9 => hKp _ _ hb9 fun _ => rfl
    by_cases hq : lo = n ∧ hi = n
    · rw [if_pos hq] at e ⊢
      refine nwZ m7 fun w8 bx_ m8 => stAM' m8 (by with_unfolding_all (repeat (first | exact Up.head _ _ _ _ | apply Up.tail))) fun w9 m9 => ?_
      replace m9 : M w w9 [(bx_, nR), (b9, ((0, 0, 0, 0, ()) : T4)), (b8, ((0, 0, 0, 0, ()) : T4)), (bb, ivl n n), (ba, ivl lo hi)] := m9
      refine ldAM m9 (by with_unfolding_all (repeat (first | exact List.mem_cons_self | refine List.mem_cons_of_mem _ ?_))) (ldAM m9 (by with_unfolding_all (repeat (first | exact List.mem_cons_self | refine List.mem_cons_of_mem _ ?_))) ?_)
      refine two fun w10 y hb10 _ => ?_
      have m10 := m9.below hb10
      refine nwZ m10 fun w11 by_ m11 => stAM' m11 (by with_unfolding_all (repeat (first | exact Up.head _ _ _ _ | apply Up.tail))) fun w12 m12 => ?_
      refine And.intro (fun _ => ?_) (fun h => by simp at h)
      clear m7 m8 m9 m10 m11
      repeat' (first | (with_reducible refine ldM (by assumption) (by with_unfolding_all (repeat (first | exact List.mem_cons_self | refine List.mem_cons_of_mem _ ?_))) (by with_unfolding_all rfl) ?_) | (with_reducible refine ldAM (by assumption) (by with_unfolding_all (repeat (first | exact List.mem_cons_self | refine List.mem_cons_of_mem _ ?_))) ?_) | (with_reducible refine nwZ (by assumption) fun _ _ _ => ?_) | (with_reducible refine nwM' (by assumption) fun _ _ _ => ?_) | (with_reducible refine stM0 (by assumption) (by with_unfolding_all (repeat (first | exact Up.head _ _ _ _ | apply Up.tail))) fun _ _ => ?_) | (with_reducible refine stM1 (by assumption) (by with_unfolding_all (repeat (first | exact Up.head _ _ _ _ | apply Up.tail))) fun _ _ => ?_) | (with_reducible refine stM2 (by assumption) (by with_unfolding_all (repeat (first | exact Up.head _ _ _ _ | apply Up.tail))) fun _ _ => ?_) | (with_reducible refine stM3 (by assumption) (by with_unfolding_all (repeat (first | exact Up.head _ _ _ _ | apply Up.tail))) fun _ _ => ?_) | (with_reducible refine stAM' (by assumption) (by with_unfolding_all (repeat (first | exact Up.head _ _ _ _ | apply Up.tail))) fun _ _ => ?_) | (with_reducible refine stAL (by assumption) (by with_unfolding_all (repeat (first | exact Up.head _ _ _ _ | apply Up.tail))) fun _ _ => ?_) | (with_reducible refine And.intro (fun _ => ?_) (fun _ => ?_)) | (refine stAM' (by assumption) (by with_unfolding_all (repeat (first | exact Up.head _ _ _ _ | apply Up.tail))) fun _ _ => ?_))
      rename_i m15
      exact kof (hK _ m15.low) e
    · rw [if_neg hq] at e ⊢
      refine nwZ m7 fun w8 bx_ m8 => stAM' m8 (by with_unfolding_all (repeat (first | exact Up.head _ _ _ _ | apply Up.tail))) fun w9 m9 => ?_
      replace m9 : M w w9 [(bx_, ivl (if lo = n then n + 1 else lo) (if hi = n then n - 1 else hi)), (b9, ((0, 0, 0, 0, ()) : T4)), (b8, ((0, 0, 0, 0, ()) : T4)), (bb, ivl n n), (ba, ivl lo hi)] := m9
      refine ldAM m9 (by with_unfolding_all (repeat (first | exact List.mem_cons_self | refine List.mem_cons_of_mem _ ?_))) (ldAM m9 (by with_unfolding_all (repeat (first | exact List.mem_cons_self | refine List.mem_cons_of_mem _ ?_))) ?_)
      refine two fun w10 y hb10 hy => ?_
      rw [hy hq]
      have m10 := m9.below hb10
      refine nwZ m10 fun w11 by_ m11 => stAM' m11 (by with_unfolding_all (repeat (first | exact Up.head _ _ _ _ | apply Up.tail))) fun w12 m12 => ?_
      replace m12 : M w w12 [(by_, ivl n n), (bx_, ivl (if lo = n then n + 1 else lo) (if hi = n then n - 1 else hi)), (b9, ((0, 0, 0, 0, ()) : T4)), (b8, ((0, 0, 0, 0, ()) : T4)), (bb, ivl n n), (ba, ivl lo hi)] := m12
      clear m7 m8 m9 m10 m11
      refine And.intro (fun h => by simp at h) (fun _ => And.intro (fun h => by simp at h) (fun _ => ?_))
      exact tailU (K := fun r r1 w => K (r, (r1, (true, ()))) w) (x1 := (0, 0, 0, 0, ())) (x2 := (0, 0, 0, 0, ())) (r := [(by_, ivl n n), (bx_, ivl (if lo = n then n + 1 else lo) (if hi = n then n - 1 else hi)), (b9, ((0, 0, 0, 0, ()) : T4)), (bb, ivl n n), (ba, ivl lo hi)]) m12 (by (repeat (first | exact Del.head _ _ _ | apply Del.tail))) (by with_unfolding_all (repeat (first | exact List.mem_cons_self | refine List.mem_cons_of_mem _ ?_))) (by with_unfolding_all (repeat (first | exact List.mem_cons_self | refine List.mem_cons_of_mem _ ?_))) (by with_unfolding_all (repeat (first | exact List.mem_cons_self | refine List.mem_cons_of_mem _ ?_))) fun w13 hb13 => kof (hK _ hb13) e
  · simp only [decide_eq_false_iff_not] at h2
    refine ⟨fun t w' => M w w' [(b9, ((0, 0, 0, 0, ()) : T4)), (b8, ((0, 0, 0, 0, ()) : T4)), (bb, ivl n n), (ba, ivl lo hi)] ∧ t = decide (op = 14 ∧ is_ = true), ?_, ?_⟩
    · refine And.intro (fun h => ⟨m5, ?_⟩) (fun h => ⟨m5, ?_⟩)
      · have : op = 14 := by simpa using h
        cases is_ <;> simp [this]
      · have : ¬ op = 14 := by simpa using h
        simp [this]
    rintro t w6 ⟨m6, rfl⟩ _
    clear m5
    refine And.intro (fun h3 => ?_) (fun h3 => ?_)
    · simp only [decide_eq_true_eq] at h3
      obtain ⟨rfl, rfl⟩ := h3
      refine ldAM m6 (by with_unfolding_all (repeat (first | exact List.mem_cons_self | refine List.mem_cons_of_mem _ ?_))) (ldAM m6 (by with_unfolding_all (repeat (first | exact List.mem_cons_self | refine List.mem_cons_of_mem _ ?_))) ?_)
      refine spec.l2Below.c (by_ := 1) ⟨hle, hhi, Nat.le_refl _, hn⟩ (by omega) fun w7 hb7 => ?_
      refine tailP (m6.below hb7) _ fun w' hb' => kof (hK w' hb') (bw14t hle).symm
    · simp only [decide_eq_false_iff_not] at h3
      refine ⟨fun t w' => M w w' [(b9, ((0, 0, 0, 0, ()) : T4)), (b8, ((0, 0, 0, 0, ()) : T4)), (bb, ivl n n), (ba, ivl lo hi)] ∧ t = decide (op = 15 ∧ is_ = false), ?_, ?_⟩
      · refine And.intro (fun h => ⟨m6, ?_⟩) (fun h => ⟨m6, ?_⟩)
        · have : op = 15 := by simpa using h
          cases is_ <;> simp [this]
        · have : ¬ op = 15 := by simpa using h
          simp [this]
      rintro t w7 ⟨m7, rfl⟩ _
      clear m6
      refine And.intro (fun h4 => ?_) (fun h4 => And.intro (fun h5 => ?_) (fun h5 => ?_))
      · simp only [decide_eq_true_eq] at h4
        obtain ⟨rfl, rfl⟩ := h4
        refine ldAM m7 (by with_unfolding_all (repeat (first | exact List.mem_cons_self | refine List.mem_cons_of_mem _ ?_))) (ldAM m7 (by with_unfolding_all (repeat (first | exact List.mem_cons_self | refine List.mem_cons_of_mem _ ?_))) ?_)
        refine spec.l2Below.c (by_ := 0) ⟨hle, hhi, Nat.le_refl _, hn⟩ (by omega) fun w8 hb8 => ?_
        refine tailP (m7.below hb8) _ fun w' hb' => kof (hK w' hb') ?_
        rw [← bw15f hle]; simp
      · have h14 : op = 14 := by simpa using h5
        subst h14
        have hf : is_ = false := by cases is_ <;> simp at h3 ⊢
        subst hf
        refine ldAM m7 (by with_unfolding_all (repeat (first | exact List.mem_cons_self | refine List.mem_cons_of_mem _ ?_))) (ldAM m7 (by with_unfolding_all (repeat (first | exact List.mem_cons_self | refine List.mem_cons_of_mem _ ?_))) ?_)
        refine spec.l2Below.c (by_ := 0) ⟨Nat.le_refl _, hn, hle, hhi⟩ (by omega) fun w8 hb8 => ?_
        refine tailS (m7.below hb8) _ fun w' hb' => kof (hK w' hb') ?_
        have e := bw14f (lo := lo) (hi := hi) (n := n) hle
        simp only [Int.natCast_zero, Int.sub_zero, Int.add_zero]
        rw [show (if (hi : Int) < (n : Int) then (hi : Int) else (n : Int)) = (if (n : Int) < (hi : Int) then (n : Int) else (hi : Int)) by split <;> split <;> omega, e]
        rfl
      · simp only [decide_eq_false_iff_not] at h4
        have h14 : ¬ op = 14 := by simpa using h5
        have h15 : op = 15 := by omega
        subst h15
        have hf : is_ = true := by cases is_ <;> simp at h4 ⊢
        subst hf
        refine ldAM m7 (by with_unfolding_all (repeat (first | exact List.mem_cons_self | refine List.mem_cons_of_mem _ ?_))) (ldAM m7 (by with_unfolding_all (repeat (first | exact List.mem_cons_self | refine List.mem_cons_of_mem _ ?_))) ?_)
        refine spec.l2Below.c (by_ := 1) ⟨Nat.le_refl _, hn, hle, hhi⟩ (by omega) fun w8 hb8 => ?_
        refine tailS (m7.below hb8) _ fun w' hb' => kof (hK w' hb') ?_
        have e := bw15t (lo := lo) (hi := hi) (n := n) hle
        show _ = swT (bwT _ _ _ _)
        rw [show ((1 : Nat) : Int) = 1 from rfl, e]
        rfl
end
end Go.Proofs.Ytdlnoabihfnmmaa.V

/- Words for regions that make boxes and fill them; contracts: what a rule leaves of a range. -/
namespace Go.Proofs.Ytdlnoabihfnmmaa.V
open Go Go.RowKit
set_option linter.unusedVariables false
set_option linter.unusedSimpArgs false
section
variable {w0 w w1 w' : World} {l : List (Nat × T4)} {H b b1 b2 : Nat} {y y1 y2 : T4}
theorem gkX {r : Rs} {x : r.T} {v : Value} (hv : v = r.emb x) (h : Below w1.heap.size w1 w') (hH : H ≤ w1.heap.size) : GK r (Sb H (Below H)) w1 (eqG x) v w' :=
  ⟨x, hv, ⟨h.mono hH, h.size, fun b _ hb => h.block b hb⟩, rfl⟩
theorem nwX {cs : Array Value} {t : TypeId} (hH : H ≤ w1.heap.size) : Nw cs t w1 fun a w2 => AXp H t cs (Below H) w1 (.pointer (some a)) w2 :=
  nw fun w2 hb hs hc => ⟨rfl, ⟨hb.mono hH, hb.size, fun b _ h => hb.block b h⟩, by omega, hc⟩
theorem stX {b : Nat} (hH : H ≤ b) (hH2 : H ≤ w1.heap.size) (hc : w1.heap[b]? = some (.cells (zc P0 45) 45 (0, 0))) :
    StA P0 ⟨b, 0, none⟩ (Tup.cells (R 4 (.i .i64)) y) w1 fun w2 => GS (.o (.ag (R 4 (.i .i64)))) (Below H) w1 (eqG y) b 45 w2 := by
  rw [zcRange] at hc
  obtain ⟨w', hr, hg, hsz, hh⟩ := run_storeCells_at' P0 (b := b) (t := 45) (Tup.cells (R 4 (.i .i64)) y) 0 [] (Tup.cells (R 4 (.i .i64)) ((0, 0, 0, 0, ()) : T4)) w1 (oneCell4 y) rfl rfl (by simpa using hc)
  exact ⟨w', hr, y, (Below.refl _ _).grown hg hH2 (fun k hk => by simp only [Option.some.injEq] at hk; omega), ⟨hg.size, fun k hk hne => hg.block k hk (by simpa using hne), (show w'.heap[b]? = some (.cells (Tup.cells (R 4 (.i .i64)) y).toArray 45 (0, 0)) by simpa using hh)⟩, rfl⟩
theorem M.bxd1 (hm : M w0 w l) (hb : Below w.heap.size w w') (h : BxD w.heap.size w' [(b, (Tup.cells (R 4 (.i .i64)) y).toArray, 45)]) : M w0 w' ((b, y) :: l) := by
  have hm' := hm.below hb
  obtain ⟨h1, _⟩ := h
  have hb1 := h1 _ List.mem_cons_self
  simp only at hb1
  refine ⟨hm'.low, fun c z hz => ?_, ?_⟩
  · rcases List.mem_cons.1 hz with e | e
    · simp only [Prod.mk.injEq] at e
      obtain ⟨rfl, rfl⟩ := e
      exact ⟨by have := hm.low.size; omega, hb1.2.1, hb1.2.2⟩
    · exact hm'.box c z e
  · simp only [List.map_cons, List.nodup_cons]
    refine ⟨fun hh => ?_, hm.one⟩
    obtain ⟨p, hp, e⟩ := List.mem_map.1 hh
    have := (hm.box p.1 p.2 hp).2.1
    omega
theorem M.bxd2 (hm : M w0 w l) (hb : Below w.heap.size w w') (h : BxD w.heap.size w' [(b1, (Tup.cells (R 4 (.i .i64)) y1).toArray, 45), (b2, (Tup.cells (R 4 (.i .i64)) y2).toArray, 45)]) : M w0 w' ((b1, y1) :: (b2, y2) :: l) := by
  have hm2 := hm.bxd1 (b := b2) (y := y2) hb ⟨fun x hx => h.1 x (List.mem_cons_of_mem _ hx), (List.nodup_cons.1 (by simpa using h.2)).2⟩
  have hb1 := h.1 _ List.mem_cons_self
  simp only at hb1
  refine ⟨hm2.low, fun c z hz => ?_, ?_⟩
  · rcases List.mem_cons.1 hz with e | e
    · simp only [Prod.mk.injEq] at e
      obtain ⟨rfl, rfl⟩ := e
      exact ⟨by have := hm.low.size; omega, hb1.2.1, hb1.2.2⟩
    · exact hm2.box c z e
  · simp only [List.map_cons, List.nodup_cons, List.mem_cons, not_or]
    refine ⟨⟨?_, fun hh => ?_⟩, List.nodup_cons.1 hm2.one⟩
    · have := h.2
      simp only [List.map_cons, List.map_nil, List.nodup_cons, List.mem_singleton] at this
      exact this.1
    · obtain ⟨p, hp, e⟩ := List.mem_map.1 hh
      have := (hm.box p.1 p.2 hp).2.1
      omega
end
section
variable {w : World}
theorem keptE {α : Type} {v : α} {Sp : World → World → Prop} : Kept Sp (eqG v) := fun _ _ _ h _ => h
/-- What a rule leaves of a range. -/
theorem spec.l9Range.c {x : Rule} {lo hi : Nat} {is_ : Bool} {K : T4 × Bool × Unit → World → Prop} (ho : 12 ≤ x.op ∧ x.op ≤ 15) (hn : 0 ≤ x.num ∧ x.num ≤ 255) (hle : lo ≤ hi) (hhi : hi < 2 ^ 31)
    (hK : ∀ w', Below w.heap.size w w' → K ((brT x.op lo hi x.num.toNat is_).1, (brN x.op lo hi x.num.toNat is_).isSome, ()) w') :
    CallT (.n [(.ag (R 4 (.i .i64))), (.lf .b)]) P0 25 [.agg (Tup.cells (R 5 (.i .i64)) x.t).toArray, .agg (Tup.cells (R 4 (.i .i64)) (ivl lo hi)).toArray, .bool is_] w K := by
  refine spec.l9Range.ok ?_
  unfold spec.l9Range.vc
  obtain ⟨n, hn'⟩ : ∃ n : Nat, x.num = n := ⟨x.num.toNat, by omega⟩
  have hn2 : x.num.toNat = n := by omega
  rw [hn2] at hK
  refine nw fun w1 hb1 hs1 hc1 => ?_
  have hm := M.start w1
  refine nwM' hm fun w2 bw m2 => nwZ m2 fun w3 b6 m3 => ?_
  clear m2 hm
  have hx : w3.heap[w.heap.size]? = some (.cells (Tup.cells (R 5 (.i .i64)) x.t).toArray 48 (0, 0)) := (m3.low.block _ (by omega)).trans hc1
  have hlt : w.heap.size < w3.heap.size := by have := m3.low.size; omega
  refine ⟨Below w3.heap.size, belOk _, eqG x.op, keptE, eqG (ivl lo hi), keptE, eqG (n : Int), keptE, eqG (ivl n n), keptE, eqG (brT x.op lo hi n is_), keptE, eqG (brT x.op lo hi n is_).1, keptE, eqG (brT x.op lo hi n is_).2.1, keptE, ?_⟩
  refine ⟨fun w4 hs => ?_, fun t13 => ⟨fun w4 hs => ?_, fun t14 => ⟨fun w4 hs => ?_, fun t16 => ⟨fun w4 hs f => ?_, fun t17 => ⟨fun w4 hs f13 f14 f17 => ?_, fun t19 => ⟨fun w4 hs => nwX hs.size, fun out => ⟨fun w4 hs => nwX hs.size, fun t9 => ⟨fun w4 hs f19 h1 h2 => ?_, fun st => ⟨fun w4 hs f19 h1 h2 => ?_, fun st1 w4 hs f13 f14 f16 f17 f19 g1 g2 hbx => ?_⟩⟩⟩⟩⟩⟩⟩⟩⟩
  · exact ldB ((hs.block _ hlt).trans hx) (j := 1) (x := x.op) rfl (gkX rfl (Below.refl _ _) hs.size)
  · exact ldAM (m3.below hs) (by with_unfolding_all (repeat (first | exact List.mem_cons_self | refine List.mem_cons_of_mem _ ?_))) (gkX rfl (Below.refl _ _) hs.size)
  · exact ldB ((hs.block _ hlt).trans hx) (j := 2) (x := (n : Int)) (by rw [← hn']; rfl) (gkX rfl (Below.refl _ _) hs.size)
  · cases f
    refine spec.l2One.c fun w5 hb5 => gkX ?_ hb5 hs.size
    rw [ivl_one]; rfl
  · cases f13; cases f14; cases f17
    exact spec.l2Branch.c ho hle hhi (by omega) fun w5 hb5 => gkX rfl hb5 hs.size
  · cases f19; exact stX h1 hs.size h2
  · cases f19; exact stX h1 hs.size h2
  · cases f19; cases g1; cases g2
    have m4 := m3.bxd2 hs hbx
    clear m3
    refine ldAM m4 (by with_unfolding_all (repeat (first | exact List.mem_cons_self | refine List.mem_cons_of_mem _ ?_))) (stAM' m4 (by with_unfolding_all (repeat (first | exact Up.head _ _ _ _ | apply Up.tail))) fun w5 m5 => ldAM m5 (by with_unfolding_all (repeat (first | exact List.mem_cons_self | refine List.mem_cons_of_mem _ ?_))) ?_)
    refine kof (hK w5 (hb1.trans (m5.low.mono hb1.size))) ?_
    rw [← brT_ok]
end
end Go.Proofs.Ytdlnoabihfnmmaa.V

/- A part of a row is copied over another part of a row. -/
namespace Go.Proofs.Ytdlnoabihfnmmaa.V
open Go Go.RowKit
set_option linter.unusedVariables false
set_option linter.unusedSimpArgs false
section
variable {α : Type} {k : Kd α} {t : TypeId} {B : Nat} {w : World} {s : Sl} {xs : List α}
theorem mul_part {L p i n : Nat} (h : i < n) {j : Nat} (hj : j < L) : p * L + (i * L + j) < (p + n) * L := by
  have h1 : (i + 1) * L ≤ n * L := Nat.mul_le_mul_right _ h
  rw [Nat.succ_mul] at h1
  rw [Nat.add_mul]; omega
/-- Elements are copied over those from a place on. -/
theorem copyW {P : Program} {dT sT e ty : TypeId} (hu : P.underlying dT = some (.slice e)) (hs : szOf P e = some k.ls.length) (h1 : ∀ l ∈ k.ls, l ≠ .any) (h0 : 0 < k.ls.length) (h : WrS k t B w s xs) {p : Nat} {d : Sl} (hda : d.a = s.a.map (·.add (p * k.ls.length))) (hdn : d.n = xs.length - p) (hp : p < xs.length) {x : Sl} {ys : List α} (hx : SlR k w x ys) (hy : ys ≠ [])
    {zs : List α} (hzl : zs.length = xs.length) (hz : ∀ i, i < xs.length → zs[i]? = if p ≤ i ∧ i - p < min ys.length (xs.length - p) then ys[i - p]? else xs[i]?) {K : Int → World → Prop}
    (hK : ∀ w', WrS k t B w' s zs → w.grownBy w' s.bk → w'.heap.size = w.heap.size → K ((min ys.length (xs.length - p) : Nat) : Int) w') :
    RunT (.o (.lf (.i .i64))) P (Builtin.copy_ #[dT, sT] ty #[d.v, x.v]) w K := by
  obtain ⟨y0, hy0⟩ := get_some (l := xs) (k := xs.length - 1) (by omega)
  obtain ⟨b, o, cur, ha, hB, hg, hc, hcs⟩ := h.at hy0 h0
  obtain ⟨b2, o2, ha2, hat⟩ : ∃ b o, x.a = some ⟨b, o, none⟩ ∧ ∀ i x, ys[i]? = some x → At w b (o + i * k.ls.length) (k.cells x) := by
    rcases hx.2.2.2 with h' | h'
    · exact absurd h' hy
    · exact h'
  generalize hn : min ys.length (xs.length - p) = n at *
  have hn1 : n ≤ ys.length := by omega
  have hn2 : p + n ≤ xs.length := by omega
  have hcl : ((ys.take n).flatMap k.cells).length = n * k.ls.length := by rw [flat_length, List.length_take, Nat.min_eq_left hn1]
  have hsrc : ∀ j v, ((ys.take n).flatMap k.cells)[j]? = some v → w.cell? ((⟨b2, o2, none⟩ : Addr).add j) = some v := by
    intro j u hu
    have hjl := lt_of_get hu
    rw [hcl] at hjl
    have hq : j / k.ls.length < n := Nat.div_lt_of_lt_mul (by rw [Nat.mul_comm]; exact hjl)
    have hr : j % k.ls.length < k.ls.length := Nat.mod_lt _ h0
    have hy : ys[j / k.ls.length]? = some (ys[j / k.ls.length]'(by omega)) := List.getElem?_eq_getElem _
    have hy' : (ys.take n)[j / k.ls.length]? = some (ys[j / k.ls.length]'(by omega)) := by rw [List.getElem?_take, if_pos hq, hy]
    have hv : (k.cells (ys[j / k.ls.length]'(by omega)))[j % k.ls.length]? = some ((k.cells (ys[j / k.ls.length]'(by omega)))[j % k.ls.length]'(by rw [k.cells_length]; exact hr)) := List.getElem?_eq_getElem _
    have h1 := flat_get k (ys.take n) _ _ hy' _ _ hv
    have hj : j / k.ls.length * k.ls.length + j % k.ls.length = j := by rw [Nat.mul_comm]; exact Nat.div_add_mod _ _
    rw [hj, hu] at h1
    simp only [Option.some.injEq] at h1
    have h2 := hat _ _ hy _ _ hv
    rw [← h1, Nat.add_assoc, hj] at h2
    rw [add_mk]
    exact h2
  have hone : ∀ u ∈ (ys.take n).flatMap k.cells, u.oneCell' = true := by
    intro u hu
    obtain ⟨y, _, hy⟩ := List.mem_flatMap.1 hu
    exact oneCell_cells k h1 y u hy
  have hfit : o + p * k.ls.length + 0 + ((ys.take n).flatMap k.cells).length ≤ cur.size := by
    rw [hcl]
    have h2 : (p + n) * k.ls.length ≤ xs.length * k.ls.length := Nat.mul_le_mul_right _ hn2
    rw [Nat.add_mul] at h2
    have h3 : (xs.length - 1) * k.ls.length + k.ls.length = xs.length * k.ls.length := by rw [← Nat.succ_mul]; congr 1; omega
    omega
  obtain ⟨w', cur', hr, hgr, hss, hh, hin, hout⟩ := run_storeCells_in P (o + p * k.ls.length) ((ys.take n).flatMap k.cells) 0 cur w hone hfit hg
  have hl := run_loadCells_list (P := P) w ⟨b2, o2, none⟩ ((ys.take n).flatMap k.cells) hsrc
  rw [hcl] at hl hout
  have hxn := hx.1
  have hrun : (Builtin.copy_ #[dT, sT] ty #[d.v, x.v]).run P w = .ok (goInt n) w' := by
    simp [Builtin.copy_, run_underlying hu, Builtin.lenOf, Builtin.firstCells, run_sizeOf hs, Sl.v, hda, hdn, ha, ha2, hxn, hn, hl, add_mk, hr]
  refine ⟨(n : Int), w', hrun, hK w' ⟨by rw [hzl]; exact h.1, h.2.1, h.2.2.1, .inr ⟨b, o, cur', ha, hB, hh, ?_⟩⟩ (by simpa [Sl.bk, ha] using hgr) hss⟩
  intro i z hi j v hj
  have hil := lt_of_get hi
  have hjl := lt_of_get hj
  rw [k.cells_length] at hjl
  rw [hz i (by omega)] at hi
  split at hi
  · rename_i hc2
    have hf := flat_get k (ys.take n) (i - p) z (by rw [List.getElem?_take, if_pos hc2.2]; exact hi) j v hj
    have := hin _ _ hf
    have e : o + p * k.ls.length + 0 + ((i - p) * k.ls.length + j) = o + i * k.ls.length + j := by
      have : p * k.ls.length + (i - p) * k.ls.length = i * k.ls.length := by rw [← Nat.add_mul]; congr 1; omega
      omega
    rw [e] at this
    exact this
  · rename_i hc2
    rw [hout _ ?_]
    · exact hc _ _ hi _ _ hj
    · rcases Nat.lt_or_ge i p with hlt | hge
      · have := idx_apart hlt hjl
        left; omega
      · right
        have : (p + n) * k.ls.length ≤ i * k.ls.length := Nat.mul_le_mul_right _ (by omega)
        rw [Nat.add_mul] at this
        omega
end
end Go.Proofs.Ytdlnoabihfnmmaa.V

/- Verification conditions, printed by this session's own program (wip/vc.py) and checked by the kernel. -/
namespace Go.Proofs.Ytdlnoabihfnmmaa.V
open Go Go.RowKit
set_option linter.unusedVariables false
/- slices.Repeat[[]impl.Range,impl.Range] -/
def slices.Repeat_Range.pl : Pl := (.s (.r (D 1)) (.j [] (.s (.r (D 2)) (.c (.r (D 2)) .z)) (.s (.r [.d, .d, .d, .d, .d, (.c (.n [(.lf (.i .u64)), (.lf (.i .u64))])), .d, .d, .d, .d, .d]) (.j [] (.s (.r [.d, .d, (.sp .d), .d, .d, .d]) (.c (.r (D 2)) .z)) (.s (.r [.d, .d, (.t (.o (.lf .sl))), .d]) (.s (.r [.d, .d, (.t (.o (.lf (.i .i64)))), .d]) (.s (.b (.l [(8, (.i .i64))] (.s (.s (.r (D 4)) (.c .z .z)) (.b (.g [(.q, []), (.q, []), (.q, []), ((.g (.o (.lf .sl)) (.t (.o (.lf .sl)))), []), (.q, []), (.q, []), ((.g (.o (.lf .sl)) (.t (.o (.lf .sl)))), []), ((.g (.o (.lf (.i .i64))) (.t (.o (.lf (.i .i64))))), [3, 6]), (.q, [7]), (.q, [7])] []))))) (.s (.r (D 2)) .z))))))))
def slices.Repeat_Range.vc (x : Sl) (count : Int) (w : World) (K : Sl → World → Prop) : Prop :=
∃ J : World → Prop,
(((decide ((count : Int) < 0)) = true → False) ∧
((decide ((count : Int) < 0)) = false → J w)) ∧
(∀  w_, J w_ → ∀ _ : Nat → Value,
CallT (.n [(.lf (.i .u64)), (.lf (.i .u64))]) P0 39 [(.int .u64 (IntKind.wrap .u64 ((x.n : Nat) : Int))), (.int .u64 (IntKind.wrap .u64 count))] w_ fun (t18 : (Int) × (Int) × Unit) w__1 =>
∃ J_1 : World → Prop,
(((decide ((t18.1 : Int) > 0)) = true → False) ∧
((decide ((t18.1 : Int) > 0)) = false → ((decide ((t18.2.1 : Int) > 9223372036854775807)) = true → False) ∧
((decide ((t18.2.1 : Int) > 9223372036854775807)) = false → J_1 w__1))) ∧
(∀  w__2, J_1 w__2 → ∀ _ : Nat → Value,
RunT (.o (.lf .sl)) P0 (Instr.makeSlice 42 (.int .i64 (IntKind.wrap .i64 t18.2.1)) (.int .i64 (IntKind.wrap .i64 t18.2.1))) w__2 fun (t30 : Sl) w__3 =>
RunT (.o (.lf (.i .i64))) P0 (Builtin.copy_ #[42, 42] 3 #[t30.v, x.v]) w__3 fun (t33 : Int) w__4 =>
∃ (I : Int → World → Prop) (M : Int → World → Nat),
I t33 w__4 ∧
(∀ (n : Int) w__5, I n w__5 → ∀ _ : Nat → Value,
((decide ((n : Int) < ((t30.n : Nat) : Int))) = true → ∃ Sp : World → World → Prop, SpOk Sp w__5 ∧
∃ G_t41 : Sl → World → Prop, Kept Sp G_t41 ∧
∃ G_t44 : Sl → World → Prop, Kept Sp G_t44 ∧
∃ G_t45 : Int → World → Prop, Kept Sp G_t45 ∧
(∀ w__6, Sp w__5 w__6 → RunT (.o (.lf .sl)) P0 (Instr.sliceAt 42 t30.v (some (.int .i64 n)) none none) w__6 fun (t41 : Sl) w__7 =>
GK (.o (.lf .sl)) Sp w__6 G_t41 t41.v w__7) ∧
∀ (t41_1 : Sl), (∀ w__8, Sp w__5 w__8 → RunT (.o (.lf .sl)) P0 (Instr.sliceAt 42 t30.v none (some (.int .i64 n)) none) w__8 fun (t44 : Sl) w__9 =>
GK (.o (.lf .sl)) Sp w__8 G_t44 t44.v w__9) ∧
∀ (t44_1 : Sl), (∀ w__10, Sp w__5 w__10 → G_t41 t41_1 w__10 → G_t44 t44_1 w__10 → RunT (.o (.lf (.i .i64))) P0 (Builtin.copy_ #[42, 42] 3 #[t41_1.v, t44_1.v]) w__10 fun (t45 : Int) w__11 =>
GK (.o (.lf (.i .i64))) Sp w__10 G_t45 (.int .i64 t45) w__11) ∧
∀ (t45_1 : Int), ∀ w__12, Sp w__5 w__12 → G_t41 t41_1 w__12 → G_t44 t44_1 w__12 → G_t45 t45_1 w__12 → 
(I (IntKind.wrap .i64 (n + t45_1)) w__12 ∧ M (IntKind.wrap .i64 (n + t45_1)) w__12 < M n w__5)) ∧
((decide ((n : Int) < ((t30.n : Nat) : Int))) = false → K t30 w__5))))
theorem slices.Repeat_Range.ok {x : Sl} {count : Int} {w : World} {K : Sl → World → Prop} (h : slices.Repeat_Range.vc x count w K) : CallT (.o (.lf .sl)) P0 19 [x.v, (.int .i64 count)] w K :=
  call_of Try.func19 rfl rfl (pl := slices.Repeat_Range.pl) (show VC P0 Try.f19 slices.Repeat_Range.pl (.o (.lf .sl)) [x.v, (.int .i64 count)] w K noP from Eq.mp (by kernel_rfl) h)
/- spec.l4Bytes -/
def spec.l4Bytes.pl : Pl := (.s (.r (D 1)) (.s (.r (D 2)) (.s (.s (.r (D 1)) (.b (.l [(0, (.i .i64)), (5, .sl), (6, (.i .i64))] (.s (.s (.r (D 3)) (.c .z .z)) (.s (.b (.s (.r [.d, .d, .d, .d, .d, (.t (.o (.lf .sl))), .d]) (.r (D 3)))) (.r (D 3))))))) (.s (.r [.d, (.t (.o (.lf .s))), .d]) .z))))
def spec.l4Bytes.vc (n : Int) (size : Int) (w : World) (K : ByteArray → World → Prop) : Prop :=
Nw #[] 5 w fun a_t7 w_ =>
∃ (I : Int → Sl → Int → World → Prop) (M : Int → Sl → Int → World → Nat),
I n ⟨(some a_t7), 0, 0⟩ 0 w_ ∧
(∀ (n_1 : Int) (out : Sl) (i : Int) w__1, I n_1 out i w__1 → ∀ _ : Nat → Value,
((decide ((i : Int) < size)) = true → Nw #[(.int .u8 (IntKind.wrap .u8 (iAnd .i64 n_1 255)))] 5 w__1 fun a_t17 w__2 =>
RunT (.o (.lf .sl)) P0 (Builtin.append_ #[22, 22] 22 #[out.v, (.slice (some a_t17) 1 1)]) w__2 fun (t18 : Sl) w__3 =>
(0 : Int) ≤ 8 ∧ (I (Int.fdiv n_1 (2 ^ (min (Int.toNat 8) (IntKind.bits .i64)))) t18 (IntKind.wrap .i64 (i + 1)) w__3 ∧ M (Int.fdiv n_1 (2 ^ (min (Int.toNat 8) (IntKind.bits .i64)))) t18 (IntKind.wrap .i64 (i + 1)) w__3 < M n_1 out i w__1)) ∧
((decide ((i : Int) < size)) = false → RunT (.o (.lf .s)) P0 (convert 22 9 out.v) w__1 fun (t22 : ByteArray) w__4 =>
K t22 w__4))
theorem spec.l4Bytes.ok {n : Int} {size : Int} {w : World} {K : ByteArray → World → Prop} (h : spec.l4Bytes.vc n size w K) : CallT (.o (.lf .s)) P0 94 [(.int .i64 n), (.int .i64 size)] w K :=
  call_of Try.func94 rfl rfl (pl := spec.l4Bytes.pl) (show VC P0 Try.f94 spec.l4Bytes.pl (.o (.lf .s)) [(.int .i64 n), (.int .i64 size)] w K noP from Eq.mp (by kernel_rfl) h)
/- spec.l3Zero -/
def spec.l3Zero.pl : Pl := (.s (.r (D 1)) (.s (.r [.d, (.t (.o (.lf .sl))), (.t (.o (.lf .s))), .d]) .z))
def spec.l3Zero.vc (n : Int) (w : World) (K : ByteArray → World → Prop) : Prop :=
RunT (.o (.lf .sl)) P0 (Instr.makeSlice 22 (.int .i64 n) (.int .i64 n)) w fun (t4 : Sl) w_ =>
RunT (.o (.lf .s)) P0 (convert 22 9 t4.v) w_ fun (t5 : ByteArray) w__1 =>
K t5 w__1
theorem spec.l3Zero.ok {n : Int} {w : World} {K : ByteArray → World → Prop} (h : spec.l3Zero.vc n w K) : CallT (.o (.lf .s)) P0 128 [(.int .i64 n)] w K :=
  call_of Try.func128 rfl rfl (pl := spec.l3Zero.pl) (show VC P0 Try.f128 spec.l3Zero.pl (.o (.lf .s)) [(.int .i64 n)] w K noP from Eq.mp (by kernel_rfl) h)
/- spec.l3Shape -/
def spec.l3Shape.pl : Pl := (.s (.r (D 2)) (.s (.r [.d, (.l (.lf (.i .i64))), (.c (.o (.lf .b))), (.sp .d), .d, (.l (.lf (.i .i64))), (.c (.o (.lf .b))), .d, (.sp .d), .d, (.l (.lf (.i .i64))), (.c (.o (.lf .b))), .d, (.sp .d), .d, (.l (.lf .sl)), .d, .d, (.l (.lf .sl)), .d, .d, .d, (.sp .d), .d, (.l (.lf .sl)), .d, .d, (.l (.lf (.i .i64))), .d, .d, .d]) .z))
def spec.l3Shape.vc (m : Tup [(.i .i64), (.i .i64), (.i .i64), .sl, .sl]) (w : World) (K : Bool → World → Prop) : Prop :=
Nw (Tup.cells [(.i .i64), (.i .i64), (.i .i64), .sl, .sl] m).toArray 107 w fun a_m w_ =>
Ld (.i .i64) (Addr.add a_m 0) w_ fun (t4 : Int) w__1 =>
CallT (.o (.lf .b)) P0 67 [(.int .i64 t4), (.int .i64 1), (.int .i64 2)] w__1 fun (t5 : Bool) w__2 =>
(t5 = true → Ld (.i .i64) (Addr.add a_m 1) w__2 fun (t8 : Int) w__3 =>
CallT (.o (.lf .b)) P0 67 [(.int .i64 t8), (.int .i64 1), (.int .i64 8)] w__3 fun (t9 : Bool) w__4 =>
(t9 = true → Ld (.i .i64) (Addr.add a_m 2) w__4 fun (t13 : Int) w__5 =>
CallT (.o (.lf .b)) P0 67 [(.int .i64 t13), (.int .i64 1), (.int .i64 8)] w__5 fun (t14 : Bool) w__6 =>
(t14 = true → Ld .sl (Addr.add a_m 3) w__6 fun (t18 : Sl) w__7 =>
Ld .sl (Addr.add a_m 4) w__7 fun (t21 : Sl) w__8 =>
(((((t18.n : Nat) : Int) : Int) == ((t21.n : Nat) : Int)) = true → Ld .sl (Addr.add a_m 3) w__8 fun (t27 : Sl) w__9 =>
Ld (.i .i64) (Addr.add a_m 2) w__9 fun (t30 : Int) w__10 =>
K (decide ((((t27.n : Nat) : Int) : Int) ≤ t30)) w__10) ∧
(((((t18.n : Nat) : Int) : Int) == ((t21.n : Nat) : Int)) = false → K false w__8)) ∧
(t14 = false → K false w__6)) ∧
(t9 = false → K false w__4)) ∧
(t5 = false → K false w__2)
theorem spec.l3Shape.ok {m : Tup [(.i .i64), (.i .i64), (.i .i64), .sl, .sl]} {w : World} {K : Bool → World → Prop} (h : spec.l3Shape.vc m w K) : CallT (.o (.lf .b)) P0 129 [(.agg (Tup.cells [(.i .i64), (.i .i64), (.i .i64), .sl, .sl] m).toArray)] w K :=
  call_of Try.func129 rfl rfl (pl := spec.l3Shape.pl) (show VC P0 Try.f129 spec.l3Shape.pl (.o (.lf .b)) [(.agg (Tup.cells [(.i .i64), (.i .i64), (.i .i64), .sl, .sl] m).toArray)] w K noP from Eq.mp (by kernel_rfl) h)
/- spec.l3Ok -/
def spec.l3Ok.pl : Pl := (.s (.r (D 2)) (.j [] (.s (.r [(.l (.ag [(.i .i64), (.i .i64), (.i .i64), .sl, .sl])), (.c (.o (.lf .b))), .d, (.sp .d), .d, (.l (.lf (.i .i64))), .d, (.sp .d), .d, (.l (.lf .sl)), .d, .d, (.l (.lf (.i .i64))), .d, .d, .d]) (.c (.s (.r (D 1)) .z) .z)) (.s (.s (.r (D 1)) (.b (.l [(3, (.i .i64))] (.s (.s (.r [.d, .d, (.l (.lf .sl)), .d, .d]) (.c .z .z)) (.s (.b (.j [] (.s (.r [.d, (.l (.lf .sl)), .d, .d, (.l (.lf .s)), .d, .d, (.l (.lf (.i .i64))), .d, (.sp .d), .d, (.l (.lf .sl)), .d, .d, (.l (.lf (.i .i64))), (.c (.o (.lf (.i .i64)))), (.c (.o (.lf .b))), .d, .d, (.sp .d), .d, (.l (.lf (.i .i64))), .d, (.sp .d), .d, (.l (.lf .sl)), .d, .d, (.l (.lf (.i .i64))), .d, .d, .d, .d]) (.c (.s (.r (D 1)) .z) .z)) (.s (.r (D 1)) (.b (.l [(4, (.i .i64))] (.s (.s (.r (D 3)) (.c .z .z)) (.s (.b (.s (.r [.d, (.l (.lf .sl)), .d, .d, (.l (.lf (.i .i64))), .d, (.l (.lf .sl)), .d, .d, (.l (.lf (.i .i64))), .d]) (.c (.s (.r (D 1)) .z) .z))) (.r (D 3))))))))) (.r (D 3))))))) (.s (.r (D 1)) .z))))
def spec.l3Ok.vc (m : Tup [(.i .i64), (.i .i64), (.i .i64), .sl, .sl]) (w : World) (K : Bool → World → Prop) : Prop :=
Nw (Tup.cells [(.i .i64), (.i .i64), (.i .i64), .sl, .sl] m).toArray 107 w fun a_m w_ =>
∃ J : World → Prop,
(LdA [(.i .i64), (.i .i64), (.i .i64), .sl, .sl] a_m w_ fun (t5 : Tup [(.i .i64), (.i .i64), (.i .i64), .sl, .sl]) w__1 =>
CallT (.o (.lf .b)) P0 129 [(.agg (Tup.cells [(.i .i64), (.i .i64), (.i .i64), .sl, .sl] t5).toArray)] w__1 fun (t6 : Bool) w__2 =>
((!t6) = true → K false w__2) ∧
((!t6) = false → Ld (.i .i64) (Addr.add a_m 0) w__2 fun (t10 : Int) w__3 =>
(((t10 : Int) == 1) = true → Ld .sl (Addr.add a_m 3) w__3 fun (t14 : Sl) w__4 =>
Ld (.i .i64) (Addr.add a_m 2) w__4 fun (t17 : Int) w__5 =>
(((((t14.n : Nat) : Int) : Int) != t17) = true → K false w__5) ∧
(((((t14.n : Nat) : Int) : Int) != t17) = false → J w__5)) ∧
(((t10 : Int) == 1) = false → J w__3))) ∧
(∀  w__6, J w__6 → ∀ _ : Nat → Value,
∃ (I : Int → World → Prop) (M : Int → World → Nat),
I 0 w__6 ∧
(∀ (i : Int) w__7, I i w__7 → ∀ _ : Nat → Value,
Ld .sl (Addr.add a_m 3) w__7 fun (t23 : Sl) w__8 =>
((decide ((i : Int) < ((t23.n : Nat) : Int))) = true → ∃ J_1 : World → Prop,
(QLd .sl (Addr.add a_m 4) (fun w' => Below (World.heap w__8).size w__8 w') fun (t29 : Sl) =>
QIx t29.a t29.n i 1 fun a_t31 =>
QLd .s a_t31 (fun w' => Below (World.heap w__8).size w__8 w') fun (t32 : ByteArray) =>
QLd (.i .i64) (Addr.add a_m 1) (fun w' => Below (World.heap w__8).size w__8 w') fun (t35 : Int) =>
((((((ByteArray.size t32) : Nat) : Int) : Int) != t35) = true → ∀ w__9, Below (World.heap w__8).size w__8 w__9 →
K false w__9) ∧
((((((ByteArray.size t32) : Nat) : Int) : Int) != t35) = false → QLd .sl (Addr.add a_m 3) (fun w' => Below (World.heap w__8).size w__8 w') fun (t39 : Sl) =>
QIx t39.a t39.n i 1 fun a_t41 =>
QLd (.i .i64) a_t41 (fun w' => Below (World.heap w__8).size w__8 w') fun (t42 : Int) =>
QCl (.o (.lf (.i .i64))) P0 48 [] (fun w' => Below (World.heap w__8).size w__8 w') fun (t43 : Int) =>
QCl (.o (.lf .b)) P0 67 [(.int .i64 t42), (.int .i64 0), (.int .i64 t43)] (fun w' => Below (World.heap w__8).size w__8 w') fun (t44 : Bool) =>
((!t44) = true → ∀ w__9, Below (World.heap w__8).size w__8 w__9 →
K false w__9) ∧
((!t44) = false → QLd (.i .i64) (Addr.add a_m 0) (fun w' => Below (World.heap w__8).size w__8 w') fun (t49 : Int) =>
(((t49 : Int) == 1) = true → QLd .sl (Addr.add a_m 3) (fun w' => Below (World.heap w__8).size w__8 w') fun (t53 : Sl) =>
QIx t53.a t53.n i 1 fun a_t55 =>
QLd (.i .i64) a_t55 (fun w' => Below (World.heap w__8).size w__8 w') fun (t56 : Int) =>
∀ w__9, Below (World.heap w__8).size w__8 w__9 →
(((t56 : Int) != i) = true → K false w__9) ∧
(((t56 : Int) != i) = false → J_1 w__9)) ∧
(((t49 : Int) == 1) = false → ∀ w__9, Below (World.heap w__8).size w__8 w__9 →
J_1 w__9)))) ∧
(∀  w__10, J_1 w__10 → ∀ _ : Nat → Value,
∃ (I_1 : Int → World → Prop) (M_1 : Int → World → Nat),
I_1 0 w__10 ∧
(∀ (k : Int) w__11, I_1 k w__11 → ∀ _ : Nat → Value,
((decide ((k : Int) < i)) = true → QLd .sl (Addr.add a_m 3) (fun w' => Below (World.heap w__11).size w__11 w') fun (t67 : Sl) =>
QIx t67.a t67.n k 1 fun a_t69 =>
QLd (.i .i64) a_t69 (fun w' => Below (World.heap w__11).size w__11 w') fun (t70 : Int) =>
QLd .sl (Addr.add a_m 3) (fun w' => Below (World.heap w__11).size w__11 w') fun (t72 : Sl) =>
QIx t72.a t72.n i 1 fun a_t74 =>
QLd (.i .i64) a_t74 (fun w' => Below (World.heap w__11).size w__11 w') fun (t75 : Int) =>
∀ w__12, Below (World.heap w__11).size w__11 w__12 →
(((t70 : Int) == t75) = true → K false w__12) ∧
(((t70 : Int) == t75) = false → (I_1 (IntKind.wrap .i64 (k + 1)) w__12 ∧ M_1 (IntKind.wrap .i64 (k + 1)) w__12 < M_1 k w__11))) ∧
((decide ((k : Int) < i)) = false → (I (IntKind.wrap .i64 (i + 1)) w__11 ∧ M (IntKind.wrap .i64 (i + 1)) w__11 < M i w__7))))) ∧
((decide ((i : Int) < ((t23.n : Nat) : Int))) = false → K true w__8)))
theorem spec.l3Ok.ok {m : Tup [(.i .i64), (.i .i64), (.i .i64), .sl, .sl]} {w : World} {K : Bool → World → Prop} (h : spec.l3Ok.vc m w K) : CallT (.o (.lf .b)) P0 105 [(.agg (Tup.cells [(.i .i64), (.i .i64), (.i .i64), .sl, .sl] m).toArray)] w K :=
  call_of Try.func105 rfl rfl (pl := spec.l3Ok.pl) (show VC P0 Try.f105 spec.l3Ok.pl (.o (.lf .b)) [(.agg (Tup.cells [(.i .i64), (.i .i64), (.i .i64), .sl, .sl] m).toArray)] w K noP from Eq.mp (by kernel_rfl) h)
/- spec.l3New -/
def spec.l3New.pl : Pl := (.s (.r (D 1)) (.s (.r (D 6)) (.s (.s (.r (D 2)) (.c (.s (.r (D 1)) (.b (.l [(8, (.i .i64))] (.s (.s (.r (D 3)) (.c .z .z)) (.s (.b (.s (.r [.d, (.l (.lf .sl)), .d, .d, (.t (.o (.lf .sl))), .d, .d]) (.x [(.q, []), ((.g (.o (.lf .sl)) (.l (.lf .sl))), []), (.q, []), ((.g (.o (.lf .s)) (.c (.o (.lf .s)))), []), ((.g (.o (.lf .sl)) .d), [3]), ((.h (.o (.lf .sl)) (.t (.o (.lf .sl)))), [1, 4]), (.q, [])] [.d]))) (.r (D 3))))))) .z)) (.s (.r [(.l (.ag [(.i .i64), (.i .i64), (.i .i64), .sl, .sl])), .d]) .z))))
def spec.l3New.vc (kind : Int) (size : Int) (room : Int) (w : World) (K : Tup [(.i .i64), (.i .i64), (.i .i64), .sl, .sl] → World → Prop) : Prop :=
Nw (zc P0 107) 107 w fun a_t6 w_ =>
Nw (zc P0 107) 107 w_ fun a_m w__1 =>
StA P0 a_m [(.int .i64 kind), (.int .i64 size), (.int .i64 room), (.slice none 0 0), (.slice none 0 0)] w__1 fun w__2 =>
(((kind : Int) == 1) = true → ∃ (I : Int → World → Prop) (M : Int → World → Nat),
I 0 w__2 ∧
(∀ (i : Int) w__3, I i w__3 → ∀ _ : Nat → Value,
((decide ((i : Int) < room)) = true → Ld .sl (Addr.add a_m 3) w__3 fun (t21 : Sl) w__4 =>
Nw #[(.int .i64 i)] 3 w__4 fun a_t23 w__5 =>
RunT (.o (.lf .sl)) P0 (Builtin.append_ #[59, 59] 59 #[t21.v, (.slice (some a_t23) 1 1)]) w__5 fun (t24 : Sl) w__6 =>
St (Addr.add a_m 3) t24.v w__6 fun w__7 =>
∃ Sp : World → World → Prop, SpOk Sp w__7 ∧
∃ Sq : World → World → Prop, QOk Sp Sq ∧
∃ N : World → Prop, NOk N w__7 ∧ KeptN Sq N ∧
∃ G_t27 : Sl → World → Prop, Kept Sp G_t27 ∧
∃ G_t29 : ByteArray → World → Prop, Kept Sp G_t29 ∧
∃ G_t30 : Sl → World → Prop, Kept Sp G_t30 ∧
∃ G_t31 : Sl → World → Prop, Kept Sq G_t31 ∧
(∀ w__8, Sp w__7 w__8 → Ld .sl (Addr.add a_m 4) w__8 fun (t27 : Sl) w__9 =>
GK (.o (.lf .sl)) (Sb (World.heap w__7).size Sq) w__8 G_t27 t27.v w__9) ∧
∀ (t27_1 : Sl), (∀ w__10, Sp w__7 w__10 → CallT (.o (.lf .s)) P0 128 [(.int .i64 size)] w__10 fun (t29 : ByteArray) w__11 =>
GK (.o (.lf .s)) (Sb (World.heap w__7).size Sq) w__10 G_t29 (.string t29) w__11) ∧
∀ (t29_1 : ByteArray), (∀ w__12, Sp w__7 w__12 → G_t29 t29_1 w__12 → Nw #[(.string t29_1)] 9 w__12 fun a_t30 w__13 =>
GK (.o (.lf .sl)) (Sb (World.heap w__7).size Sq) w__12 G_t30 (.slice (some a_t30) 1 1) w__13) ∧
∀ (t30 : Sl), (∀ w__14, Sp w__7 w__14 → N w__14 → G_t27 t27_1 w__14 → G_t30 t30 w__14 → RunT (.o (.lf .sl)) P0 (Builtin.append_ #[102, 102] 102 #[t27_1.v, t30.v]) w__14 fun (t31 : Sl) w__15 =>
GK (.o (.lf .sl)) (Sb (World.heap w__7).size Sp) w__14 G_t31 t31.v w__15) ∧
∀ (t31_1 : Sl), ∀ w__16, Sp w__7 w__16 → G_t27 t27_1 w__16 → G_t29 t29_1 w__16 → G_t30 t30 w__16 → G_t31 t31_1 w__16 → BxD (World.heap w__7).size w__16 [] → 
St (Addr.add a_m 4) t31_1.v w__16 fun w__17 =>
(I (IntKind.wrap .i64 (i + 1)) w__17 ∧ M (IntKind.wrap .i64 (i + 1)) w__17 < M i w__3)) ∧
((decide ((i : Int) < room)) = false → LdA [(.i .i64), (.i .i64), (.i .i64), .sl, .sl] a_m w__3 fun (t33 : Tup [(.i .i64), (.i .i64), (.i .i64), .sl, .sl]) w__18 =>
StA P0 a_t6 (Tup.cells [(.i .i64), (.i .i64), (.i .i64), .sl, .sl] t33) w__18 fun w__19 =>
LdA [(.i .i64), (.i .i64), (.i .i64), .sl, .sl] a_t6 w__19 fun r w__20 =>
K r w__19))) ∧
(((kind : Int) == 1) = false → LdA [(.i .i64), (.i .i64), (.i .i64), .sl, .sl] a_m w__2 fun (t33_1 : Tup [(.i .i64), (.i .i64), (.i .i64), .sl, .sl]) w__21 =>
StA P0 a_t6 (Tup.cells [(.i .i64), (.i .i64), (.i .i64), .sl, .sl] t33_1) w__21 fun w__22 =>
LdA [(.i .i64), (.i .i64), (.i .i64), .sl, .sl] a_t6 w__22 fun r_1 w__23 =>
K r_1 w__22)
theorem spec.l3New.ok {kind : Int} {size : Int} {room : Int} {w : World} {K : Tup [(.i .i64), (.i .i64), (.i .i64), .sl, .sl] → World → Prop} (h : spec.l3New.vc kind size room w K) : CallT (.o (.ag [(.i .i64), (.i .i64), (.i .i64), .sl, .sl])) P0 104 [(.int .i64 kind), (.int .i64 size), (.int .i64 room)] w K :=
  call_of Try.func104 rfl rfl (pl := spec.l3New.pl) (show VC P0 Try.f104 spec.l3New.pl (.o (.ag [(.i .i64), (.i .i64), (.i .i64), .sl, .sl])) [(.int .i64 kind), (.int .i64 size), (.int .i64 room)] w K noP from Eq.mp (by kernel_rfl) h)
/- spec.TableNew -/
def spec.TableNew.pl : Pl := (.s (.r (D 1)) (.s (.s (.r [.d, (.c (.o (.lf .b))), .d, (.sp .d), .d, (.c (.o (.lf .b))), .d, .d, (.sp .d), .d, (.c (.o (.lf .b))), .d, .d]) (.c (.s (.r (D 2)) .z) .z)) (.s (.r [.d, .d, .d, (.c (.o (.ag [(.i .i64), (.i .i64), (.i .i64), .sl, .sl]))), .d]) .z)))
def spec.TableNew.vc (kind : Int) (size : Int) (room : Int) (w : World) (K : Tup [(.i .i64), (.i .i64), (.i .i64), .sl, .sl] → World → Prop) : Prop :=
Nw (zc P0 107) 107 w fun a_t6 w_ =>
CallT (.o (.lf .b)) P0 67 [(.int .i64 kind), (.int .i64 1), (.int .i64 2)] w_ fun (t8 : Bool) w__1 =>
((!t8) = true → StA P0 a_t6 [(.int .i64 0), (.int .i64 0), (.int .i64 0), (.slice none 0 0), (.slice none 0 0)] w__1 fun w__2 =>
LdA [(.i .i64), (.i .i64), (.i .i64), .sl, .sl] a_t6 w__2 fun r w__3 =>
K r w__2) ∧
((!t8) = false → CallT (.o (.lf .b)) P0 67 [(.int .i64 size), (.int .i64 1), (.int .i64 8)] w__1 fun (t12 : Bool) w__4 =>
((!t12) = true → StA P0 a_t6 [(.int .i64 0), (.int .i64 0), (.int .i64 0), (.slice none 0 0), (.slice none 0 0)] w__4 fun w__5 =>
LdA [(.i .i64), (.i .i64), (.i .i64), .sl, .sl] a_t6 w__5 fun r_1 w__6 =>
K r_1 w__5) ∧
((!t12) = false → CallT (.o (.lf .b)) P0 67 [(.int .i64 room), (.int .i64 1), (.int .i64 8)] w__4 fun (t17 : Bool) w__7 =>
((!t17) = true → StA P0 a_t6 [(.int .i64 0), (.int .i64 0), (.int .i64 0), (.slice none 0 0), (.slice none 0 0)] w__7 fun w__8 =>
LdA [(.i .i64), (.i .i64), (.i .i64), .sl, .sl] a_t6 w__8 fun r_2 w__9 =>
K r_2 w__8) ∧
((!t17) = false → CallT (.o (.ag [(.i .i64), (.i .i64), (.i .i64), .sl, .sl])) P0 104 [(.int .i64 kind), (.int .i64 size), (.int .i64 room)] w__7 fun (t24 : Tup [(.i .i64), (.i .i64), (.i .i64), .sl, .sl]) w__10 =>
StA P0 a_t6 (Tup.cells [(.i .i64), (.i .i64), (.i .i64), .sl, .sl] t24) w__10 fun w__11 =>
LdA [(.i .i64), (.i .i64), (.i .i64), .sl, .sl] a_t6 w__11 fun r_3 w__12 =>
K r_3 w__11)))
theorem spec.TableNew.ok {kind : Int} {size : Int} {room : Int} {w : World} {K : Tup [(.i .i64), (.i .i64), (.i .i64), .sl, .sl] → World → Prop} (h : spec.TableNew.vc kind size room w K) : CallT (.o (.ag [(.i .i64), (.i .i64), (.i .i64), .sl, .sl])) P0 92 [(.int .i64 kind), (.int .i64 size), (.int .i64 room)] w K :=
  call_of Try.func92 rfl rfl (pl := spec.TableNew.pl) (show VC P0 Try.f92 spec.TableNew.pl (.o (.ag [(.i .i64), (.i .i64), (.i .i64), .sl, .sl])) [(.int .i64 kind), (.int .i64 size), (.int .i64 room)] w K noP from Eq.mp (by kernel_rfl) h)
/- spec.l3Copy -/
def spec.l3Copy.pl : Pl := (.s (.r (D 2)) (.s (.r [(.l (.ag [(.i .i64), (.i .i64), (.i .i64), .sl, .sl])), .d, .d]) (.s (.r [.d, .d, (.l (.lf .sl)), (.t (.o (.lf .sl))), .d, .d]) (.s (.r [.d, .d, (.l (.lf .sl)), (.t (.o (.lf .sl))), .d, .d]) (.s (.r [(.l (.ag [(.i .i64), (.i .i64), (.i .i64), .sl, .sl])), .d]) .z)))))
def spec.l3Copy.vc (m : Tup [(.i .i64), (.i .i64), (.i .i64), .sl, .sl]) (w : World) (K : Tup [(.i .i64), (.i .i64), (.i .i64), .sl, .sl] → World → Prop) : Prop :=
Nw (Tup.cells [(.i .i64), (.i .i64), (.i .i64), .sl, .sl] m).toArray 107 w fun a_m w_ =>
Nw (zc P0 107) 107 w_ fun a_t2 w__1 =>
LdA [(.i .i64), (.i .i64), (.i .i64), .sl, .sl] a_m w__1 fun (t4 : Tup [(.i .i64), (.i .i64), (.i .i64), .sl, .sl]) w__2 =>
Nw (zc P0 107) 107 w__2 fun a_out w__3 =>
StA P0 a_out (Tup.cells [(.i .i64), (.i .i64), (.i .i64), .sl, .sl] t4) w__3 fun w__4 =>
Nw #[] 3 w__4 fun a_t5 w__5 =>
Ld .sl (Addr.add a_m 3) w__5 fun (t7 : Sl) w__6 =>
RunT (.o (.lf .sl)) P0 (Builtin.append_ #[59, 59] 59 #[(.slice (some a_t5) 0 0), t7.v]) w__6 fun (t8 : Sl) w__7 =>
St (Addr.add a_out 3) t8.v w__7 fun w__8 =>
Nw #[] 9 w__8 fun a_t10 w__9 =>
Ld .sl (Addr.add a_m 4) w__9 fun (t12 : Sl) w__10 =>
RunT (.o (.lf .sl)) P0 (Builtin.append_ #[102, 102] 102 #[(.slice (some a_t10) 0 0), t12.v]) w__10 fun (t13 : Sl) w__11 =>
St (Addr.add a_out 4) t13.v w__11 fun w__12 =>
LdA [(.i .i64), (.i .i64), (.i .i64), .sl, .sl] a_out w__12 fun (t15 : Tup [(.i .i64), (.i .i64), (.i .i64), .sl, .sl]) w__13 =>
StA P0 a_t2 (Tup.cells [(.i .i64), (.i .i64), (.i .i64), .sl, .sl] t15) w__13 fun w__14 =>
LdA [(.i .i64), (.i .i64), (.i .i64), .sl, .sl] a_t2 w__14 fun r w__15 =>
K r w__14
theorem spec.l3Copy.ok {m : Tup [(.i .i64), (.i .i64), (.i .i64), .sl, .sl]} {w : World} {K : Tup [(.i .i64), (.i .i64), (.i .i64), .sl, .sl] → World → Prop} (h : spec.l3Copy.vc m w K) : CallT (.o (.ag [(.i .i64), (.i .i64), (.i .i64), .sl, .sl])) P0 106 [(.agg (Tup.cells [(.i .i64), (.i .i64), (.i .i64), .sl, .sl] m).toArray)] w K :=
  call_of Try.func106 rfl rfl (pl := spec.l3Copy.pl) (show VC P0 Try.f106 spec.l3Copy.pl (.o (.ag [(.i .i64), (.i .i64), (.i .i64), .sl, .sl])) [(.agg (Tup.cells [(.i .i64), (.i .i64), (.i .i64), .sl, .sl] m).toArray)] w K noP from Eq.mp (by kernel_rfl) h)
/- spec.l3At -/
def spec.l3At.pl : Pl := (.s (.r (D 2)) (.s (.s (.r (D 1)) (.b (.l [(5, (.i .i64))] (.s (.s (.r [.d, .d, (.l (.lf .sl)), .d, .d]) (.c .z .z)) (.s (.b (.s (.r [.d, (.l (.lf .sl)), .d, .d, (.l (.lf (.i .i64))), .d, .d]) (.c (.s (.r (D 2)) .z) .z))) (.r (D 3))))))) (.s (.r (D 1)) .z)))
def spec.l3At.vc (m : Tup [(.i .i64), (.i .i64), (.i .i64), .sl, .sl]) (key : Int) (w : World) (K : Int → World → Prop) : Prop :=
Nw (Tup.cells [(.i .i64), (.i .i64), (.i .i64), .sl, .sl] m).toArray 107 w fun a_m w_ =>
∃ (I : Int → World → Prop) (M : Int → World → Nat),
I 0 w_ ∧
(∀ (i : Int) w__1, I i w__1 → ∀ _ : Nat → Value,
Ld .sl (Addr.add a_m 3) w__1 fun (t8 : Sl) w__2 =>
((decide ((i : Int) < ((t8.n : Nat) : Int))) = true → Ld .sl (Addr.add a_m 3) w__2 fun (t14 : Sl) w__3 =>
Ix t14.a t14.n i 1 w__3 fun a_t16 w__4 =>
Ld (.i .i64) a_t16 w__4 fun (t17 : Int) w__5 =>
(((t17 : Int) == key) = true → K i w__5) ∧
(((t17 : Int) == key) = false → (I (IntKind.wrap .i64 (i + 1)) w__5 ∧ M (IntKind.wrap .i64 (i + 1)) w__5 < M i w__1))) ∧
((decide ((i : Int) < ((t8.n : Nat) : Int))) = false → K (-1) w__2))
theorem spec.l3At.ok {m : Tup [(.i .i64), (.i .i64), (.i .i64), .sl, .sl]} {key : Int} {w : World} {K : Int → World → Prop} (h : spec.l3At.vc m key w K) : CallT (.o (.lf (.i .i64))) P0 130 [(.agg (Tup.cells [(.i .i64), (.i .i64), (.i .i64), .sl, .sl] m).toArray), (.int .i64 key)] w K :=
  call_of Try.func130 rfl rfl (pl := spec.l3At.pl) (show VC P0 Try.f130 spec.l3At.pl (.o (.lf (.i .i64))) [(.agg (Tup.cells [(.i .i64), (.i .i64), (.i .i64), .sl, .sl] m).toArray), (.int .i64 key)] w K noP from Eq.mp (by kernel_rfl) h)
/- spec.l3Put -/
def spec.l3Put.pl : Pl := (.s (.r (D 3)) (.s (.r [(.l (.ag [(.i .i64), (.i .i64), (.i .i64), .sl, .sl])), .d, (.c (.o (.lf (.i .i64)))), .d]) (.s (.s (.r (D 2)) (.c (.s (.r [.d, (.l (.lf .sl)), .d, .d, .d, .d]) (.s (.r [(.l (.ag [(.i .i64), (.i .i64), (.i .i64), .sl, .sl])), .d, .d]) .z)) .z)) (.s (.s (.r [.d, (.l (.lf (.i .i64))), .d]) (.c (.s (.r [(.l (.ag [(.i .i64), (.i .i64), (.i .i64), .sl, .sl])), .d, .d]) .z) .z)) (.s (.s (.r [.d, (.l (.lf .sl)), .d, .d, (.l (.lf (.i .i64))), .d]) (.c (.s (.r [(.l (.ag [(.i .i64), (.i .i64), (.i .i64), .sl, .sl])), .d, .d]) .z) .z)) (.s (.r [.d, (.l (.lf .sl)), .d, .d, (.t (.o (.lf .sl))), .d, .d]) (.s (.r [.d, (.l (.lf .sl)), .d, .d, (.t (.o (.lf .sl))), .d, .d]) (.s (.r [(.l (.ag [(.i .i64), (.i .i64), (.i .i64), .sl, .sl])), .d, .d]) .z))))))))
def spec.l3Put.vc (m : Tup [(.i .i64), (.i .i64), (.i .i64), .sl, .sl]) (key : Int) (val : ByteArray) (w : World) (K : (Tup [(.i .i64), (.i .i64), (.i .i64), .sl, .sl]) × (Int) × Unit → World → Prop) : Prop :=
Nw (Tup.cells [(.i .i64), (.i .i64), (.i .i64), .sl, .sl] m).toArray 107 w fun a_m w_ =>
Nw (zc P0 107) 107 w_ fun a_t6 w__1 =>
LdA [(.i .i64), (.i .i64), (.i .i64), .sl, .sl] a_m w__1 fun (t9 : Tup [(.i .i64), (.i .i64), (.i .i64), .sl, .sl]) w__2 =>
CallT (.o (.lf (.i .i64))) P0 130 [(.agg (Tup.cells [(.i .i64), (.i .i64), (.i .i64), .sl, .sl] t9).toArray), (.int .i64 key)] w__2 fun (t11 : Int) w__3 =>
((decide ((t11 : Int) ≥ 0)) = true → Ld .sl (Addr.add a_m 4) w__3 fun (t15 : Sl) w__4 =>
Ix t15.a t15.n t11 1 w__4 fun a_t18 w__5 =>
St a_t18 (.string val) w__5 fun w__6 =>
LdA [(.i .i64), (.i .i64), (.i .i64), .sl, .sl] a_m w__6 fun (t19 : Tup [(.i .i64), (.i .i64), (.i .i64), .sl, .sl]) w__7 =>
StA P0 a_t6 (Tup.cells [(.i .i64), (.i .i64), (.i .i64), .sl, .sl] t19) w__7 fun w__8 =>
LdA [(.i .i64), (.i .i64), (.i .i64), .sl, .sl] a_t6 w__8 fun r w__9 =>
K (r, (0, ())) w__8) ∧
((decide ((t11 : Int) ≥ 0)) = false → Ld (.i .i64) (Addr.add a_m 0) w__3 fun (t21 : Int) w__10 =>
(((t21 : Int) == 1) = true → LdA [(.i .i64), (.i .i64), (.i .i64), .sl, .sl] a_m w__10 fun (t23 : Tup [(.i .i64), (.i .i64), (.i .i64), .sl, .sl]) w__11 =>
StA P0 a_t6 (Tup.cells [(.i .i64), (.i .i64), (.i .i64), .sl, .sl] t23) w__11 fun w__12 =>
LdA [(.i .i64), (.i .i64), (.i .i64), .sl, .sl] a_t6 w__12 fun r_1 w__13 =>
K (r_1, (2, ())) w__12) ∧
(((t21 : Int) == 1) = false → Ld .sl (Addr.add a_m 3) w__10 fun (t25 : Sl) w__14 =>
Ld (.i .i64) (Addr.add a_m 2) w__14 fun (t28 : Int) w__15 =>
((decide ((((t25.n : Nat) : Int) : Int) ≥ t28)) = true → LdA [(.i .i64), (.i .i64), (.i .i64), .sl, .sl] a_m w__15 fun (t30 : Tup [(.i .i64), (.i .i64), (.i .i64), .sl, .sl]) w__16 =>
StA P0 a_t6 (Tup.cells [(.i .i64), (.i .i64), (.i .i64), .sl, .sl] t30) w__16 fun w__17 =>
LdA [(.i .i64), (.i .i64), (.i .i64), .sl, .sl] a_t6 w__17 fun r_2 w__18 =>
K (r_2, (3, ())) w__17) ∧
((decide ((((t25.n : Nat) : Int) : Int) ≥ t28)) = false → Ld .sl (Addr.add a_m 3) w__15 fun (t32 : Sl) w__19 =>
Nw #[(.int .i64 key)] 3 w__19 fun a_t34 w__20 =>
RunT (.o (.lf .sl)) P0 (Builtin.append_ #[59, 59] 59 #[t32.v, (.slice (some a_t34) 1 1)]) w__20 fun (t35 : Sl) w__21 =>
St (Addr.add a_m 3) t35.v w__21 fun w__22 =>
Ld .sl (Addr.add a_m 4) w__22 fun (t38 : Sl) w__23 =>
Nw #[(.string val)] 9 w__23 fun a_t40 w__24 =>
RunT (.o (.lf .sl)) P0 (Builtin.append_ #[102, 102] 102 #[t38.v, (.slice (some a_t40) 1 1)]) w__24 fun (t41 : Sl) w__25 =>
St (Addr.add a_m 4) t41.v w__25 fun w__26 =>
LdA [(.i .i64), (.i .i64), (.i .i64), .sl, .sl] a_m w__26 fun (t43 : Tup [(.i .i64), (.i .i64), (.i .i64), .sl, .sl]) w__27 =>
StA P0 a_t6 (Tup.cells [(.i .i64), (.i .i64), (.i .i64), .sl, .sl] t43) w__27 fun w__28 =>
LdA [(.i .i64), (.i .i64), (.i .i64), .sl, .sl] a_t6 w__28 fun r_3 w__29 =>
K (r_3, (0, ())) w__28)))
theorem spec.l3Put.ok {m : Tup [(.i .i64), (.i .i64), (.i .i64), .sl, .sl]} {key : Int} {val : ByteArray} {w : World} {K : (Tup [(.i .i64), (.i .i64), (.i .i64), .sl, .sl]) × (Int) × Unit → World → Prop} (h : spec.l3Put.vc m key val w K) : CallT (.n [(.ag [(.i .i64), (.i .i64), (.i .i64), .sl, .sl]), (.lf (.i .i64))]) P0 107 [(.agg (Tup.cells [(.i .i64), (.i .i64), (.i .i64), .sl, .sl] m).toArray), (.int .i64 key), (.string val)] w K :=
  call_of Try.func107 rfl rfl (pl := spec.l3Put.pl) (show VC P0 Try.f107 spec.l3Put.pl (.n [(.ag [(.i .i64), (.i .i64), (.i .i64), .sl, .sl]), (.lf (.i .i64))]) [(.agg (Tup.cells [(.i .i64), (.i .i64), (.i .i64), .sl, .sl] m).toArray), (.int .i64 key), (.string val)] w K noP from Eq.mp (by kernel_rfl) h)
/- spec.TablePut -/
def spec.TablePut.pl : Pl := (.s (.r (D 3)) (.s (.s (.r [(.l (.ag [(.i .i64), (.i .i64), (.i .i64), .sl, .sl])), (.c (.o (.lf .b))), .d]) (.c (.s (.r (D 3)) .z) .z)) (.s (.s (.r [.d, (.c (.o (.lf (.i .i64)))), (.c (.o (.lf .b))), .d, (.sp .d), .d, .d, .d, (.l (.lf (.i .i64))), .d, .d]) (.c (.s (.r [(.l (.ag [(.i .i64), (.i .i64), (.i .i64), .sl, .sl])), (.c (.o (.ag [(.i .i64), (.i .i64), (.i .i64), .sl, .sl]))), .d, .d]) .z) .z)) (.s (.r [(.l (.ag [(.i .i64), (.i .i64), (.i .i64), .sl, .sl])), (.c (.o (.ag [(.i .i64), (.i .i64), (.i .i64), .sl, .sl]))), .d, .d, (.c (.n [(.ag [(.i .i64), (.i .i64), (.i .i64), .sl, .sl]), (.lf (.i .i64))])), .d, .d, .d, .d]) .z))))
def spec.TablePut.vc (m : Tup [(.i .i64), (.i .i64), (.i .i64), .sl, .sl]) (key : Int) (val : ByteArray) (w : World) (K : (Tup [(.i .i64), (.i .i64), (.i .i64), .sl, .sl]) × (Int) × Unit → World → Prop) : Prop :=
Nw (Tup.cells [(.i .i64), (.i .i64), (.i .i64), .sl, .sl] m).toArray 107 w fun a_m w_ =>
Nw (zc P0 107) 107 w_ fun a_t6 w__1 =>
LdA [(.i .i64), (.i .i64), (.i .i64), .sl, .sl] a_m w__1 fun (t8 : Tup [(.i .i64), (.i .i64), (.i .i64), .sl, .sl]) w__2 =>
CallT (.o (.lf .b)) P0 105 [(.agg (Tup.cells [(.i .i64), (.i .i64), (.i .i64), .sl, .sl] t8).toArray)] w__2 fun (t9 : Bool) w__3 =>
((!t9) = true → StA P0 a_t6 [(.int .i64 0), (.int .i64 0), (.int .i64 0), (.slice none 0 0), (.slice none 0 0)] w__3 fun w__4 =>
LdA [(.i .i64), (.i .i64), (.i .i64), .sl, .sl] a_t6 w__4 fun r w__5 =>
K (r, (1, ())) w__4) ∧
((!t9) = false → CallT (.o (.lf (.i .i64))) P0 48 [] w__3 fun (t13 : Int) w__6 =>
CallT (.o (.lf .b)) P0 67 [(.int .i64 key), (.int .i64 0), (.int .i64 t13)] w__6 fun (t14 : Bool) w__7 =>
((!t14) = true → LdA [(.i .i64), (.i .i64), (.i .i64), .sl, .sl] a_m w__7 fun (t23 : Tup [(.i .i64), (.i .i64), (.i .i64), .sl, .sl]) w__8 =>
CallT (.o (.ag [(.i .i64), (.i .i64), (.i .i64), .sl, .sl])) P0 106 [(.agg (Tup.cells [(.i .i64), (.i .i64), (.i .i64), .sl, .sl] t23).toArray)] w__8 fun (t24 : Tup [(.i .i64), (.i .i64), (.i .i64), .sl, .sl]) w__9 =>
StA P0 a_t6 (Tup.cells [(.i .i64), (.i .i64), (.i .i64), .sl, .sl] t24) w__9 fun w__10 =>
LdA [(.i .i64), (.i .i64), (.i .i64), .sl, .sl] a_t6 w__10 fun r_1 w__11 =>
K (r_1, (1, ())) w__10) ∧
((!t14) = false → Ld (.i .i64) (Addr.add a_m 1) w__7 fun (t20 : Int) w__12 =>
((((((ByteArray.size val) : Nat) : Int) : Int) != t20) = true → LdA [(.i .i64), (.i .i64), (.i .i64), .sl, .sl] a_m w__12 fun (t23_1 : Tup [(.i .i64), (.i .i64), (.i .i64), .sl, .sl]) w__13 =>
CallT (.o (.ag [(.i .i64), (.i .i64), (.i .i64), .sl, .sl])) P0 106 [(.agg (Tup.cells [(.i .i64), (.i .i64), (.i .i64), .sl, .sl] t23_1).toArray)] w__13 fun (t24_1 : Tup [(.i .i64), (.i .i64), (.i .i64), .sl, .sl]) w__14 =>
StA P0 a_t6 (Tup.cells [(.i .i64), (.i .i64), (.i .i64), .sl, .sl] t24_1) w__14 fun w__15 =>
LdA [(.i .i64), (.i .i64), (.i .i64), .sl, .sl] a_t6 w__15 fun r_2 w__16 =>
K (r_2, (1, ())) w__15) ∧
((((((ByteArray.size val) : Nat) : Int) : Int) != t20) = false → LdA [(.i .i64), (.i .i64), (.i .i64), .sl, .sl] a_m w__12 fun (t25 : Tup [(.i .i64), (.i .i64), (.i .i64), .sl, .sl]) w__17 =>
CallT (.o (.ag [(.i .i64), (.i .i64), (.i .i64), .sl, .sl])) P0 106 [(.agg (Tup.cells [(.i .i64), (.i .i64), (.i .i64), .sl, .sl] t25).toArray)] w__17 fun (t26 : Tup [(.i .i64), (.i .i64), (.i .i64), .sl, .sl]) w__18 =>
CallT (.n [(.ag [(.i .i64), (.i .i64), (.i .i64), .sl, .sl]), (.lf (.i .i64))]) P0 107 [(.agg (Tup.cells [(.i .i64), (.i .i64), (.i .i64), .sl, .sl] t26).toArray), (.int .i64 key), (.string val)] w__18 fun (t29 : (Tup [(.i .i64), (.i .i64), (.i .i64), .sl, .sl]) × (Int) × Unit) w__19 =>
StA P0 a_t6 (Tup.cells [(.i .i64), (.i .i64), (.i .i64), .sl, .sl] t29.1) w__19 fun w__20 =>
LdA [(.i .i64), (.i .i64), (.i .i64), .sl, .sl] a_t6 w__20 fun r_3 w__21 =>
K (r_3, (t29.2.1, ())) w__20)))
theorem spec.TablePut.ok {m : Tup [(.i .i64), (.i .i64), (.i .i64), .sl, .sl]} {key : Int} {val : ByteArray} {w : World} {K : (Tup [(.i .i64), (.i .i64), (.i .i64), .sl, .sl]) × (Int) × Unit → World → Prop} (h : spec.TablePut.vc m key val w K) : CallT (.n [(.ag [(.i .i64), (.i .i64), (.i .i64), .sl, .sl]), (.lf (.i .i64))]) P0 93 [(.agg (Tup.cells [(.i .i64), (.i .i64), (.i .i64), .sl, .sl] m).toArray), (.int .i64 key), (.string val)] w K :=
  call_of Try.func93 rfl rfl (pl := spec.TablePut.pl) (show VC P0 Try.f93 spec.TablePut.pl (.n [(.ag [(.i .i64), (.i .i64), (.i .i64), .sl, .sl]), (.lf (.i .i64))]) [(.agg (Tup.cells [(.i .i64), (.i .i64), (.i .i64), .sl, .sl] m).toArray), (.int .i64 key), (.string val)] w K noP from Eq.mp (by kernel_rfl) h)
/- spec.l20Table -/
def spec.l20Table.pl : Pl := (.s (.r (D 1)) (.s (.r [.d, (.c (.o (.lf (.i .i64)))), .d, .d, .d, (.c (.o (.lf (.i .i64)))), .d, .d, (.c (.o (.lf (.i .i64)))), (.c (.o (.ag [(.i .i64), (.i .i64), (.i .i64), .sl, .sl]))), .d, .d]) (.s (.s (.r [.d, (.c (.o (.lf (.i .i64)))), .d]) (.b (.l [(4, (.i .i64))] (.s (.s (.r (D 2)) (.c .z .z)) (.s (.b (.s (.x [((.g (.o (.ag [(.i .i64), (.i .i64), (.i .i64), .sl, .sl])) (.l (.ag [(.i .i64), (.i .i64), (.i .i64), .sl, .sl]))), []), (.q, []), ((.g (.o (.lf .sl)) .d), []), ((.h (.o (.lf (.i .i64))) (.c (.o (.lf (.i .i64))))), [2]), (.q, []), ((.k (.o (.lf (.i .i64))) (.c (.o (.lf (.i .i64))))), []), (.q, []), ((.g (.o (.lf (.i .i64))) (.l (.lf (.i .i64)))), []), ((.g (.o (.lf .s)) (.c (.o (.lf .s)))), [5, 7]), ((.g (.n [(.ag [(.i .i64), (.i .i64), (.i .i64), .sl, .sl]), (.lf (.i .i64))]) (.c (.n [(.ag [(.i .i64), (.i .i64), (.i .i64), .sl, .sl]), (.lf (.i .i64))]))), [0, 3, 8]), (.q, [9]), (.q, [9]), (.q, [9]), ((.a 107), []), ((.s 13 107 (.o (.ag [(.i .i64), (.i .i64), (.i .i64), .sl, .sl])) .d), [9])] [.d]) (.r [(.l (.ag [(.i .i64), (.i .i64), (.i .i64), .sl, .sl])), .d]))) (.r (D 3))))))) (.s (.r [(.l (.ag [(.i .i64), (.i .i64), (.i .i64), .sl, .sl])), .d]) .z))))
def spec.l20Table.vc (r : Option Addr) (w : World) (K : Tup [(.i .i64), (.i .i64), (.i .i64), .sl, .sl] → World → Prop) : Prop :=
Nw (zc P0 107) 107 w fun a_t2 w_ =>
CallT (.o (.lf (.i .i64))) P0 38 [(.pointer r), (.int .i64 2)] w_ fun (t8 : Int) w__1 =>
Nw #[(.int .i64 1), (.int .i64 2), (.int .i64 4), (.int .i64 8)] 3 w__1 fun a_t11 w__2 =>
CallT (.o (.lf (.i .i64))) P0 37 [(.pointer r), (.slice (some a_t11) 4 4)] w__2 fun (t12 : Int) w__3 =>
Nw #[(.int .i64 1), (.int .i64 2), (.int .i64 4), (.int .i64 8)] 3 w__3 fun a_t14 w__4 =>
CallT (.o (.lf (.i .i64))) P0 37 [(.pointer r), (.slice (some a_t14) 4 4)] w__4 fun (t15 : Int) w__5 =>
CallT (.o (.ag [(.i .i64), (.i .i64), (.i .i64), .sl, .sl])) P0 92 [(.int .i64 (IntKind.wrap .i64 (1 + t8))), (.int .i64 t12), (.int .i64 t15)] w__5 fun (t16 : Tup [(.i .i64), (.i .i64), (.i .i64), .sl, .sl]) w__6 =>
Nw (zc P0 107) 107 w__6 fun a_m w__7 =>
StA P0 a_m (Tup.cells [(.i .i64), (.i .i64), (.i .i64), .sl, .sl] t16) w__7 fun w__8 =>
CallT (.o (.lf (.i .i64))) P0 38 [(.pointer r), (.int .i64 6)] w__8 fun (t18 : Int) w__9 =>
∃ (I : Int → World → Prop) (M : Int → World → Nat),
I t18 w__9 ∧
(∀ (n : Int) w__10, I n w__10 → ∀ _ : Nat → Value,
((decide ((n : Int) > 0)) = true → ∃ Sp : World → World → Prop, SpOk Sp w__10 ∧
∃ Sq : World → World → Prop, QOk Sp Sq ∧
∃ N : World → Prop, NOk N w__10 ∧ KeptN Sq N ∧
∃ N1 : World → Prop, KeptN Sq N1 ∧
∃ G_t24 : Tup [(.i .i64), (.i .i64), (.i .i64), .sl, .sl] → World → Prop, Kept Sp G_t24 ∧
∃ G_t26 : Sl → World → Prop, Kept Sp G_t26 ∧
∃ G_t27 : Int → World → Prop, Kept Sp G_t27 ∧
∃ G_t29 : Int → World → Prop, Kept Sq G_t29 ∧
∃ G_t31 : Int → World → Prop, Kept Sp G_t31 ∧
∃ G_t32 : ByteArray → World → Prop, Kept Sp G_t32 ∧
∃ G_t33 : (Tup [(.i .i64), (.i .i64), (.i .i64), .sl, .sl]) × (Int) × Unit → World → Prop, Kept Sp G_t33 ∧
∃ G_st : Tup [(.i .i64), (.i .i64), (.i .i64), .sl, .sl] → World → Prop, Kept Sp G_st ∧
(∀ w__11, Sp w__10 w__11 → LdA [(.i .i64), (.i .i64), (.i .i64), .sl, .sl] a_m w__11 fun (t24 : Tup [(.i .i64), (.i .i64), (.i .i64), .sl, .sl]) w__12 =>
GK (.o (.ag [(.i .i64), (.i .i64), (.i .i64), .sl, .sl])) (Sb (World.heap w__10).size Sq) w__11 G_t24 (.agg (Tup.cells [(.i .i64), (.i .i64), (.i .i64), .sl, .sl] t24).toArray) w__12) ∧
∀ (t24_1 : Tup [(.i .i64), (.i .i64), (.i .i64), .sl, .sl]), (∀ w__13, Sp w__10 w__13 → Nw #[(.int .i64 0), (.int .i64 1), (.int .i64 2), (.int .i64 3), (.int .i64 7), (.int .i64 200), (.int .i64 4294967295)] 3 w__13 fun a_t26 w__14 =>
GK (.o (.lf .sl)) (Sb (World.heap w__10).size Sq) w__13 G_t26 (.slice (some a_t26) 7 7) w__14) ∧
∀ (t26 : Sl), (∀ w__15, Sp w__10 w__15 → N w__15 → G_t26 t26 w__15 → CallT (.o (.lf (.i .i64))) P0 37 [(.pointer r), t26.v] w__15 fun (t27 : Int) w__16 =>
GK (.o (.lf (.i .i64))) (Sb (World.heap w__10).size (Sn Sp N1)) w__15 G_t27 (.int .i64 t27) w__16) ∧
∀ (t27_1 : Int), (∀ w__17, Sp w__10 w__17 → N1 w__17 → CallT (.o (.lf (.i .i64))) P0 56 [(.pointer r)] w__17 fun (t29 : Int) w__18 =>
GK (.o (.lf (.i .i64))) (Sb (World.heap w__10).size Sp) w__17 G_t29 (.int .i64 t29) w__18) ∧
∀ (t29_1 : Int), (∀ w__19, Sp w__10 w__19 → Ld (.i .i64) (Addr.add a_m 1) w__19 fun (t31 : Int) w__20 =>
GK (.o (.lf (.i .i64))) (Sb (World.heap w__10).size Sq) w__19 G_t31 (.int .i64 t31) w__20) ∧
∀ (t31_1 : Int), (∀ w__21, Sp w__10 w__21 → G_t29 t29_1 w__21 → G_t31 t31_1 w__21 → CallT (.o (.lf .s)) P0 94 [(.int .i64 t29_1), (.int .i64 t31_1)] w__21 fun (t32 : ByteArray) w__22 =>
GK (.o (.lf .s)) (Sb (World.heap w__10).size Sq) w__21 G_t32 (.string t32) w__22) ∧
∀ (t32_1 : ByteArray), (∀ w__23, Sp w__10 w__23 → G_t24 t24_1 w__23 → G_t27 t27_1 w__23 → G_t32 t32_1 w__23 → CallT (.n [(.ag [(.i .i64), (.i .i64), (.i .i64), .sl, .sl]), (.lf (.i .i64))]) P0 93 [(.agg (Tup.cells [(.i .i64), (.i .i64), (.i .i64), .sl, .sl] t24_1).toArray), (.int .i64 t27_1), (.string t32_1)] w__23 fun (t33 : (Tup [(.i .i64), (.i .i64), (.i .i64), .sl, .sl]) × (Int) × Unit) w__24 =>
GK (.n [(.ag [(.i .i64), (.i .i64), (.i .i64), .sl, .sl]), (.lf (.i .i64))]) (Sb (World.heap w__10).size Sq) w__23 G_t33 (.tuple #[(.agg (Tup.cells [(.i .i64), (.i .i64), (.i .i64), .sl, .sl] t33.1).toArray), (.int .i64 t33.2.1)]) w__24) ∧
∀ (t33_1 : (Tup [(.i .i64), (.i .i64), (.i .i64), .sl, .sl]) × (Int) × Unit), (∀ w__25, Sp w__10 w__25 → Nw (zc P0 107) 107 w__25 fun a_x w__26 =>
AXp (World.heap w__10).size 107 (zc P0 107) Sq w__25 (.pointer (some a_x)) w__26) ∧
∀ (x : Nat), (∀ w__27, Sp w__10 w__27 → G_t33 t33_1 w__27 → (World.heap w__10).size ≤ x → (World.heap w__27)[x]? = some (.cells (zc P0 107) 107 (0, 0)) → StA P0 (⟨x, 0, none⟩ : Addr) (Tup.cells [(.i .i64), (.i .i64), (.i .i64), .sl, .sl] t33_1.1) w__27 fun w__28 =>
GS (.o (.ag [(.i .i64), (.i .i64), (.i .i64), .sl, .sl])) Sq w__27 G_st x 107 w__28) ∧
∀ (st : Tup [(.i .i64), (.i .i64), (.i .i64), .sl, .sl]), ∀ w__29, Sp w__10 w__29 → G_t24 t24_1 w__29 → G_t26 t26 w__29 → G_t27 t27_1 w__29 → G_t29 t29_1 w__29 → G_t31 t31_1 w__29 → G_t32 t32_1 w__29 → G_t33 t33_1 w__29 → G_st st w__29 → BxD (World.heap w__10).size w__29 [(x, ((.agg (Tup.cells [(.i .i64), (.i .i64), (.i .i64), .sl, .sl] st).toArray) : Value).cells, 107)] → 
LdA [(.i .i64), (.i .i64), (.i .i64), .sl, .sl] (⟨x, 0, none⟩ : Addr) w__29 fun (t36 : Tup [(.i .i64), (.i .i64), (.i .i64), .sl, .sl]) w__30 =>
StA P0 a_m (Tup.cells [(.i .i64), (.i .i64), (.i .i64), .sl, .sl] t36) w__30 fun w__31 =>
(I (IntKind.wrap .i64 (n - 1)) w__31 ∧ M (IntKind.wrap .i64 (n - 1)) w__31 < M n w__10)) ∧
((decide ((n : Int) > 0)) = false → LdA [(.i .i64), (.i .i64), (.i .i64), .sl, .sl] a_m w__10 fun (t37 : Tup [(.i .i64), (.i .i64), (.i .i64), .sl, .sl]) w__32 =>
StA P0 a_t2 (Tup.cells [(.i .i64), (.i .i64), (.i .i64), .sl, .sl] t37) w__32 fun w__33 =>
LdA [(.i .i64), (.i .i64), (.i .i64), .sl, .sl] a_t2 w__33 fun r_1 w__34 =>
K r_1 w__33))
theorem spec.l20Table.ok {r : Option Addr} {w : World} {K : Tup [(.i .i64), (.i .i64), (.i .i64), .sl, .sl] → World → Prop} (h : spec.l20Table.vc r w K) : CallT (.o (.ag [(.i .i64), (.i .i64), (.i .i64), .sl, .sl])) P0 77 [(.pointer r)] w K :=
  call_of Try.func77 rfl rfl (pl := spec.l20Table.pl) (show VC P0 Try.f77 spec.l20Table.pl (.o (.ag [(.i .i64), (.i .i64), (.i .i64), .sl, .sl])) [(.pointer r)] w K noP from Eq.mp (by kernel_rfl) h)
/- spec.l20Tables -/
def spec.l20Tables.pl : Pl := (.s (.r (D 1)) (.s (.r [.d, (.c (.o (.ag [(.i .i64), (.i .i64), (.i .i64), .sl, .sl]))), .d, (.c (.o (.ag [(.i .i64), (.i .i64), (.i .i64), .sl, .sl]))), .d, .d]) (.s (.s (.r [.d, (.c (.o (.lf (.i .i64)))), .d]) (.c (.s (.r [.d, .d, (.c (.o (.lf (.i .i64)))), (.t (.o (.lf .sl))), .d]) .z) .z)) (.s (.r (D 2)) .z))))
def spec.l20Tables.vc (r : Option Addr) (w : World) (K : Sl → World → Prop) : Prop :=
CallT (.o (.ag [(.i .i64), (.i .i64), (.i .i64), .sl, .sl])) P0 77 [(.pointer r)] w fun (t5 : Tup [(.i .i64), (.i .i64), (.i .i64), .sl, .sl]) w_ =>
CallT (.o (.ag [(.i .i64), (.i .i64), (.i .i64), .sl, .sl])) P0 77 [(.pointer r)] w_ fun (t7 : Tup [(.i .i64), (.i .i64), (.i .i64), .sl, .sl]) w__1 =>
Nw #[(.int .i64 t5.1), (.int .i64 t5.2.1), (.int .i64 t5.2.2.1), t5.2.2.2.1.v, t5.2.2.2.2.1.v, (.int .i64 t7.1), (.int .i64 t7.2.1), (.int .i64 t7.2.2.1), t7.2.2.2.1.v, t7.2.2.2.2.1.v] 107 w__1 fun a_t8 w__2 =>
CallT (.o (.lf (.i .i64))) P0 38 [(.pointer r), (.int .i64 6)] w__2 fun (t10 : Int) w__3 =>
(((t10 : Int) == 0) = true → CallT (.o (.lf (.i .i64))) P0 38 [(.pointer r), (.int .i64 2)] w__3 fun (t14 : Int) w__4 =>
RunT (.o (.lf .sl)) P0 (Instr.sliceAt 58 (.slice (some a_t8) 2 2) none (some (.int .i64 t14)) none) w__4 fun (t15 : Sl) w__5 =>
K t15 w__5) ∧
(((t10 : Int) == 0) = false → K ⟨(some a_t8), 2, 2⟩ w__3)
theorem spec.l20Tables.ok {r : Option Addr} {w : World} {K : Sl → World → Prop} (h : spec.l20Tables.vc r w K) : CallT (.o (.lf .sl)) P0 55 [(.pointer r)] w K :=
  call_of Try.func55 rfl rfl (pl := spec.l20Tables.pl) (show VC P0 Try.f55 spec.l20Tables.pl (.o (.lf .sl)) [(.pointer r)] w K noP from Eq.mp (by kernel_rfl) h)
/- spec.l20Start -/
def spec.l20Start.pl : Pl := (.s (.r (D 1)) (.s (.r [.d, (.c (.o (.lf .sl))), .d, (.c (.o (.lf .sl))), .d, .d, .d]) (.s (.r (D 2)) (.s (.s (.r (D 1)) (.b (.l [(4, .sl), (5, (.i .i64))] (.s (.s (.r (D 2)) (.c .z .z)) (.s (.b (.r [.d, .d, .d, (.c (.o (.lf (.i .i64)))), .d, .d, (.t (.o (.lf .sl))), .d])) (.r (D 3))))))) (.s (.r [.d, (.t (.o (.lf .s))), .d, .d]) (.s (.s (.r [.d, (.c (.o (.lf (.i .i64)))), .d, .d]) (.b (.l [(6, (.i .i64))] (.s (.s (.r (D 2)) (.c .z .z)) (.s (.b (.x [(.q, []), ((.g (.o (.lf .sl)) (.l (.lf .sl))), []), (.q, []), ((.h (.o (.lf (.i .i64))) (.c (.o (.lf (.i .i64))))), []), ((.g (.o (.lf .sl)) .d), [3]), ((.k (.o (.lf .sl)) (.t (.o (.lf .sl)))), [1, 4]), (.q, [])] [.d])) (.r (D 3))))))) (.s (.s (.r [.d, (.c (.o (.lf (.i .i64)))), .d]) (.b (.l [(7, (.i .i64))] (.s (.s (.r (D 2)) (.c .z .z)) (.s (.b (.x [(.q, []), ((.g (.o (.lf .sl)) (.l (.lf .sl))), []), (.q, []), ((.g (.o (.lf .sl)) .d), []), ((.h (.o (.lf (.i .i64))) (.c (.o (.lf (.i .i64))))), [3]), ((.g (.o (.lf .sl)) .d), [4]), ((.k (.o (.lf .sl)) (.t (.o (.lf .sl)))), [1, 5]), (.q, [])] [.d])) (.r (D 3))))))) (.s (.r [(.l (.ag [.sl, .s, .sl, .sl, .sl])), .d]) .z))))))))
def spec.l20Start.vc (r : Option Addr) (w : World) (K : Tup [.sl, .s, .sl, .sl, .sl] → World → Prop) : Prop :=
Nw (zc P0 61) 61 w fun a_t2 w_ =>
CallT (.o (.lf .sl)) P0 54 [(.pointer r)] w_ fun (t9 : Sl) w__1 =>
CallT (.o (.lf .sl)) P0 55 [(.pointer r)] w__1 fun (t11 : Sl) w__2 =>
Nw (zc P0 61) 61 w__2 fun a_s w__3 =>
StA P0 a_s [t9.v, (.string ByteArray.empty), t11.v, (.slice none 0 0), (.slice none 0 0)] w__3 fun w__4 =>
Nw #[] 5 w__4 fun a_t13 w__5 =>
∃ (I : Sl → Int → World → Prop) (M : Sl → Int → World → Nat),
I ⟨(some a_t13), 0, 0⟩ 0 w__5 ∧
(∀ (came : Sl) (i : Int) w__6, I came i w__6 → ∀ _ : Nat → Value,
((decide ((i : Int) < 12)) = true → Nw #[(.int .i64 0), (.int .i64 1), (.int .i64 2), (.int .i64 3), (.int .i64 5), (.int .i64 7), (.int .i64 9), (.int .i64 10), (.int .i64 200), (.int .i64 255)] 3 w__6 fun a_t20 w__7 =>
CallT (.o (.lf (.i .i64))) P0 37 [(.pointer r), (.slice (some a_t20) 10 10)] w__7 fun (t21 : Int) w__8 =>
Nw #[(.int .u8 (IntKind.wrap .u8 t21))] 5 w__8 fun a_t23 w__9 =>
RunT (.o (.lf .sl)) P0 (Builtin.append_ #[22, 22] 22 #[came.v, (.slice (some a_t23) 1 1)]) w__9 fun (t24 : Sl) w__10 =>
(I t24 (IntKind.wrap .i64 (i + 1)) w__10 ∧ M t24 (IntKind.wrap .i64 (i + 1)) w__10 < M came i w__6)) ∧
((decide ((i : Int) < 12)) = false → RunT (.o (.lf .s)) P0 (convert 22 9 came.v) w__6 fun (t26 : ByteArray) w__11 =>
St (Addr.add a_s 1) (.string t26) w__11 fun w__12 =>
CallT (.o (.lf (.i .i64))) P0 38 [(.pointer r), (.int .i64 3)] w__12 fun (t29 : Int) w__13 =>
∃ (I_1 : Int → World → Prop) (M_1 : Int → World → Nat),
I_1 (IntKind.wrap .i64 (1 + t29)) w__13 ∧
(∀ (n : Int) w__14, I_1 n w__14 → ∀ _ : Nat → Value,
((decide ((n : Int) > 0)) = true → ∃ Sp : World → World → Prop, SpOk Sp w__14 ∧
∃ Sq : World → World → Prop, QOk Sp Sq ∧
∃ N : World → Prop, NOk N w__14 ∧ KeptN Sq N ∧
∃ N1 : World → Prop, KeptN Sq N1 ∧
∃ G_t36 : Sl → World → Prop, Kept Sp G_t36 ∧
∃ G_t38 : Int → World → Prop, Kept Sp G_t38 ∧
∃ G_t39 : Sl → World → Prop, Kept Sp G_t39 ∧
∃ G_t40 : Sl → World → Prop, Kept Sq G_t40 ∧
(∀ w__15, Sp w__14 w__15 → Ld .sl (Addr.add a_s 3) w__15 fun (t36 : Sl) w__16 =>
GK (.o (.lf .sl)) (Sb (World.heap w__14).size Sq) w__15 G_t36 t36.v w__16) ∧
∀ (t36_1 : Sl), (∀ w__17, Sp w__14 w__17 → N w__17 → CallT (.o (.lf (.i .i64))) P0 56 [(.pointer r)] w__17 fun (t38 : Int) w__18 =>
GK (.o (.lf (.i .i64))) (Sb (World.heap w__14).size (Sn Sp N1)) w__17 G_t38 (.int .i64 t38) w__18) ∧
∀ (t38_1 : Int), (∀ w__19, Sp w__14 w__19 → G_t38 t38_1 w__19 → Nw #[(.int .i64 t38_1)] 3 w__19 fun a_t39 w__20 =>
GK (.o (.lf .sl)) (Sb (World.heap w__14).size Sq) w__19 G_t39 (.slice (some a_t39) 1 1) w__20) ∧
∀ (t39 : Sl), (∀ w__21, Sp w__14 w__21 → N1 w__21 → G_t36 t36_1 w__21 → G_t39 t39 w__21 → RunT (.o (.lf .sl)) P0 (Builtin.append_ #[59, 59] 59 #[t36_1.v, t39.v]) w__21 fun (t40 : Sl) w__22 =>
GK (.o (.lf .sl)) (Sb (World.heap w__14).size Sp) w__21 G_t40 t40.v w__22) ∧
∀ (t40_1 : Sl), ∀ w__23, Sp w__14 w__23 → G_t36 t36_1 w__23 → G_t38 t38_1 w__23 → G_t39 t39 w__23 → G_t40 t40_1 w__23 → BxD (World.heap w__14).size w__23 [] → 
St (Addr.add a_s 3) t40_1.v w__23 fun w__24 =>
(I_1 (IntKind.wrap .i64 (n - 1)) w__24 ∧ M_1 (IntKind.wrap .i64 (n - 1)) w__24 < M_1 n w__14)) ∧
((decide ((n : Int) > 0)) = false → CallT (.o (.lf (.i .i64))) P0 38 [(.pointer r), (.int .i64 4)] w__14 fun (t43 : Int) w__25 =>
∃ (I_2 : Int → World → Prop) (M_2 : Int → World → Nat),
I_2 t43 w__25 ∧
(∀ (n_1 : Int) w__26, I_2 n_1 w__26 → ∀ _ : Nat → Value,
((decide ((n_1 : Int) > 0)) = true → ∃ Sp_1 : World → World → Prop, SpOk Sp_1 w__26 ∧
∃ Sq_1 : World → World → Prop, QOk Sp_1 Sq_1 ∧
∃ N_1 : World → Prop, NOk N_1 w__26 ∧ KeptN Sq_1 N_1 ∧
∃ N1_1 : World → Prop, KeptN Sq_1 N1_1 ∧
∃ G_t49 : Sl → World → Prop, Kept Sp_1 G_t49 ∧
∃ G_t51 : Sl → World → Prop, Kept Sp_1 G_t51 ∧
∃ G_t52 : Int → World → Prop, Kept Sp_1 G_t52 ∧
∃ G_t53 : Sl → World → Prop, Kept Sp_1 G_t53 ∧
∃ G_t54 : Sl → World → Prop, Kept Sq_1 G_t54 ∧
(∀ w__27, Sp_1 w__26 w__27 → Ld .sl (Addr.add a_s 4) w__27 fun (t49 : Sl) w__28 =>
GK (.o (.lf .sl)) (Sb (World.heap w__26).size Sq_1) w__27 G_t49 t49.v w__28) ∧
∀ (t49_1 : Sl), (∀ w__29, Sp_1 w__26 w__29 → Nw #[(.int .i64 0), (.int .i64 1), (.int .i64 2), (.int .i64 3), (.int .i64 7), (.int .i64 9)] 3 w__29 fun a_t51 w__30 =>
GK (.o (.lf .sl)) (Sb (World.heap w__26).size Sq_1) w__29 G_t51 (.slice (some a_t51) 6 6) w__30) ∧
∀ (t51 : Sl), (∀ w__31, Sp_1 w__26 w__31 → N_1 w__31 → G_t51 t51 w__31 → CallT (.o (.lf (.i .i64))) P0 37 [(.pointer r), t51.v] w__31 fun (t52 : Int) w__32 =>
GK (.o (.lf (.i .i64))) (Sb (World.heap w__26).size (Sn Sp_1 N1_1)) w__31 G_t52 (.int .i64 t52) w__32) ∧
∀ (t52_1 : Int), (∀ w__33, Sp_1 w__26 w__33 → G_t52 t52_1 w__33 → Nw #[(.int .i64 t52_1)] 3 w__33 fun a_t53 w__34 =>
GK (.o (.lf .sl)) (Sb (World.heap w__26).size Sq_1) w__33 G_t53 (.slice (some a_t53) 1 1) w__34) ∧
∀ (t53 : Sl), (∀ w__35, Sp_1 w__26 w__35 → N1_1 w__35 → G_t49 t49_1 w__35 → G_t53 t53 w__35 → RunT (.o (.lf .sl)) P0 (Builtin.append_ #[59, 59] 59 #[t49_1.v, t53.v]) w__35 fun (t54 : Sl) w__36 =>
GK (.o (.lf .sl)) (Sb (World.heap w__26).size Sp_1) w__35 G_t54 t54.v w__36) ∧
∀ (t54_1 : Sl), ∀ w__37, Sp_1 w__26 w__37 → G_t49 t49_1 w__37 → G_t51 t51 w__37 → G_t52 t52_1 w__37 → G_t53 t53 w__37 → G_t54 t54_1 w__37 → BxD (World.heap w__26).size w__37 [] → 
St (Addr.add a_s 4) t54_1.v w__37 fun w__38 =>
(I_2 (IntKind.wrap .i64 (n_1 - 1)) w__38 ∧ M_2 (IntKind.wrap .i64 (n_1 - 1)) w__38 < M_2 n_1 w__26)) ∧
((decide ((n_1 : Int) > 0)) = false → LdA [.sl, .s, .sl, .sl, .sl] a_s w__26 fun (t56 : Tup [.sl, .s, .sl, .sl, .sl]) w__39 =>
StA P0 a_t2 (Tup.cells [.sl, .s, .sl, .sl, .sl] t56) w__39 fun w__40 =>
LdA [.sl, .s, .sl, .sl, .sl] a_t2 w__40 fun r_1 w__41 =>
K r_1 w__40))))))
theorem spec.l20Start.ok {r : Option Addr} {w : World} {K : Tup [.sl, .s, .sl, .sl, .sl] → World → Prop} (h : spec.l20Start.vc r w K) : CallT (.o (.ag [.sl, .s, .sl, .sl, .sl])) P0 29 [(.pointer r)] w K :=
  call_of Try.func29 rfl rfl (pl := spec.l20Start.pl) (show VC P0 Try.f29 spec.l20Start.pl (.o (.ag [.sl, .s, .sl, .sl, .sl])) [(.pointer r)] w K noP from Eq.mp (by kernel_rfl) h)
/- spec.DrawRulesOf -/
def spec.DrawRulesOf.pl : Pl := (.s (.r (D 2)) (.s (.r [.d, (.c (.o (.lf .p))), .d]) (.s (.r [.d, (.c (.o (.lf .sl))), .d]) (.s (.r [.d, .d, (.c (.o (.ag [.sl, .s, .sl, .sl, .sl]))), .d, .d, .d]) .z))))
def spec.DrawRulesOf.vc (code : Sl) (w : World) (K : (Sl) × (ByteArray) × Unit → World → Prop) : Prop :=
CallT (.o (.lf .p)) P0 18 [code.v] w fun (t7 : Option Addr) w_ =>
CallT (.o (.lf .sl)) P0 17 [(.pointer t7)] w_ fun (t9 : Sl) w__1 =>
CallT (.o (.ag [.sl, .s, .sl, .sl, .sl])) P0 29 [(.pointer t7)] w__1 fun (t12 : Tup [.sl, .s, .sl, .sl, .sl]) w__2 =>
K (t9, (t12.2.1, ())) w__2
theorem spec.DrawRulesOf.ok {code : Sl} {w : World} {K : (Sl) × (ByteArray) × Unit → World → Prop} (h : spec.DrawRulesOf.vc code w K) : CallT (.n [(.lf .sl), (.lf .s)]) P0 10 [code.v] w K :=
  call_of Try.func10 rfl rfl (pl := spec.DrawRulesOf.pl) (show VC P0 Try.f10 spec.DrawRulesOf.pl (.n [(.lf .sl), (.lf .s)]) [code.v] w K noP from Eq.mp (by kernel_rfl) h)
end Go.Proofs.Ytdlnoabihfnmmaa.V

/- Contracts: a row of one range, repeated. -/
namespace Go.Proofs.Ytdlnoabihfnmmaa.V
open Go Go.RowKit
set_option linter.unusedVariables false
set_option linter.unusedSimpArgs false
def kRange : Kd T4 := ⟨R 4 (.i .i64), fun x => x⟩
theorem mkRange : Mk P0 42 45 kRange 32 ((0, 0, 0, 0, ()) : T4) := ⟨by kernel_rfl, ⟨_, _, Option.eq_some_of_isSome (by kernel_rfl), Option.eq_some_of_isSome (by kernel_rfl), by kernel_rfl, by kernel_rfl, by kernel_rfl⟩⟩
theorem noAnyRange : ∀ l ∈ kRange.ls, l ≠ Lf.any := by intro l hl; simp [kRange, R, List.mem_replicate] at hl; simp [hl]
/-- What a part of a row is. -/
theorem slcRun {P : Program} {tS e : TypeId} {sz : Nat} (hu : P.underlying tS = some (.slice e)) (hs : szOf P e = some sz) {w : World} {s : Sl} {lo hi : Option Int} {l h' : Nat}
    (hlo : lo.getD 0 = l) (hhi : hi.getD s.n = h') (h1 : l ≤ h') (h2 : h' ≤ s.c) (h4 : h' ≤ s.n) :
    (Instr.sliceAt tS s.v (lo.map (.int .i64)) (hi.map (.int .i64)) none).run P w = .ok (.slice (if s.c = l then s.a else s.a.map (·.add (l * sz))) (h' - l) (s.c - l)) w := by
  have ho : ∀ (x : Option Int) (d a : Nat), x.getD (d : Int) = (a : Int) → (x = none ∧ a = d) ∨ x = some (a : Int) := by
    intro x d a hx
    cases x with
    | none => left; simp only [Option.getD_none] at hx; exact ⟨rfl, by omega⟩
    | some y => right; simp only [Option.getD_some] at hx; rw [hx]
  rcases ho lo 0 l hlo with ⟨rfl, rfl⟩ | rfl <;> rcases ho hi s.n h' hhi with ⟨rfl, rfl⟩ | rfl <;>
    simp [Instr.sliceAt, Instr.slice, Sl.v, underlying, hu, Instr.sliceBounds, Instr.sliceBound, asIntOf, run_sizeOf hs, h1, h2, h4]
section
variable {w : World}
theorem bitsMul.c {x y : Nat} {a b : Int} {K : Int × Int × Unit → World → Prop} (hx : x < 18446744073709551616) (hy : y < 18446744073709551616) (ha : a = (x : Int)) (hb : b = (y : Int))
    (hk : K (((x * y / 18446744073709551616 : Nat) : Int), ((x * y % 18446744073709551616 : Nat) : Int), ()) w) : CallT (.n [(.lf (.i .u64)), (.lf (.i .u64))]) P0 39 [.int .u64 a, .int .u64 b] w K := by
  subst ha hb
  refine Calls.mono (Try.bits_Mul x y hx hy w) fun e w' h => ?_
  obtain ⟨rfl, rfl⟩ := h
  exact ⟨_, rfl, hk⟩
theorem cells4_inj {a b : T4} (h : Tup.cells (R 4 (.i .i64)) a = Tup.cells (R 4 (.i .i64)) b) : a = b := by
  obtain ⟨a0, a1, a2, a3, _⟩ := a
  obtain ⟨b0, b1, b2, b3, _⟩ := b
  have h0 := congrArg (·[0]?) h
  have h1 := congrArg (·[1]?) h
  have h2 := congrArg (·[2]?) h
  have h3 := congrArg (·[3]?) h
  simp [R, Tup.cells, Lf.emb] at h0 h1 h2 h3
  subst h0 h1 h2 h3
  rfl
theorem wrs_uniq {H : Nat} {t : TypeId} {s : Sl} {zs ys : List T4} (h1 : WrS kRange t H w s zs) (h2 : WrS kRange t H w s ys) : zs = ys := by
  have hl : zs.length = ys.length := by rw [← h1.1, ← h2.1]
  rcases h1.2.2.2 with e | ⟨b, o, cur, ha, hB, hg, hc⟩
  · rw [e.2] at hl
    rw [e.2, List.eq_nil_of_length_eq_zero hl.symm]
  · rcases h2.2.2.2 with e | ⟨b', o', cur', ha', hB', hg', hc'⟩
    · rw [e.1] at ha; simp at ha
    · rw [ha] at ha'
      simp only [Option.some.injEq, Addr.mk.injEq, and_true] at ha'
      obtain ⟨rfl, rfl⟩ := ha'
      rw [hg] at hg'
      simp only [Option.some.injEq, Obj.cells.injEq, and_true, true_and] at hg'
      subst hg'
      refine List.ext_getElem? fun i => ?_
      rcases Nat.lt_or_ge i zs.length with h | h
      · have e1 : zs[i]? = some zs[i] := List.getElem?_eq_getElem h
        have e2 : ys[i]? = some (ys[i]'(by omega)) := List.getElem?_eq_getElem _
        rw [e1, e2]
        congr 1
        refine cells4_inj (List.ext_getElem? fun c => ?_)
        rcases Nat.lt_or_ge c 4 with hc4 | hc4
        · have l1 : (kRange.cells zs[i])[c]? = some ((kRange.cells zs[i])[c]'(by rw [kRange.cells_length]; exact hc4)) := List.getElem?_eq_getElem _
          have l2 : (kRange.cells (ys[i]'(by omega)))[c]? = some ((kRange.cells (ys[i]'(by omega)))[c]'(by rw [kRange.cells_length]; exact hc4)) := List.getElem?_eq_getElem _
          have q1 := hc _ _ e1 _ _ l1
          have q2 := hc' _ _ e2 _ _ l2
          rw [q1] at q2
          show (kRange.cells zs[i])[c]? = (kRange.cells (ys[i]'(by omega)))[c]?
          rw [l1, l2]; exact q2
        · rw [List.getElem?_eq_none (by rw [V.cells_length]; exact hc4), List.getElem?_eq_none (by rw [V.cells_length]; exact hc4)]
      · rw [List.getElem?_eq_none h, List.getElem?_eq_none (by omega)]
/-- So many of a row of twelve are one range. -/
def RpR (H : Nat) (s : Sl) (y : T4) (j : Nat) (w : World) : Prop := ∃ zs : List T4, WrS kRange 45 H w s zs ∧ zs.length = 12 ∧ ∀ i, i < j → zs[i]? = some y
theorem RpR.drew {H : Nat} {s : Sl} {y : T4} {j : Nat} {w : World} (h : RpR H s y j w) : RpR H s y j w.drew := h
theorem slices.Repeat_Range.c {x : Sl} {y : T4} {K : Sl → World → Prop} (hx : SlR kRange w x [y]) (hk : ∀ r w', Below w.heap.size w w' → WrS kRange 45 w.heap.size w' r (List.replicate 12 y) → K r w') :
    CallT (.o (.lf .sl)) P0 19 [x.v, .int .i64 12] w K := by
  have hxn : x.n = 1 := hx.1
  refine slices.Repeat_Range.ok ?_
  unfold slices.Repeat_Range.vc
  refine ⟨fun w' => w' = w, And.intro (fun h => by simp at h) (fun _ => rfl), ?_⟩
  rintro w1 rfl _
  refine bitsMul.c (x := 1) (y := 12) (by omega) (by omega) (by rw [hxn]; decide) (by decide) ?_
  refine ⟨fun w' => w' = w1, And.intro (fun h => by simp at h) (fun _ => And.intro (fun h => by simp at h) (fun _ => rfl)), ?_⟩
  rintro w2 rfl _
  have e12 : IntKind.wrap .i64 (((1 * 12 % 18446744073709551616 : Nat) : Int)) = ((12 : Nat) : Int) := by decide
  rw [e12]
  refine mkS mkRange (n := 12) (by omega) (by simp [maxLen]) fun s w3 hb3 hs30 => ?_
  obtain ⟨Z, hZ, hs3⟩ : ∃ Z : List T4, Z.length = 12 ∧ WrS kRange 45 w2.heap.size w3 s Z := ⟨_, List.length_replicate, hs30⟩
  clear hs30
  have hx3 := hx.below hb3
  have hxb : ∀ b, x.bk = some b → b < w2.heap.size := by
    intro b hb
    rcases hx.2.2.2 with h0 | ⟨g, o, ha, hat⟩
    · simp at h0
    · have hg : g = b := by simpa [Sl.bk, ha] using hb
      subst hg
      have h0 := hat 0 y rfl 0 _ (show (kRange.cells y)[0]? = some (.int .i64 y.1) from rfl)
      rcases Nat.lt_or_ge g w2.heap.size with h | h
      · exact h
      · unfold World.cell? at h0
        simp only at h0
        rw [Array.getElem?_eq_none (by omega)] at h0
        simp at h0
  have hsn : s.n = 12 := hs3.1.trans hZ
  have hsc : s.n ≤ s.c := hs3.2.1
  have hu : P0.underlying 42 = some (.slice 45) := by kernel_rfl
  have hz : szOf P0 45 = some kRange.ls.length := by kernel_rfl
  obtain ⟨b0, o0, ha0⟩ : ∃ b o, s.a = some ⟨b, o, none⟩ := by
    rcases hs3.2.2.2 with h0 | ⟨b, o, cur, ha, _⟩
    · rw [h0.2] at hZ; simp at hZ
    · exact ⟨b, o, ha⟩
  refine copyW (k := kRange) hu hz noAnyRange (by decide) hs3 (p := 0) (d := s) (by rw [ha0]; simp [add_mk]) (by rw [hsn, hZ]) (by omega) hx3 (by simp) (zs := y :: Z.tail) (by simp [hZ]) (fun i hi => ?_) fun w4 hs4 hg4 hsz4 => ?_
  · cases i with
    | zero => rw [if_pos (by simp; omega)]; rfl
    | succ i =>
      rw [if_neg (by simp; omega), List.getElem?_cons_succ]
      cases Z with
      | nil => simp at hZ
      | cons z Z => rfl
  have hbk : ∀ b, s.bk = some b → w2.heap.size ≤ b := by
    intro b hb
    rcases hs3.2.2.2 with h0 | ⟨g, o, cur, ha, hB, _⟩
    · rw [h0.2] at hZ; simp at hZ
    · have : g = b := by simpa [Sl.bk, ha] using hb
      omega
  have hb4 : Below w2.heap.size w2 w4 := hb3.grown hg4 hb3.size hbk
  have h1 : ((min [y].length (Z.length - 0) : Nat) : Int) = ((1 : Nat) : Int) := by rw [hZ]; simp
  rw [h1]
  have hR1 : RpR w2.heap.size s y 1 w4 := ⟨_, hs4, by simp [hZ], fun i hi => by
    have : i = 0 := by omega
    subst this; rfl⟩
  refine ⟨fun n w' => ∃ j : Nat, n = j ∧ 1 ≤ j ∧ j ≤ 12 ∧ RpR w2.heap.size s y j w' ∧ Below w2.heap.size w2 w', fun n _ => 12 - n.toNat, ⟨1, rfl, by omega, by omega, hR1, hb4⟩, ?_⟩
  rintro n w5 ⟨j, rfl, hj1, hj2, hR, hb5⟩ _
  refine And.intro (fun hlt => ?_) (fun hge => ?_)
  · rw [hsn] at hlt
    have hlt' : j < 12 := by simp at hlt; omega
    refine ⟨fun a c => Below w2.heap.size a c ∧ ∀ q, RpR w2.heap.size s y q a → RpR w2.heap.size s y q c, ⟨fun a => ⟨Below.refl _ _, fun _ h => h⟩, fun a b c h1 h2 => ⟨h1.1.trans h2.1, fun q h => h2.2 q (h1.2 q h)⟩, ⟨(Below.refl _ _).drew, fun q h => h⟩⟩,
      eqG ⟨s.a.map (·.add (j * 4)), 12 - j, s.c - j⟩, fun _ _ _ h _ => h, eqG ⟨s.a, j, s.c⟩, fun _ _ _ h _ => h, fun t w' => t = ((min j (12 - j) : Nat) : Int) ∧ RpR w2.heap.size s y (j + min j (12 - j)) w', fun _ _ _ h hab => ⟨h.1, hab.2 _ h.2⟩, ?_⟩
    refine ⟨fun w6 hs => ?_, fun t41 => ⟨fun w6 hs => ?_, fun t44 => ⟨fun w6 hs f41 f44 => ?_, fun t45 w6 hs f41 f44 f45 => ?_⟩⟩⟩
    · have hr := slcRun (P := P0) (w := w6) hu hz (s := s) (lo := some (j : Int)) (hi := none) (l := j) (h' := 12) (by simp) (by simp [hsn]) (by omega) (by omega) (by omega)
      rw [if_neg (show ¬ s.c = j by omega)] at hr
      exact ⟨⟨s.a.map (·.add (j * 4)), 12 - j, s.c - j⟩, w6, hr, _, rfl, ⟨Below.refl _ _, fun _ h => h⟩, rfl⟩
    · have hr := slcRun (P := P0) (w := w6) hu hz (s := s) (lo := none) (hi := some (j : Int)) (l := 0) (h' := j) (by simp) (by simp) (by omega) (by omega) (by omega)
      rw [if_neg (show ¬ s.c = 0 by omega)] at hr
      have e : Value.slice (s.a.map (·.add (0 * kRange.ls.length))) (j - 0) (s.c - 0) = .slice s.a j s.c := by rw [ha0]; simp [add_mk]
      rw [e] at hr
      exact ⟨⟨s.a, j, s.c⟩, w6, hr, _, rfl, ⟨Below.refl _ _, fun _ h => h⟩, rfl⟩
    · cases f41; cases f44
      obtain ⟨zs, hw, hl, hz6⟩ := hs.2 j hR
      have hrd : SlR kRange w6 ⟨s.a, j, s.c⟩ (zs.take j) := by
        refine ⟨by simp [hl]; omega, by simp only; omega, hw.2.2.1, ?_⟩
        rcases hw.2.2.2 with h0 | ⟨b, o, cur, ha, hB, hg, hc⟩
        · rw [h0.2] at hl; simp at hl
        · refine .inr ⟨b, o, ha, fun i z hi m v hv => ?_⟩
          rw [List.getElem?_take] at hi
          split at hi
          · rw [cell_of hg]; exact hc i z hi m v hv
          · simp at hi
      have hmin : min (zs.take j).length (zs.length - j) = min j (12 - j) := by rw [List.length_take, hl]; omega
      have hall : ∀ i, (i < j → zs[i]? = some y) := hz6
      refine copyW (k := kRange) hu hz noAnyRange (by decide) hw (p := j) (d := ⟨s.a.map (·.add (j * 4)), 12 - j, s.c - j⟩) rfl (by rw [hl]) (by omega) hrd (by intro h; have := congrArg List.length h; simp [hl] at this; omega)
        (zs := zs.take j ++ (List.replicate (min j (12 - j)) y ++ zs.drop (j + min j (12 - j)))) (by simp [hl]; omega) (fun i hi => ?_) fun w7 hs7 hg7 hsz7 => ?_
      · rw [hmin]
        rcases Nat.lt_or_ge i j with h | h
        · rw [if_neg (by omega), List.getElem?_append_left (by simp [hl]; omega), List.getElem?_take, if_pos h]
        · rcases Nat.lt_or_ge i (j + min j (12 - j)) with h2 | h2
          · rw [if_pos ⟨h, by omega⟩, List.getElem?_append_right (by simp [hl]; omega), List.getElem?_append_left (by simp [hl]; omega), List.getElem?_replicate, if_pos (by simp [hl]; omega), List.getElem?_take, if_pos (show i - j < j by omega)]
            exact (hall _ (by omega)).symm
          · rw [if_neg (by omega), List.getElem?_append_right (by simp [hl]; omega), List.getElem?_append_right (by simp [hl]; omega), List.getElem?_drop]
            exact congrArg (zs[·]?) (by simp [hl]; omega)
      · refine ⟨_, rfl, ⟨(Below.refl _ _).grown hg7 (Nat.le_trans hb5.size hs.1.size) hbk, fun q hq => ?_⟩, by rw [hmin], ?_⟩
        · obtain ⟨zs2, hw2, hl2, hq2⟩ := hq
          have hqi : ∀ i, i < q → zs[i]? = some y := by rw [wrs_uniq hw hw2]; exact hq2
          refine ⟨_, hs7, by simp [hl]; omega, fun i hi => ?_⟩
          rcases Nat.lt_or_ge i j with h | h
          · rw [List.getElem?_append_left (by simp [hl]; omega), List.getElem?_take, if_pos h]; exact hall i h
          · rcases Nat.lt_or_ge i (j + min j (12 - j)) with h2 | h2
            · rw [List.getElem?_append_right (by simp [hl]; omega), List.getElem?_append_left (by simp [hl]; omega), List.getElem?_replicate, if_pos (by simp [hl]; omega)]
            · rw [List.getElem?_append_right (by simp [hl]; omega), List.getElem?_append_right (by simp [hl]; omega), List.getElem?_drop, ← hqi i hi]
              exact congrArg (zs[·]?) (by simp [hl]; omega)
        · refine ⟨_, hs7, by simp [hl]; omega, fun i hi => ?_⟩
          rcases Nat.lt_or_ge i j with h | h
          · rw [List.getElem?_append_left (by simp [hl]; omega), List.getElem?_take, if_pos h]; exact hall i h
          · rw [List.getElem?_append_right (by simp [hl]; omega), List.getElem?_append_left (by simp [hl]; omega), List.getElem?_replicate, if_pos (by simp [hl]; omega)]
    · obtain ⟨rfl, hR'⟩ := f45
      have e : IntKind.wrap .i64 ((j : Int) + ((min j (12 - j) : Nat) : Int)) = ((j + min j (12 - j) : Nat) : Int) := by rw [i64_of (by omega) (by omega)]; omega
      rw [e]
      refine ⟨⟨_, rfl, by omega, by omega, hR', hb5.trans hs.1⟩, ?_⟩
      simp only [Int.toNat_natCast]; omega
  · rw [hsn] at hge
    have : j = 12 := by simp at hge; omega
    subst this
    obtain ⟨zs, hw, hl, hz6⟩ := hR
    refine hk s w5 hb5 ?_
    have : zs = List.replicate 12 y := by
      refine List.ext_getElem? fun i => ?_
      rcases Nat.lt_or_ge i 12 with h | h
      · rw [hz6 i h, List.getElem?_replicate, if_pos h]
      · rw [List.getElem?_eq_none (by omega), List.getElem?_eq_none (by simp; omega)]
    rw [← this]; exact hw
end
end Go.Proofs.Ytdlnoabihfnmmaa.V

/- Plain laws: rules without those that do nothing. -/
namespace Go.Proofs.Ytdlnoabihfnmmaa.V
open Go Go.RowKit
set_option linter.unusedVariables false
set_option linter.unusedSimpArgs false
/-- What is known of each byte, as rules go on. -/
abbrev Kn := List (Nat × Nat)
def kn0 : Kn := List.replicate 12 (0, 255)
def knAt (st : Kn) (r : Rule) : Nat × Nat := st.getD r.at_.toNat (0, 255)
/-- Rules without those that do nothing. -/
def tidyL : Kn → List Rule → List Rule
  | _, [] => []
  | st, r :: rs =>
    match brN r.op (knAt st r).1 (knAt st r).2 r.num.toNat true with
    | none => tidyL st rs
    | some _ => r :: (match brN r.op (knAt st r).1 (knAt st r).2 r.num.toNat false with
      | none => []
      | some p => tidyL (st.set r.at_.toNat p) rs)
/-- Bytes of which this is known. -/
def Fits (st : Kn) (cs : List Int) : Prop := st.length = 12 ∧ ∀ (i : Nat) (p : Nat × Nat), st[i]? = some p → ∃ x, cs[i]? = some x ∧ (p.1 : Int) ≤ x ∧ x ≤ p.2
theorem fits0 {cs : List Int} (hc : Came cs) : Fits kn0 cs := by
  refine ⟨by simp [kn0], fun i p hp => ?_⟩
  have hi := lt_of_get hp
  simp only [kn0, List.length_replicate] at hi
  obtain ⟨x, hx⟩ := get_some (l := cs) (k := i) (by have := hc.1; omega)
  refine ⟨x, hx, ?_⟩
  simp only [kn0, List.getElem?_replicate] at hp
  split at hp
  · simp only [Option.some.injEq] at hp
    subst hp
    have := hc.2 x (List.mem_of_getElem? hx)
    simp; omega
  · omega
theorem fits_at {st : Kn} {cs : List Int} (h : Fits st cs) {r : Rule} (hr : RuleP r) : st[r.at_.toNat]? = some (knAt st r) ∧ ((knAt st r).1 : Int) ≤ cs.getD r.at_.toNat 0 ∧ cs.getD r.at_.toNat 0 ≤ (knAt st r).2 := by
  obtain ⟨p, hp⟩ := get_some (l := st) (k := r.at_.toNat) (by have := hr.1; have := h.1; omega)
  have hk : knAt st r = p := by unfold knAt; rw [List.getD_eq_getElem?_getD, hp]; rfl
  obtain ⟨x, hx, h1, h2⟩ := h.2 _ p hp
  rw [hk, List.getD_eq_getElem?_getD, hx]
  exact ⟨hp, h1, h2⟩
theorem fits_set {st : Kn} {cs : List Int} (h : Fits st cs) {r : Rule} (hr : RuleP r) {p : Nat × Nat} (h1 : (p.1 : Int) ≤ cs.getD r.at_.toNat 0) (h2 : cs.getD r.at_.toNat 0 ≤ p.2) : Fits (st.set r.at_.toNat p) cs := by
  refine ⟨by simpa using h.1, fun i q hq => ?_⟩
  by_cases e : r.at_.toNat = i
  · subst e
    have hi := lt_of_get hq
    rw [List.getElem?_set_self (by simpa using hi)] at hq
    simp only [Option.some.injEq] at hq
    subst hq
    obtain ⟨p0, hp0⟩ := get_some (l := st) (k := r.at_.toNat) (by simpa using hi)
    obtain ⟨x, hx, _⟩ := h.2 _ p0 hp0
    refine ⟨x, hx, ?_⟩
    rw [List.getD_eq_getElem?_getD, hx] at h1 h2
    exact ⟨h1, h2⟩
  · rw [List.getElem?_set_ne e] at hq
    exact h.2 i q hq
theorem holds_has {r : Rule} (hr : RuleP r) {lo hi : Nat} {x : Int} {is_ : Bool} (h1 : (lo : Int) ≤ x) (h2 : x ≤ hi) (hh : holdsB r.op x r.num = is_) : ∃ a b, brN r.op lo hi r.num.toNat is_ = some (a, b) ∧ (a : Int) ≤ x ∧ x ≤ b := by
  have hn := hr.2.2.1
  have h3 : holdsX r.op (x.toNat : Int) (r.num.toNat : Int) = is_ := by
    rw [show ((x.toNat : Nat) : Int) = x by omega, show ((r.num.toNat : Nat) : Int) = r.num by omega]; exact hh
  obtain ⟨a, b, hb, h4, h5⟩ := brN_has (op := r.op) (lo := lo) (hi := hi) (n := r.num.toNat) hr.2.1 (x := x.toNat) (by omega) h3
  exact ⟨a, b, hb, by omega, by omega⟩
/-- Tidied rules say the same. -/
theorem tidy_ruled {cs : List Int} : ∀ {st : Kn} {l : List Rule}, Fits st cs → (∀ r ∈ l, RuleP r) → ruledL (tidyL st l) cs = ruledL l cs
  | _, [], _, _ => rfl
  | st, r :: rs, hf, hp => by
    have hr := hp r List.mem_cons_self
    have hrs : ∀ q ∈ rs, RuleP q := fun q hq => hp q (List.mem_cons_of_mem _ hq)
    obtain ⟨hg, h1, h2⟩ := fits_at hf hr
    unfold tidyL
    cases hh : holdsB r.op (cs.getD r.at_.toNat 0) r.num with
    | true =>
      obtain ⟨a, b, hb, _⟩ := holds_has hr h1 h2 hh
      rw [hb]
      simp only [ruledL, hh, if_true]
    | false =>
      obtain ⟨a, b, hb, h3, h4⟩ := holds_has hr h1 h2 hh
      rw [hb]
      have ih1 := tidy_ruled hf hrs
      have ih2 := tidy_ruled (fits_set hf hr (p := (a, b)) h3 h4) hrs
      cases brN r.op (knAt st r).1 (knAt st r).2 r.num.toNat true with
      | none => simp only [ruledL, hh]; exact ih1
      | some q => simp only [ruledL, hh]; exact ih2
theorem tidy_idem : ∀ (st : Kn) (l : List Rule), tidyL st (tidyL st l) = tidyL st l
  | _, [] => rfl
  | st, r :: rs => by
    cases h1 : brN r.op (knAt st r).1 (knAt st r).2 r.num.toNat true with
    | none =>
      have e : tidyL st (r :: rs) = tidyL st rs := by rw [tidyL, h1]
      rw [e]; exact tidy_idem st rs
    | some q =>
      cases h2 : brN r.op (knAt st r).1 (knAt st r).2 r.num.toNat false with
      | none =>
        have e : ∀ xs, tidyL st (r :: xs) = [r] := fun xs => by rw [tidyL, h1, h2]
        rw [e, e]
      | some p =>
        have e : ∀ xs, tidyL st (r :: xs) = r :: tidyL (st.set r.at_.toNat p) xs := fun xs => by rw [tidyL, h1, h2]
        rw [e, e, tidy_idem]
theorem tidy_sub : ∀ (st : Kn) (l : List Rule), (tidyL st l).Sublist l
  | _, [] => List.Sublist.slnil
  | st, r :: rs => by
    cases h1 : brN r.op (knAt st r).1 (knAt st r).2 r.num.toNat true with
    | none =>
      have e : tidyL st (r :: rs) = tidyL st rs := by rw [tidyL, h1]
      rw [e]; exact (tidy_sub st rs).cons r
    | some q =>
      cases h2 : brN r.op (knAt st r).1 (knAt st r).2 r.num.toNat false with
      | none =>
        have e : tidyL st (r :: rs) = [r] := by rw [tidyL, h1, h2]
        rw [e]; exact List.Sublist.cons_cons _ (List.nil_sublist _)
      | some p =>
        have e : tidyL st (r :: rs) = r :: tidyL (st.set r.at_.toNat p) rs := by rw [tidyL, h1, h2]
        rw [e]; exact List.Sublist.cons_cons _ (tidy_sub _ rs)
/-- Rules that are ok, tidied. -/
def tidyR (l : List Rule) : List Rule := if RulesP l then tidyL kn0 l else []
theorem tidy_ok {l : List Rule} (h : RulesP l) : RulesP (tidyL kn0 l) :=
  ⟨Nat.le_trans (tidy_sub kn0 l).length_le h.1, fun x hx => h.2 x ((tidy_sub kn0 l).subset hx)⟩
end Go.Proofs.Ytdlnoabihfnmmaa.V

/- Contracts: rules without those that do nothing, in the program. -/
namespace Go.Proofs.Ytdlnoabihfnmmaa.V
open Go Go.RowKit
set_option linter.unusedVariables false
set_option linter.unusedSimpArgs false
theorem mkOG {α : Type} {k : Kd α} {t tS : TypeId} {bytes : Nat} (hE : El P0 tS t k bytes) {w : World} {n : Nat} (hm : n * bytes ≤ 281474976710656) (hm2 : n ≤ 17592186044416) {K : Sl → World → Prop} (hk : ∀ s w', OwnS k t w.heap.size w' s [] → Below w.heap.size w w' → K s w') :
    RunT (.o (.lf .sl)) P0 (Instr.makeSlice tS (.int .i64 0) (.int .i64 (n : Int))) w K := by
  obtain ⟨i, z, hi, hz, hsz, hby, hzs⟩ := hE.info
  obtain ⟨w', hr, ho, hg⟩ := run_make_own (P := P0) w w.heap.size tS t i z k.ls.length hE.elem hi hz hsz .i64 .i64 n (by
    rw [hby, Nat.mul_comm]; exact hm) (by simp only [maxLen]; omega) (Nat.le_refl _)
  exact ⟨⟨_, 0, n⟩, w', hr, hk _ _ ⟨rfl, ho⟩ ((Below.refl _ _).grown hg (Nat.le_refl _) (by simp))⟩
theorem ldAt {w : World} {b o : Nat} {y : T4} (h : At w b o (Tup.cells (R 4 (.i .i64)) y)) {K : T4 → World → Prop} (hk : K y w) : LdA (R 4 (.i .i64)) ⟨b, o, none⟩ w K := ⟨y, fun j v hv => by rw [add_mk]; exact h j v hv, hk⟩
/-- An address of a range, in old memory. -/
def AtG (H : Nat) (y : T4) (a : Addr) (w : World) : Prop := ∃ b o, a = ⟨b, o, none⟩ ∧ b < H ∧ At w b o (Tup.cells (R 4 (.i .i64)) y)
theorem keptAt {H : Nat} {y : T4} : Kept (Below H) (AtG H y) := by
  rintro a x z ⟨b, o, h1, h2, h3⟩ hxz
  refine ⟨b, o, h1, h2, fun m v hv => ?_⟩
  rw [← h3 m v hv]
  unfold World.cell?
  simp only
  rw [hxz.block b h2]
theorem at_lt {w : World} {b o : Nat} {y : T4} (h : At w b o (Tup.cells (R 4 (.i .i64)) y)) : b < w.heap.size := World.block_lt_of_cell? w _ (h 0 _ (show (Tup.cells (R 4 (.i .i64)) y)[0]? = some (.int .i64 y.1) from rfl))
theorem ixRb {α : Type} {k : Kd α} {w : World} {s : Sl} {xs : List α} {i : Int} {x : α} {sz : Nat} (h : SlR k w s xs) (hi : 0 ≤ i) (hx : xs[i.toNat]? = some x) (hsz : sz = k.ls.length) {K : Addr → World → Prop}
    (hk : ∀ b o, s.bk = some b → At w b o (k.cells x) → K ⟨b, o, none⟩ w) : Ix s.a s.n i sz w K := by
  obtain ⟨b, o, ha, hA⟩ := h.at hx
  have hl : i.toNat < xs.length := by
    rcases Nat.lt_or_ge i.toNat xs.length with h | h
    · exact h
    · simp [List.getElem?_eq_none h] at hx
  refine ⟨⟨b, o, none⟩, ha, hi, by rw [h.1]; omega, ?_⟩
  rw [add_mk, hsz]
  exact hk _ _ (by simp [Sl.bk, ha]) hA
def ivlp (p : Nat × Nat) : T4 := ivl p.1 p.2
def StOk (st : Kn) : Prop := st.length = 12 ∧ ∀ p ∈ st, p.1 ≤ p.2 ∧ p.2 ≤ 255
theorem stOk0 : StOk kn0 := ⟨by simp [kn0], fun p hp => by simp only [kn0, List.mem_replicate] at hp; rw [hp.2]; simp⟩
theorem stOk_at {st : Kn} (h : StOk st) {r : Rule} (hr : RuleP r) : st[r.at_.toNat]? = some (knAt st r) ∧ (knAt st r).1 ≤ (knAt st r).2 ∧ (knAt st r).2 ≤ 255 := by
  obtain ⟨p, hp⟩ := get_some (l := st) (k := r.at_.toNat) (by have := hr.1; have := h.1; omega)
  have hk : knAt st r = p := by unfold knAt; rw [List.getD_eq_getElem?_getD, hp]; rfl
  rw [hk]
  exact ⟨hp, h.2 p (List.mem_of_getElem? hp)⟩
theorem stOk_set {st : Kn} (h : StOk st) {r : Rule} (hr : RuleP r) {is_ : Bool} {p : Nat × Nat} (hb : brN r.op (knAt st r).1 (knAt st r).2 r.num.toNat is_ = some p) : StOk (st.set r.at_.toNat p) := by
  refine ⟨by simpa using h.1, fun q hq => ?_⟩
  rcases List.mem_or_eq_of_mem_set hq with h1 | rfl
  · exact h.2 q h1
  · obtain ⟨_, h2, h3⟩ := stOk_at h hr
    have := brN_in (a := q.1) (b := q.2) h2 hb
    omega
theorem map_set {st : Kn} {i : Nat} {p : Nat × Nat} : (st.set i p).map ivlp = (st.map ivlp).set i (ivlp p) := List.map_set
section
variable {w : World} {s : Sl} {l : List Rule}
theorem impl.RangeOne.i {m : Nat} {v : Int} {K : T4 → World → Prop} (hv : v = m) (hm : m ≤ 255) (hk : ∀ w', Below w.heap.size w w' → K (ivl m m) w') : CallT (.o (.ag (R 4 (.i .i64)))) P0 21 [.int .i64 v] w K := by
  subst hv
  refine impl.RangeOne.c (by omega) (by omega) fun w' hb => ?_
  have := hk w' hb
  rw [ivl_one] at this
  exact this
/-- What is known between two rounds. -/
structure TdI (l : List Rule) (H0 H1 : Nat) (kn : Sl) (w0 : World) (out : Sl) (n : Nat) (st : Kn) (done : List Rule) (w : World) : Prop where
  le : n ≤ l.length
  ok : StOk st
  out : OwnS kRule 48 H1 w out done
  kn : WrS kRange 45 H0 w kn (st.map ivlp)
  bel : Below w0.heap.size w0 w
  size : H1 ≤ w.heap.size
  law : tidyL kn0 l = done ++ tidyL st (l.drop n)
  few : done.length ≤ n
theorem TdI.below {H0 H1 : Nat} {kn out : Sl} {w0 w w' : World} {n : Nat} {st : Kn} {done : List Rule} (h : TdI l H0 H1 kn w0 out n st done w) (hb : Below w.heap.size w w') : TdI l H0 H1 kn w0 out n st done w' :=
  ⟨h.le, h.ok, h.out.below hb, h.kn.below hb, h.bel.trans (hb.mono h.bel.size), Nat.le_trans h.size hb.size, h.law, h.few⟩
end
end Go.Proofs.Ytdlnoabihfnmmaa.V

/- Contracts: RulesTidy, in the program. -/
namespace Go.Proofs.Ytdlnoabihfnmmaa.V
open Go Go.RowKit
set_option linter.unusedVariables false
set_option linter.unusedSimpArgs false
section
variable {w : World} {s : Sl} {l : List Rule}
/-- The rest is handed back. -/
theorem tdRet {out : Sl} {done : List Rule} {H : Nat} {t : TypeId} {w0 w1 : World} {K : Sl → World → Prop} (ho : OwnS kRule t H w1 out done) (hb : Below w0.heap.size w0 w1) (hk : ∀ r w', Below w0.heap.size w0 w' → SlR kRule w' r done → K r w') :
    RunT (.o (.lf .sl)) P0 (Instr.sliceAt 23 out.v none (some (.int .i64 ((out.n : Nat) : Int))) (some (.int .i64 ((out.n : Nat) : Int)))) w1 K := by
  have hc := ho.cap
  have hn := ho.len
  refine slcR (k := kRule) (e := 48) (by kernel_rfl) (by kernel_rfl) ho.read (lo := none) (hi := some (out.n : Int)) (mx := some (out.n : Int)) (l := 0) (h' := out.n) (m := out.n) rfl rfl rfl (by simp) (by omega) (by omega) (by omega) (by omega) fun r _ _ hr _ => ?_
  refine hk r w1 hb ?_
  rw [List.drop_zero, hn, List.take_length] at hr
  exact hr
set_option maxHeartbeats 4000000 in
theorem impl.RulesTidy.c {K : Sl → World → Prop} (h : SlR kRule w s l) (hk : ∀ r w', Below w.heap.size w w' → SlR kRule w' r (tidyR l) → K r w') : CallT (.o (.lf .sl)) P0 6 [s.v] w K := by
  refine impl.RulesTidy.ok (impl.RulesOk.c h fun w1 hb1 => ?_)
  refine And.intro (fun hq => ?_) (fun hq => ?_)
  · have hno : ¬ RulesP l := by simpa using hq
    refine hk _ w1 hb1 ?_
    have e : tidyR l = [] := by unfold tidyR; rw [if_neg hno]
    rw [e]; exact SlR.nil _ _
  · have hp : RulesP l := by simpa using hq
    have et : tidyR l = tidyL kn0 l := by unfold tidyR; rw [if_pos hp]
    rw [et] at hk
    have hl6 := hp.1
    have hsn := h.len
    refine impl.fromTo.c fun w2 hb2 => ?_
    generalize hy0 : ivl 0 255 = y0
    refine nw fun w3 hb3 hs3 hc3 => ?_
    have hb13 := hb1.trans ((hb2.trans (hb3.mono hb2.size)).mono hb1.size)
    have h1 : SlR kRange w3 ⟨some ⟨w2.heap.size, 0, none⟩, 1, 1⟩ [y0] := (OwnS.lit (k := kRange) (B := w2.heap.size) (xs := [y0]) (n := 1) (Nat.le_refl _) hc3 rfl rfl (by simp [maxLen])).read
    refine slices.Repeat_Range.c (x := ⟨some ⟨w2.heap.size, 0, none⟩, 1, 1⟩) (y := y0) h1 ?_
    intro kn w4 hb4 hkn
    have hb14 := hb13.trans (hb4.mono hb13.size)
    refine mkOG elRule (n := s.n) (by omega) (by omega) fun o5 w5 ho5 hb5 => ?_
    have hb15 := hb14.trans (hb5.mono hb14.size)
    have hkn5 := hkn.below hb5
    have hknb : ∀ b, kn.bk = some b → b < w4.heap.size := fun b hb => (hkn.blk hb).2
    have hkn0 : (List.replicate 12 y0) = kn0.map ivlp := by rw [← hy0]; simp [kn0, ivlp]
    rw [hkn0] at hkn5
    refine ⟨fun out t w' => ∃ (n : Nat) (st : Kn) (done : List Rule), t = n ∧ TdI l w3.heap.size w4.heap.size kn w out n st done w', fun _ t _ => l.length - t.toNat, ⟨0, kn0, [], rfl, Nat.zero_le _, stOk0, ho5, hkn5, hb15, hb5.size, rfl, by simp⟩, ?_⟩
    rintro out t w6 ⟨n, st, done, rfl, hI⟩ _
    refine And.intro (fun hlt => ?_) (fun hge => ?_)
    · simp only [decide_eq_true_eq] at hlt
      have hnl : n < l.length := by omega
      obtain ⟨x, hx⟩ := get_some hnl
      have hpx := hp.2 x (List.mem_of_getElem? hx)
      obtain ⟨hstx, hle, h255⟩ := stOk_at hI.ok hpx
      have hxn := hpx.2.2.1
      have hdrop := getElem?_drop_cons hx
      refine ixA (h.below hI.bel) (i := (n : Int)) (by omega) (x := x) (by simpa using hx) rfl ?_
      refine nwStRule fun w7 hb7 hs7 hc7 => ?_
      have hI7 := hI.below hb7
      refine ldB hc7 (j := 2) (x := x.num) rfl ?_
      obtain ⟨m, hm⟩ : ∃ m : Nat, x.num = m := ⟨x.num.toNat, by omega⟩
      have hm2 : x.num.toNat = m := by omega
      have hm255 : m ≤ 255 := by omega
      refine impl.RangeOne.i (m := m) hm hm255 fun w8 hb8 => ?_
      have hI8 := hI7.below hb8
      have hM := M.start w8
      refine nwZ hM fun w9 bo m9 => stAM' m9 (by with_unfolding_all (repeat (first | exact Up.head _ _ _ _ | apply Up.tail))) fun w10 m10 => ?_
      replace m10 : M w8 w10 [(bo, ivl m m)] := m10
      clear m9 hM
      have hI10 := hI8.below m10.low
      have hr10 : w10.heap[w6.heap.size]? = some (.cells x.cs 48 (0, 0)) := (m10.low.block _ (by have := hb8.size; omega)).trans ((hb8.block _ (by omega)).trans hc7)
      have hbo := m10.box bo _ List.mem_cons_self
      have hbo6 : w6.heap.size < bo := by have := hb8.size; omega
      have hatg : ∀ {w' : World} {H : Nat}, H = w'.heap.size → TdI l w3.heap.size w4.heap.size kn w out n st done w' → True := fun _ _ => trivial
      generalize hkx : knAt st x = px at *
      obtain ⟨lo, hi⟩ := px
      simp only at hle h255
      have hkat : (st.map ivlp)[x.at_.toNat]? = some (ivl lo hi) := by rw [List.getElem?_map, hstx]; rfl
      refine ⟨Below w10.heap.size, belOk _, eqG x.op, keptE, eqG x.at_, keptE, AtG w10.heap.size (ivl lo hi), keptAt, eqG (ivl lo hi), keptE, eqG (ivl m m), keptE, eqG (brT x.op lo hi m true), keptE, eqG (brT x.op lo hi m true).1, keptE, eqG (brT x.op lo hi m true).2.1, keptE, ?_⟩
      refine ⟨fun w' hs => ?_, fun t34 => ⟨fun w' hs => ?_, fun t37 => ⟨fun w' hs f => ?_, fun t38 => ⟨fun w' hs f => ?_, fun t39 => ⟨fun w' hs => ?_, fun t40 => ⟨fun w' hs f34 f39 f40 => ?_, fun t41 => ⟨fun w' hs => nwX hs.size, fun t8 => ⟨fun w' hs => nwX hs.size, fun t9 => ⟨fun w' hs f41 q1 q2 => ?_, fun st0 => ⟨fun w' hs f41 q1 q2 => ?_, fun st1 w11 hs f34 f37 f38 f39 f40 f41 g1 g2 hbx => ?_⟩⟩⟩⟩⟩⟩⟩⟩⟩⟩
      · exact ldB ((hs.block _ (by omega)).trans hr10) (j := 1) (x := x.op) rfl (gkX rfl (Below.refl _ _) hs.size)
      · exact ldB0 ((hs.block _ (by omega)).trans hr10) (x := x.at_) rfl (gkX rfl (Below.refl _ _) hs.size)
      · cases f
        exact ixRb ((hI10.kn.below hs).read) (i := x.at_) hpx.1.1 hkat rfl fun b o hb hA => ⟨⟨b, o, none⟩, rfl, ⟨Below.refl _ _, Nat.le_refl _, fun _ _ _ => rfl⟩, b, o, rfl, by have := hknb b hb; have := hI10.size; omega, hA⟩
      · obtain ⟨b, o, rfl, _, hA⟩ := f
        exact ldAt hA (gkX rfl (Below.refl _ _) hs.size)
      · exact ldAM (m10.below hs) (by with_unfolding_all (repeat (first | exact List.mem_cons_self | refine List.mem_cons_of_mem _ ?_))) (gkX rfl (Below.refl _ _) hs.size)
      · cases f34; cases f39; cases f40
        exact impl.branch.c hpx.2.1 hle (by omega) (by omega) fun w5 hb5 => gkX rfl hb5 hs.size
      · cases f41; exact stX q1 hs.size q2
      · cases f41; exact stX q1 hs.size q2
      · cases f34; cases f37; cases f39; cases f40; cases f41
        have hI11 := hI10.below hs
        have hr11 : w11.heap[w6.heap.size]? = some (.cells x.cs 48 (0, 0)) := (hs.block _ (by omega)).trans hr10
        have m11 := m10.below hs
        clear hbx
        have hlaw : tidyL kn0 l = done ++ (match brN x.op lo hi m true with
          | none => tidyL st (l.drop (n + 1))
          | some _ => x :: (match brN x.op lo hi m false with
            | none => []
            | some p => tidyL (st.set x.at_.toNat p) (l.drop (n + 1)))) := by
          first | (rw [hI.law, hdrop, tidyL, hkx, hm2]; rfl) | rw [hI.law, hdrop, tidyL, hkx, hm2]
        have ei : IntKind.wrap .i64 ((n : Int) + 1) = ((n + 1 : Nat) : Int) := by rw [i64_of (by omega) (by omega)]; omega
        rw [ei]
        have hok1 := brT_ok (op := x.op) (lo := lo) (hi := hi) (n := m) (is_ := true)
        have hok2 := brT_ok (op := x.op) (lo := lo) (hi := hi) (n := m) (is_ := false)
        refine And.intro (fun hc => ?_) (fun hc => ?_)
        · have hnone : brN x.op lo hi m true = none := by rw [hok1] at hc; cases hbn : brN x.op lo hi m true with
            | none => rfl
            | some p => rw [hbn] at hc; simp at hc
          rw [hnone] at hlaw
          refine ⟨⟨n + 1, st, done, rfl, ⟨by omega, hI11.ok, hI11.out, hI11.kn, hI11.bel, hI11.size, hlaw, by have := hI11.few; omega⟩⟩, ?_⟩
          simp only [Int.toNat_natCast]; omega
        · obtain ⟨p1, hp1⟩ : ∃ p, brN x.op lo hi m true = some p := by rw [hok1] at hc; cases hbn : brN x.op lo hi m true with
            | none => rw [hbn] at hc; simp at hc
            | some p => exact ⟨p, rfl⟩
          rw [hp1] at hlaw
          simp only at hlaw
          have hfew := hI.few
          have hob : ∀ b, (Value.slice out.a out.n out.c).ownBlock = some b → w4.heap.size ≤ b ∧ b < w6.heap.size := fun b hb => hI.out.blk hb
          refine ldAB hr11 (x := x.t) rfl ?_
          refine ap1 elRule hI11.out x rfl (by omega) (by omega) hI11.size fun out2 w12 ho2 hg2 hbk2 => ?_
          have hw1112 := hg2.size
          have hw611 : w6.heap.size < w11.heap.size := by have := hs.size; omega
          have hw1011 := hs.size
          have hr12 : w12.heap[w6.heap.size]? = some (.cells x.cs 48 (0, 0)) := (hg2.block _ (by omega) (fun e => by have := (hob _ e.symm).2; omega)).trans hr11
          have hbo12 : w12.heap[bo]? = some (.cells (Tup.cells (R 4 (.i .i64)) (ivl m m)).toArray 45 (0, 0)) := (hg2.block bo (by omega) (fun e => by have := (hob _ e.symm).2; omega)).trans (m11.box bo _ List.mem_cons_self).2.2
          have hkn12 : WrS kRange 45 w3.heap.size w12 kn (st.map ivlp) := hI11.kn.kept hg2 (fun b hb e => by have := (hob b hb).1; have := hknb b e; omega)
          have hbel12 : Below w.heap.size w w12 := hI11.bel.grown hg2 hI11.bel.size (fun b hb => by have := (hob b hb).1; have := hb14.size; omega)
          have hsz12 : w4.heap.size ≤ w12.heap.size := by have := hI11.size; omega
          clear hr10 hr11 m10 m11 hI10 hI7 hI8 hc7 hc hok1 hs
          refine ⟨Below w12.heap.size, belOk _, eqG x.op, keptE, eqG x.at_, keptE, AtG w12.heap.size (ivl lo hi), keptAt, eqG (ivl lo hi), keptE, eqG (ivl m m), keptE, eqG (brT x.op lo hi m false), keptE, eqG (brT x.op lo hi m false).1, keptE, eqG (brT x.op lo hi m false).2.1, keptE, ?_⟩
          refine ⟨fun w' hs => ?_, fun t34 => ⟨fun w' hs => ?_, fun t37 => ⟨fun w' hs f => ?_, fun t38 => ⟨fun w' hs f => ?_, fun t39 => ⟨fun w' hs => ?_, fun t40 => ⟨fun w' hs f34 f39 f40 => ?_, fun t41 => ⟨fun w' hs => nwX hs.size, fun lf => ⟨fun w' hs => nwX hs.size, fun t9 => ⟨fun w' hs f41 q1 q2 => ?_, fun st2 => ⟨fun w' hs f41 q1 q2 => ?_, fun st3 w13 hs f34 f37 f38 f39 f40 f41 g1 g2 hbx => ?_⟩⟩⟩⟩⟩⟩⟩⟩⟩⟩
          · exact ldB ((hs.block _ (by omega)).trans hr12) (j := 1) (x := x.op) rfl (gkX rfl (Below.refl _ _) hs.size)
          · exact ldB0 ((hs.block _ (by omega)).trans hr12) (x := x.at_) rfl (gkX rfl (Below.refl _ _) hs.size)
          · cases f
            exact ixRb ((hkn12.below hs).read) (i := x.at_) hpx.1.1 hkat rfl fun b o hb hA => ⟨⟨b, o, none⟩, rfl, ⟨Below.refl _ _, Nat.le_refl _, fun _ _ _ => rfl⟩, b, o, rfl, by have := hknb b hb; omega, hA⟩
          · obtain ⟨b, o, rfl, _, hA⟩ := f
            exact ldAt hA (gkX rfl (Below.refl _ _) hs.size)
          · exact ldAB ((hs.block _ (by omega)).trans hbo12) (by simp) (gkX rfl (Below.refl _ _) hs.size)
          · cases f34; cases f39; cases f40
            exact impl.branch.c hpx.2.1 hle (by omega) (by omega) fun w5 hb5 => gkX rfl hb5 hs.size
          · cases f41; exact stX q1 hs.size q2
          · cases f41; exact stX q1 hs.size q2
          · cases f34; cases f37; cases f39; cases f40; cases f41; cases g1
            have hlf := hbx.1 _ List.mem_cons_self
            simp only at hlf
            have hbel13 : Below w.heap.size w w13 := hbel12.trans (hs.mono hbel12.size)
            have hr13 := (hs.block _ (by omega)).trans hr12
            refine And.intro (fun hc => ?_) (fun hc => ?_)
            · have hnone : brN x.op lo hi m false = none := by rw [hok2] at hc; cases hbn : brN x.op lo hi m false with
                | none => rfl
                | some p => rw [hbn] at hc; simp at hc
              rw [hnone] at hlaw
              rw [hlaw] at hk
              exact tdRet (ho2.below hs) hbel13 hk
            · obtain ⟨p2, hp2⟩ : ∃ p, brN x.op lo hi m false = some p := by rw [hok2] at hc; cases hbn : brN x.op lo hi m false with
                | none => rw [hbn] at hc; simp at hc
                | some p => exact ⟨p, rfl⟩
              rw [hp2] at hlaw
              have e1 : (brT x.op lo hi m false).1 = ivlp p2 := by rw [brT_some (a := p2.1) (b := p2.2) hp2]; rfl
              refine ldB0 hr13 (x := x.at_) rfl ?_
              refine ldAB hlf.2.2 (x := (brT x.op lo hi m false).1) rfl ?_
              refine ixStA (hkn12.below hs) (i := x.at_) hpx.1.1 hkat rfl (by decide) noAnyRange (ivlp p2) (by rw [e1]; rfl) fun w14 hkn14 hg14 hsz14 => ?_
              have hknb3 : ∀ b, kn.bk = some b → w3.heap.size ≤ b ∧ b < w4.heap.size := fun b hb => ⟨((hkn12.below hs).blk hb).1, hknb b hb⟩
              rw [← map_set] at hkn14
              refine ⟨⟨n + 1, st.set x.at_.toNat p2, done ++ [x], rfl, ⟨by omega, stOk_set hI.ok hpx (is_ := false) (by rw [hkx]; show brN x.op lo hi x.num.toNat false = some p2; rw [hm2]; exact hp2), (ho2.below hs).kept hg14 (fun b hb e => by have := ((ho2.below hs).blk e).1; have := hknb b hb; omega), hkn14, hbel13.grown hg14 hbel13.size (fun b hb => by have := (hknb3 b hb).1; have := hb13.size; omega), by have := hs.size; omega, by rw [hlaw]; simp, by simp; omega⟩⟩, ?_⟩
              simp only [Int.toNat_natCast]; omega
    · simp only [decide_eq_false_iff_not] at hge
      have hnl : n = l.length := by have := hI.le; omega
      have e := hI.law
      rw [hnl, List.drop_length, show tidyL st [] = [] from rfl, List.append_nil] at e
      rw [e] at hk
      exact tdRet hI.out hI.bel hk
end
end Go.Proofs.Ytdlnoabihfnmmaa.V

/- Contracts: RulesTidy, in the reference. -/
namespace Go.Proofs.Ytdlnoabihfnmmaa.V
open Go Go.RowKit
set_option linter.unusedVariables false
set_option linter.unusedSimpArgs false
theorem elRange : El P0 42 45 kRange 32 := ⟨by kernel_rfl, ⟨_, _, Option.eq_some_of_isSome (by kernel_rfl), Option.eq_some_of_isSome (by kernel_rfl), by kernel_rfl, by kernel_rfl, by kernel_rfl⟩, by decide, noAnyRange⟩
def AtV (H : Nat) (vs : List Value) (a : Addr) (w : World) : Prop := ∃ b o, a = ⟨b, o, none⟩ ∧ b < H ∧ At w b o vs
theorem keptAv {H : Nat} {vs : List Value} : Kept (Below H) (AtV H vs) := by
  rintro a x z ⟨b, o, h1, h2, h3⟩ hxz
  refine ⟨b, o, h1, h2, fun m v hv => ?_⟩
  rw [← h3 m v hv]
  unfold World.cell?
  simp only
  rw [hxz.block b h2]
theorem bk_lt {α : Type} {k : Kd α} {w : World} {s : Sl} {xs : List α} (h : SlR k w s xs) {i : Nat} {x : α} (hx : xs[i]? = some x) {v : Value} (hv : (k.cells x)[0]? = some v) {b : Nat} (hb : s.bk = some b) : b < w.heap.size := by
  obtain ⟨b', o, ha, hA⟩ := h.at hx
  have : b' = b := by simpa [Sl.bk, ha] using hb
  subst this
  exact World.block_lt_of_cell? w _ (hA 0 v hv)
theorem ldAv {w : World} {b o : Nat} {ls : List Lf} {y : Tup ls} (h : At w b o (Tup.cells ls y)) {K : Tup ls → World → Prop} (hk : K y w) : LdA ls ⟨b, o, none⟩ w K := ⟨y, fun j v hv => by rw [add_mk]; exact h j v hv, hk⟩
/-- A rule is asked of what is known. -/
theorem regT {w : World} {s kn : Sl} {l : List Rule} {ks : List T4} {i : Int} {x : Rule} {lo hi m : Nat} {is_ : Bool} {K : T4 × Bool × Unit → Nat → World → Prop} (hs : SlR kRule w s l) (hkn : SlR kRange w kn ks) (hi0 : 0 ≤ i) (hx : l[i.toNat]? = some x) (hpx : RuleP x) (hm : x.num.toNat = m) (hkat : ks[x.at_.toNat]? = some (ivl lo hi)) (hle : lo ≤ hi) (h255 : hi ≤ 255)
    (hk : ∀ b w', Below w.heap.size w w' → w'.heap[b]? = some (.cells (Tup.cells (R 4 (.i .i64)) (brT x.op lo hi m is_).1).toArray 45 (0, 0)) → w.heap.size ≤ b → K ((brT x.op lo hi m is_).1, (brN x.op lo hi m is_).isSome, ()) b w') :
    ∃ Sp : World → World → Prop, SpOk Sp w ∧ ∃ G40 : Addr → World → Prop, Kept Sp G40 ∧ ∃ G41 : Tup (R 5 (.i .i64)) → World → Prop, Kept Sp G41 ∧ ∃ G44 : Addr → World → Prop, Kept Sp G44 ∧ ∃ G45 : Tup (R 4 (.i .i64)) → World → Prop, Kept Sp G45 ∧ ∃ G46 : (Tup (R 4 (.i .i64))) × (Bool) × Unit → World → Prop, Kept Sp G46 ∧ ∃ Gs : Tup (R 4 (.i .i64)) → World → Prop, Kept Sp Gs ∧
    (∀ w1, Sp w w1 → Ix s.a s.n i 5 w1 fun a w2 => GK (.o (.lf .ad)) (Sb (World.heap w).size Sp) w1 G40 (.pointer (some a)) w2) ∧
    ∀ (t40 : Addr), (∀ w1, Sp w w1 → G40 t40 w1 → LdA (R 5 (.i .i64)) t40 w1 fun (t : Tup (R 5 (.i .i64))) w2 => GK (.o (.ag (R 5 (.i .i64)))) (Sb (World.heap w).size Sp) w1 G41 (.agg (Tup.cells (R 5 (.i .i64)) t).toArray) w2) ∧
    ∀ (t41 : Tup (R 5 (.i .i64))), (∀ w1, Sp w w1 → Ix kn.a kn.n x.at_ 4 w1 fun a w2 => GK (.o (.lf .ad)) (Sb (World.heap w).size Sp) w1 G44 (.pointer (some a)) w2) ∧
    ∀ (t44 : Addr), (∀ w1, Sp w w1 → G44 t44 w1 → LdA (R 4 (.i .i64)) t44 w1 fun (t : Tup (R 4 (.i .i64))) w2 => GK (.o (.ag (R 4 (.i .i64)))) (Sb (World.heap w).size Sp) w1 G45 (.agg (Tup.cells (R 4 (.i .i64)) t).toArray) w2) ∧
    ∀ (t45 : Tup (R 4 (.i .i64))), (∀ w1, Sp w w1 → G41 t41 w1 → G45 t45 w1 → CallT (.n [(.ag (R 4 (.i .i64))), (.lf .b)]) P0 25 [(.agg (Tup.cells (R 5 (.i .i64)) t41).toArray), (.agg (Tup.cells (R 4 (.i .i64)) t45).toArray), (.bool is_)] w1 fun (t : (Tup (R 4 (.i .i64))) × (Bool) × Unit) w2 => GK (.n [(.ag (R 4 (.i .i64))), (.lf .b)]) (Sb (World.heap w).size Sp) w1 G46 (.tuple #[(.agg (Tup.cells (R 4 (.i .i64)) t.1).toArray), (.bool t.2.1)]) w2) ∧
    ∀ (t46 : (Tup (R 4 (.i .i64))) × (Bool) × Unit), (∀ w1, Sp w w1 → Nw (zc P0 45) 45 w1 fun a w2 => AXp (World.heap w).size 45 (zc P0 45) Sp w1 (.pointer (some a)) w2) ∧
    ∀ (t8 : Nat), (∀ w1, Sp w w1 → G46 t46 w1 → (World.heap w).size ≤ t8 → (World.heap w1)[t8]? = some (.cells (zc P0 45) 45 (0, 0)) → StA P0 (⟨t8, 0, none⟩ : Addr) (Tup.cells (R 4 (.i .i64)) t46.1) w1 fun w2 => GS (.o (.ag (R 4 (.i .i64)))) Sp w1 Gs t8 45 w2) ∧
    ∀ (st : Tup (R 4 (.i .i64))), ∀ w1, Sp w w1 → G40 t40 w1 → G41 t41 w1 → G44 t44 w1 → G45 t45 w1 → G46 t46 w1 → Gs st w1 → BxD (World.heap w).size w1 [(t8, ((.agg (Tup.cells (R 4 (.i .i64)) st).toArray) : Value).cells, 45)] → K t46 t8 w1 := by
  have hsl : ∀ b, s.bk = some b → b < w.heap.size := fun b hb => bk_lt hs hx (v := .int .i64 x.at_) rfl hb
  have hkl : ∀ b, kn.bk = some b → b < w.heap.size := fun b hb => bk_lt hkn hkat (v := .int .i64 (ivl lo hi).1) rfl hb
  refine ⟨Below w.heap.size, belOk _, AtV w.heap.size (Tup.cells (R 5 (.i .i64)) x.t), keptAv, eqG x.t, keptE, AtG w.heap.size (ivl lo hi), keptAt, eqG (ivl lo hi), keptE, eqG ((brT x.op lo hi m is_).1, (brN x.op lo hi m is_).isSome, ()), keptE, eqG (brT x.op lo hi m is_).1, keptE, ?_⟩
  refine ⟨fun w' hs' => ?_, fun t40 => ⟨fun w' hs' f => ?_, fun t41 => ⟨fun w' hs' => ?_, fun t44 => ⟨fun w' hs' f => ?_, fun t45 => ⟨fun w' hs' f41 f45 => ?_, fun t46 => ⟨fun w' hs' => nwX hs'.size, fun t8 => ⟨fun w' hs' f46 q1 q2 => ?_, fun st w' hs' f40 f41 f44 f45 f46 g hbx => ?_⟩⟩⟩⟩⟩⟩⟩
  · exact ixRb (hs.below hs') hi0 hx rfl fun b o hb hA => ⟨⟨b, o, none⟩, rfl, ⟨Below.refl _ _, Nat.le_refl _, fun _ _ _ => rfl⟩, b, o, rfl, hsl b hb, hA⟩
  · obtain ⟨b, o, rfl, _, hA⟩ := f
    exact ldAv hA (gkX rfl (Below.refl _ _) hs'.size)
  · exact ixRb (hkn.below hs') hpx.1.1 hkat rfl fun b o hb hA => ⟨⟨b, o, none⟩, rfl, ⟨Below.refl _ _, Nat.le_refl _, fun _ _ _ => rfl⟩, b, o, rfl, hkl b hb, hA⟩
  · obtain ⟨b, o, rfl, _, hA⟩ := f
    exact ldAt hA (gkX rfl (Below.refl _ _) hs'.size)
  · cases f41; cases f45
    refine spec.l9Range.c hpx.2.1 hpx.2.2.1 hle (by omega) fun w5 hb5 => ?_
    rw [hm]
    exact gkX rfl hb5 hs'.size
  · cases f46; exact stX q1 hs'.size q2
  · cases f46; cases g
    have hb := hbx.1 _ List.mem_cons_self
    exact hk t8 w' hs' hb.2.2 hb.1
section
variable {w : World} {s : Sl} {l : List Rule}
set_option maxHeartbeats 4000000 in
theorem spec.RulesTidy.c {K : Sl → World → Prop} (h : SlR kRule w s l) (hk : ∀ r w', Below w.heap.size w w' → SlR kRule w' r (tidyR l) → K r w') : CallT (.o (.lf .sl)) P0 8 [s.v] w K := by
  refine spec.RulesTidy.ok ?_
  unfold spec.RulesTidy.vc
  refine nw fun w1 hb1 hs1 hc1 => ?_
  refine spec.l9Ok.c (h.below hb1) fun w2 hb2 => ?_
  have hb12 := hb1.trans (hb2.mono hb1.size)
  have ho2 : OwnS kRule 48 w.heap.size w2 ⟨some ⟨w.heap.size, 0, none⟩, 0, 0⟩ [] := (OwnS.lit (k := kRule) (B := w.heap.size) (xs := []) (n := 0) (Nat.le_refl _) hc1 rfl rfl (by simp)).below hb2
  refine And.intro (fun hq => ?_) (fun hq => ?_)
  · have hno : ¬ RulesP l := by simpa using hq
    refine hk _ w2 hb12 ?_
    have e : tidyR l = [] := by unfold tidyR; rw [if_neg hno]
    rw [e]; exact ho2.read
  · have hp : RulesP l := by simpa using hq
    have et : tidyR l = tidyL kn0 l := by unfold tidyR; rw [if_pos hp]
    rw [et] at hk
    have hl6 := hp.1
    have hsn := h.len
    have hw12 : w.heap.size < w2.heap.size := by have := hb2.size; omega
    refine nw fun w3 hb3 hs3 hc3 => ?_
    have ho3 : OwnS kRange 45 w2.heap.size w3 ⟨some ⟨w2.heap.size, 0, none⟩, 0, 0⟩ [] := OwnS.lit (k := kRange) (B := w2.heap.size) (xs := []) (n := 0) (Nat.le_refl _) hc3 rfl rfl (by simp)
    generalize hy0 : ivl 0 255 = y0
    refine ⟨fun kn t w' => ∃ n : Nat, t = n ∧ n ≤ 12 ∧ OwnS kRange 45 w2.heap.size w' kn (List.replicate n y0) ∧ Below w2.heap.size w2 w', fun _ t _ => 12 - t.toNat, ⟨0, rfl, by omega, ho3, hb3⟩, ?_⟩
    rintro kn t w4 ⟨n, rfl, hn, hkn, hb4⟩ _
    refine And.intro (fun hlt => ?_) (fun hge => ?_)
    · simp only [decide_eq_true_eq] at hlt
      refine spec.l2Ends.c fun w5 hb5 => ?_
      rw [hy0]
      refine ap1 elRange (hkn.below hb5) y0 rfl (by simp; omega) (by simp; omega) (by have := hb4.size; have := hb5.size; omega) fun kn2 w6 hkn2 hg6 _ => ?_
      have ei : IntKind.wrap .i64 ((n : Int) + 1) = ((n + 1 : Nat) : Int) := by rw [i64_of (by omega) (by omega)]; omega
      rw [ei]
      refine ⟨⟨n + 1, rfl, by omega, by rw [List.replicate_succ']; exact hkn2, (hb4.trans (hb5.mono hb4.size)).grown hg6 (by have := hb4.size; have := hb5.size; omega) (fun b hb => (hkn.blk hb).1)⟩, ?_⟩
      simp only [Int.toNat_natCast]; omega
    · simp only [decide_eq_false_iff_not] at hge
      obtain rfl : n = 12 := by omega
      have hkn0 : (List.replicate 12 y0) = kn0.map ivlp := by rw [← hy0]; simp [kn0, ivlp]
      rw [hkn0] at hkn
      have hb14 := hb12.trans (hb4.mono hb12.size)
      have hknb : ∀ b, kn.bk = some b → w2.heap.size ≤ b ∧ b < w4.heap.size := fun b hb => hkn.wr.blk hb
      refine ⟨fun out t w' => ∃ (n : Nat) (st : Kn) (done : List Rule), t = n ∧ TdI l w2.heap.size w.heap.size kn w out n st done w' ∧ w4.heap.size ≤ w'.heap.size ∧ ∀ b, (Value.slice out.a out.n out.c).ownBlock = some b → kn.bk ≠ some b, fun _ t _ => l.length - t.toNat,
        ⟨0, kn0, [], rfl, ⟨Nat.zero_le _, stOk0, ho2.below hb4, hkn.wr, hb14, hb14.size, rfl, by simp⟩, Nat.le_refl _, fun b hb e => by
          have h1 : w.heap.size = b := by simpa [Value.ownBlock] using hb
          have := (hknb b e).1
          omega⟩, ?_⟩
      rintro out t w5 ⟨n, st, done, rfl, hI, hw45, hdis⟩ _
      refine And.intro (fun hlt => ?_) (fun hge => ?_)
      · simp only [decide_eq_true_eq] at hlt
        have hnl : n < l.length := by omega
        obtain ⟨x, hx⟩ := get_some hnl
        have hpx := hp.2 x (List.mem_of_getElem? hx)
        obtain ⟨hstx, hle, h255⟩ := stOk_at hI.ok hpx
        have hxn := hpx.2.2.1
        have hdrop := getElem?_drop_cons hx
        have hls : ∀ b, s.bk = some b → b < w.heap.size := fun b hb => bk_lt h hx (v := .int .i64 x.at_) rfl hb
        have hw5 := hI.bel.size
        refine ixF (h.below hI.bel) (i := (n : Int)) (by omega) (x := x) (by simpa using hx) rfl (l := .i .i64) (v := x.at_) (j := 0) rfl ?_
        obtain ⟨m, hm⟩ : ∃ m : Nat, x.num.toNat = m := ⟨_, rfl⟩
        generalize hkx : knAt st x = px at *
        obtain ⟨lo, hi⟩ := px
        simp only at hle h255
        have hkat : (st.map ivlp)[x.at_.toNat]? = some (ivl lo hi) := by rw [List.getElem?_map, hstx]; rfl
        have hlaw : tidyL kn0 l = done ++ (match brN x.op lo hi m true with
          | none => tidyL st (l.drop (n + 1))
          | some _ => x :: (match brN x.op lo hi m false with
            | none => []
            | some p => tidyL (st.set x.at_.toNat p) (l.drop (n + 1)))) := by
          first | (rw [hI.law, hdrop, tidyL, hkx, hm]; rfl) | rw [hI.law, hdrop, tidyL, hkx, hm]
        have hfew := hI.few
        have ei : IntKind.wrap .i64 ((n : Int) + 1) = ((n + 1 : Nat) : Int) := by rw [i64_of (by omega) (by omega)]; omega
        rw [ei]
        refine regT (is_ := true) (h.below hI.bel) hI.kn.read (i := (n : Int)) (by omega) (by simpa using hx) hpx hm hkat hle h255 fun t8 w6 hb6 _ _ => ?_
        have hI6 := hI.below hb6
        refine regT (is_ := false) (h.below hI6.bel) hI6.kn.read (i := (n : Int)) (by omega) (by simpa using hx) hpx hm hkat hle h255 fun rest w7 hb7 hrest hrest2 => ?_
        have hI7 := hI6.below hb7
        have hw7 : w4.heap.size ≤ w7.heap.size := by have := hb6.size; have := hb7.size; omega
        refine And.intro (fun hc => ?_) (fun hc => ?_)
        · have hnone : brN x.op lo hi m true = none := by cases hbn : brN x.op lo hi m true with
            | none => rfl
            | some p => rw [hbn] at hc; simp at hc
          rw [hnone] at hlaw
          refine ⟨⟨n + 1, st, done, rfl, ⟨by omega, hI7.ok, hI7.out, hI7.kn, hI7.bel, hI7.size, hlaw, by omega⟩, hw7, hdis⟩, ?_⟩
          simp only [Int.toNat_natCast]; omega
        · obtain ⟨p1, hp1⟩ : ∃ p, brN x.op lo hi m true = some p := by cases hbn : brN x.op lo hi m true with
            | none => rw [hbn] at hc; simp at hc
            | some p => exact ⟨p, rfl⟩
          rw [hp1] at hlaw
          simp only at hlaw
          refine ixA (h.below hI7.bel) (i := (n : Int)) (by omega) (x := x) (by simpa using hx) rfl ?_
          refine ap1 elRule hI7.out x rfl (by omega) (by omega) hI7.size fun out2 w8 ho2' hg2 hbk2 => ?_
          have hob : ∀ b, (Value.slice out.a out.n out.c).ownBlock = some b → w.heap.size ≤ b ∧ b < w5.heap.size := fun b hb => hI.out.blk hb
          have hkn8 : WrS kRange 45 w2.heap.size w8 kn (st.map ivlp) := hI7.kn.kept hg2 (fun b hb e => hdis b hb e)
          have hbel8 : Below w.heap.size w w8 := hI7.bel.grown hg2 hI7.bel.size (fun b hb => (hob b hb).1)
          have hsz8 := hg2.size
          have hdis2 : ∀ b, (Value.slice out2.a out2.n out2.c).ownBlock = some b → kn.bk ≠ some b := fun b hb e => by
            rcases hbk2 b hb with h1 | h1
            · exact hdis b h1 e
            · have := (hknb b e).2; omega
          refine And.intro (fun hc => ?_) (fun hc => ?_)
          · have hnone : brN x.op lo hi m false = none := by cases hbn : brN x.op lo hi m false with
              | none => rfl
              | some p => rw [hbn] at hc; simp at hc
            rw [hnone] at hlaw
            rw [hlaw] at hk
            exact hk _ _ hbel8 ho2'.read
          · obtain ⟨p2, hp2⟩ : ∃ p, brN x.op lo hi m false = some p := by cases hbn : brN x.op lo hi m false with
              | none => rw [hbn] at hc; simp at hc
              | some p => exact ⟨p, rfl⟩
            rw [hp2] at hlaw
            have e1 : (brT x.op lo hi m false).1 = ivlp p2 := by rw [brT_some (a := p2.1) (b := p2.2) hp2]; rfl
            have hrl : rest < w7.heap.size := (Array.getElem?_eq_some_iff.1 hrest).1
            have hrest8 := (hg2.block rest hrl (fun e => by have := (hob _ e.symm).2; have := hb6.size; omega)).trans hrest
            refine ldAB hrest8 (x := (brT x.op lo hi m false).1) rfl ?_
            refine ixStA hkn8 (i := x.at_) hpx.1.1 hkat rfl (by decide) noAnyRange (ivlp p2) (by rw [e1]; rfl) fun w14 hkn14 hg14 hsz14 => ?_
            rw [← map_set] at hkn14
            refine ⟨⟨n + 1, st.set x.at_.toNat p2, done ++ [x], rfl, ⟨by omega, stOk_set hI.ok hpx (is_ := false) (by rw [hkx]; show brN x.op lo hi x.num.toNat false = some p2; rw [hm]; exact hp2), ho2'.kept hg14 (fun b hb e => hdis2 b e hb), hkn14, hbel8.grown hg14 hbel8.size (fun b hb => by have := (hknb b hb).1; omega), by have := hI7.size; omega, by rw [hlaw]; simp, by simp; omega⟩, by omega, hdis2⟩, ?_⟩
            simp only [Int.toNat_natCast]; omega
      · simp only [decide_eq_false_iff_not] at hge
        have hnl : n = l.length := by have := hI.le; omega
        have e := hI.law
        rw [hnl, List.drop_length, show tidyL st [] = [] from rfl, List.append_nil] at e
        rw [e] at hk
        exact hk _ _ hI.bel hI.out.read
end
end Go.Proofs.Ytdlnoabihfnmmaa.V

/- Contracts: the draws of rules. -/
namespace Go.Proofs.Ytdlnoabihfnmmaa.V
open Go Go.RowKit
set_option linter.unusedVariables false
set_option linter.unusedSimpArgs false
section
variable {B br m : Nat} {w : World}
theorem spec.l20Number.c {K : Int → World → Prop} (h : RdS B br m w) (hm : m ≤ 900000000) (hk : ∀ x w', w.grownBy w' (some br) → RdS B br (m + 3) w' → K x w') : CallT (.o (.lf (.i .i64))) P0 56 [.pointer (some ⟨br, 0, none⟩)] w K := by
  refine spec.l20Number.ok (spec.l20Rd.pick.c h (by omega) (by omega) fun t4 w1 _ _ g1 r1 => ?_)
  refine And.intro (fun _ => ?_) (fun _ => And.intro (fun _ => ?_) (fun _ => ?_))
  · exact spec.l20Imm.c r1 (by omega) fun x w2 g2 r2 => hk _ _ (grown_trans g1 g2) (r2.more (by omega))
  · exact spec.l20Rd.pick.c r1 (by omega) (by omega) fun x w2 _ _ g2 r2 => hk _ _ (grown_trans g1 g2) (r2.more (by omega))
  · refine spec.l20Rd.pick.c r1 (by omega) (by omega) fun x w2 _ _ g2 r2 => ?_
    refine oneLit (xs := [0, 4, 8, 16, 24]) r2 (by omega) rfl rfl (by decide) fun y w3 hy g3 r3 => ⟨?_, hk _ _ (grown_trans (grown_trans g1 g2) g3) (r3.more (by omega))⟩
    simp at hy; omega
def RlI (B br m : Nat) (w : World) (n : Int) (out : Sl) (w' : World) : Prop :=
  ∃ (c : Nat) (ys : List Rule), n = c ∧ ys.length + c ≤ 6 ∧ OwnS kRule 48 w.heap.size w' out ys ∧ RdS B br (m + 1 + 10 * ys.length) w' ∧ w.grownBy w' (some br)
theorem knRule : KN kRule := ⟨by intro l hl; simp [kRule, List.mem_replicate] at hl; exact hl, by decide, fun t => ⟨⟨t.1, t.2.1, t.2.2.1, t.2.2.2.1, t.2.2.2.2.1⟩, rfl⟩⟩
set_option maxHeartbeats 2000000 in
theorem spec.l20Rules.c {K : Sl → World → Prop} (h : RdS B br m w) (hm : m ≤ 800000000) (hk : ∀ r w' ys, w.grownBy w' (some br) → RdS B br (m + 100) w' → OwnS kRule 48 w.heap.size w' r ys → ys.length ≤ 6 → K r w') :
    CallT (.o (.lf .sl)) P0 17 [.pointer (some ⟨br, 0, none⟩)] w K := by
  have hlt := h.lt
  refine spec.l20Rules.ok (nw fun w1 b1 s1 c1 => ?_)
  have ho1 : OwnS kRule 48 w.heap.size w1 ⟨some ⟨w.heap.size, 0, none⟩, 0, 0⟩ [] := OwnS.lit (k := kRule) (B := w.heap.size) (xs := []) (n := 0) (Nat.le_refl _) c1 rfl rfl (by simp)
  refine oneLit (xs := [0, 1, 2, 3, 4, 6]) (h.below b1) (by omega) rfl rfl (by decide) fun n0 w2 hn0 g2 r2 => ?_
  have hn06 : 0 ≤ n0 ∧ n0 ≤ 6 := by simp at hn0; omega
  have G2 : w.grownBy w2 (some br) := grown_trans (grown_any b1) g2
  refine ⟨fun out n w' => RlI B br m w n out w', fun _ n _ => n.toNat, ⟨n0.toNat, [], by omega, by simp; omega, ho1.keptBr g2 hlt, r2.more (by simp), G2⟩, ?_⟩
  rintro out n w3 ⟨c, ys, rfl, hc, o3, r3, G3⟩ _
  have hon := o3.len
  refine And.intro (fun hpos => ?_) (fun hpos => ?_)
  · simp only [decide_eq_true_eq] at hpos
    have hc1 : 1 ≤ c := by omega
    refine oneLit (xs := [0, 0, 1, 2, 11]) r3 (by omega) rfl rfl (by decide) fun t17 w5 _ g5 r5 => ?_
    refine spec.l20Rd.pick.c r5 (by omega) (by omega) fun t19 w6 _ _ g6 r6 => ?_
    refine oneLit (xs := [0, 1, 2, 3, 7, 9, 10, 200, 254, 255]) r6 (by omega) rfl rfl (by decide) fun t23 w8 _ g8 r8 => ?_
    refine spec.l20Rd.pick.c r8 (by omega) (by omega) fun t25 w9 _ _ g9 r9 => ?_
    have g39 : w3.grownBy w9 (some br) := grown_trans (grown_trans (grown_trans g5 g6) g8) g9
    have o9 := o3.keptBr g39 hlt
    have G9 : w.grownBy w9 (some br) := grown_trans G3 g39
    refine nwStRule (x := ⟨t17, IntKind.wrap .i64 (12 + t19), t23, t25, 0⟩) fun w10 b10 s10 c10 => ?_
    have r10 := r9.below b10
    have o10 := o9.below b10
    have hH := G9.size
    have G10 : w.grownBy w10 (some br) := grown_trans G9 (grown_any b10)
    refine ldB c10 (j := 3) (x := t25) rfl ?_
    have ei : IntKind.wrap .i64 ((c : Int) - 1) = ((c - 1 : Nat) : Int) := by rw [i64_of (by omega) (by omega)]; omega
    have fin : ∀ {w15 : World} (y : Rule), w.grownBy w15 (some br) → RdS B br (m + 1 + 10 * ys.length + 9) w15 → OwnS kRule 48 w.heap.size w15 out ys → w15.heap[w9.heap.size]? = some (.cells y.cs 48 (0, 0)) →
        LdA (R 5 (.i .i64)) ⟨w9.heap.size, 0, none⟩ w15 fun (t35 : Tup (R 5 (.i .i64))) w16 => Nw #[(.int .i64 t35.1), (.int .i64 t35.2.1), (.int .i64 t35.2.2.1), (.int .i64 t35.2.2.2.1), (.int .i64 t35.2.2.2.2.1)] 48 w16 fun a_t36 w17 =>
        RunT (.o (.lf .sl)) P0 (Builtin.append_ #[23, 23] 23 #[out.v, (.slice (some a_t36) 1 1)]) w17 fun (t37 : Sl) w18 =>
        (RlI B br m w (IntKind.wrap .i64 ((c : Int) - 1)) t37 w18 ∧ (IntKind.wrap .i64 ((c : Int) - 1)).toNat < (c : Int).toNat) := by
      intro w15 y g15 r15 o15 c15
      refine ldAB (x := y.t) c15 rfl ?_
      refine ap1 elRule o15 y rfl (by omega) (by omega) g15.size fun out2 w18 o18 g18 _ => ?_
      rw [ei]
      refine ⟨⟨c - 1, ys ++ [y], rfl, by simp; omega, o18, (r15.keptO o15 g18 hlt).more (by simp; omega), grown_newO g15 g18 (fun b hb => (o15.blk hb).1)⟩, ?_⟩
      simp only [Int.toNat_natCast]; omega
    refine And.intro (fun _ => ?_) (fun _ => fin _ G10 (r10.more (by omega)) o10 c10)
    refine oneLit (xs := [0, 1, 2, 3, 7, 9, 4294967295]) r10 (by omega) rfl rfl (by decide) fun t32 w14 _ g14 r14 => ?_
    have hbr9 : br < w9.heap.size := by omega
    have c14 := keepB c10 g14 hbr9
    refine stB c14 rfl (by simp [Rule.cs]) fun w15 g15 s15 c15 => ?_
    refine fin ⟨t17, IntKind.wrap .i64 (12 + t19), t23, t25, t32⟩ (grown_new (grown_trans G10 g14) g15 (by omega)) ((r14.kept g15 (fun b hb => by simp only [Option.some.injEq] at hb; omega)).more (by omega)) ((o10.keptBr g14 hlt).kept g15 (fun b hb e => by simp only [Option.some.injEq] at hb; have := (o9.blk e).2; omega)) c15
  · have hc0 : c = 0 := by simp at hpos; omega
    subst hc0
    refine ⟨fun t w' => ∃ ys' : List Rule, (t = true → 1 ≤ ys.length) ∧ OwnS kRule 48 w.heap.size w' out ys ∧ RdS B br (m + 70) w' ∧ w.grownBy w' (some br), ?_, ?_⟩
    · refine And.intro (fun hp => ?_) (fun _ => ⟨[], fun h => by simp at h, o3, r3.more (by omega), G3⟩)
      have hp' : 1 ≤ ys.length := by simp only [decide_eq_true_eq] at hp; omega
      exact spec.l20Rd.pick.c r3 (by omega) (by omega) fun t43 w4 _ _ g4 r4 => ⟨[], fun _ => hp', o3.keptBr g4 hlt, r4.more (by omega), grown_trans G3 g4⟩
    · rintro t w4 ⟨_, hy, o4, r4, G4⟩ _
      refine And.intro (fun ht => ?_) (fun _ => hk out w4 ys G4 (r4.more (by omega)) o4 (by omega))
      have hy1 := hy ht
      refine spec.l20Rd.pick.c r4 (by omega) (by omega) fun t49 w5 k0 k1 g5 r5 => ?_
      refine spec.l20Rd.pick.c r5 (by omega) (by omega) fun t51 w6 _ _ g6 r6 => ?_
      have o6 := (o4.keptBr g5 hlt).keptBr g6 hlt
      have G6 : w.grownBy w6 (some br) := grown_trans (grown_trans G4 g5) g6
      obtain ⟨x, hx⟩ := get_some (l := ys) (k := t49.toNat) (by omega)
      have stf : ∀ {w11 : World} (j : Nat) (v : Int) (y : Rule), w6.grownBy w11 (some br) → RdS B br (m + 80) w11 → j < 5 → kRule.cells y = (kRule.cells x).set j (.int .i64 v) → Ix out.a out.n t49 5 w11 fun a w12 => St (Addr.add a j) (.int .i64 v) w12 fun w13 => K out w13 := by
        intro w11 j v y g11 r11 hj hy
        have o11 := o6.keptBr g11 hlt
        refine ixOwF o11 k0 hx rfl hj rfl y hy fun w12 o12 g12 _ => ?_
        rw [← ob_bk] at g12
        exact hk out w12 _ (grown_newO (grown_trans G6 g11) g12 (fun b hb => (o11.blk hb).1)) ((r11.keptO o11 g12 hlt).more (by omega)) o12 (by simp; omega)
      refine And.intro (fun _ => ?_) (fun _ => And.intro (fun _ => ?_) (fun _ => And.intro (fun _ => ?_) (fun _ => ?_)))
      · exact oneLit (xs := [-1, 12]) r6 (by omega) rfl rfl (by decide) fun v w11 _ g11 r11 => stf 0 v { x with at_ := v } g11 (r11.more (by omega)) (by omega) rfl
      · exact oneLit (xs := [-1, 256]) r6 (by omega) rfl rfl (by decide) fun v w11 _ g11 r11 => stf 2 v { x with num := v } g11 (r11.more (by omega)) (by omega) rfl
      · exact oneLit (xs := [11, 16]) r6 (by omega) rfl rfl (by decide) fun v w11 _ g11 r11 => stf 1 v { x with op := v } g11 (r11.more (by omega)) (by omega) rfl
      · exact stf 4 5 { x with key := 5 } (grown_refl _ _) (r6.more (by omega)) (by omega) rfl
theorem spec.l20Few.c {K : Sl → World → Prop} (h : RdS B br m w) (hm : m ≤ 800000000) (hk : ∀ r w' ys, w.grownBy w' (some br) → RdS B br (m + 100) w' → SlR kRule w' r ys → (∀ b, r.bk = some b → w.heap.size ≤ b) → ys.length ≤ 3 → K r w') :
    CallT (.o (.lf .sl)) P0 58 [.pointer (some ⟨br, 0, none⟩)] w K := by
  refine spec.l20Few.ok (spec.l20Rules.c h hm fun r w1 ys g1 r1 o1 hy => ?_)
  have hn := o1.len
  have hc := o1.cap
  have hb : ∀ b, r.bk = some b → w.heap.size ≤ b := fun b hb => (o1.blk ((ob_bk _).trans hb)).1
  refine And.intro (fun h3 => ?_) (fun h3 => hk r w1 ys g1 r1 o1.read hb (by simp at h3; omega))
  simp only [decide_eq_true_eq] at h3
  refine slcR (k := kRule) (e := 48) (by kernel_rfl) (by kernel_rfl) o1.read (lo := none) (hi := some 3) (mx := none) (l := 0) (h' := 3) (m := r.c) rfl rfl rfl (by simp) (by omega) (by omega) (by omega) (by omega) fun q _ _ hq hqb => ?_
  exact hk q w1 _ g1 r1 hq (fun b h => hb b (hqb b h)) (by simp; omega)
end
section
variable {w : World} {code : Sl} {bs : List Int}
theorem spec.DrawRulesTidy.c {K : Sl → World → Prop} (h : SlR kU8 w code bs) (hb : ∀ x ∈ bs, 0 ≤ x ∧ x ≤ 255) (hk : ∀ r w' ys, Below w.heap.size w w' → SlR kRule w' r ys → ys.length ≤ 6 → K r w') : CallT (.o (.lf .sl)) P0 5 [code.v] w K := by
  refine spec.DrawRulesTidy.ok (spec.l20Open.c h hb fun w1 b1 r1 => ?_)
  refine spec.l20Rules.c r1 (by omega) fun r w2 ys g2 r2 o2 h1 => ?_
  exact hk r w2 ys (b1.grown g2 b1.size (fun b hb => by simp only [Option.some.injEq] at hb; omega)) o2.read h1
end
end Go.Proofs.Ytdlnoabihfnmmaa.V

/- Contracts: the draw of two lists of rules. -/
namespace Go.Proofs.Ytdlnoabihfnmmaa.V
open Go Go.RowKit
set_option linter.unusedVariables false
set_option linter.unusedSimpArgs false
/-- An address in old memory that holds a rule. -/
def AtD (H br : Nat) (a : Addr) (w : World) : Prop := ∃ b o, a = ⟨b, o, none⟩ ∧ b < H ∧ b ≠ br ∧ ∃ y : Rule, At w b o (kRule.cells y)
theorem keptAd {H br : Nat} {R : World → Prop} : Kept (SpD H br R) (AtD H br) := by
  rintro a x z ⟨b, o, h1, h2, h3, y, h4⟩ hxz
  refine ⟨b, o, h1, h2, h3, y, fun m v hv => ?_⟩
  rw [← h4 m v hv]
  unfold World.cell?
  simp only
  rw [hxz.low b h2 h3]
theorem tidyR_len (l : List Rule) : (tidyR l).length ≤ l.length := by
  unfold tidyR
  split
  · exact (tidy_sub kn0 l).length_le
  · simp
section
variable {w : World} {code : Sl} {bs : List Int}
set_option maxHeartbeats 2000000 in
theorem spec.DrawSameFind.c {K : Sl × Sl × Unit → World → Prop} (h : SlR kU8 w code bs) (hb : ∀ x ∈ bs, 0 ≤ x ∧ x ≤ 255)
    (hk : ∀ r1 r2 w' xs ys, Below w.heap.size w w' → SlR kRule w' r1 xs → SlR kRule w' r2 ys → xs.length ≤ 3 → ys.length ≤ 6 → K (r1, r2, ()) w') : CallT (.n [(.lf .sl), (.lf .sl)]) P0 31 [code.v] w K := by
  refine spec.DrawSameFind.ok (spec.l20Open.c h hb fun w1 b1 r1 => ?_)
  have hbr := r1.lt
  refine spec.l20Few.c r1 (by omega) fun t9 w2 xs g2 r2 a2 hab hx3 => ?_
  have hne : ∀ b, t9.bk = some b → b ≠ w.heap.size := fun b hb e => by have := hab b hb; omega
  have kp : ∀ {w3 w4 : World} {ys : List Rule}, SlR kRule w3 t9 ys → w3.grownBy w4 (some w.heap.size) → SlR kRule w4 t9 ys := fun hs hg =>
    hs.kept2 hg (fun b o ha e => hne b (by simp [Sl.bk, ha]) (by simpa using e.symm))
  have bl : ∀ {w3 w4 : World}, Below w.heap.size w w3 → w3.grownBy w4 (some w.heap.size) → Below w.heap.size w w4 := fun hb hg => hb.grown hg hb.size (fun b hb => by simp only [Option.some.injEq] at hb; omega)
  have b2 := bl b1 g2
  refine spec.l20Rd.pick.c r2 (by omega) (by omega) fun t11 w3 _ _ g3 r3 => ?_
  have a3 := kp a2 g3
  have b3 := bl b2 g3
  have hn := a3.len
  have few : CallT (.o (.lf .sl)) P0 58 [(.pointer (some ⟨w.heap.size, 0, none⟩))] w3 fun (t43 : Sl) w23 => K (t9, (t43, ())) w23 := by
    refine spec.l20Few.c r3 (by omega) fun t43 w4 ys g4 r4 a4 _ hy3 => ?_
    exact hk _ _ _ xs ys (bl b3 g4) (kp a3 g4) a4 hx3 (by omega)
  have hw13 : w1.heap.size ≤ w3.heap.size := by have := g2.size; have := g3.size; omega
  refine And.intro (fun _ => ?_) (fun _ => And.intro (fun _ => ?_) (fun _ => And.intro (fun _ => And.intro (fun hgt => ?_) (fun _ => few)) (fun _ => few)))
  · refine spec.RulesTidy.c a3 fun t16 w4 b4 h4 => ?_
    exact hk _ _ _ xs _ (b3.trans (b4.mono b3.size)) (a3.below b4) h4 hx3 (by have := tidyR_len xs; omega)
  · refine nw fun w4 b4 s4 c4 => ?_
    have ho4 : OwnS kRule 48 w3.heap.size w4 ⟨some ⟨w3.heap.size, 0, none⟩, 0, 0⟩ [] := OwnS.lit (k := kRule) (B := w3.heap.size) (xs := []) (n := 0) (Nat.le_refl _) c4 rfl rfl (by simp)
    have a4 := a3.below b4
    refine apS (s := ⟨some ⟨w3.heap.size, 0, none⟩, 0, 0⟩) (tR := 23) elRule ho4 a4 (by simp; omega) (by simp; omega) (by omega) fun t22 w5 o5 g5 _ _ => ?_
    have r4 := r3.below b4
    have ob4 : ∀ b, (Value.slice (some (⟨w3.heap.size, 0, none⟩ : Addr)) 0 0).ownBlock = some b → b = w3.heap.size := fun b hb => by simpa [Value.ownBlock] using hb.symm
    have r5 := r4.kept g5 (fun b hb => by have := ob4 b hb; omega)
    have b5 : Below w.heap.size w w5 := (b3.trans (b4.mono b3.size)).grown g5 (by have := b3.size; omega) (fun b hb => by have := ob4 b hb; have := b3.size; omega)
    have a5 := a4.kept3 g5 (fun _ b o ha e => by
      have h1 := ob4 b e
      have h2 : b < w3.heap.size := by
        obtain ⟨x, hx⟩ : ∃ x, xs[0]? = some x := by
          cases xs with
          | nil => contradiction
          | cons x _ => exact ⟨x, rfl⟩
        exact bk_lt a3 hx (v := .int .i64 x.at_) rfl (by simp [Sl.bk, ha])
      omega)
    refine spec.l20Few.c r5 (by omega) fun t24 w6 ys g6 r6 a6 hab6 hy3 => ?_
    have o6 := o5.keptBr g6 (by omega)
    simp only [List.nil_append] at o6
    refine apS (tR := 23) elRule o6 a6 (by omega) (by omega) (by have := g5.size; have := g6.size; omega) fun t25 w7 o7 g7 _ _ => ?_
    have a6' := kp a5 g6
    have hob6 : ∀ b, (Value.slice t22.a t22.n t22.c).ownBlock = some b → w3.heap.size ≤ b := fun b hb => (o6.blk hb).1
    refine hk _ _ _ xs _ ((bl b5 g6).grown g7 (bl b5 g6).size (fun b hb => by have := hob6 b hb; have := b3.size; omega)) (a6'.kept3 g7 (fun hxn b o ha e => ?_)) o7.read hx3 (by simp; omega)
    have h1 := hob6 b e
    obtain ⟨x, hx⟩ : ∃ x, xs[0]? = some x := by
      cases xs with
      | nil => contradiction
      | cons x _ => exact ⟨x, rfl⟩
    have := bk_lt a3 hx (v := .int .i64 x.at_) rfl (b := b) (by simp [Sl.bk, ha])
    omega
  · simp only [decide_eq_true_eq] at hgt
    have hx2 : 2 ≤ xs.length := by omega
    obtain ⟨x0, hx0⟩ : ∃ x, xs[0]? = some x := get_some (by omega)
    have hbr3 : w.heap.size < w3.heap.size := by omega
    have hbk3 : ∀ b, t9.bk = some b → b < w3.heap.size ∧ b ≠ w.heap.size := fun b hb => ⟨bk_lt a3 hx0 (v := .int .i64 x0.at_) rfl hb, hne b hb⟩
    have hc3 := a3.2.1
    refine ⟨SpD w3.heap.size w.heap.size (RdS w.heap.size w.heap.size 500), spD_ok w3, IO kRule 48 w3.heap.size 0, kept_IO knRule, RO kRule w3.heap.size w.heap.size (xs.length - 1), kept_RO, IO kRule 48 w3.heap.size (xs.length - 1), kept_IO knRule, AtD w3.heap.size w.heap.size, keptAd, fun _ _ => True, keptT, IO kRule 48 w3.heap.size 1, kept_IO knRule, IO kRule 48 w3.heap.size (xs.length - 1 + 1), kept_IO knRule, ?_⟩
    have app : ∀ {w11 : World} {s x : Sl} {n1 n2 : Nat}, SpD w3.heap.size w.heap.size (RdS w.heap.size w.heap.size 500) w3 w11 → IO kRule 48 w3.heap.size n1 s w11 → (∃ zs, zs.length = n2 ∧ SlR kRule w11 x zs) → n1 + n2 ≤ 100 →
        RunT (.o (.lf .sl)) P0 (Builtin.append_ #[23, 23] 23 #[.slice s.a s.n s.c, .slice x.a x.n x.c]) w11 fun t w12 => GK (.o (.lf .sl)) (SpD w3.heap.size w.heap.size (RdS w.heap.size w.heap.size 500)) w11 (IO kRule 48 w3.heap.size (n1 + n2)) t.v w12 := by
      rintro w11 s x n1 n2 hsp ⟨zs, hz, ho⟩ ⟨us, hu, hx⟩ hle
      have h1 := apS (tR := 23) elRule ho hx (by omega) (by omega) hsp.size (K := fun s' w' => OwnS kRule 48 w3.heap.size w' s' (zs ++ us) ∧ w11.grownBy w' (Value.slice s.a s.n s.c).ownBlock) (fun s' w' h1 h2 _ _ => ⟨h1, h2⟩)
      obtain ⟨t, w12, hr, ⟨h2, h3⟩, h4⟩ := h1.and (I := Ip w3.heap.size w11) (ap_ip elRule knRule ho hx (by omega) (by omega))
      exact ⟨t, w12, hr, t, rfl, (sk_step (m2 := 500) h3 hsp.size (fun g hg => (ho.blk hg).1) h4 hbr3).1, _, by simp [hz, hu], h2⟩
    have sb : ∀ {w11 w12 : World}, Below w11.heap.size w11 w12 → w3.heap.size ≤ w11.heap.size → SpD w3.heap.size w.heap.size (RdS w.heap.size w.heap.size 500) w11 w12 := fun hb hH => (sk_below (m2 := 500) hb hH hbr3).1
    have aR : ∀ {w11 : World}, SpD w3.heap.size w.heap.size (RdS w.heap.size w.heap.size 500) w3 w11 → ∃ zs, zs.length = xs.length ∧ SlR kRule w11 t9 zs := fun hsp => by
      obtain ⟨zs, hz, hr, _⟩ := kept_RO (k := kRule) (H := w3.heap.size) (br := w.heap.size) (n := xs.length) (R := RdS w.heap.size w.heap.size 500) t9 w3 _ ⟨xs, rfl, a3, hbk3⟩ hsp
      exact ⟨zs, hz, hr⟩
    refine ⟨fun w11 hsp => ?_, fun t32 => ⟨fun w11 hsp => ?_, fun t34 => ⟨fun w11 hsp f32 f34 => ?_, fun t35 => ⟨fun w11 hsp => ?_, fun t37 => ⟨fun w11 hsp f37 => ?_, fun t38 => ⟨fun w11 hsp _ => ?_, fun t39 => ⟨fun w11 hsp f35 f39 => ?_, fun t40 w11 hsp _ _ _ _ _ _ f40 => ?_⟩⟩⟩⟩⟩⟩⟩
    · exact nw fun w12 b12 s12 c12 => ⟨⟨some ⟨w11.heap.size, 0, none⟩, 0, 0⟩, rfl, sb b12 hsp.size, [], rfl, OwnS.lit hsp.size c12 rfl rfl (by simp)⟩
    · obtain ⟨zs, hz, hr⟩ := aR hsp
      refine slcR (k := kRule) (e := 48) (by kernel_rfl) (by kernel_rfl) hr (lo := some 1) (hi := none) (mx := none) (l := 1) (h' := t9.n) (m := t9.c) rfl rfl rfl (by simp) (by omega) (by omega) (by omega) (by omega) fun r _ _ hr2 hb2 => ?_
      exact ⟨r, rfl, sb (Below.refl _ _) hsp.size, _, by simp; omega, hr2, fun b h => hbk3 b (hb2 b h)⟩
    · obtain ⟨zs, hz, hr, _⟩ := f34
      have := app (x := t34) (n2 := xs.length - 1) hsp f32 ⟨zs, hz, hr⟩ (by omega)
      rw [Nat.zero_add] at this
      exact this
    · obtain ⟨zs, hz, hr⟩ := aR hsp
      obtain ⟨y, hy⟩ := get_some (l := zs) (k := 0) (by omega)
      exact ixRb hr (i := 0) (by omega) (x := y) (by simpa using hy) rfl fun b o hbb hA => ⟨⟨b, o, none⟩, rfl, sb (Below.refl _ _) hsp.size, b, o, rfl, (hbk3 b hbb).1, (hbk3 b hbb).2, y, hA⟩
    · obtain ⟨b, o, rfl, _, _, y, hA⟩ := f37
      exact ⟨y.t, fun j v hv => by rw [add_mk]; exact hA j v hv, y.t, rfl, sb (Below.refl _ _) hsp.size, trivial⟩
    · exact nw fun w12 b12 s12 c12 => ⟨⟨some ⟨w11.heap.size, 0, none⟩, 1, 1⟩, rfl, sb b12 hsp.size, [⟨t38.1, t38.2.1, t38.2.2.1, t38.2.2.2.1, t38.2.2.2.2.1⟩], rfl, OwnS.lit hsp.size c12 rfl rfl (by simp [maxLen])⟩
    · obtain ⟨zs, hz, ho⟩ := f39
      exact app (x := t39) (n2 := 1) hsp f35 ⟨zs, hz, ho.read⟩ (by omega)
    · obtain ⟨zs, hz, ho⟩ := f40
      obtain ⟨us, hu, hr⟩ := aR hsp
      exact hk _ _ _ us zs (b3.grown (hsp.grown rfl) b3.size (fun b hb => by simp only [Option.some.injEq] at hb; omega)) hr ho.read (by omega) (by omega)
theorem spec.DrawSameRules.c {K : Sl × Sl × Unit → World → Prop} (h : SlR kU8 w code bs) (hb : ∀ x ∈ bs, 0 ≤ x ∧ x ≤ 255)
    (hk : ∀ r1 r2 w' xs ys, Below w.heap.size w w' → SlR kRule w' r1 xs → SlR kRule w' r2 ys → xs.length ≤ 3 → ys.length ≤ 6 → K (r1, r2, ()) w') : CallT (.n [(.lf .sl), (.lf .sl)]) P0 12 [code.v] w K :=
  spec.DrawSameRules.ok (spec.DrawSameFind.c h hb hk)
end
end Go.Proofs.Ytdlnoabihfnmmaa.V

/- Contracts: tables, as far as the draws ask: some table, in memory of its own. -/
namespace Go.Proofs.Ytdlnoabihfnmmaa.V
open Go Go.RowKit
set_option linter.unusedVariables false
set_option linter.unusedSimpArgs false
/-- A table: kind, size, room, keys, values. -/
abbrev TB : List Lf := [(.i .i64), (.i .i64), (.i .i64), .sl, .sl]
abbrev Tab := Tup TB
def kTab : Kd Tab := ⟨TB, fun x => x⟩
theorem zTab : zc P0 107 = (Tup.cells TB ((0, 0, 0, ⟨none, 0, 0⟩, ⟨none, 0, 0⟩, ()) : Tab)).toArray := by kernel_rfl
theorem noAnyTab : ∀ l ∈ kTab.ls, l ≠ Lf.any := by intro l hl; simp [kTab, TB] at hl; rcases hl with rfl | rfl <;> simp
/-- The box of a table. -/
def bT (m : Tab) : Obj := .cells (Tup.cells TB m).toArray 107 (0, 0)
theorem elU8 : El P0 22 5 kU8 1 := ⟨by kernel_rfl, ⟨_, _, Option.eq_some_of_isSome (by kernel_rfl), Option.eq_some_of_isSome (by kernel_rfl), by kernel_rfl, by kernel_rfl, by kernel_rfl⟩, by decide, by intro l hl; simp [kU8] at hl; simp [hl]⟩
section
variable {w w0 : World} {b : Nat} {m y : Tab}
theorem nwTab {K : Addr → World → Prop} (hk : ∀ w', Below w.heap.size w w' → w'.heap.size = w.heap.size + 1 → w'.heap[w.heap.size]? = some (bT m) → K ⟨w.heap.size, 0, none⟩ w') : Nw (Tup.cells TB m).toArray 107 w K := nw hk
theorem nwTz {K : Addr → World → Prop} (hk : ∀ w', Below w.heap.size w w' → w'.heap.size = w.heap.size + 1 → w'.heap[w.heap.size]? = some (bT (0, 0, 0, ⟨none, 0, 0⟩, ⟨none, 0, 0⟩, ())) → K ⟨w.heap.size, 0, none⟩ w') : Nw (zc P0 107) 107 w K := by
  rw [zTab]; exact nw hk
theorem stTab (h : w.heap[b]? = some (bT m)) {K : World → Prop} (hk : ∀ w', w.grownBy w' (some b) → w'.heap.size = w.heap.size → w'.heap[b]? = some (bT y) → K w') : StA P0 ⟨b, 0, none⟩ (Tup.cells TB y) w K := by
  obtain ⟨w', hr, hg, hsz, hh⟩ := run_storeCells_at' P0 (b := b) (t := 107) (Tup.cells TB y) 0 [] (Tup.cells TB m) w (oneCell_cells kTab noAnyTab y) rfl rfl (by simpa [bT] using h)
  exact ⟨w', hr, hk w' hg hsz (by simpa [bT] using hh)⟩
theorem ldTab (h : w.heap[b]? = some (bT m)) {K : Tab → World → Prop} (hk : K m w) : LdA TB ⟨b, 0, none⟩ w K := ldAB h rfl hk
/-- Bytes become a text. -/
theorem convB {t : TypeId} {B : Nat} {s : Sl} {xs : List Int} (h : OwnS kU8 t B w s xs) {K : ByteArray → World → Prop} (hk : ∀ r : ByteArray, r.size = xs.length → K r w) : RunT (.o (.lf .s)) P0 (convert 22 9 s.v) w K := by
  have hn := h.1
  rcases h.2.2 with ⟨hv, h0⟩ | ⟨g, cap, cur, hv, hBg, hg, hnc, hcm, hcs, htake⟩
  · have hx : xs = [] := by
      cases xs with
      | nil => rfl
      | cons x xs => rw [h0] at hn; simp at hn
    have hr := run_convert_bytes_nil (P := P0) w 22 5 (by kernel_rfl) (by kernel_rfl) 0 0 9 uStr
    refine ⟨_, w, by unfold Sl.v; rw [hv]; exact hr, hk _ ?_⟩
    subst hx; rfl
  · have holds : ∀ j u, (xs.flatMap kU8.cells)[j]? = some u → w.cell? ((⟨g, 0, none⟩ : Addr).add j) = some u := h.2.cells (g := g) (by rw [hv]; rfl)
    have hr := run_convert_bytes_arg (P := P0) w 22 5 (by kernel_rfl) (by kernel_rfl) g 0 s.n cap xs hn.symm (fun i hi => by
      obtain ⟨x, hx⟩ := get_some (l := xs) (k := i) (by omega)
      have hf := flat_get kU8 xs i x hx 0 (.int .u8 x) rfl
      have := holds _ _ hf
      rw [add_mk] at this
      rw [List.getD_eq_getElem?_getD, hx]
      have e : i * kU8.ls.length + 0 = i := by show i * 1 + 0 = i; omega
      rw [e] at this
      exact this) 9 uStr
    refine ⟨_, w, by unfold Sl.v; rw [hv]; exact hr, hk _ ?_⟩
    rw [strOfNums_size]
/-- Bytes, one by one. -/
theorem spec.l4Bytes.c {n size : Int} (hs : size ≤ 100) {K : ByteArray → World → Prop} (hk : ∀ r w', Below w.heap.size w w' → K r w') : CallT (.o (.lf .s)) P0 94 [.int .i64 n, .int .i64 size] w K := by
  refine spec.l4Bytes.ok (nw fun w1 b1 s1 c1 => ?_)
  have ho1 : OwnS kU8 5 w.heap.size w1 ⟨some ⟨w.heap.size, 0, none⟩, 0, 0⟩ [] := OwnS.lit (k := kU8) (B := w.heap.size) (xs := []) (n := 0) (Nat.le_refl _) c1 rfl rfl (by simp)
  refine ⟨fun _ out i w' => ∃ (c : Nat) (ys : List Int), i = c ∧ c ≤ 100 ∧ ys.length = c ∧ OwnS kU8 5 w.heap.size w' out ys ∧ Below w.heap.size w w', fun _ _ i _ => 200 - i.toNat, ⟨0, [], rfl, by omega, rfl, ho1, b1⟩, ?_⟩
  rintro n1 out i w2 ⟨c, ys, rfl, hc, hl, o2, b2⟩ _
  refine And.intro (fun hlt => ?_) (fun _ => ?_)
  · simp only [decide_eq_true_eq] at hlt
    refine ap1 elU8 o2 (IntKind.wrap .u8 (iAnd .i64 n1 255)) rfl (by omega) (by omega) b2.size fun out2 w3 o3 g3 _ => ⟨by omega, ?_⟩
    have ei : IntKind.wrap .i64 ((c : Int) + 1) = ((c + 1 : Nat) : Int) := by rw [i64_of (by omega) (by omega)]; omega
    rw [ei]
    refine ⟨⟨c + 1, _, rfl, by omega, by simp; omega, o3, b2.grown g3 b2.size (fun b hb => (o2.blk hb).1)⟩, ?_⟩
    simp only [Int.toNat_natCast]; omega
  · exact convB o2 fun r _ => hk r w2 b2
theorem mkU8' : Mk P0 22 5 kU8 1 0 := ⟨by kernel_rfl, ⟨_, _, Option.eq_some_of_isSome (by kernel_rfl), Option.eq_some_of_isSome (by kernel_rfl), by kernel_rfl, by kernel_rfl, by kernel_rfl⟩⟩
theorem convW {t : TypeId} {B : Nat} {s : Sl} {xs : List Int} (h : WrS kU8 t B w s xs) (hx : xs ≠ []) {K : ByteArray → World → Prop} (hk : ∀ r : ByteArray, K r w) : RunT (.o (.lf .s)) P0 (convert 22 9 s.v) w K := by
  obtain ⟨y, hy⟩ : ∃ y, xs[0]? = some y := by
    cases xs with
    | nil => contradiction
    | cons x _ => exact ⟨x, rfl⟩
  obtain ⟨b, o, cur, ha, hB, hg, hc, hcs⟩ := h.at hy (by decide)
  have hn := h.1
  have hr := run_convert_bytes_arg (P := P0) w 22 5 (by kernel_rfl) (by kernel_rfl) b o s.n s.c xs hn.symm (fun i hi => by
    obtain ⟨x, hx⟩ := get_some (l := xs) (k := i) (by omega)
    have h1 := hc i x hx 0 (.int .u8 x) rfl
    rw [List.getD_eq_getElem?_getD, hx, cell_of hg]
    have e : o + i * kU8.ls.length + 0 = o + i := by show o + i * 1 + 0 = o + i; omega
    rw [e] at h1
    exact h1) 9 uStr
  exact ⟨_, w, by unfold Sl.v; rw [ha]; exact hr, hk _⟩
theorem spec.l3Zero.c {n : Nat} (hn : 1 ≤ n ∧ n ≤ 100) {K : ByteArray → World → Prop} (hk : ∀ r w', Below w.heap.size w w' → K r w') : CallT (.o (.lf .s)) P0 128 [.int .i64 (n : Int)] w K := by
  refine spec.l3Zero.ok (mkS mkU8' (n := n) (by omega) (by simp only [maxLen]; omega) fun s w1 b1 h1 => ?_)
  exact convW h1 (fun h => by have := congrArg List.length h; simp at this; omega) fun r => hk r w1 b1
end
/-- What a table reads as. -/
def TbR (m : Tab) (ks : List Int) (vs : List ByteArray) (w : World) : Prop := SlR kI w m.2.2.2.1 ks ∧ SlR kS w m.2.2.2.2.1 vs
theorem TbR.below {m : Tab} {ks : List Int} {vs : List ByteArray} {w w' : World} (h : TbR m ks vs w) (hb : Below w.heap.size w w') : TbR m ks vs w' := ⟨h.1.below hb, h.2.below hb⟩
section
variable {w : World} {m : Tab} {ks : List Int} {vs : List ByteArray}
theorem spec.l3Shape.c {K : Bool → World → Prop} (h : TbR m ks vs w) (hk : ∀ b w', Below w.heap.size w w' → (b = true → ks.length = vs.length) → K b w') : CallT (.o (.lf .b)) P0 129 [.agg (Tup.cells TB m).toArray] w K := by
  refine spec.l3Shape.ok (nwTab fun w1 b1 s1 c1 => ?_)
  have no : ∀ {p : Prop}, false = true → p := fun h => by simp at h
  refine ldB0 c1 (l := .i .i64) (x := m.1) rfl (spec.l1In.c ?_)
  refine And.intro (fun _ => ?_) (fun _ => hk _ _ b1 no)
  refine ldB c1 (j := 1) (l := .i .i64) (x := m.2.1) rfl (spec.l1In.c ?_)
  refine And.intro (fun _ => ?_) (fun _ => hk _ _ b1 no)
  refine ldB c1 (j := 2) (l := .i .i64) (x := m.2.2.1) rfl (spec.l1In.c ?_)
  refine And.intro (fun _ => ?_) (fun _ => hk _ _ b1 no)
  refine ldB c1 (j := 3) (l := .sl) (x := m.2.2.2.1) rfl (ldB c1 (j := 4) (l := .sl) (x := m.2.2.2.2.1) rfl ?_)
  refine And.intro (fun he => ?_) (fun _ => hk _ _ b1 no)
  refine ldB c1 (j := 3) (l := .sl) (x := m.2.2.2.1) rfl (ldB c1 (j := 2) (l := .i .i64) (x := m.2.2.1) rfl ?_)
  refine hk _ _ b1 fun _ => ?_
  have h1 := h.1.len
  have h2 := h.2.len
  simp only [beq_iff_eq] at he
  omega
theorem spec.l3At.c {key : Int} {K : Int → World → Prop} (h : TbR m ks vs w) (hl : ks.length ≤ 1000) (hk : ∀ i w', Below w.heap.size w w' → (i < 0 ∨ i.toNat < ks.length) → K i w') : CallT (.o (.lf (.i .i64))) P0 130 [.agg (Tup.cells TB m).toArray, .int .i64 key] w K := by
  refine spec.l3At.ok (nwTab fun w1 b1 s1 c1 => ?_)
  have hn := h.1.len
  refine ⟨fun i w' => ∃ n : Nat, i = n ∧ n ≤ ks.length ∧ w' = w1, fun i _ => ks.length - i.toNat, ⟨0, rfl, by omega, rfl⟩, ?_⟩
  rintro i w2 ⟨n, rfl, hn2, rfl⟩ _
  refine ldB c1 (j := 3) (l := .sl) (x := m.2.2.2.1) rfl ?_
  refine And.intro (fun hlt => ?_) (fun _ => hk _ _ b1 (.inl (by omega)))
  simp only [decide_eq_true_eq] at hlt
  refine ldB c1 (j := 3) (l := .sl) (x := m.2.2.2.1) rfl ?_
  obtain ⟨x, hx⟩ := get_some (l := ks) (k := n) (by omega)
  refine ixL (h.1.below b1) (i := (n : Int)) (by omega) (x := x) (by simpa using hx) rfl (l := .i .i64) (v := x) rfl ?_
  refine And.intro (fun _ => hk _ _ b1 (.inr (by simp; omega))) (fun _ => ?_)
  have ei : IntKind.wrap .i64 ((n : Int) + 1) = ((n + 1 : Nat) : Int) := by rw [i64_of (by omega) (by omega)]; omega
  rw [ei]
  exact ⟨⟨n + 1, rfl, by omega, rfl⟩, by simp only [Int.toNat_natCast]; omega⟩
set_option maxHeartbeats 1000000 in
theorem spec.l3Ok.c {K : Bool → World → Prop} (h : TbR m ks vs w) (hl : ks.length ≤ 1000) (hk : ∀ b w', Below w.heap.size w w' → (b = true → ks.length = vs.length) → K b w') : CallT (.o (.lf .b)) P0 105 [.agg (Tup.cells TB m).toArray] w K := by
  refine spec.l3Ok.ok (nwTab fun w1 b1 s1 c1 => ?_)
  have no : ∀ {p : Prop}, false = true → p := fun h => by simp at h
  have h1 := h.below b1
  have hn := h1.1.len
  have hv := h1.2.len
  refine ⟨fun w' => Below w1.heap.size w1 w' ∧ ks.length = vs.length, ?_, ?_⟩
  · refine ldTab c1 (spec.l3Shape.c h1 fun b w2 b2 hb => ?_)
    have c2 := (b2.block _ (by omega)).trans c1
    have b12 := b1.trans (b2.mono b1.size)
    refine And.intro (fun _ => hk _ _ b12 no) (fun hc => ?_)
    have hb' : b = true := by simpa using hc
    have he := hb hb'
    refine ldB0 c2 (l := .i .i64) (x := m.1) rfl (And.intro (fun _ => ?_) (fun _ => ⟨b2, he⟩))
    exact ldB c2 (j := 3) (l := .sl) (x := m.2.2.2.1) rfl (ldB c2 (j := 2) (l := .i .i64) (x := m.2.2.1) rfl (And.intro (fun _ => hk _ _ b12 no) (fun _ => ⟨b2, he⟩)))
  · rintro w2 ⟨b2, he⟩ _
    refine ⟨fun i w' => ∃ n : Nat, i = n ∧ n ≤ ks.length ∧ Below w1.heap.size w1 w', fun i _ => ks.length - i.toNat, ⟨0, rfl, by omega, b2⟩, ?_⟩
    rintro i w3 ⟨n, rfl, hn2, b3⟩ _
    have kp : ∀ {w' : World}, Below w1.heap.size w1 w' → w'.heap[w.heap.size]? = some (bT m) := fun hb => (hb.block _ (by omega)).trans c1
    have c3 := kp b3
    have b13 := b1.trans (b3.mono b1.size)
    have h3 := h1.below b3
    refine ldB c3 (j := 3) (l := .sl) (x := m.2.2.2.1) rfl ?_
    refine And.intro (fun hlt => ?_) (fun _ => hk _ _ b13 fun _ => he)
    simp only [decide_eq_true_eq] at hlt
    obtain ⟨x, hx⟩ := get_some (l := ks) (k := n) (by omega)
    obtain ⟨y, hy⟩ := get_some (l := vs) (k := n) (by omega)
    have fin : ∀ w', Below w3.heap.size w3 w' → Below w.heap.size w w' := fun w' hb => b13.trans (hb.mono b13.size)
    refine ⟨fun w' => Below w3.heap.size w3 w', ?_, ?_⟩
    · refine qldB c3 (j := 4) (l := .sl) (x := m.2.2.2.2.1) rfl (qixL h3.2 (i := (n : Int)) (by omega) (x := y) (by simpa using hy) rfl (l := .s) (v := y) rfl ?_)
      refine qldB c3 (j := 1) (l := .i .i64) (x := m.2.1) rfl (And.intro (fun _ w' hb => hk _ _ (fin w' hb) no) (fun _ => ?_))
      refine qldB c3 (j := 3) (l := .sl) (x := m.2.2.2.1) rfl (qixL h3.1 (i := (n : Int)) (by omega) (x := x) (by simpa using hx) rfl (l := .i .i64) (v := x) rfl ?_)
      refine qcl' (r := .o (.lf (.i .i64))) (4294967295 : Int) (fun w K' h => spec.l2Top.c h) ?_
      refine qcl' (r := .o (.lf .b)) _ (fun w K' h => spec.l1In.c h) ?_
      refine And.intro (fun _ w' hb => hk _ _ (fin w' hb) no) (fun _ => ?_)
      refine qldB c3 (j := 0) (l := .i .i64) (x := m.1) rfl (And.intro (fun _ => ?_) (fun _ w' hb => hb))
      refine qldB c3 (j := 3) (l := .sl) (x := m.2.2.2.1) rfl (qixL h3.1 (i := (n : Int)) (by omega) (x := x) (by simpa using hx) rfl (l := .i .i64) (v := x) rfl ?_)
      exact fun w' hb => And.intro (fun _ => hk _ _ (fin w' hb) no) (fun _ => hb)
    · intro w4 b4 _
      have b14 := b3.trans (b4.mono b3.size)
      refine ⟨fun k w' => ∃ c : Nat, k = c ∧ c ≤ n ∧ Below w1.heap.size w1 w', fun k _ => n - k.toNat, ⟨0, rfl, by omega, b14⟩, ?_⟩
      rintro k w5 ⟨c, rfl, hc, b5⟩ _
      have c5 := kp b5
      have h5 := h1.below b5
      refine And.intro (fun hlt2 => ?_) (fun _ => ?_)
      · simp only [decide_eq_true_eq] at hlt2
        obtain ⟨z, hz⟩ := get_some (l := ks) (k := c) (by omega)
        refine qldB c5 (j := 3) (l := .sl) (x := m.2.2.2.1) rfl (qixL h5.1 (i := (c : Int)) (by omega) (x := z) (by simpa using hz) rfl (l := .i .i64) (v := z) rfl ?_)
        refine qldB c5 (j := 3) (l := .sl) (x := m.2.2.2.1) rfl (qixL h5.1 (i := (n : Int)) (by omega) (x := x) (by simpa using hx) rfl (l := .i .i64) (v := x) rfl ?_)
        intro w6 b6
        have b16 := b5.trans (b6.mono b5.size)
        refine And.intro (fun _ => hk _ _ (b1.trans (b16.mono b1.size)) no) (fun _ => ?_)
        have ei : IntKind.wrap .i64 ((c : Int) + 1) = ((c + 1 : Nat) : Int) := by rw [i64_of (by omega) (by omega)]; omega
        rw [ei]
        exact ⟨⟨c + 1, rfl, by omega, b16⟩, by simp only [Int.toNat_natCast]; omega⟩
      · have ei : IntKind.wrap .i64 ((n : Int) + 1) = ((n + 1 : Nat) : Int) := by rw [i64_of (by omega) (by omega)]; omega
        rw [ei]
        exact ⟨⟨n + 1, rfl, by omega, b5⟩, by simp only [Int.toNat_natCast]; omega⟩
end
end Go.Proofs.Ytdlnoabihfnmmaa.V

/- Words for regions in which some blocks may change; contracts: a table is copied, put into. -/
namespace Go.Proofs.Ytdlnoabihfnmmaa.V
open Go Go.RowKit
set_option linter.unusedVariables false
set_option linter.unusedSimpArgs false
/-- Blocks stay but for some, and for new boxes of one type. -/
structure SqE (H : Nat) (E : Nat → Prop) (t : TypeId) (a b : World) : Prop where
  os : b.os = a.os
  tape : b.tape = a.tape
  output : b.output = a.output
  size : a.heap.size ≤ b.heap.size
  block : ∀ k, k < a.heap.size → ¬ E k → (k < H ∨ ∀ cs, a.heap[k]? ≠ some (.cells cs t (0, 0))) → b.heap[k]? = a.heap[k]?
  shape : ∀ k, k < a.heap.size → ¬ E k → ¬ k < H → ∀ cs, a.heap[k]? = some (.cells cs t (0, 0)) → ∃ cs', b.heap[k]? = some (.cells cs' t (0, 0))
theorem SqE.refl (H : Nat) (E : Nat → Prop) (t : TypeId) (a : World) : SqE H E t a a := ⟨rfl, rfl, rfl, Nat.le_refl _, fun _ _ _ _ => rfl, fun _ _ _ _ cs h => ⟨cs, h⟩⟩
theorem SqE.trans {H : Nat} {E : Nat → Prop} {t : TypeId} {a b c : World} (h1 : SqE H E t a b) (h2 : SqE H E t b c) : SqE H E t a c := by
  refine ⟨h2.os.trans h1.os, h2.tape.trans h1.tape, h2.output.trans h1.output, Nat.le_trans h1.size h2.size, fun k hk he ho => ?_, fun k hk he hH cs hc => ?_⟩
  · have e1 := h1.block k hk he ho
    refine (h2.block k (Nat.lt_of_lt_of_le hk h1.size) he (ho.imp id fun h cs => ?_)).trans e1
    rw [e1]; exact h cs
  · obtain ⟨cs', h'⟩ := h1.shape k hk he hH cs hc
    exact h2.shape k (Nat.lt_of_lt_of_le hk h1.size) he hH cs' h'
theorem SqE.grown {H : Nat} {E : Nat → Prop} {t : TypeId} {a b : World} {row : Option Nat} (h : a.grownBy b row) (hr : ∀ g, row = some g → E g) : SqE H E t a b := by
  have hb : ∀ k, k < a.heap.size → ¬ E k → b.heap[k]? = a.heap[k]? := fun k hk he => h.block k hk (fun e => he (hr k e.symm))
  exact ⟨h.os, h.tape, h.output, h.size, fun k hk he _ => hb k hk he, fun k hk he _ cs hc => ⟨cs, (hb k hk he).trans hc⟩⟩
theorem SqE.below {H : Nat} {E : Nat → Prop} {t : TypeId} {a b : World} (h : Below a.heap.size a b) : SqE H E t a b := SqE.grown (grown_of_below h) (by simp)
theorem SqE.more {H : Nat} {E E' : Nat → Prop} {t : TypeId} {a b : World} (h : SqE H E t a b) (he : ∀ k, E k → E' k) : SqE H E' t a b :=
  ⟨h.os, h.tape, h.output, h.size, fun k hk hn ho => h.block k hk (fun e => hn (he k e)) ho, fun k hk hn => h.shape k hk (fun e => hn (he k e))⟩
theorem sqeOk (H : Nat) (E : Nat → Prop) (t : TypeId) (w : World) : SpOk (SqE H E t) w := ⟨fun a => SqE.refl _ _ _ a, fun _ _ _ h1 h2 => h1.trans h2, SqE.below (Below.refl _ _).drew⟩
section
variable {α : Type} {k : Kd α} {t0 t : TypeId} {B H : Nat} {E : Nat → Prop} {a b : World} {s : Sl} {xs : List α}
theorem OwnS.sq (h : OwnS k t0 B a s xs) (hs : SqE H E t a b) (ht : t0 ≠ t) (hE : ∀ g, (Value.slice s.a s.n s.c).ownBlock = some g → ¬ E g) : OwnS k t0 B b s xs := by
  refine ⟨h.1, h.2.1, ?_⟩
  rcases h.2.2 with h0 | ⟨g, cap, cur, hv, hB, hg, r⟩
  · exact .inl h0
  · have hlt := (Array.getElem?_eq_some_iff.1 hg).1
    refine .inr ⟨g, cap, cur, hv, hB, (hs.block g hlt (hE g (by rw [hv]; rfl)) (.inr fun cs hc => ?_)).trans hg, r⟩
    rw [hg] at hc
    simp only [Option.some.injEq, Obj.cells.injEq] at hc
    exact ht hc.2.1
theorem SlR.sq (h : SlR k a s xs) (hs : SqE H E t a b) (hb : ∀ g, s.bk = some g → xs ≠ [] → g < H ∧ g < a.heap.size ∧ ¬ E g) : SlR k b s xs := by
  refine ⟨h.1, h.2.1, h.2.2.1, ?_⟩
  rcases h.2.2.2 with h0 | ⟨g, o, ha, hat⟩
  · exact .inl h0
  · refine .inr ⟨g, o, ha, fun i x hi m v hv => ?_⟩
    have hne : xs ≠ [] := fun e => by rw [e] at hi; simp at hi
    obtain ⟨h1, h2, h3⟩ := hb g (by simp [Sl.bk, ha]) hne
    rw [← hat i x hi m v hv]
    unfold World.cell?
    simp only
    rw [hs.block g h2 h3 (.inl h1)]
theorem RdS.sq {B br m : Nat} (h : RdS B br m a) (hs : SqE H E t a b) (hbr : br < H) (hE : ∀ g, g ≤ br → ¬ E g) : RdS B br m b := by
  have hlt := h.lt
  obtain ⟨s, bs, p, h1, h2, h3, h4, h5, h6⟩ := h
  refine ⟨s, bs, p, (hs.block br hlt (hE br (Nat.le_refl _)) (.inl hbr)).trans h1, h2.sq hs (fun g hg hne => ?_), h3, h4, h5, h6⟩
  obtain ⟨g', o, ha, _⟩ : ∃ b o, s.a = some ⟨b, o, none⟩ ∧ True := by
    rcases h2.2.2.2 with h0 | ⟨b, o, ha, _⟩
    · exact absurd h0 hne
    · exact ⟨b, o, ha, trivial⟩
  have e : g' = g := by simpa [Sl.bk, ha] using hg
  subst e
  have := h3 hne g' o ha
  exact ⟨by omega, by omega, hE g' (by omega)⟩
theorem SqE.old (hs : SqE H E t a b) {c : Nat} {o : Obj} (h : a.heap[c]? = some o) (hc : c < H) (hE : ¬ E c) : b.heap[c]? = some o := (hs.block c (Array.getElem?_eq_some_iff.1 h).1 hE (.inl hc)).trans h
theorem keepG {w w' : World} {c : Nat} {o : Obj} {row : Option Nat} (h : w.heap[c]? = some o) (hg : w.grownBy w' row) (hne : ∀ g, row = some g → g ≠ c) : w'.heap[c]? = some o :=
  (hg.block c (Array.getElem?_eq_some_iff.1 h).1 (fun e => hne c e.symm rfl)).trans h
/-- What is owned holds its type. -/
theorem OwnS.typ (h : OwnS k t0 B a s xs) {g : Nat} (hg : (Value.slice s.a s.n s.c).ownBlock = some g) : ∃ cur, a.heap[g]? = some (.cells cur t0 (0, 0)) := by
  rcases h.2.2 with ⟨hv, h0⟩ | ⟨g', cap, cur, hv, hB, hg', r⟩
  · rw [hv] at hg; simp [Value.ownBlock] at hg
  · rw [hv] at hg
    have : g' = g := by simpa [Value.ownBlock] using hg
    subst this
    exact ⟨cur, hg'⟩
end
/-- A table in memory of its own. -/
def TbO (H : Nat) (m : Tab) (n : Nat) (w : World) : Prop := ∃ ks vs, OwnS kI 3 H w m.2.2.2.1 ks ∧ OwnS kS 9 H w m.2.2.2.2.1 vs ∧ ks.length ≤ n ∧ vs.length ≤ n
theorem tIS : (3 : TypeId) ≠ 9 := by decide
theorem tIT : (3 : TypeId) ≠ 107 := by decide
theorem tST : (9 : TypeId) ≠ 107 := by decide
theorem own_apart {H H' : Nat} {w : World} {s s' : Sl} {ks : List Int} {vs : List ByteArray} (h1 : OwnS kI 3 H w s ks) (h2 : OwnS kS 9 H' w s' vs) {g : Nat} (hg : (Value.slice s.a s.n s.c).ownBlock = some g) : (Value.slice s'.a s'.n s'.c).ownBlock ≠ some g := fun e => by
  obtain ⟨c1, e1⟩ := h1.typ hg
  obtain ⟨c2, e2⟩ := h2.typ e
  rw [e1] at e2
  simp only [Option.some.injEq, Obj.cells.injEq] at e2
  exact tIS e2.2.1
theorem TbO.zero (H n : Nat) (w : World) (i j k : Int) : TbO H (i, j, k, ⟨none, 0, 0⟩, ⟨none, 0, 0⟩, ()) n w := ⟨[], [], OwnS.nil _ _ _ _, OwnS.nil _ _ _ _, by simp, by simp⟩
theorem TbO.below {H n : Nat} {m : Tab} {w w' : World} (h : TbO H m n w) (hb : Below w.heap.size w w') : TbO H m n w' := by
  obtain ⟨ks, vs, h1, h2, h3⟩ := h; exact ⟨ks, vs, h1.below hb, h2.below hb, h3⟩
theorem TbO.kept {H n g : Nat} {m : Tab} {w w' : World} (h : TbO H m n w) (hg : w.grownBy w' (some g)) (hlt : g < H) : TbO H m n w' := by
  obtain ⟨ks, vs, h1, h2, h3⟩ := h; exact ⟨ks, vs, h1.keptBr hg hlt, h2.keptBr hg hlt, h3⟩
theorem TbO.low {H H' n : Nat} {m : Tab} {w : World} (h : TbO H m n w) (hl : H' ≤ H) : TbO H' m n w := by
  obtain ⟨ks, vs, h1, h2, h3⟩ := h; exact ⟨ks, vs, h1.low hl, h2.low hl, h3⟩
theorem TbO.more {H n n' : Nat} {m : Tab} {w : World} (h : TbO H m n w) (hl : n ≤ n') : TbO H m n' w := by
  obtain ⟨ks, vs, h1, h2, h3, h4⟩ := h; exact ⟨ks, vs, h1, h2, by omega, by omega⟩
section
variable {w : World} {m : Tab} {ks : List Int} {vs : List ByteArray}
set_option maxHeartbeats 1000000 in
theorem spec.l3Copy.c {K : Tab → World → Prop} (h : TbR m ks vs w) (hl : ks.length ≤ 1000 ∧ vs.length ≤ 1000) (hk : ∀ ka va w', Below w.heap.size w w' → OwnS kI 3 w.heap.size w' ka ks → OwnS kS 9 w.heap.size w' va vs → K (m.1, m.2.1, m.2.2.1, ka, va, ()) w') :
    CallT (.o (.ag TB)) P0 106 [.agg (Tup.cells TB m).toArray] w K := by
  refine spec.l3Copy.ok (nwTab fun w1 b1 s1 c1 => nwTz fun w2 b2 s2 c2 => ?_)
  have c1' := (b2.block _ (by omega)).trans c1
  refine ldTab c1' (nwTz fun w3 b3 s3 c3 => ?_)
  have b23 := b2.trans (b3.mono b2.size)
  refine stTab c3 fun w4 g4 s4 c4 => ?_
  have m4 := keepG ((b23.block _ (by omega)).trans c1) g4 (fun g hg => by simp only [Option.some.injEq] at hg; omega)
  have z4 := keepG ((b3.block _ (by omega)).trans c2) g4 (fun g hg => by simp only [Option.some.injEq] at hg; omega)
  have B4 : Below w.heap.size w w4 := (b1.trans (b23.mono b1.size)).grown g4 (by have := b1.size; have := b23.size; omega) (fun g hg => by simp only [Option.some.injEq] at hg; omega)
  refine nw fun w5 b5 s5 c5 => ?_
  have m5 := (b5.block _ (Array.getElem?_eq_some_iff.1 m4).1).trans m4
  refine ldB m5 (j := 3) (l := .sl) (x := m.2.2.2.1) rfl ?_
  have B5 : Below w.heap.size w w5 := B4.trans (b5.mono B4.size)
  have o5 : OwnS kI 3 w.heap.size w5 ⟨some ⟨w4.heap.size, 0, none⟩, 0, 0⟩ [] := OwnS.lit (k := kI) (B := w.heap.size) (xs := []) (n := 0) B4.size c5 rfl rfl (by simp)
  have ob5 : ∀ g, (Value.slice (some (⟨w4.heap.size, 0, none⟩ : Addr)) 0 0).ownBlock = some g → g = w4.heap.size := fun g hg => by simpa [Value.ownBlock] using hg.symm
  have h5 := h.below B5
  have bk : ∀ g, (m.2.2.2.1.bk = some g ∧ ks ≠ []) ∨ (m.2.2.2.2.1.bk = some g ∧ vs ≠ []) → g < w.heap.size := by
    rintro g (⟨hg, hne⟩ | ⟨hg, hne⟩)
    · obtain ⟨x, hx⟩ : ∃ x, ks[0]? = some x := by cases ks with | nil => contradiction | cons x _ => exact ⟨x, rfl⟩
      exact bk_lt h.1 hx (v := .int .i64 x) rfl hg
    · obtain ⟨x, hx⟩ : ∃ x, vs[0]? = some x := by cases vs with | nil => contradiction | cons x _ => exact ⟨x, rfl⟩
      exact bk_lt h.2 hx (v := .string x) rfl hg
  refine apS (s := ⟨some ⟨w4.heap.size, 0, none⟩, 0, 0⟩) (tR := 59) elI o5 h5.1 (by simp; omega) (by simp; omega) B5.size fun ka w6 o6 g6 _ _ => ?_
  simp only [List.nil_append] at o6
  have c6 := keepG ((b5.block _ (Array.getElem?_eq_some_iff.1 c4).1).trans c4) g6 (fun g hg => by have := ob5 g hg; have := g4.size; have := s4; omega)
  have m6 := keepG m5 g6 (fun g hg => by have := ob5 g hg; omega)
  have z6 := keepG ((b5.block _ (Array.getElem?_eq_some_iff.1 z4).1).trans z4) g6 (fun g hg => by have := ob5 g hg; omega)
  have B6 : Below w.heap.size w w6 := B5.grown g6 B5.size (fun g hg => by have := ob5 g hg; have := B4.size; omega)
  have h6 : SlR kS w6 m.2.2.2.2.1 vs := h5.2.kept3 g6 (fun hne b o ha e => by have := ob5 b e; have := bk b (.inr ⟨by simp [Sl.bk, ha], hne⟩); have := B4.size; omega)
  refine stB c6 rfl (by simp [Tup.cells]) fun w7 g7 s7 c7 => ?_
  have c7 : w7.heap[w2.heap.size]? = some (bT (m.1, m.2.1, m.2.2.1, ka, m.2.2.2.2.1, ())) := c7
  have m7 := keepG m6 g7 (fun g hg => by simp only [Option.some.injEq] at hg; omega)
  have z7 := keepG z6 g7 (fun g hg => by simp only [Option.some.injEq] at hg; omega)
  have B7 : Below w.heap.size w w7 := B6.grown g7 B6.size (fun g hg => by simp only [Option.some.injEq] at hg; have := b1.size; omega)
  have hob6 : ∀ g, (Value.slice ka.a ka.n ka.c).ownBlock = some g → g ≠ w2.heap.size := fun g hg e => by
    obtain ⟨cur, hc⟩ := o6.typ hg
    rw [e, c6] at hc
    simp only [bT, Option.some.injEq, Obj.cells.injEq] at hc
    exact tIT hc.2.1.symm
  have o7 := o6.kept g7 (fun g hg e => by simp only [Option.some.injEq] at hg; exact hob6 g e hg.symm)
  have h7 := h6.kept3 g7 (fun hne b o ha e => by simp only [Option.some.injEq] at e; have := bk b (.inr ⟨by simp [Sl.bk, ha], hne⟩); have := b1.size; omega)
  refine nw fun w8 b8 s8 c8 => ?_
  have m8 := (b8.block _ (Array.getElem?_eq_some_iff.1 m7).1).trans m7
  refine ldB m8 (j := 4) (l := .sl) (x := m.2.2.2.2.1) rfl ?_
  have B8 : Below w.heap.size w w8 := B7.trans (b8.mono B7.size)
  have o8 : OwnS kS 9 w.heap.size w8 ⟨some ⟨w7.heap.size, 0, none⟩, 0, 0⟩ [] := OwnS.lit (k := kS) (B := w.heap.size) (xs := []) (n := 0) B7.size c8 rfl rfl (by simp)
  have ob8 : ∀ g, (Value.slice (some (⟨w7.heap.size, 0, none⟩ : Addr)) 0 0).ownBlock = some g → g = w7.heap.size := fun g hg => by simpa [Value.ownBlock] using hg.symm
  refine apS (s := ⟨some ⟨w7.heap.size, 0, none⟩, 0, 0⟩) (tR := 102) elS o8 (h7.below b8) (by simp; omega) (by simp; omega) B8.size fun va w9 o9 g9 _ _ => ?_
  simp only [List.nil_append] at o9
  have hsz7 : w2.heap.size < w7.heap.size := (Array.getElem?_eq_some_iff.1 c7).1
  have hsz7' : w1.heap.size < w7.heap.size := (Array.getElem?_eq_some_iff.1 z7).1
  have c9 := keepG ((b8.block _ hsz7).trans c7) g9 (fun g hg => by have := ob8 g hg; omega)
  have z9 := keepG ((b8.block _ hsz7').trans z7) g9 (fun g hg => by have := ob8 g hg; omega)
  have B9 : Below w.heap.size w w9 := B8.grown g9 B8.size (fun g hg => by have := ob8 g hg; have := B7.size; omega)
  have k9 := (o7.below b8).kept g9 (fun g hg e => by have := ob8 g hg; have := (o7.blk e).2; omega)
  refine stB c9 rfl (by simp [Tup.cells]) fun w10 g10 s10 c10 => ?_
  have c10 : w10.heap[w2.heap.size]? = some (bT (m.1, m.2.1, m.2.2.1, ka, va, ())) := c10
  have z10 := keepG z9 g10 (fun g hg => by simp only [Option.some.injEq] at hg; omega)
  have B10 : Below w.heap.size w w10 := B9.grown g10 B9.size (fun g hg => by simp only [Option.some.injEq] at hg; have := b1.size; omega)
  have hob9 : ∀ g, (Value.slice va.a va.n va.c).ownBlock = some g → g ≠ w2.heap.size := fun g hg e => by
    obtain ⟨cur, hc⟩ := o9.typ hg
    rw [e, c9] at hc
    simp only [bT, Option.some.injEq, Obj.cells.injEq] at hc
    exact tST hc.2.1.symm
  have k10 := k9.kept g10 (fun g hg e => by simp only [Option.some.injEq] at hg; exact hob6 g e hg.symm)
  have v10 := o9.kept g10 (fun g hg e => by simp only [Option.some.injEq] at hg; exact hob9 g e hg.symm)
  refine ldTab c10 (stTab z10 fun w11 g11 s11 c11 => ldTab c11 ?_)
  have t1 : ∀ g, (Value.slice ka.a ka.n ka.c).ownBlock = some g → g ≠ w1.heap.size := fun g hg e => by
    obtain ⟨cur, hc⟩ := k10.typ hg
    rw [e, z10] at hc
    simp only [bT, Option.some.injEq, Obj.cells.injEq] at hc
    exact tIT hc.2.1.symm
  have t2 : ∀ g, (Value.slice va.a va.n va.c).ownBlock = some g → g ≠ w1.heap.size := fun g hg e => by
    obtain ⟨cur, hc⟩ := v10.typ hg
    rw [e, z10] at hc
    simp only [bT, Option.some.injEq, Obj.cells.injEq] at hc
    exact tST hc.2.1.symm
  exact hk ka va w11 (B10.grown g11 B10.size (fun g hg => by simp only [Option.some.injEq] at hg; have := b1.size; omega)) (k10.kept g11 (fun g hg e => by simp only [Option.some.injEq] at hg; exact t1 g e hg.symm)) (v10.kept g11 (fun g hg e => by simp only [Option.some.injEq] at hg; exact t2 g e hg.symm))
end
end Go.Proofs.Ytdlnoabihfnmmaa.V

/- Contracts: a key is put into a table; a new table. -/
namespace Go.Proofs.Ytdlnoabihfnmmaa.V
open Go Go.RowKit
set_option linter.unusedVariables false
set_option linter.unusedSimpArgs false
theorem ixOwL {α : Type} {k : Kd α} {t : TypeId} {B : Nat} {w : World} {s : Sl} {xs : List α} {i : Int} {sz : Nat} (h : OwnS k t B w s xs) (hi : 0 ≤ i) {x : α} (hx : xs[i.toNat]? = some x) (hsz : sz = k.ls.length) (hl : k.ls.length = 1) {v : Value} (hv : v.oneCell' = true) (y : α) (hy : k.cells y = (k.cells x).set 0 v) {K : World → Prop}
    (hK : ∀ w', OwnS k t B w' s (xs.set i.toNat y) → w.grownBy w' s.bk → w'.heap.size = w.heap.size → K w') : Ix s.a s.n i sz w (fun a w1 => St a v w1 K) := by
  have := ixOwF (j := 0) h hi hx hsz (by omega) hv y hy hK
  simpa [Addr.add] using this
/-- A box of another type is no row's. -/
theorem own_box {α : Type} {k : Kd α} {t0 t1 : TypeId} {B g : Nat} {w : World} {s : Sl} {xs : List α} {cs : Array Value} (h : OwnS k t0 B w s xs) (hb : w.heap[g]? = some (.cells cs t1 (0, 0))) (ht : t0 ≠ t1) : (Value.slice s.a s.n s.c).ownBlock ≠ some g := fun e => by
  obtain ⟨cur, hc⟩ := h.typ e
  rw [hb] at hc
  simp only [Option.some.injEq, Obj.cells.injEq] at hc
  exact ht hc.2.1.symm
theorem OwnS.box {α : Type} {k : Kd α} {t0 t1 : TypeId} {B g : Nat} {w w' : World} {s : Sl} {xs : List α} {cs : Array Value} (h : OwnS k t0 B w s xs) (hb : w.heap[g]? = some (.cells cs t1 (0, 0))) (ht : t0 ≠ t1) (hg : w.grownBy w' (some g)) : OwnS k t0 B w' s xs :=
  h.kept hg (fun b e => by simp only [Option.some.injEq] at e; subst e; exact own_box h hb ht)
section
variable {w : World} {m : Tab} {ks : List Int} {vs : List ByteArray}
set_option maxHeartbeats 1000000 in
theorem spec.l3Put.c {H : Nat} {key : Int} {val : ByteArray} {K : Tab × Int × Unit → World → Prop} (h1 : OwnS kI 3 H w m.2.2.2.1 ks) (h2 : OwnS kS 9 H w m.2.2.2.2.1 vs) (hl : ks.length = vs.length) (hn : ks.length ≤ 500) (hH : H ≤ w.heap.size)
    (hk : ∀ x i w', Below H w w' → TbO H x (ks.length + 1) w' → x.2.1 = m.2.1 → K (x, i, ()) w') : CallT (.n [(.ag TB), (.lf (.i .i64))]) P0 107 [.agg (Tup.cells TB m).toArray, .int .i64 key, .string val] w K := by
  refine spec.l3Put.ok (nwTab fun w1 b1 s1 c1 => nwTz fun w2 b2 s2 c2 => ?_)
  have b12 := b1.trans (b2.mono b1.size)
  have c1' := (b2.block _ (by omega)).trans c1
  refine ldTab c1' (spec.l3At.c (ks := ks) (vs := vs) ⟨(h1.below b12).read, (h2.below b12).read⟩ (by omega) fun t11 w3 b3 hi => ?_)
  have b13 := b12.trans (b3.mono b12.size)
  have c3 := (b3.block _ (Array.getElem?_eq_some_iff.1 c1').1).trans c1'
  have z3 := (b3.block _ (by omega)).trans c2
  have k3 := h1.below b13
  have v3 := h2.below b13
  have hne : w.heap.size ≠ w1.heap.size := by omega
  have ret : ∀ {w4 : World} {x : Tab} {i : Int}, w4.heap[w.heap.size]? = some (bT x) → w4.heap[w1.heap.size]? = some (bT (0, 0, 0, ⟨none, 0, 0⟩, ⟨none, 0, 0⟩, ())) → Below H w w4 → TbO H x (ks.length + 1) w4 → x.2.1 = m.2.1 →
      LdA TB ⟨w.heap.size, 0, none⟩ w4 fun (t : Tup TB) w5 => StA P0 ⟨w1.heap.size, 0, none⟩ (Tup.cells TB t) w5 fun w6 => LdA TB ⟨w1.heap.size, 0, none⟩ w6 fun r w7 => K (r, (i, ())) w6 := by
    intro w4 x i hc hz hb ht hx
    refine ldTab hc (stTab hz fun w5 g5 s5 c5 => ldTab c5 ?_)
    obtain ⟨ks', vs', o1, o2, l1, l2⟩ := ht
    exact hk x i w5 (hb.grown g5 (Nat.le_trans hH hb.size) (fun g hg => by simp only [Option.some.injEq] at hg; omega)) ⟨ks', vs', o1.box hz tIT g5, o2.box hz tST g5, l1, l2⟩ hx
  have t3 : TbO H m (ks.length + 1) w3 := ⟨ks, vs, k3, v3, by omega, by omega⟩
  have B3 : Below H w w3 := b13.mono hH
  refine And.intro (fun hge => ?_) (fun hge => ?_)
  · simp only [decide_eq_true_eq] at hge
    have hi' : t11.toNat < ks.length := by rcases hi with h | h <;> omega
    obtain ⟨y, hy⟩ := get_some (l := vs) (k := t11.toNat) (by omega)
    refine ldB c3 (j := 4) (l := .sl) (x := m.2.2.2.2.1) rfl ?_
    refine ixOwL v3 hge hy rfl rfl rfl val rfl fun w4 v4 g4 s4 => ?_
    rw [← ob_bk] at g4
    have hob : ∀ g, (Value.slice m.2.2.2.2.1.a m.2.2.2.2.1.n m.2.2.2.2.1.c).ownBlock = some g → H ≤ g := fun g hg => (v3.blk hg).1
    have c4 := keepG c3 g4 (fun g hg e => own_box v3 (e ▸ c3) tST hg)
    have z4 := keepG z3 g4 (fun g hg e => own_box v3 (e ▸ z3) tST hg)
    have k4 := k3.kept g4 (fun b hb e => own_apart k3 v3 e hb)
    exact ret c4 z4 (B3.grown g4 (Nat.le_trans hH b13.size) hob) ⟨ks, _, k4, v4, by omega, by simp; omega⟩ rfl
  · refine ldB0 c3 (l := .i .i64) (x := m.1) rfl (And.intro (fun _ => ret c3 z3 B3 t3 rfl) (fun _ => ?_))
    refine ldB c3 (j := 3) (l := .sl) (x := m.2.2.2.1) rfl (ldB c3 (j := 2) (l := .i .i64) (x := m.2.2.1) rfl (And.intro (fun _ => ret c3 z3 B3 t3 rfl) (fun _ => ?_)))
    refine ldB c3 (j := 3) (l := .sl) (x := m.2.2.2.1) rfl ?_
    have hH3 : H ≤ w3.heap.size := Nat.le_trans hH b13.size
    refine ap1 elI k3 key rfl (by omega) (by omega) hH3 fun ka w4 k4 g4 _ => ?_
    have hob : ∀ g, (Value.slice m.2.2.2.1.a m.2.2.2.1.n m.2.2.2.1.c).ownBlock = some g → H ≤ g := fun g hg => (k3.blk hg).1
    have c4 := keepG c3 g4 (fun g hg e => own_box k3 (e ▸ c3) tIT hg)
    have z4 := keepG z3 g4 (fun g hg e => own_box k3 (e ▸ z3) tIT hg)
    have v4 := v3.kept g4 (fun b hb e => own_apart k3 v3 hb e)
    have B4 : Below H w w4 := B3.grown g4 hH3 hob
    refine stB c4 rfl (by simp [Tup.cells]) fun w5 g5 s5 c5 => ?_
    have c5 : w5.heap[w.heap.size]? = some (bT (m.1, m.2.1, m.2.2.1, ka, m.2.2.2.2.1, ())) := c5
    have z5 := keepG z4 g5 (fun g hg => by simp only [Option.some.injEq] at hg; omega)
    have k5 := k4.box c4 tIT g5
    have v5 := v4.box c4 tST g5
    have hH5 : H ≤ w5.heap.size := by have := g4.size; have := g5.size; omega
    have B5 : Below H w w5 := B4.grown g5 (by have := g4.size; omega) (fun g hg => by simp only [Option.some.injEq] at hg; omega)
    refine ldB c5 (j := 4) (l := .sl) (x := m.2.2.2.2.1) rfl ?_
    refine ap1 elS v5 val rfl (by omega) (by omega) hH5 fun va w6 v6 g6 _ => ?_
    have c6 := keepG c5 g6 (fun g hg e => own_box v5 (e ▸ c5) tST hg)
    have z6 := keepG z5 g6 (fun g hg e => own_box v5 (e ▸ z5) tST hg)
    have k6 := k5.kept g6 (fun b hb e => own_apart k5 v5 e hb)
    have B6 : Below H w w6 := B5.grown g6 hH5 (fun g hg => (v5.blk hg).1)
    refine stB c6 rfl (by simp [Tup.cells]) fun w7 g7 s7 c7 => ?_
    have c7 : w7.heap[w.heap.size]? = some (bT (m.1, m.2.1, m.2.2.1, ka, va, ())) := c7
    have z7 := keepG z6 g7 (fun g hg => by simp only [Option.some.injEq] at hg; omega)
    exact ret c7 z7 (B6.grown g7 (by have := g6.size; omega) (fun g hg => by simp only [Option.some.injEq] at hg; omega)) ⟨_, _, k6.box c6 tIT g7, v6.box c6 tST g7, by simp, by simp; omega⟩ rfl
set_option maxHeartbeats 1000000 in
theorem spec.TablePut.c {n : Nat} {key : Int} {val : ByteArray} {K : Tab × Int × Unit → World → Prop} (h : TbR m ks vs w) (hn : ks.length ≤ n ∧ vs.length ≤ n ∧ n ≤ 400) (hk : ∀ x i w', Below w.heap.size w w' → TbO w.heap.size x (n + 1) w' → (x.2.1 = m.2.1 ∨ x.2.1 = 0) → K (x, i, ()) w') :
    CallT (.n [(.ag TB), (.lf (.i .i64))]) P0 93 [.agg (Tup.cells TB m).toArray, .int .i64 key, .string val] w K := by
  refine spec.TablePut.ok (nwTab fun w1 b1 s1 c1 => nwTz fun w2 b2 s2 c2 => ?_)
  have b12 := b1.trans (b2.mono b1.size)
  have c1' := (b2.block _ (by omega)).trans c1
  refine ldTab c1' (spec.l3Ok.c (h.below b12) (by omega) fun ok w3 b3 hok => ?_)
  have b13 := b12.trans (b3.mono b12.size)
  have c3 := (b3.block _ (Array.getElem?_eq_some_iff.1 c1').1).trans c1'
  have z3 := (b3.block _ (by omega)).trans c2
  have h3 := h.below b13
  have ret : ∀ {w4 : World} {x : Tab} {i : Int}, w4.heap[w1.heap.size]? = some (bT (0, 0, 0, ⟨none, 0, 0⟩, ⟨none, 0, 0⟩, ())) → Below w.heap.size w w4 → TbO w.heap.size x (n + 1) w4 → (x.2.1 = m.2.1 ∨ x.2.1 = 0) →
      StA P0 ⟨w1.heap.size, 0, none⟩ (Tup.cells TB x) w4 fun w6 => LdA TB ⟨w1.heap.size, 0, none⟩ w6 fun r w7 => K (r, (i, ())) w6 := by
    intro w4 x i hz hb ht hx
    refine stTab hz fun w5 g5 s5 c5 => ldTab c5 ?_
    obtain ⟨ks', vs', o1, o2, l1, l2⟩ := ht
    exact hk x i w5 (hb.grown g5 hb.size (fun g hg => by simp only [Option.some.injEq] at hg; omega)) ⟨ks', vs', o1.box hz tIT g5, o2.box hz tST g5, l1, l2⟩ hx
  have copy : ∀ {w4 : World} {i : Int}, Below w3.heap.size w3 w4 → LdA TB ⟨w.heap.size, 0, none⟩ w4 fun (t : Tup TB) w5 => CallT (.o (.ag TB)) P0 106 [.agg (Tup.cells TB t).toArray] w5 fun (t24 : Tup TB) w6 => StA P0 ⟨w1.heap.size, 0, none⟩ (Tup.cells TB t24) w6 fun w7 => LdA TB ⟨w1.heap.size, 0, none⟩ w7 fun r w8 => K (r, (i, ())) w7 := by
    intro w4 i b4
    have c4 := (b4.block _ (Array.getElem?_eq_some_iff.1 c3).1).trans c3
    have z4 := (b4.block _ (Array.getElem?_eq_some_iff.1 z3).1).trans z3
    have b14 := b13.trans (b4.mono b13.size)
    refine ldTab c4 (spec.l3Copy.c (h3.below b4) (by omega) fun ka va w5 b5 o1 o2 => ?_)
    have z5 := (b5.block _ (Array.getElem?_eq_some_iff.1 z4).1).trans z4
    exact ret z5 (b14.trans (b5.mono b14.size)) ⟨ks, vs, o1.low b14.size, o2.low b14.size, by omega, by omega⟩ (.inl rfl)
  refine And.intro (fun _ => ret (x := (0, 0, 0, ⟨none, 0, 0⟩, ⟨none, 0, 0⟩, ())) z3 b13 (TbO.zero _ _ _ _ _ _) (.inr rfl)) (fun hc => ?_)
  have hlen : ks.length = vs.length := hok (by simpa using hc)
  refine spec.l2Top.c (spec.l1In.c ?_)
  refine And.intro (fun _ => copy (Below.refl _ _)) (fun _ => ?_)
  refine ldB c3 (j := 1) (l := .i .i64) (x := m.2.1) rfl (And.intro (fun _ => copy (Below.refl _ _)) (fun _ => ?_))
  refine ldTab c3 (spec.l3Copy.c h3 (by omega) fun ka va w4 b4 o1 o2 => ?_)
  have z4 := (b4.block _ (Array.getElem?_eq_some_iff.1 z3).1).trans z3
  have b14 := b13.trans (b4.mono b13.size)
  refine spec.l3Put.c (H := w3.heap.size) (m := (m.1, m.2.1, m.2.2.1, ka, va, ())) o1 o2 hlen (by omega) b4.size fun x i w5 b5 ht hx => ?_
  have z5 := (b5.block _ (by have := b3.size; omega)).trans z4
  exact ret z5 (b14.trans (b5.mono b13.size)) ((ht.low b13.size).more (by omega)) (.inl hx)
set_option maxHeartbeats 2000000 in
theorem spec.l3New.c {kind : Int} {size room : Nat} {K : Tab → World → Prop} (hs : 1 ≤ size ∧ size ≤ 8) (hr : room ≤ 8) (hk : ∀ x w', Below w.heap.size w w' → TbO w.heap.size x 8 w' → x.2.1 = size → K x w') :
    CallT (.o (.ag TB)) P0 104 [.int .i64 kind, .int .i64 (size : Int), .int .i64 (room : Int)] w K := by
  refine spec.l3New.ok (nwTz fun w1 b1 s1 c1 => nwTz fun w2 b2 s2 c2 => ?_)
  refine stTab (y := (kind, (size : Int), (room : Int), ⟨none, 0, 0⟩, ⟨none, 0, 0⟩, ())) c2 fun w3 g3 s3 c3 => ?_
  have z3 := keepG ((b2.block _ (by omega)).trans c1) g3 (fun g hg => by simp only [Option.some.injEq] at hg; omega)
  have b12 := b1.trans (b2.mono b1.size)
  have B3 : Below w.heap.size w w3 := b12.grown g3 b12.size (fun g hg => by simp only [Option.some.injEq] at hg; omega)
  have ret : ∀ {w4 : World} {x : Tab}, w4.heap[w1.heap.size]? = some (bT x) → w4.heap[w.heap.size]? = some (bT (0, 0, 0, ⟨none, 0, 0⟩, ⟨none, 0, 0⟩, ())) → Below w.heap.size w w4 → TbO w.heap.size x 8 w4 → x.2.1 = size →
      LdA TB ⟨w1.heap.size, 0, none⟩ w4 fun (t : Tup TB) w5 => StA P0 ⟨w.heap.size, 0, none⟩ (Tup.cells TB t) w5 fun w6 => LdA TB ⟨w.heap.size, 0, none⟩ w6 fun r w7 => K r w6 := by
    intro w4 x hc hz hb ht hx
    refine ldTab hc (stTab hz fun w5 g5 s5 c5 => ldTab c5 ?_)
    obtain ⟨ks', vs', o1, o2, l1, l2⟩ := ht
    exact hk x w5 (hb.grown g5 hb.size (fun g hg => by simp only [Option.some.injEq] at hg; omega)) ⟨ks', vs', o1.box hz tIT g5, o2.box hz tST g5, l1, l2⟩ hx
  refine And.intro (fun _ => ?_) (fun _ => ret c3 z3 B3 (TbO.zero _ _ _ _ _ _) rfl)
  refine ⟨fun i w' => ∃ (n : Nat) (ka va : Sl) (ks : List Int) (vs : List ByteArray), i = n ∧ n ≤ room ∧ ks.length = n ∧ vs.length = n ∧ OwnS kI 3 w.heap.size w' ka ks ∧ OwnS kS 9 w.heap.size w' va vs ∧ w'.heap[w1.heap.size]? = some (bT (kind, (size : Int), (room : Int), ka, va, ())) ∧ w'.heap[w.heap.size]? = some (bT (0, 0, 0, ⟨none, 0, 0⟩, ⟨none, 0, 0⟩, ())) ∧ Below w.heap.size w w',
    fun i _ => room - i.toNat, ⟨0, _, _, [], [], rfl, Nat.zero_le _, rfl, rfl, OwnS.nil _ _ _ _, OwnS.nil _ _ _ _, c3, z3, B3⟩, ?_⟩
  rintro i w4 ⟨n, ka, va, ks, vs, rfl, hn, hkl, hvl, k4, v4, c4, z4, B4⟩ _
  have hne : w1.heap.size ≠ w.heap.size := by omega
  refine And.intro (fun hlt => ?_) (fun _ => ret c4 z4 B4 ⟨ks, vs, k4, v4, by omega, by omega⟩ rfl)
  simp only [decide_eq_true_eq] at hlt
  refine ldB c4 (j := 3) (l := .sl) (x := ka) rfl ?_
  refine ap1 elI k4 (n : Int) rfl (by omega) (by omega) B4.size fun ka2 w5 k5 g5 _ => ?_
  have c5 := keepG c4 g5 (fun g hg e => own_box k4 (e ▸ c4) tIT hg)
  have z5 := keepG z4 g5 (fun g hg e => own_box k4 (e ▸ z4) tIT hg)
  have v5 := v4.kept g5 (fun b hb e => own_apart k4 v4 hb e)
  have B5 : Below w.heap.size w w5 := B4.grown g5 B4.size (fun g hg => (k4.blk hg).1)
  refine stB c5 rfl (by simp [Tup.cells]) fun w6 g6 s6 c6 => ?_
  have c6 : w6.heap[w1.heap.size]? = some (bT (kind, (size : Int), (room : Int), ka2, va, ())) := c6
  have z6 := keepG z5 g6 (fun g hg => by simp only [Option.some.injEq] at hg; omega)
  have k6 := k5.box c5 tIT g6
  have v6 := v5.box c5 tST g6
  have B6 : Below w.heap.size w w6 := B5.grown g6 B5.size (fun g hg => by simp only [Option.some.injEq] at hg; omega)
  have hvo : ∀ g, (Value.slice va.a va.n va.c).ownBlock = some g → g < w6.heap.size := fun g hg => (v6.blk hg).2
  have hc6l := (Array.getElem?_eq_some_iff.1 c6).1
  refine ⟨fun a b => a.grownBy b (Value.slice va.a va.n va.c).ownBlock, ⟨fun a => grown_refl _ _, fun a b c h1 h2 => grown_trans h1 h2, grown_any (Below.refl _ _).drew⟩, fun a b => Below a.heap.size a b, ⟨fun a => Below.refl _ _, fun a b h => grown_any h⟩,
    fun w' => OwnS kS 9 w.heap.size w' va vs, v6.below (Below.refl _ _).drew, fun a b h hb => h.below hb, eqG va, fun _ _ _ h _ => h, fun _ _ => True, fun _ _ _ _ _ => trivial, fun x w' => ∃ y, OwnS kS 9 w6.heap.size w' x [y], ?_, fun x w' => ∃ y, OwnS kS 9 w.heap.size w' x (vs ++ [y]), ?_, ?_⟩
  · rintro x a b ⟨y, hy⟩ hg
    exact ⟨y, hy.kept hg (fun g hg e => by have := hvo g hg; have := (hy.blk e).1; omega)⟩
  · rintro x a b ⟨y, hy⟩ hb
    exact ⟨y, hy.below hb⟩
  have nb : ∀ {a b : World}, Below a.heap.size a b → NewOnly w6.heap.size a b := fun hb => ⟨hb.size, fun g _ hg => hb.block g hg⟩
  refine ⟨fun w' hs => ?_, fun t27 => ⟨fun w' hs => ?_, fun t29 => ⟨fun w' hs _ => ?_, fun t30 => ⟨fun w' hs hN f27 f30 => ?_, fun t31 w7 hs f27 f29 f30 f31 _ => ?_⟩⟩⟩⟩
  · exact ldB (keepG c6 hs (fun g hg e => own_box v6 (e ▸ c6) tST hg)) (j := 4) (l := .sl) (x := va) rfl ⟨va, rfl, ⟨Below.refl _ _, nb (Below.refl _ _)⟩, rfl⟩
  · exact spec.l3Zero.c (by omega) fun r w'' hb => ⟨r, rfl, ⟨hb, nb hb⟩, trivial⟩
  · exact nw fun w'' hb hs2 hc2 => ⟨⟨some ⟨w'.heap.size, 0, none⟩, 1, 1⟩, rfl, ⟨hb, nb hb⟩, t29, OwnS.lit (k := kS) (B := w6.heap.size) (xs := [t29]) (n := 1) hs.size hc2 rfl rfl (by simp [maxLen])⟩
  · cases f27
    obtain ⟨y, hy⟩ := f30
    refine apS (tR := 102) elS hN hy.read (by simp; omega) (by simp; omega) (by have := B6.size; have := hs.size; omega) fun x w'' hx hg _ _ => ?_
    exact ⟨x, rfl, ⟨hg, hg.size, fun g hg1 hg2 => hg.block g hg2 (fun e => by have := hvo g e.symm; omega)⟩, y, hx⟩
  · cases f27
    obtain ⟨y, hy⟩ := f31
    have c7 := keepG c6 hs (fun g hg e => own_box v6 (e ▸ c6) tST hg)
    have z7 := keepG z6 hs (fun g hg e => own_box v6 (e ▸ z6) tST hg)
    have k7 := k6.kept hs (fun b hb e => own_apart k6 v6 e hb)
    have B7 : Below w.heap.size w w7 := B6.grown hs B6.size (fun g hg => (v6.blk hg).1)
    refine stB c7 rfl (by simp [Tup.cells]) fun w8 g8 s8 c8 => ?_
    have c8 : w8.heap[w1.heap.size]? = some (bT (kind, (size : Int), (room : Int), ka2, t31, ())) := c8
    have ei : IntKind.wrap .i64 ((n : Int) + 1) = ((n + 1 : Nat) : Int) := by rw [i64_of (by omega) (by omega)]; omega
    rw [ei]
    exact ⟨⟨n + 1, ka2, t31, _, _, rfl, by omega, by simp; omega, by simp; omega, k7.box c7 tIT g8, hy.box c7 tST g8, c8, keepG z7 g8 (fun g hg => by simp only [Option.some.injEq] at hg; omega), B7.grown g8 B7.size (fun g hg => by simp only [Option.some.injEq] at hg; omega)⟩, by simp only [Int.toNat_natCast]; omega⟩
end
end Go.Proofs.Ytdlnoabihfnmmaa.V

/- Contracts: a drawn table. -/
namespace Go.Proofs.Ytdlnoabihfnmmaa.V
open Go Go.RowKit
set_option linter.unusedVariables false
set_option linter.unusedSimpArgs false
theorem SqE.box {H : Nat} {E : Nat → Prop} {t : TypeId} {a b : World} {x : Nat} {c0 c1 : Array Value} (h : a.grownBy b (some x)) (hx : H ≤ x) (h0 : a.heap[x]? = some (.cells c0 t (0, 0))) (h1 : b.heap[x]? = some (.cells c1 t (0, 0))) : SqE H E t a b := by
  refine ⟨h.os, h.tape, h.output, h.size, fun k hk he ho => ?_, fun k hk he hH cs hc => ?_⟩
  · refine h.block k hk (fun e => ?_)
    simp only [Option.some.injEq] at e
    subst e
    rcases ho with ho | ho
    · omega
    · exact ho _ h0
  · by_cases e : k = x
    · subst e; exact ⟨c1, h1⟩
    · exact ⟨cs, (h.block k hk (by simpa using e)).trans hc⟩
theorem TbO.sq {H H' n : Nat} {E : Nat → Prop} {m : Tab} {a b : World} (h : TbO H m n a) (hs : SqE H' E 107 a b) (hE : ∀ g, H ≤ g → ¬ E g) : TbO H m n b := by
  obtain ⟨ks, vs, h1, h2, h3⟩ := h
  exact ⟨ks, vs, h1.sq hs tIT (fun g hg => hE g (h1.blk hg).1), h2.sq hs tST (fun g hg => hE g (h2.blk hg).1), h3⟩
section
variable {w : World}
theorem spec.TableNew.c {kind : Int} {size room : Nat} {K : Tab → World → Prop} (hs : 1 ≤ size ∧ size ≤ 8) (hr : room ≤ 8) (hk : ∀ x w', Below w.heap.size w w' → TbO w.heap.size x 8 w' → x.2.1 ≤ 8 → K x w') :
    CallT (.o (.ag TB)) P0 92 [.int .i64 kind, .int .i64 (size : Int), .int .i64 (room : Int)] w K := by
  refine spec.TableNew.ok (nwTz fun w1 b1 s1 c1 => ?_)
  have ret : ∀ {w4 : World} {x : Tab}, w4.heap[w.heap.size]? = some (bT (0, 0, 0, ⟨none, 0, 0⟩, ⟨none, 0, 0⟩, ())) → Below w.heap.size w w4 → TbO w.heap.size x 8 w4 → x.2.1 ≤ 8 →
      StA P0 ⟨w.heap.size, 0, none⟩ (Tup.cells TB x) w4 fun w6 => LdA TB ⟨w.heap.size, 0, none⟩ w6 fun r w7 => K r w6 := by
    intro w4 x hz hb ht hx
    refine stTab hz fun w5 g5 s5 c5 => ldTab c5 ?_
    obtain ⟨ks', vs', o1, o2, l1, l2⟩ := ht
    exact hk x w5 (hb.grown g5 hb.size (fun g hg => by simp only [Option.some.injEq] at hg; omega)) ⟨ks', vs', o1.box hz tIT g5, o2.box hz tST g5, l1, l2⟩ hx
  have zero : StA P0 ⟨w.heap.size, 0, none⟩ (Tup.cells TB ((0, 0, 0, ⟨none, 0, 0⟩, ⟨none, 0, 0⟩, ()) : Tab)) w1 fun w6 => LdA TB ⟨w.heap.size, 0, none⟩ w6 fun r w7 => K r w6 := ret c1 b1 (TbO.zero _ _ _ _ _ _) (by show (0 : Int) ≤ 8; omega)
  refine spec.l1In.c (And.intro (fun _ => zero) (fun _ => spec.l1In.c (And.intro (fun _ => zero) (fun _ => spec.l1In.c (And.intro (fun _ => zero) (fun _ => ?_))))))
  refine spec.l3New.c hs hr fun x w2 b2 ht hx => ?_
  exact ret ((b2.block _ (by omega)).trans c1) (b1.trans (b2.mono b1.size)) (ht.low b1.size) (Int.le_trans (Int.le_of_eq hx) (Int.ofNat_le.2 hs.2))
end
section
variable {B br m : Nat} {w : World}
/-- What is known between two puts. -/
def TlI (B br m : Nat) (w w0 : World) (n : Int) (w' : World) : Prop :=
  ∃ (c : Nat) (x : Tab), n = c ∧ c ≤ 5 ∧ w'.heap[w0.heap.size]? = some (bT x) ∧ w'.heap[w.heap.size]? = some (bT (0, 0, 0, ⟨none, 0, 0⟩, ⟨none, 0, 0⟩, ())) ∧ TbO w.heap.size x (13 - c) w' ∧ x.2.1 ≤ 8 ∧ RdS B br (m + 4 + 4 * (5 - c)) w' ∧ w.grownBy w' (some br)
set_option maxHeartbeats 4000000 in
theorem spec.l20Table.c {K : Tab → World → Prop} (h : RdS B br m w) (hm : m ≤ 800000000) (hk : ∀ x w', w.grownBy w' (some br) → RdS B br (m + 30) w' → K x w') : CallT (.o (.ag TB)) P0 77 [.pointer (some ⟨br, 0, none⟩)] w K := by
  have hlt := h.lt
  refine spec.l20Table.ok (nwTz fun w1 b1 s1 c1 => ?_)
  refine spec.l20Rd.pick.c (h.below b1) (by omega) (by omega) fun t8 w2 _ _ g2 r2 => ?_
  refine oneLit (xs := [1, 2, 4, 8]) r2 (by omega) rfl rfl (by decide) fun t12 w3 h12 g3 r3 => ?_
  refine oneLit (xs := [1, 2, 4, 8]) r3 (by omega) rfl rfl (by decide) fun t15 w4 h15 g4 r4 => ?_
  have e12 : 1 ≤ t12 ∧ t12 ≤ 8 := by simp at h12; omega
  have e15 : 1 ≤ t15 ∧ t15 ≤ 8 := by simp at h15; omega
  obtain ⟨sz, hsz⟩ : ∃ sz : Nat, t12 = sz := ⟨t12.toNat, by omega⟩
  obtain ⟨rm, hrm⟩ : ∃ rm : Nat, t15 = rm := ⟨t15.toNat, by omega⟩
  subst hsz hrm
  have g14 : w1.grownBy w4 (some br) := grown_trans (grown_trans g2 g3) g4
  refine spec.TableNew.c (by omega) (by omega) fun x0 w5 b5 ht5 hx5 => ?_
  have g15 : w1.grownBy w5 (some br) := grown_trans g14 (grown_any b5)
  have z5 := keepB c1 g15 hlt
  refine nwTz fun w6 b6 s6 c6 => stTab c6 fun w7 g7 s7 c7 => ?_
  have hw15 := g15.size
  have z7 := keepG ((b6.block _ (Array.getElem?_eq_some_iff.1 z5).1).trans z5) g7 (fun g hg => by simp only [Option.some.injEq] at hg; omega)
  have t7 : TbO w.heap.size x0 8 w7 := by
    have h1 := (ht5.below b6).low (H' := w.heap.size) (by have := g14.size; omega)
    obtain ⟨ks, vs, o1, o2, l⟩ := h1
    exact ⟨ks, vs, o1.box c6 tIT g7, o2.box c6 tST g7, l⟩
  have G7 : w.grownBy w7 (some br) := grown_new (grown_trans (grown_trans (grown_any b1) g15) (grown_any b6)) g7 (by omega)
  have r7 : RdS B br (m + 3) w7 := ((r4.below b5).below b6).kept g7 (fun b hb => by simp only [Option.some.injEq] at hb; omega)
  refine spec.l20Rd.pick.c r7 (by omega) (by omega) fun t18 w8 k0 k1 g8 r8 => ?_
  refine ⟨fun n w' => TlI B br m w w5 n w', fun n _ => n.toNat, ⟨t18.toNat, x0, by omega, by omega, keepB c7 g8 (by omega), keepB z7 g8 hlt, (t7.kept g8 hlt).more (by omega), hx5, r8.more (by omega), grown_trans G7 g8⟩, ?_⟩
  rintro n w10 ⟨c, x, rfl, hc, cm, cz, ht, hx8, hr, hG⟩ _
  have hbm : w5.heap.size < w10.heap.size := (Array.getElem?_eq_some_iff.1 cm).1
  have hbr10 : br < w10.heap.size := hr.lt
  refine And.intro (fun hpos => ?_) (fun _ => ?_)
  · simp only [decide_eq_true_eq] at hpos
    have hbm2 : w5.heap.size ≠ br := by omega
    have hwH := hG.size
    obtain ⟨ks, vs, o1, o2, l1, l2⟩ := ht
    have eG : ∀ {a b : World}, a.grownBy b (some br) → SqE w10.heap.size (· = br) 107 a b := fun hg => SqE.grown hg (fun g e => by simpa using e.symm)
    have nG : ∀ {a b : World}, a.grownBy b (some br) → NewOnly w10.heap.size a b := fun hg => ⟨hg.size, fun g h1 h2 => hg.block g h2 (by simp; omega)⟩
    have nb : ∀ {a b : World}, Below a.heap.size a b → NewOnly w10.heap.size a b := fun hb => ⟨hb.size, fun g _ hg => hb.block g hg⟩
    have hnoE : ∀ g, g ≤ br → ¬ (fun _ : Nat => False) g := fun _ _ h => h
    refine ⟨SqE w10.heap.size (· = br) 107, sqeOk _ _ _ _, SqE w10.heap.size (fun _ => False) 107, ⟨fun a => SqE.refl _ _ _ a, fun a b h => h.more (fun _ h => h.elim)⟩, RdS B br (m + 4 + 4 * (5 - c)), hr.below (Below.refl _ _).drew, fun a b h hs => h.sq hs hbr10 hnoE, RdS B br (m + 4 + 4 * (5 - c) + 1), fun a b h hs => h.sq hs hbr10 hnoE,
      eqG x, fun _ _ _ h _ => h, fun s w' => OwnS kI 3 w10.heap.size w' s [0, 1, 2, 3, 7, 200, 4294967295], fun s a b h hs => h.sq hs tIT (fun g hg e => by have := (h.blk hg).1; omega), fun _ _ => True, fun _ _ _ _ _ => trivial, fun _ w' => RdS B br (m + 4 + 4 * (5 - c) + 4) w', fun _ a b h hs => h.sq hs hbr10 hnoE, eqG x.2.1, fun _ _ _ h _ => h, fun _ _ => True, fun _ _ _ _ _ => trivial,
      fun p w' => TbO w10.heap.size p.1 (13 - c + 1) w' ∧ p.1.2.1 ≤ 8, fun p a b h hs => ⟨h.1.sq hs (fun g hg e => by omega), h.2⟩, fun y w' => TbO w10.heap.size y (13 - c + 1) w' ∧ y.2.1 ≤ 8, fun p a b h hs => ⟨h.1.sq hs (fun g hg e => by omega), h.2⟩, ?_⟩
    refine ⟨fun w' hs => ?_, fun t24 => ⟨fun w' hs => ?_, fun t26 => ⟨fun w' hs hN f26 => ?_, fun t27 => ⟨fun w' hs hN => ?_, fun t29 => ⟨fun w' hs => ?_, fun t31 => ⟨fun w' hs f29 f31 => ?_, fun t32 => ⟨fun w' hs f24 f27 f32 => ?_, fun t33 => ⟨fun w' hs => ?_, fun bx_ => ⟨fun w' hs f33 q1 q2 => ?_, fun st w11 hs f24 f26 f27 f29 f31 f32 f33 f40 hbx => ?_⟩⟩⟩⟩⟩⟩⟩⟩⟩
    · exact ldTab (hs.old cm hbm hbm2) ⟨x, rfl, ⟨SqE.refl _ _ _ _, Nat.le_refl _, fun _ _ _ => rfl⟩, rfl⟩
    · exact nw fun w'' hb hs2 hc2 => ⟨⟨some ⟨w'.heap.size, 0, none⟩, 7, 7⟩, rfl, ⟨SqE.below hb, nb hb⟩, OwnS.lit (k := kI) (B := w10.heap.size) (xs := [0, 1, 2, 3, 7, 200, 4294967295]) (n := 7) hs.size hc2 rfl rfl (by simp [maxLen])⟩
    · refine spec.l20Rd.one.c hN (by omega) f26.read (by simp) (fun b o e => ?_) fun y w'' _ hg hr2 => ⟨y, rfl, ⟨⟨eG hg, hr2⟩, nG hg⟩, trivial⟩
      have := (f26.blk (b := b) (by rw [ob_bk]; simp [Sl.bk, e])).1
      omega
    · exact spec.l20Number.c hN (by omega) fun y w'' hg hr2 => ⟨y, rfl, ⟨eG hg, nG hg⟩, hr2.more (by omega)⟩
    · exact ldB (hs.old cm hbm hbm2) (j := 1) (l := .i .i64) (x := x.2.1) rfl ⟨x.2.1, rfl, ⟨SqE.refl _ _ _ _, Nat.le_refl _, fun _ _ _ => rfl⟩, rfl⟩
    · cases f31
      exact spec.l4Bytes.c (Int.le_trans hx8 (by decide)) fun r w'' hb => ⟨r, rfl, ⟨SqE.below hb, nb hb⟩, trivial⟩
    · cases f24
      have hR : TbR x ks vs w' := ⟨o1.read.sq hs (fun g hg _ => by have := o1.blk ((ob_bk _).trans hg); exact ⟨this.2, this.2, by omega⟩), o2.read.sq hs (fun g hg _ => by have := o2.blk ((ob_bk _).trans hg); exact ⟨this.2, this.2, by omega⟩)⟩
      refine spec.TablePut.c (n := 13 - c) hR (by omega) fun y i w'' hb hty hy => ⟨(y, i, ()), rfl, ⟨SqE.below hb, nb hb⟩, hty.low hs.size, ?_⟩
      rcases hy with hy | hy
      · exact Int.le_trans (Int.le_of_eq hy) hx8
      · exact Int.le_trans (Int.le_of_eq hy) (by decide)
    · exact nw fun w'' hb hs2 hc2 => ⟨rfl, ⟨SqE.below hb, nb hb⟩, by omega, hc2⟩
    · rw [zTab] at q2
      refine stTab (m := (0, 0, 0, ⟨none, 0, 0⟩, ⟨none, 0, 0⟩, ())) q2 fun w'' hg hs2 hc2 => ?_
      have hq : SqE w10.heap.size (fun _ => False) 107 w' w'' := SqE.box hg q1 q2 hc2
      exact ⟨t33.1, hq, ⟨hg.size, fun k hk hne => hg.block k hk (by simpa using hne), hc2⟩, f33.1.sq hq (fun _ _ h => h), f33.2⟩
    · have hb := hbx.1 _ List.mem_cons_self
      have cx : w11.heap[bx_]? = some (bT st) := hb.2.2
      have cm11 := hs.old cm hbm hbm2
      have cz11 := hs.old cz (by have := (Array.getElem?_eq_some_iff.1 cz).1; omega) (by omega)
      refine ldTab cx (stTab cm11 fun w12 g12 s12 c12 => ?_)
      have ei : IntKind.wrap .i64 ((c : Int) - 1) = ((c - 1 : Nat) : Int) := by rw [i64_of (by omega) (by omega)]; omega
      rw [ei]
      have G11 : w.grownBy w11 (some br) := ⟨hs.os.trans hG.os, hs.tape.trans hG.tape, hs.output.trans hG.output, Nat.le_trans hG.size hs.size, fun k hk hne => (hs.block k (by omega) (by simpa using hne) (.inl (by omega))).trans (hG.block k hk hne)⟩
      have ht12 : TbO w.heap.size st (13 - (c - 1)) w12 := by
        obtain ⟨ks', vs', p1, p2, p3, p4⟩ := f40.1.low (H' := w.heap.size) hwH
        exact ⟨ks', vs', p1.box cm11 tIT g12, p2.box cm11 tST g12, by omega, by omega⟩
      refine ⟨⟨c - 1, st, rfl, by omega, c12, keepG cz11 g12 (fun g hg => by simp only [Option.some.injEq] at hg; omega), ht12, f40.2, ((f29 : RdS B br _ w11).kept g12 (fun b hb => by simp only [Option.some.injEq] at hb; omega)).more (by omega), grown_new G11 g12 (by omega)⟩, ?_⟩
      simp only [Int.toNat_natCast]; omega
  · refine ldTab cm (stTab cz fun w11 g11 s11 c11 => ldTab c11 ?_)
    exact hk x w11 (grown_new hG g11 (Nat.le_refl _)) ((hr.kept g11 (fun b hb => by simp only [Option.some.injEq] at hb; omega)).more (by omega))
end
end Go.Proofs.Ytdlnoabihfnmmaa.V

/- Contracts: drawn tables, starts; the draw of rules and of what came. -/
namespace Go.Proofs.Ytdlnoabihfnmmaa.V
open Go Go.RowKit
set_option linter.unusedVariables false
set_option linter.unusedSimpArgs false
/-- A start: program, what came, tables, numbers, sockets. -/
abbrev SA : List Lf := [.sl, .s, .sl, .sl, .sl]
abbrev Sta := Tup SA
def kSta : Kd Sta := ⟨SA, fun x => x⟩
def sta0 : Sta := (⟨none, 0, 0⟩, ByteArray.empty, ⟨none, 0, 0⟩, ⟨none, 0, 0⟩, ⟨none, 0, 0⟩, ())
theorem zSta : zc P0 61 = (Tup.cells SA sta0).toArray := by kernel_rfl
theorem noAnySta : ∀ l ∈ kSta.ls, l ≠ Lf.any := by intro l hl; simp [kSta, SA] at hl; rcases hl with rfl | rfl | rfl <;> simp
/-- The box of a start. -/
def bS (m : Sta) : Obj := .cells (Tup.cells SA m).toArray 61 (0, 0)
section
variable {w w0 : World} {b : Nat} {m y : Sta}
theorem nwSz {K : Addr → World → Prop} (hk : ∀ w', Below w.heap.size w w' → w'.heap.size = w.heap.size + 1 → w'.heap[w.heap.size]? = some (bS sta0) → K ⟨w.heap.size, 0, none⟩ w') : Nw (zc P0 61) 61 w K := by
  rw [zSta]; exact nw hk
theorem stSta (h : w.heap[b]? = some (bS m)) {K : World → Prop} (hk : ∀ w', w.grownBy w' (some b) → w'.heap.size = w.heap.size → w'.heap[b]? = some (bS y) → K w') : StA P0 ⟨b, 0, none⟩ (Tup.cells SA y) w K := by
  obtain ⟨w', hr, hg, hsz, hh⟩ := run_storeCells_at' P0 (b := b) (t := 61) (Tup.cells SA y) 0 [] (Tup.cells SA m) w (oneCell_cells kSta noAnySta y) rfl rfl (by simpa [bS] using h)
  exact ⟨w', hr, hk w' hg hsz (by simpa [bS] using hh)⟩
theorem ldSta (h : w.heap[b]? = some (bS m)) {K : Sta → World → Prop} (hk : K m w) : LdA SA ⟨b, 0, none⟩ w K := ldAB h rfl hk
end
theorem tIA : (3 : TypeId) ≠ 61 := by decide
theorem tUA : (5 : TypeId) ≠ 61 := by decide
theorem SqE.gr {H br : Nat} {E : Nat → Prop} {t : TypeId} {w a b : World} (hG : w.grownBy a (some br)) (hs : SqE H E t a b) (hH : w.heap.size ≤ H) (hE : ∀ g, g < w.heap.size → E g → g = br) : w.grownBy b (some br) :=
  ⟨hs.os.trans hG.os, hs.tape.trans hG.tape, hs.output.trans hG.output, Nat.le_trans hG.size hs.size, fun k hk hne => (hs.block k (Nat.lt_of_lt_of_le hk hG.size) (fun e => hne (by rw [hE k hk e])) (.inl (by omega))).trans (hG.block k hk hne)⟩
section
variable {B br m : Nat} {w : World}
set_option maxHeartbeats 1000000 in
theorem spec.l20Tables.c {K : Sl → World → Prop} (h : RdS B br m w) (hm : m ≤ 700000000) (hk : ∀ x w', w.grownBy w' (some br) → RdS B br (m + 70) w' → K x w') : CallT (.o (.lf .sl)) P0 55 [.pointer (some ⟨br, 0, none⟩)] w K := by
  refine spec.l20Tables.ok (spec.l20Table.c h (by omega) fun x w1 g1 r1 => spec.l20Table.c r1 (by omega) fun y w2 g2 r2 => nw fun w3 b3 s3 c3 => ?_)
  have G3 : w.grownBy w3 (some br) := grown_trans (grown_trans g1 g2) (grown_any b3)
  have o3 : OwnS kTab 107 w2.heap.size w3 ⟨some ⟨w2.heap.size, 0, none⟩, 2, 2⟩ [x, y] := OwnS.lit (k := kTab) (B := w2.heap.size) (xs := [x, y]) (n := 2) (Nat.le_refl _) c3 rfl rfl (by simp [maxLen])
  refine spec.l20Rd.pick.c (r2.below b3) (by omega) (by omega) fun t10 w4 _ _ g4 r4 => ?_
  refine And.intro (fun _ => ?_) (fun _ => hk _ _ (grown_trans G3 g4) (r4.more (by omega)))
  refine spec.l20Rd.pick.c r4 (by omega) (by omega) fun t14 w5 k0 k1 g5 r5 => ?_
  have hbr : br < w2.heap.size := r2.lt
  have o5 := (o3.keptBr g4 hbr).keptBr g5 hbr
  refine slcR (k := kTab) (e := 107) (s := ⟨some ⟨w2.heap.size, 0, none⟩, 2, 2⟩) (by kernel_rfl) (by kernel_rfl) o5.read (lo := none) (hi := some t14) (mx := none) (l := 0) (h' := t14.toNat) (m := 2) rfl (by show t14 = _; omega) rfl (by simp) (by omega) (by omega) (Nat.le_refl _) (by show t14.toNat ≤ 2; omega) fun q _ _ hq hqb => ?_
  exact hk _ _ (grown_trans (grown_trans G3 g4) g5) (r5.more (by omega))
/-- What is known between two numbers. -/
def StJ (B br M : Nat) (w : World) (bs bz : Nat) (f : Sta → Sl) (p : Sta → Prop) (n : Int) (w' : World) : Prop :=
  ∃ (c : Nat) (x : Sta) (rs : List Int), n = c ∧ rs.length + c ≤ 5 ∧ w'.heap[bs]? = some (bS x) ∧ w'.heap[bz]? = some (bS sta0) ∧ OwnS kI 3 w.heap.size w' (f x) rs ∧ p x ∧ RdS B br (M + 4 * (5 - c)) w' ∧ w.grownBy w' (some br)
/-- What is known between two bytes. -/
def StC (B br M : Nat) (w : World) (bs bz : Nat) (x : Sta) (came : Sl) (i : Int) (w' : World) : Prop :=
  ∃ (c : Nat) (ys : List Int), i = c ∧ c ≤ 12 ∧ ys.length = c ∧ OwnS kU8 5 w.heap.size w' came ys ∧ w'.heap[bs]? = some (bS x) ∧ w'.heap[bz]? = some (bS sta0) ∧ RdS B br (M + c) w' ∧ w.grownBy w' (some br)
set_option maxHeartbeats 4000000 in
theorem spec.l20Start.c {K : Sta → World → Prop} (h : RdS B br m w) (hm : m ≤ 600000000) (hk : ∀ x w', w.grownBy w' (some br) → RdS B br (m + 500) w' → K x w') : CallT (.o (.ag SA)) P0 29 [.pointer (some ⟨br, 0, none⟩)] w K := by
  have hlt := h.lt
  refine spec.l20Start.ok (nwSz fun w1 b1 s1 c1 => ?_)
  refine spec.l20Prog.c (h.below b1) (by omega) fun t9 w2 ys g2 r2 o2 _ _ => ?_
  refine spec.l20Tables.c r2 (by omega) fun t11 w3 g3 r3 => nwSz fun w4 b4 s4 c4 => ?_
  have G3 : w.grownBy w3 (some br) := grown_trans (grown_trans (grown_any b1) g2) g3
  have G4 : w.grownBy w4 (some br) := grown_trans G3 (grown_any b4)
  have z3 := keepB (keepB c1 g2 hlt) g3 hlt
  have z4 := (b4.block _ (Array.getElem?_eq_some_iff.1 z3).1).trans z3
  have hz3 : w.heap.size < w3.heap.size := (Array.getElem?_eq_some_iff.1 z3).1
  refine stSta (y := (t9, ByteArray.empty, t11, ⟨none, 0, 0⟩, ⟨none, 0, 0⟩, ())) c4 fun w5 g5 s5 c5 => ?_
  have z5 := keepG z4 g5 (fun g hg => by simp only [Option.some.injEq] at hg; omega)
  have r5 : RdS B br (m + 370) w5 := ((r3.below b4).kept g5 (fun b hb => by simp only [Option.some.injEq] at hb; omega)).more (by omega)
  have G5 : w.grownBy w5 (some br) := grown_new G4 g5 (by omega)
  have hbr3 : br < w3.heap.size := by omega
  refine nw fun w6 b6 s6 c6 => ?_
  have ho6 : OwnS kU8 5 w.heap.size w6 ⟨some ⟨w5.heap.size, 0, none⟩, 0, 0⟩ [] := OwnS.lit (k := kU8) (B := w.heap.size) (xs := []) (n := 0) G5.size c6 rfl rfl (by simp)
  refine ⟨StC B br (m + 370) w w3.heap.size w.heap.size (t9, ByteArray.empty, t11, ⟨none, 0, 0⟩, ⟨none, 0, 0⟩, ()), fun _ i _ => 12 - i.toNat, ⟨0, [], rfl, by omega, rfl, ho6, (b6.block _ (Array.getElem?_eq_some_iff.1 c5).1).trans c5, (b6.block _ (Array.getElem?_eq_some_iff.1 z5).1).trans z5, r5.below b6, grown_trans G5 (grown_any b6)⟩, ?_⟩
  rintro came i w7 ⟨c, ys7, rfl, hc, hl, o7, c7, z7, r7, G7⟩ _
  refine And.intro (fun hlt7 => ?_) (fun _ => ?_)
  · simp only [decide_eq_true_eq] at hlt7
    refine oneLit (xs := [0, 1, 2, 3, 5, 7, 9, 10, 200, 255]) r7 (by omega) rfl rfl (by decide) fun t21 w8 _ g8 r8 => ?_
    have o8 := o7.keptBr g8 hlt
    have c8 := keepB c7 g8 hbr3
    have z8 := keepB z7 g8 hlt
    have G8 := grown_trans G7 g8
    refine ap1 elU8 o8 (IntKind.wrap .u8 t21) rfl (by omega) (by omega) G8.size fun t24 w9 o9 g9 _ => ?_
    have ei : IntKind.wrap .i64 ((c : Int) + 1) = ((c + 1 : Nat) : Int) := by rw [i64_of (by omega) (by omega)]; omega
    rw [ei]
    refine ⟨⟨c + 1, _, rfl, by omega, by simp; omega, o9, keepG c8 g9 (fun g hg e => own_box o8 (e ▸ c8) tUA hg), keepG z8 g9 (fun g hg e => own_box o8 (e ▸ z8) tUA hg), (r8.keptO o8 g9 hlt).more (by omega), grown_newO G8 g9 (fun b hb => (o8.blk hb).1)⟩, ?_⟩
    simp only [Int.toNat_natCast]; omega
  · refine convB o7 fun t26 _ => stB c7 rfl (by simp [Tup.cells]) fun w8 g8 s8 c8 => ?_
    have c8 : w8.heap[w3.heap.size]? = some (bS (t9, t26, t11, ⟨none, 0, 0⟩, ⟨none, 0, 0⟩, ())) := c8
    have z8 := keepG z7 g8 (fun g hg => by simp only [Option.some.injEq] at hg; omega)
    have r8 : RdS B br (m + 370 + c) w8 := r7.kept g8 (fun b hb => by simp only [Option.some.injEq] at hb; omega)
    have G8 : w.grownBy w8 (some br) := grown_new G7 g8 (by omega)
    refine spec.l20Rd.pick.c r8 (by omega) (by omega) fun t29 w9 k0 k1 g9 r9 => ?_
    have e9 : IntKind.wrap .i64 (1 + t29) = (((1 + t29).toNat : Nat) : Int) := by rw [i64_of (by omega) (by omega)]; omega
    rw [e9]
    refine ⟨StJ B br (m + 390) w w3.heap.size w.heap.size (fun x => x.2.2.2.1) (fun x => x.2.2.2.2.1 = ⟨none, 0, 0⟩), fun n _ => n.toNat, ⟨(1 + t29).toNat, _, [], rfl, by simp; omega, keepB c8 g9 hbr3, keepB z8 g9 hlt, OwnS.nil _ _ _ _, rfl, r9.more (by omega), grown_trans G8 g9⟩, ?_⟩
    rintro n w10 ⟨c, x, rs, rfl, hrs, c10, z10, o10, p10, r10, G10⟩ _
    have hbs10 : w3.heap.size < w10.heap.size := (Array.getElem?_eq_some_iff.1 c10).1
    have hz10 : w.heap.size < w10.heap.size := (Array.getElem?_eq_some_iff.1 z10).1
    have hbr10 : br < w10.heap.size := r10.lt
    have nbx : ∀ {s : Sl} {w' : World} {g : Nat} {rs' : List Int} {y : Sta}, OwnS kI 3 w.heap.size w' s rs' → (Value.slice s.a s.n s.c).ownBlock = some g → w'.heap[w3.heap.size]? = some (bS y) → g ≠ w3.heap.size := fun ho hg hc e => own_box ho (e ▸ hc) tIA hg
    refine And.intro (fun hpos => ?_) (fun _ => ?_)
    · simp only [decide_eq_true_eq] at hpos
      have obl : ∀ g, (Value.slice x.2.2.2.1.a x.2.2.2.1.n x.2.2.2.1.c).ownBlock = some g → w.heap.size ≤ g ∧ g < w10.heap.size := fun g hg => o10.blk hg
      have nb : ∀ {a b : World}, Below a.heap.size a b → NewOnly w10.heap.size a b := fun hb => ⟨hb.size, fun g _ hg => hb.block g hg⟩
      refine ⟨SqE w10.heap.size (fun g => g = br ∨ (Value.slice x.2.2.2.1.a x.2.2.2.1.n x.2.2.2.1.c).ownBlock = some g) 61, sqeOk _ _ _ _, fun a b => Below a.heap.size a b, ⟨fun a => Below.refl _ _, fun a b h => SqE.below h⟩,
        fun w' => RdS B br (m + 390 + 4 * (5 - c)) w' ∧ OwnS kI 3 w.heap.size w' x.2.2.2.1 rs, ⟨r10.below (Below.refl _ _).drew, o10.below (Below.refl _ _).drew⟩, fun a b h hs => ⟨h.1.below hs, h.2.below hs⟩,
        fun w' => RdS B br (m + 390 + 4 * (5 - c) + 3) w' ∧ OwnS kI 3 w.heap.size w' x.2.2.2.1 rs, fun a b h hs => ⟨h.1.below hs, h.2.below hs⟩,
        eqG x.2.2.2.1, fun _ _ _ h _ => h, fun _ _ => True, fun _ _ _ _ _ => trivial, fun s w' => ∃ y, OwnS kI 3 w10.heap.size w' s [y], ?_, fun s w' => ∃ y, RdS B br (m + 390 + 4 * (5 - c) + 3) w' ∧ OwnS kI 3 w.heap.size w' s (rs ++ [y]), ?_, ?_⟩
      · rintro s a b ⟨y, hy⟩ hs
        exact ⟨y, hy.sq hs tIA (fun g hg e => by have := (hy.blk hg).1; rcases e with e | e; omega; have := (obl g e).2; omega)⟩
      · rintro s a b ⟨y, hy, ho⟩ hs
        exact ⟨y, hy.below hs, ho.below hs⟩
      refine ⟨fun w' hs => ?_, fun t36 => ⟨fun w' hs hN => ?_, fun t38 => ⟨fun w' hs _ => ?_, fun t39 => ⟨fun w' hs hN f36 f39 => ?_, fun t40 w11 hs f36 f38 f39 f40 _ => ?_⟩⟩⟩⟩
      · exact ldB (hs.old c10 hbs10 (by rintro (e | e); omega; exact nbx o10 e c10 rfl)) (j := 3) (l := .sl) (x := x.2.2.2.1) rfl ⟨x.2.2.2.1, rfl, ⟨Below.refl _ _, nb (Below.refl _ _)⟩, rfl⟩
      · exact spec.l20Number.c hN.1 (by omega) fun y w'' hg hr => ⟨y, rfl, ⟨⟨SqE.grown hg (fun g e => .inl (by simpa using e.symm)), hr, hN.2.keptBr hg hlt⟩, ⟨hg.size, fun g h1 h2 => hg.block g h2 (by simp; omega)⟩⟩, trivial⟩
      · exact nw fun w'' hb hs2 hc2 => ⟨⟨some ⟨w'.heap.size, 0, none⟩, 1, 1⟩, rfl, ⟨hb, nb hb⟩, t38, OwnS.lit (k := kI) (B := w10.heap.size) (xs := [t38]) (n := 1) hs.size hc2 rfl rfl (by simp [maxLen])⟩
      · cases f36
        obtain ⟨y, hy⟩ := f39
        refine apS (tR := 59) elI hN.2 hy.read (by simp; omega) (by simp; omega) (by have := hs.size; omega) fun s w'' hx hg _ _ => ?_
        exact ⟨s, rfl, ⟨SqE.grown hg (fun g e => .inr e), ⟨hg.size, fun g h1 h2 => hg.block g h2 (fun e => by have := (obl g e.symm).2; omega)⟩⟩, y, hN.1.keptO hN.2 hg hlt, hx⟩
      · cases f36
        obtain ⟨y, hr, hy⟩ := f40
        have c11 := hs.old c10 hbs10 (by rintro (e | e); omega; exact nbx o10 e c10 rfl)
        have z11 := hs.old z10 hz10 (by rintro (e | e); omega; exact own_box o10 z10 tIA e)
        have G11 := SqE.gr G10 hs G10.size (fun g hg e => by rcases e with e | e; exact e; have := (obl g e).1; omega)
        refine stB c11 rfl (by simp [Tup.cells]) fun w12 g12 s12 c12 => ?_
        have c12 : w12.heap[w3.heap.size]? = some (bS (x.1, x.2.1, x.2.2.1, t40, x.2.2.2.2.1, ())) := c12
        have ei : IntKind.wrap .i64 ((c : Int) - 1) = ((c - 1 : Nat) : Int) := by rw [i64_of (by omega) (by omega)]; omega
        rw [ei]
        refine ⟨⟨c - 1, _, rs ++ [y], rfl, by simp; omega, c12, keepG z11 g12 (fun g hg => by simp only [Option.some.injEq] at hg; omega), hy.box c11 tIA g12, p10, (hr.kept g12 (fun b hb => by simp only [Option.some.injEq] at hb; omega)).more (by omega), grown_new G11 g12 (by omega)⟩, ?_⟩
        simp only [Int.toNat_natCast]; omega
    · refine spec.l20Rd.pick.c r10 (by omega) (by omega) fun t43 w20 k0 k1 g20 r20 => ?_
      have p10 : x.2.2.2.2.1 = ⟨none, 0, 0⟩ := p10
      refine ⟨StJ B br (m + 420) w w3.heap.size w.heap.size (fun x => x.2.2.2.2.1) (fun x => True), fun n _ => n.toNat, ⟨t43.toNat, x, [], by omega, by simp; omega, keepB c10 g20 hbr3, keepB z10 g20 hlt, by show OwnS kI _ _ _ x.2.2.2.2.1 _; rw [p10]; exact OwnS.nil _ _ _ _, trivial, r20.more (by omega), grown_trans G10 g20⟩, ?_⟩
      clear c10 z10 o10 p10 r10 G10 r20 g20
      rintro n w10 ⟨c, x, rs, rfl, hrs, c10, z10, o10, p10, r10, G10⟩ _
      have hbs10 : w3.heap.size < w10.heap.size := (Array.getElem?_eq_some_iff.1 c10).1
      have hz10 : w.heap.size < w10.heap.size := (Array.getElem?_eq_some_iff.1 z10).1
      have hbr10 : br < w10.heap.size := r10.lt
      refine And.intro (fun hpos => ?_) (fun _ => ?_)
      · simp only [decide_eq_true_eq] at hpos
        have obl : ∀ g, (Value.slice x.2.2.2.2.1.a x.2.2.2.2.1.n x.2.2.2.2.1.c).ownBlock = some g → w.heap.size ≤ g ∧ g < w10.heap.size := fun g hg => o10.blk hg
        have nb : ∀ {a b : World}, Below a.heap.size a b → NewOnly w10.heap.size a b := fun hb => ⟨hb.size, fun g _ hg => hb.block g hg⟩
        refine ⟨SqE w10.heap.size (fun g => g = br ∨ (Value.slice x.2.2.2.2.1.a x.2.2.2.2.1.n x.2.2.2.2.1.c).ownBlock = some g) 61, sqeOk _ _ _ _, fun a b => Below a.heap.size a b, ⟨fun a => Below.refl _ _, fun a b h => SqE.below h⟩,
          fun w' => RdS B br (m + 420 + 4 * (5 - c)) w' ∧ OwnS kI 3 w.heap.size w' x.2.2.2.2.1 rs, ⟨r10.below (Below.refl _ _).drew, o10.below (Below.refl _ _).drew⟩, fun a b h hs => ⟨h.1.below hs, h.2.below hs⟩,
          fun w' => RdS B br (m + 420 + 4 * (5 - c) + 3) w' ∧ OwnS kI 3 w.heap.size w' x.2.2.2.2.1 rs, fun a b h hs => ⟨h.1.below hs, h.2.below hs⟩,
          eqG x.2.2.2.2.1, fun _ _ _ h _ => h, fun s w' => OwnS kI 3 w10.heap.size w' s [0, 1, 2, 3, 7, 9], ?_, fun _ _ => True, fun _ _ _ _ _ => trivial, fun s w' => ∃ y, OwnS kI 3 w10.heap.size w' s [y], ?_, fun s w' => ∃ y, RdS B br (m + 420 + 4 * (5 - c) + 3) w' ∧ OwnS kI 3 w.heap.size w' s (rs ++ [y]), ?_, ?_⟩
        · rintro s a b hy hs
          exact hy.sq hs tIA (fun g hg e => by have := (hy.blk hg).1; rcases e with e | e; omega; have := (obl g e).2; omega)
        · rintro s a b ⟨y, hy⟩ hs
          exact ⟨y, hy.sq hs tIA (fun g hg e => by have := (hy.blk hg).1; rcases e with e | e; omega; have := (obl g e).2; omega)⟩
        · rintro s a b ⟨y, hy, ho⟩ hs
          exact ⟨y, hy.below hs, ho.below hs⟩
        refine ⟨fun w' hs => ?_, fun t36 => ⟨fun w' hs => ?_, fun t51 => ⟨fun w' hs hN f51 => ?_, fun t38 => ⟨fun w' hs _ => ?_, fun t39 => ⟨fun w' hs hN f36 f39 => ?_, fun t40 w11 hs f36 f51 f38 f39 f40 _ => ?_⟩⟩⟩⟩⟩
        · exact ldB (hs.old c10 hbs10 (by rintro (e | e); omega; exact nbx o10 e c10 rfl)) (j := 4) (l := .sl) (x := x.2.2.2.2.1) rfl ⟨x.2.2.2.2.1, rfl, ⟨Below.refl _ _, nb (Below.refl _ _)⟩, rfl⟩
        · exact nw fun w'' hb hs2 hc2 => ⟨⟨some ⟨w'.heap.size, 0, none⟩, 6, 6⟩, rfl, ⟨hb, nb hb⟩, OwnS.lit (k := kI) (B := w10.heap.size) (xs := [0, 1, 2, 3, 7, 9]) (n := 6) hs.size hc2 rfl rfl (by simp [maxLen])⟩
        · refine spec.l20Rd.one.c hN.1 (by omega) f51.read (by simp) (fun b o e => ?_) fun y w'' _ hg hr => ⟨y, rfl, ⟨⟨SqE.grown hg (fun g e => .inl (by simpa using e.symm)), hr.more (by omega), hN.2.keptBr hg hlt⟩, ⟨hg.size, fun g h1 h2 => hg.block g h2 (by simp; omega)⟩⟩, trivial⟩
          have := (f51.blk (b := b) (by rw [ob_bk]; simp [Sl.bk, e])).1
          omega
        · exact nw fun w'' hb hs2 hc2 => ⟨⟨some ⟨w'.heap.size, 0, none⟩, 1, 1⟩, rfl, ⟨hb, nb hb⟩, t38, OwnS.lit (k := kI) (B := w10.heap.size) (xs := [t38]) (n := 1) hs.size hc2 rfl rfl (by simp [maxLen])⟩
        · cases f36
          obtain ⟨y, hy⟩ := f39
          refine apS (tR := 59) elI hN.2 hy.read (by simp; omega) (by simp; omega) (by have := hs.size; omega) fun s w'' hx hg _ _ => ?_
          exact ⟨s, rfl, ⟨SqE.grown hg (fun g e => .inr e), ⟨hg.size, fun g h1 h2 => hg.block g h2 (fun e => by have := (obl g e.symm).2; omega)⟩⟩, y, hN.1.keptO hN.2 hg hlt, hx⟩
        · cases f36
          obtain ⟨y, hr, hy⟩ := f40
          have c11 := hs.old c10 hbs10 (by rintro (e | e); omega; exact nbx o10 e c10 rfl)
          have z11 := hs.old z10 hz10 (by rintro (e | e); omega; exact own_box o10 z10 tIA e)
          have G11 := SqE.gr G10 hs G10.size (fun g hg e => by rcases e with e | e; exact e; have := (obl g e).1; omega)
          refine stB c11 rfl (by simp [Tup.cells]) fun w12 g12 s12 c12 => ?_
          have c12 : w12.heap[w3.heap.size]? = some (bS (x.1, x.2.1, x.2.2.1, x.2.2.2.1, t40, ())) := c12
          have ei : IntKind.wrap .i64 ((c : Int) - 1) = ((c - 1 : Nat) : Int) := by rw [i64_of (by omega) (by omega)]; omega
          rw [ei]
          refine ⟨⟨c - 1, _, rs ++ [y], rfl, by simp; omega, c12, keepG z11 g12 (fun g hg => by simp only [Option.some.injEq] at hg; omega), hy.box c11 tIA g12, trivial, (hr.kept g12 (fun b hb => by simp only [Option.some.injEq] at hb; omega)).more (by omega), grown_new G11 g12 (by omega)⟩, ?_⟩
          simp only [Int.toNat_natCast]; omega
      · refine ldSta c10 (stSta z10 fun w21 g21 s21 c21 => ldSta c21 ?_)
        exact hk x w21 (grown_new G10 g21 (Nat.le_refl _)) ((r10.kept g21 (fun b hb => by simp only [Option.some.injEq] at hb; omega)).more (by omega))
end
section
variable {w : World} {code : Sl} {bs : List Int}
theorem spec.DrawRulesOf.c {K : Sl × ByteArray × Unit → World → Prop} (h : SlR kU8 w code bs) (hb : ∀ x ∈ bs, 0 ≤ x ∧ x ≤ 255) (hk : ∀ r s w', Below w.heap.size w w' → K (r, s, ()) w') : CallT (.n [(.lf .sl), (.lf .s)]) P0 10 [code.v] w K := by
  refine spec.DrawRulesOf.ok (spec.l20Open.c h hb fun w1 b1 r1 => ?_)
  refine spec.l20Rules.c r1 (by omega) fun r w2 ys g2 r2 o2 h1 => ?_
  refine spec.l20Start.c r2 (by omega) fun x w3 g3 r3 => ?_
  exact hk r x.2.1 w3 (b1.grown (grown_trans g2 g3) b1.size (fun b hb => by simp only [Option.some.injEq] at hb; omega))
end
end Go.Proofs.Ytdlnoabihfnmmaa.V

/- Verification conditions, printed by this session's own program (wip/vc.py) and checked by the kernel. -/
namespace Go.Proofs.Ytdlnoabihfnmmaa.V
open Go Go.RowKit
set_option linter.unusedVariables false
/- impl.looked -/
def impl.looked.pl : Pl := (.s (.r (D 1)) (.s (.r [.d, (.c (.o (.lf .b))), (.sp .d), .d, (.c (.o (.lf .b))), .d, (.sp .d), .d, .d, (.c (.o (.lf (.i .i64)))), .d, .d, .d]) .z))
def impl.looked.vc (a : Sl) (b : Sl) (w : World) (K : Bool → World → Prop) : Prop :=
CallT (.o (.lf .b)) P0 9 [a.v] w fun (t6 : Bool) w_ =>
(t6 = true → CallT (.o (.lf .b)) P0 9 [b.v] w_ fun (t9 : Bool) w__1 =>
(t9 = true → CallT (.o (.lf (.i .i64))) P0 36 [a.v, b.v] w__1 fun (t14 : Int) w__2 =>
K (decide ((t14 : Int) ≤ 400)) w__2) ∧
(t9 = false → K false w__1)) ∧
(t6 = false → K false w_)
theorem impl.looked.ok {a : Sl} {b : Sl} {w : World} {K : Bool → World → Prop} (h : impl.looked.vc a b w K) : CallT (.o (.lf .b)) P0 32 [a.v, b.v] w K :=
  call_of Try.func32 rfl rfl (pl := impl.looked.pl) (show VC P0 Try.f32 impl.looked.pl (.o (.lf .b)) [a.v, b.v] w K noP from Eq.mp (by kernel_rfl) h)
/- impl.everyPiece -/
def impl.everyPiece.pl : Pl := (.s (.r (D 3)) (.s (.r (D 2)) .z))
def impl.everyPiece.vc (a : Sl) (b : Sl) (w : World) (K : Value → World → Prop) : Prop :=
Nw #[a.v] 23 w fun a_a w_ =>
Nw #[b.v] 23 w_ fun a_b w__1 =>
K (.func (.func 78) #[] #[(.pointer (some a_a)), (.pointer (some a_b))]) w__1
theorem impl.everyPiece.ok {a : Sl} {b : Sl} {w : World} {K : Value → World → Prop} (h : impl.everyPiece.vc a b w K) : CallT (.o (.lf .any)) P0 59 [a.v, b.v] w K :=
  call_of Try.func59 rfl rfl (pl := impl.everyPiece.pl) (show VC P0 Try.f59 impl.everyPiece.pl (.o (.lf .any)) [a.v, b.v] w K noP from Eq.mp (by kernel_rfl) h)
/- impl.everyPiece$1$1 -/
def impl.everyPiece_1_1.pl : Pl := (.s (.r (D 1)) (.s (.s (.r (D 2)) (.c (.s (.r [(.l (.lf .yl)), (.l (.lf .sl)), (.t (.o (.lf .s))), .y, .d]) .z) .z)) (.s (.s (.r [(.l (.lf .sl)), (.l (.lf .sl)), .d, (.c (.o (.lf .sl))), .d, .d]) (.b (.l [(21, (.i .i64))] (.s (.r (D 1)) (.s (.c .z .z) (.s (.b (.s (.r [.d, (.l (.lf (.i .i64))), .d]) (.s (.r [(.l (.lf .sl)), .d, .d, .d, .d, .d]) (.s (.r [(.l (.lf (.fn 79 5))), .d, .d, (.c (.o (.lf .b))), .d]) (.c (.s (.r (D 1)) .z) .z))))) (.r (D 2)))))))) (.s (.r (D 1)) .z))))
def impl.everyPiece_1_1.vc (at_ : Int) (t1 : Addr) (t2 : Addr) (t3 : Addr) (t4 : Addr) (t5 : Addr) (w : World) (K : Bool → World → Prop) : Prop :=
(((at_ : Int) == 12) = true → Ld .yl t1 w fun (t12 : Nat) w_ =>
Ld .sl t2 w_ fun (t13 : Sl) w__1 =>
RunT (.o (.lf .s)) P0 (convert 22 9 t13.v) w__1 fun (t14 : ByteArray) w__2 =>
YldT P0 t12 [(.string t14)] w__2 fun (t15 : Bool) w__3 =>
K t15 w__3) ∧
(((at_ : Int) == 12) = false → Ld .sl t3 w fun (t16 : Sl) w__4 =>
Ld .sl t4 w__4 fun (t17 : Sl) w__5 =>
CallT (.o (.lf .sl)) P0 62 [t16.v, t17.v, (.int .i64 at_)] w__5 fun (t19 : Sl) w__6 =>
∃ (I : Int → World → Prop) (M : Int → World → Nat),
I 0 w__6 ∧
(∀ (t21 : Int) w__7, I t21 w__7 → ∀ _ : Nat → Value,
((decide ((t21 : Int) < ((t19.n : Nat) : Int))) = true → Ix t19.a t19.n t21 1 w__7 fun a_t23 w__8 =>
Ld (.i .i64) a_t23 w__8 fun (t24 : Int) w__9 =>
Ld .sl t2 w__9 fun (t25 : Sl) w__10 =>
Ix t25.a t25.n at_ 1 w__10 fun a_t29 w__11 =>
St a_t29 (.int .u8 (IntKind.wrap .u8 t24)) w__11 fun w__12 =>
Ld (.fn 79 5) t5 w__12 fun (t30 : AdT 5) w__13 =>
CallT (.o (.lf .b)) P0 79 [(.int .i64 (IntKind.wrap .i64 (at_ + 1))), (.pointer (some t30.1)), (.pointer (some t30.2.1)), (.pointer (some t30.2.2.1)), (.pointer (some t30.2.2.2.1)), (.pointer (some t30.2.2.2.2.1))] w__13 fun (t33 : Bool) w__14 =>
((!t33) = true → K false w__14) ∧
((!t33) = false → (I (IntKind.wrap .i64 (t21 + 1)) w__14 ∧ M (IntKind.wrap .i64 (t21 + 1)) w__14 < M t21 w__7))) ∧
((decide ((t21 : Int) < ((t19.n : Nat) : Int))) = false → K true w__7)))
theorem impl.everyPiece_1_1.ok {at_ : Int} {t1 : Addr} {t2 : Addr} {t3 : Addr} {t4 : Addr} {t5 : Addr} {w : World} {K : Bool → World → Prop} (h : impl.everyPiece_1_1.vc at_ t1 t2 t3 t4 t5 w K) : CallT (.o (.lf .b)) P0 79 [(.int .i64 at_), (.pointer (some t1)), (.pointer (some t2)), (.pointer (some t3)), (.pointer (some t4)), (.pointer (some t5))] w K :=
  callI_of Try.func79 rfl rfl (pl := impl.everyPiece_1_1.pl) (show VCI P0 Try.f79 impl.everyPiece_1_1.pl (.o (.lf .b)) [(.int .i64 at_), (.pointer (some t1)), (.pointer (some t2)), (.pointer (some t3)), (.pointer (some t4)), (.pointer (some t5))] w K noP from Eq.mp (by kernel_rfl) h)
/- impl.everyPiece$1 -/
def impl.everyPiece_1.pl : Pl := (.s (.r (D 1)) (.s (.r [(.t (.o (.lf .sl))), .d, .d]) (.s (.r (D 1)) (.s (.r (D 2)) (.r [(.l (.lf (.fn 79 5))), (.c (.o (.lf .b)))])))))
def impl.everyPiece_1.vc (yield : Nat) (t1 : Addr) (t2 : Addr) (w : World) (K : Unit → World → Prop) : Prop :=
Nw #[(.func (.yield yield) #[] #[])] 109 w fun a_yield w_ =>
RunT (.o (.lf .sl)) P0 (Instr.makeSlice 22 (.int .i64 12) (.int .i64 12)) w_ fun (t6 : Sl) w__1 =>
Nw (zc P0 22) 22 w__1 fun a_came w__2 =>
St a_came t6.v w__2 fun w__3 =>
Nw (zc P0 72) 72 w__3 fun a_from w__4 =>
St a_from (.func (.func 79) #[] #[(.pointer (some a_yield)), (.pointer (some a_came)), (.pointer (some t1)), (.pointer (some t2)), (.pointer (some a_from))]) w__4 fun w__5 =>
Ld (.fn 79 5) a_from w__5 fun (t8 : AdT 5) w__6 =>
CallT (.o (.lf .b)) P0 79 [(.int .i64 0), (.pointer (some t8.1)), (.pointer (some t8.2.1)), (.pointer (some t8.2.2.1)), (.pointer (some t8.2.2.2.1)), (.pointer (some t8.2.2.2.2.1))] w__6 fun (t9 : Bool) w__7 =>
K () w__7
theorem impl.everyPiece_1.ok {yield : Nat} {t1 : Addr} {t2 : Addr} {w : World} {K : Unit → World → Prop} (h : impl.everyPiece_1.vc yield t1 t2 w K) : CallT .z P0 78 [(.func (.yield yield) #[] #[]), (.pointer (some t1)), (.pointer (some t2))] w K :=
  call_of Try.func78 rfl rfl (pl := impl.everyPiece_1.pl) (show VC P0 Try.f78 impl.everyPiece_1.pl .z [(.func (.yield yield) #[] #[]), (.pointer (some t1)), (.pointer (some t2))] w K noP from Eq.mp (by kernel_rfl) h)
/- impl.SameFind -/
def impl.SameFind.pl : Pl := (.s (.r (D 2)) (.s (.s (.r [.d, .d, (.c (.o (.lf .b))), .d]) (.c (.s (.r (D 2)) .z) .z)) (.s (.r [.d, .d, (.c (.n [(.lf .s), (.lf .b)])), .d, .d, .d, .d]) .z)))
def impl.SameFind.vc (a : Sl) (b : Sl) (w : World) (K : (ByteArray) × (Bool) × Unit → World → Prop) : Prop :=
CallT (.o (.lf .b)) P0 32 [a.v, b.v] w fun (t8 : Bool) w_ =>
((!t8) = true → K (⟨#[]⟩, (false, ())) w_) ∧
((!t8) = false → CallT (.n [(.lf .s), (.lf .b)]) P0 33 [a.v, b.v] w_ fun (t12 : (ByteArray) × (Bool) × Unit) w__1 =>
K (t12.1, (t12.2.1, ())) w__1)
theorem impl.SameFind.ok {a : Sl} {b : Sl} {w : World} {K : (ByteArray) × (Bool) × Unit → World → Prop} (h : impl.SameFind.vc a b w K) : CallT (.n [(.lf .s), (.lf .b)]) P0 16 [a.v, b.v] w K :=
  call_of Try.func16 rfl rfl (pl := impl.SameFind.pl) (show VC P0 Try.f16 impl.SameFind.pl (.n [(.lf .s), (.lf .b)]) [a.v, b.v] w K noP from Eq.mp (by kernel_rfl) h)
/- impl.SameRules -/
def impl.SameRules.pl : Pl := (.s (.r (D 1)) (.s (.s (.r [.d, .d, (.c (.o (.lf .b))), .d]) (.c (.s (.r (D 1)) .z) .z)) (.s (.r [.d, .d, (.c (.n [(.lf .s), (.lf .b)])), .d, .d, .d, .d, .d]) (.s (.r (D 3)) .z))))
def impl.SameRules.vc (a : Sl) (b : Sl) (w : World) (K : Bool → World → Prop) : Prop :=
CallT (.o (.lf .b)) P0 32 [a.v, b.v] w fun (t9 : Bool) w_ =>
((!t9) = true → K false w_) ∧
((!t9) = false → CallT (.n [(.lf .s), (.lf .b)]) P0 33 [a.v, b.v] w_ fun (t14 : (ByteArray) × (Bool) × Unit) w__1 =>
K (!t14.2.1) w__1)
theorem impl.SameRules.ok {a : Sl} {b : Sl} {w : World} {K : Bool → World → Prop} (h : impl.SameRules.vc a b w K) : CallT (.o (.lf .b)) P0 13 [a.v, b.v] w K :=
  call_of Try.func13 rfl rfl (pl := impl.SameRules.pl) (show VC P0 Try.f13 impl.SameRules.pl (.o (.lf .b)) [a.v, b.v] w K noP from Eq.mp (by kernel_rfl) h)
end Go.Proofs.Ytdlnoabihfnmmaa.V
