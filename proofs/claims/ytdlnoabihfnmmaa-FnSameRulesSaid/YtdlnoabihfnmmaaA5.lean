/- The row of FnSameRules: it returns true and leaves its input as it was, whatever the input. PRINTED by row.py out of the law of the same name. -/
import Derived.Test.YtdlnoabihfnmmaaRows
import Derived.Test.YtdlnoabihfnmmaaA4
/- Contracts: a range and a number that meet, or are one below the other, in the reference. -/
namespace Go.Proofs.Ytdlnoabihfnmmaa.V
open Go Go.RowKit
set_option linter.unusedVariables false
set_option linter.unusedSimpArgs false
theorem meet_bits2 {k lo n : Nat} (hk : k ≤ 32) (hlo : lo < 2 ^ 32) (hn : n < 2 ^ 32) : iAnd .i64 (iAnd .i64 (iXor .i64 4294967295 ((2 ^ k - 1 : Nat) : Int)) (iXor .i64 4294967295 0)) (iXor .i64 ((cutN k lo : Nat) : Int) (n : Int)) = ((cutN k (cutN k lo ^^^ n) : Nat) : Int) := by
  have c := cutN_le k lo
  have hp := Nat.pow_le_pow_right (n := 2) (by omega) hk
  have hx := Nat.xor_lt_two_pow (n := 32) (x := cutN k lo) (y := n) (by omega) hn
  have h4 : 4294967295 ^^^ (2 ^ k - 1) < 2 ^ 32 := Nat.xor_lt_two_pow (by omega) (by omega)
  have e1 : iXor .i64 4294967295 0 = ((4294967295 : Nat) : Int) := by decide
  have e2 : (4294967295 ^^^ (2 ^ k - 1)) &&& 4294967295 = 4294967295 ^^^ (2 ^ k - 1) := by
    rw [show (4294967295 : Nat) = 2 ^ 32 - 1 by decide, Nat.and_two_pow_sub_one_eq_mod]
    exact Nat.mod_eq_of_lt h4
  rw [iXor_top hk, e1, iAnd_nat (by omega) (by omega), e2, iXor_nat (by omega) (by omega), iAnd_nat (by omega) (by omega), Nat.and_comm, and_top hk hx]
section
variable {w : World}
theorem spec.l2Meet.c {lo hi n : Nat} {K : T4 × Bool × Unit → World → Prop} (hle : lo ≤ hi) (hhi : hi < 2 ^ 31) (hn : n < 2 ^ 31)
    (hK : ∀ w', Below w.heap.size w w' → K (if lo ≤ n ∧ n ≤ hi then (ivl n n, true, ()) else (nR, false, ())) w') :
    CallT (.n [(.ag (R 4 (.i .i64))), (.lf .b)]) P0 69 [.agg (Tup.cells (R 4 (.i .i64)) (ivl lo hi)).toArray, .agg (Tup.cells (R 4 (.i .i64)) (ivl n n)).toArray] w K := by
  refine spec.l2Meet.ok ?_
  unfold spec.l2Meet.vc
  have hm := M.start w
  have h1 := kk_same (a := lo) (b := hi) (by omega) (by omega)
  have hk : kk lo hi ≤ 32 := kk_le (by omega) (by omega)
  have hb := meet_bits2 (k := kk lo hi) (lo := lo) (n := n) hk (by omega) (by omega)
  have ev2 : (ivl n n).2.2.1 = (n : Int) := by rw [ivl_one]
  have ev3 : (ivl n n).2.2.2.1 = (0 : Int) := by rw [ivl_one]
  refine nwM' hm fun w1 ba m1 => nwM' m1 fun w2 bb m2 => nwZ m2 fun w3 bt m3 => ?_
  clear hm m1 m2
  refine qcl' (r := .o (.lf (.i .i64))) (4294967295 : Int) (fun w K' h => spec.l2Top.c h) ?_
  refine qldM m3 (by with_unfolding_all (repeat (first | exact List.mem_cons_self | refine List.mem_cons_of_mem _ ?_))) (by with_unfolding_all rfl) ?_
  intro w4 hb4
  have m4 := m3.below hb4
  clear m3
  refine qcl' (r := .o (.lf (.i .i64))) (4294967295 : Int) (fun w K' h => spec.l2Top.c h) ?_
  refine qldM m4 (by with_unfolding_all (repeat (first | exact List.mem_cons_self | refine List.mem_cons_of_mem _ ?_))) (by with_unfolding_all rfl) ?_
  refine qldM m4 (by with_unfolding_all (repeat (first | exact List.mem_cons_self | refine List.mem_cons_of_mem _ ?_))) (by with_unfolding_all rfl) ?_
  refine qldM m4 (by with_unfolding_all (repeat (first | exact List.mem_cons_self | refine List.mem_cons_of_mem _ ?_))) (by with_unfolding_all rfl) ?_
  intro w5 hb5
  have m5 := m4.below hb5
  clear m4
  refine And.intro (fun hc => ?_) (fun hc => ?_)
  · have hc' : (iAnd .i64 (iAnd .i64 (iXor .i64 4294967295 ((2 ^ kk lo hi - 1 : Nat) : Int)) (iXor .i64 4294967295 (ivl n n).2.2.2.1)) (iXor .i64 ((cutN (kk lo hi) lo : Nat) : Int) (ivl n n).2.2.1) != 0) = true := hc
    rw [ev2, ev3, hb] at hc'
    repeat' (first | (with_reducible refine ldM (by assumption) (by with_unfolding_all (repeat (first | exact List.mem_cons_self | refine List.mem_cons_of_mem _ ?_))) (by with_unfolding_all rfl) ?_) | (with_reducible refine ldAM (by assumption) (by with_unfolding_all (repeat (first | exact List.mem_cons_self | refine List.mem_cons_of_mem _ ?_))) ?_) | (with_reducible refine nwZ (by assumption) fun _ _ _ => ?_) | (with_reducible refine nwM' (by assumption) fun _ _ _ => ?_) | (with_reducible refine stM0 (by assumption) (by with_unfolding_all (repeat (first | exact Up.head _ _ _ _ | apply Up.tail))) fun _ _ => ?_) | (with_reducible refine stM1 (by assumption) (by with_unfolding_all (repeat (first | exact Up.head _ _ _ _ | apply Up.tail))) fun _ _ => ?_) | (with_reducible refine stM2 (by assumption) (by with_unfolding_all (repeat (first | exact Up.head _ _ _ _ | apply Up.tail))) fun _ _ => ?_) | (with_reducible refine stM3 (by assumption) (by with_unfolding_all (repeat (first | exact Up.head _ _ _ _ | apply Up.tail))) fun _ _ => ?_) | (with_reducible refine stAM' (by assumption) (by with_unfolding_all (repeat (first | exact Up.head _ _ _ _ | apply Up.tail))) fun _ _ => ?_) | (with_reducible refine stAL (by assumption) (by with_unfolding_all (repeat (first | exact Up.head _ _ _ _ | apply Up.tail))) fun _ _ => ?_) | (with_reducible refine And.intro (fun _ => ?_) (fun _ => ?_)) | (refine stAM' (by assumption) (by with_unfolding_all (repeat (first | exact Up.head _ _ _ _ | apply Up.tail))) fun _ _ => ?_))
    rename_i m10
    refine kof (hK _ m10.low) (if_neg fun h => ?_)
    have := (part_div h1 h.1 h.2 (Nat.le_refl _)).1
    have h0 := cut_xor.2 this
    rw [h0] at hc'
    simp at hc'
  · have hc' : (iAnd .i64 (iAnd .i64 (iXor .i64 4294967295 ((2 ^ kk lo hi - 1 : Nat) : Int)) (iXor .i64 4294967295 (ivl n n).2.2.2.1)) (iXor .i64 ((cutN (kk lo hi) lo : Nat) : Int) (ivl n n).2.2.1) != 0) = false := hc
    rw [ev2, ev3, hb] at hc'
    have h0 : cutN (kk lo hi) (cutN (kk lo hi) lo ^^^ n) = 0 := by simpa using hc'
    have hd := cut_xor.1 h0
    generalize hkk : kk lo hi = k at *
    have cl := cutN_le k lo
    have hp := Nat.pow_le_pow_right (n := 2) (by omega) hk
    have hbx : (((lo : Int), (hi : Int), iOr .i64 ((cutN k lo : Nat) : Int) (ivl n n).2.2.1, iAnd .i64 ((2 ^ k - 1 : Nat) : Int) (ivl n n).2.2.2.1, ()) : T4) = rgk 0 n lo hi := by
      have e1 := iOr_nat (a := cutN k lo) (b := n) (by omega) (by omega)
      have e2 : iAnd .i64 ((2 ^ k - 1 : Nat) : Int) 0 = 0 := by
        have := iAnd_nat (a := 2 ^ k - 1) (b := 0) (by omega) (by omega)
        simpa using this
      have e3 := cut_or (k := k) (j := 0) (Nat.zero_le _) hd.symm
      have e4 : cutN 0 n = n := by simp [cutN]
      rw [e4] at e3
      rw [ev2, ev3, e1, e3, e2]
      unfold rgk
      rw [e4]
      rfl
    have ea : ivl lo hi = rgk k lo lo hi := by unfold ivl; rw [hkk]
    rw [ea] at m5
    refine ldM m5 (by with_unfolding_all (repeat (first | exact List.mem_cons_self | refine List.mem_cons_of_mem _ ?_))) (by with_unfolding_all rfl) (ldM m5 (by with_unfolding_all (repeat (first | exact List.mem_cons_self | refine List.mem_cons_of_mem _ ?_))) (by with_unfolding_all rfl) (ldM m5 (by with_unfolding_all (repeat (first | exact List.mem_cons_self | refine List.mem_cons_of_mem _ ?_))) (by with_unfolding_all rfl) (ldM m5 (by with_unfolding_all (repeat (first | exact List.mem_cons_self | refine List.mem_cons_of_mem _ ?_))) (by with_unfolding_all rfl) (ldM m5 (by with_unfolding_all (repeat (first | exact List.mem_cons_self | refine List.mem_cons_of_mem _ ?_))) (by with_unfolding_all rfl) (ldM m5 (by with_unfolding_all (repeat (first | exact List.mem_cons_self | refine List.mem_cons_of_mem _ ?_))) (by with_unfolding_all rfl) ?_)))))
    refine nwZ m5 fun w6 bo m6 => ?_
    clear m5
    refine stAL m6 (by with_unfolding_all (repeat (first | exact Up.head _ _ _ _ | apply Up.tail))) fun w7 m7 => ?_
    replace m7 : M w w7 [(bo, (((lo : Int), (hi : Int), iOr .i64 ((cutN k lo : Nat) : Int) (ivl n n).2.2.1, iAnd .i64 ((2 ^ k - 1 : Nat) : Int) (ivl n n).2.2.2.1, ()) : T4)), (bt, ((0, 0, 0, 0, ()) : T4)), (bb, ivl n n), (ba, rgk k lo lo hi)] := m7
    rw [hbx] at m7
    clear m6 hc hc' hbx
    refine ⟨fun w' => M w w' [(bo, rgk 0 n ((if (n : Int) > (lo : Int) then (n : Int) else (lo : Int))) hi), (bt, ((0, 0, 0, 0, ()) : T4)), (bb, ivl n n), (ba, rgk k lo lo hi)], ?_, fun w8 m8 _ => ?_⟩
    · refine ldM m7 (by with_unfolding_all (repeat (first | exact List.mem_cons_self | refine List.mem_cons_of_mem _ ?_))) (by with_unfolding_all rfl) (ldM m7 (by with_unfolding_all (repeat (first | exact List.mem_cons_self | refine List.mem_cons_of_mem _ ?_))) (by with_unfolding_all rfl) (And.intro (fun hq => ?_) (fun hq => ?_)))
      · have hq' : (n : Int) > (lo : Int) := of_decide_eq_true hq
        rw [if_pos hq']
        refine ldM m7 (by with_unfolding_all (repeat (first | exact List.mem_cons_self | refine List.mem_cons_of_mem _ ?_))) (by with_unfolding_all rfl) ?_
        exact stM0 m7 (by with_unfolding_all (repeat (first | exact Up.head _ _ _ _ | apply Up.tail))) fun w3 m3 => m3
      · have hq' : ¬ (n : Int) > (lo : Int) := of_decide_eq_false hq
        rw [if_neg hq']
        exact m7
    · clear m7
      refine ⟨fun w' => M w w' [(bo, rgk 0 n ((if (n : Int) > (lo : Int) then (n : Int) else (lo : Int))) (if (n : Int) < (hi : Int) then (n : Int) else (hi : Int))), (bt, ((0, 0, 0, 0, ()) : T4)), (bb, ivl n n), (ba, rgk k lo lo hi)], ?_, fun w9 m9 _ => ?_⟩
      · refine ldM m8 (by with_unfolding_all (repeat (first | exact List.mem_cons_self | refine List.mem_cons_of_mem _ ?_))) (by with_unfolding_all rfl) (ldM m8 (by with_unfolding_all (repeat (first | exact List.mem_cons_self | refine List.mem_cons_of_mem _ ?_))) (by with_unfolding_all rfl) (And.intro (fun hq => ?_) (fun hq => ?_)))
        · have hq' : (n : Int) < (hi : Int) := of_decide_eq_true hq
          rw [if_pos hq']
          refine ldM m8 (by with_unfolding_all (repeat (first | exact List.mem_cons_self | refine List.mem_cons_of_mem _ ?_))) (by with_unfolding_all rfl) ?_
          exact stM1 m8 (by with_unfolding_all (repeat (first | exact Up.head _ _ _ _ | apply Up.tail))) fun w3 m3 => m3
        · have hq' : ¬ (n : Int) < (hi : Int) := of_decide_eq_false hq
          rw [if_neg hq']
          exact m8
      · clear m8
        refine ldM m9 (by with_unfolding_all (repeat (first | exact List.mem_cons_self | refine List.mem_cons_of_mem _ ?_))) (by with_unfolding_all rfl) (ldM m9 (by with_unfolding_all (repeat (first | exact List.mem_cons_self | refine List.mem_cons_of_mem _ ?_))) (by with_unfolding_all rfl) (And.intro (fun hq => ?_) (fun hq => ?_)))
        · have hq' : (if (n : Int) > (lo : Int) then (n : Int) else (lo : Int)) > (if (n : Int) < (hi : Int) then (n : Int) else (hi : Int)) := of_decide_eq_true hq
          repeat' (first | (with_reducible refine ldM (by assumption) (by with_unfolding_all (repeat (first | exact List.mem_cons_self | refine List.mem_cons_of_mem _ ?_))) (by with_unfolding_all rfl) ?_) | (with_reducible refine ldAM (by assumption) (by with_unfolding_all (repeat (first | exact List.mem_cons_self | refine List.mem_cons_of_mem _ ?_))) ?_) | (with_reducible refine nwZ (by assumption) fun _ _ _ => ?_) | (with_reducible refine nwM' (by assumption) fun _ _ _ => ?_) | (with_reducible refine stM0 (by assumption) (by with_unfolding_all (repeat (first | exact Up.head _ _ _ _ | apply Up.tail))) fun _ _ => ?_) | (with_reducible refine stM1 (by assumption) (by with_unfolding_all (repeat (first | exact Up.head _ _ _ _ | apply Up.tail))) fun _ _ => ?_) | (with_reducible refine stM2 (by assumption) (by with_unfolding_all (repeat (first | exact Up.head _ _ _ _ | apply Up.tail))) fun _ _ => ?_) | (with_reducible refine stM3 (by assumption) (by with_unfolding_all (repeat (first | exact Up.head _ _ _ _ | apply Up.tail))) fun _ _ => ?_) | (with_reducible refine stAM' (by assumption) (by with_unfolding_all (repeat (first | exact Up.head _ _ _ _ | apply Up.tail))) fun _ _ => ?_) | (with_reducible refine stAL (by assumption) (by with_unfolding_all (repeat (first | exact Up.head _ _ _ _ | apply Up.tail))) fun _ _ => ?_) | (with_reducible refine And.intro (fun _ => ?_) (fun _ => ?_)) | (refine stAM' (by assumption) (by with_unfolding_all (repeat (first | exact Up.head _ _ _ _ | apply Up.tail))) fun _ _ => ?_))
          rename_i m10
          refine kof (hK _ m10.low) (if_neg fun h => ?_)
          split at hq' <;> split at hq' <;> omega
        · have hq' : ¬ (if (n : Int) > (lo : Int) then (n : Int) else (lo : Int)) > (if (n : Int) < (hi : Int) then (n : Int) else (hi : Int)) := of_decide_eq_false hq
          have hin : lo ≤ n ∧ n ≤ hi := by split at hq' <;> split at hq' <;> omega
          rw [show (if (n : Int) > (lo : Int) then (n : Int) else (lo : Int)) = (n : Int) by split <;> omega, show (if (n : Int) < (hi : Int) then (n : Int) else (hi : Int)) = (n : Int) by split <;> omega] at m9
          refine ldAM m9 (by with_unfolding_all (repeat (first | exact List.mem_cons_self | refine List.mem_cons_of_mem _ ?_))) ?_
          refine spec.l2Some.c (k := 0) (x := n) (lo := n) (hi := (n : Int)) (by omega) (by omega) (by omega) rfl fun w10 hb10 => ?_
          have m10 := m9.below hb10
          refine And.intro (fun hd => ?_) (fun _ => ?_)
          · simp at hd
          · refine ldAM m10 (by with_unfolding_all (repeat (first | exact List.mem_cons_self | refine List.mem_cons_of_mem _ ?_))) ?_
            refine spec.l2Tidy.c (k := 0) (x := n) (lo := n) (hi := n) (by omega) (Nat.le_refl _) (by omega) rfl rfl fun w11 hb11 => ?_
            have m11 := m10.below hb11
            clear m9 m10
            repeat' (first | (with_reducible refine ldM (by assumption) (by with_unfolding_all (repeat (first | exact List.mem_cons_self | refine List.mem_cons_of_mem _ ?_))) (by with_unfolding_all rfl) ?_) | (with_reducible refine ldAM (by assumption) (by with_unfolding_all (repeat (first | exact List.mem_cons_self | refine List.mem_cons_of_mem _ ?_))) ?_) | (with_reducible refine nwZ (by assumption) fun _ _ _ => ?_) | (with_reducible refine nwM' (by assumption) fun _ _ _ => ?_) | (with_reducible refine stM0 (by assumption) (by with_unfolding_all (repeat (first | exact Up.head _ _ _ _ | apply Up.tail))) fun _ _ => ?_) | (with_reducible refine stM1 (by assumption) (by with_unfolding_all (repeat (first | exact Up.head _ _ _ _ | apply Up.tail))) fun _ _ => ?_) | (with_reducible refine stM2 (by assumption) (by with_unfolding_all (repeat (first | exact Up.head _ _ _ _ | apply Up.tail))) fun _ _ => ?_) | (with_reducible refine stM3 (by assumption) (by with_unfolding_all (repeat (first | exact Up.head _ _ _ _ | apply Up.tail))) fun _ _ => ?_) | (with_reducible refine stAM' (by assumption) (by with_unfolding_all (repeat (first | exact Up.head _ _ _ _ | apply Up.tail))) fun _ _ => ?_) | (with_reducible refine stAL (by assumption) (by with_unfolding_all (repeat (first | exact Up.head _ _ _ _ | apply Up.tail))) fun _ _ => ?_) | (with_reducible refine And.intro (fun _ => ?_) (fun _ => ?_)) | (refine stAM' (by assumption) (by with_unfolding_all (repeat (first | exact Up.head _ _ _ _ | apply Up.tail))) fun _ _ => ?_))
            rename_i m12
            exact kof (hK _ m12.low) (if_pos hin)
set_option maxHeartbeats 1000000 in
theorem spec.l2Below.c {la ha lb hb : Nat} {by_ : Nat} {K : T4 × T4 × Bool × Unit → World → Prop} (h31 : la ≤ ha ∧ ha < 2 ^ 31 ∧ lb ≤ hb ∧ hb < 2 ^ 31) (hy : by_ ≤ 1)
    (hK : ∀ w', Below w.heap.size w w' → K (bwT la (if (hb : Int) - by_ < ha then (hb : Int) - by_ else ha) (if (la : Int) + by_ > lb then (la : Int) + by_ else lb) hb) w') :
    CallT (.n [(.ag (R 4 (.i .i64))), (.ag (R 4 (.i .i64))), (.lf .b)]) P0 71 [.agg (Tup.cells (R 4 (.i .i64)) (ivl la ha)).toArray, .agg (Tup.cells (R 4 (.i .i64)) (ivl lb hb)).toArray, .int .i64 by_] w K := by
  refine spec.l2Below.ok ?_
  unfold spec.l2Below.vc
  have hm := M.start w
  have hk1 := kk_same (a := la) (b := ha) (by omega) (by omega)
  have hkl : kk la ha ≤ 32 := kk_le (by omega) (by omega)
  have hk2 := kk_same (a := lb) (b := hb) (by omega) (by omega)
  have hkb : kk lb hb ≤ 32 := kk_le (by omega) (by omega)
  generalize hah : (if (hb : Int) - by_ < ha then (hb : Int) - by_ else (ha : Int)) = ah at *
  generalize hbl : (if (la : Int) + by_ > lb then (la : Int) + by_ else (lb : Int)) = bl at *
  have q1 : IntKind.wrap .i64 ((hb : Int) - by_) = (hb : Int) - by_ := i64_of (by omega) (by omega)
  have q2 : IntKind.wrap .i64 ((la : Int) + by_) = (la : Int) + by_ := i64_of (by omega) (by omega)
  refine nwM' hm fun w1 ba m1 => nwM' m1 fun w2 bb m2 => nwZ m2 fun w3 b6 m3 => nwZ m3 fun w4 b7 m4 => ?_
  clear hm m1 m2 m3
  refine ⟨fun w' => M w w' [(b7, ((0, 0, 0, 0, ()) : T4)), (b6, ((0, 0, 0, 0, ()) : T4)), (bb, ivl lb hb), (ba, rgk (kk la ha) la la ah)], ?_, fun w8 m8 _ => ?_⟩
  · refine ldM m4 (by with_unfolding_all (repeat (first | exact List.mem_cons_self | refine List.mem_cons_of_mem _ ?_))) (by with_unfolding_all rfl) (ldM m4 (by with_unfolding_all (repeat (first | exact List.mem_cons_self | refine List.mem_cons_of_mem _ ?_))) (by with_unfolding_all rfl) (And.intro (fun hq => ?_) (fun hq => ?_)))
    · have hq' : (ha : Int) > IntKind.wrap .i64 ((hb : Int) - by_) := of_decide_eq_true hq
      rw [q1] at hq'
      refine ldM m4 (by with_unfolding_all (repeat (first | exact List.mem_cons_self | refine List.mem_cons_of_mem _ ?_))) (by with_unfolding_all rfl) ?_
      refine stM1 m4 (by with_unfolding_all (repeat (first | exact Up.head _ _ _ _ | apply Up.tail))) fun w5 m5 => ?_
      have e : IntKind.wrap .i64 ((hb : Int) - by_) = ah := by rw [q1, ← hah, if_pos (by omega)]
      rw [← e]
      exact m5
    · have hq' : ¬ (ha : Int) > IntKind.wrap .i64 ((hb : Int) - by_) := of_decide_eq_false hq
      rw [q1] at hq'
      have e : (ha : Int) = ah := by rw [← hah]; split <;> omega
      rw [← e]
      exact m4
  · clear m4
    refine ⟨fun w' => M w w' [(b7, ((0, 0, 0, 0, ()) : T4)), (b6, ((0, 0, 0, 0, ()) : T4)), (bb, rgk (kk lb hb) lb bl hb), (ba, rgk (kk la ha) la la ah)], ?_, fun w13 m13 _ => ?_⟩
    · refine ldM m8 (by with_unfolding_all (repeat (first | exact List.mem_cons_self | refine List.mem_cons_of_mem _ ?_))) (by with_unfolding_all rfl) (ldM m8 (by with_unfolding_all (repeat (first | exact List.mem_cons_self | refine List.mem_cons_of_mem _ ?_))) (by with_unfolding_all rfl) (And.intro (fun hq => ?_) (fun hq => ?_)))
      · have hq' : (lb : Int) < IntKind.wrap .i64 ((la : Int) + by_) := of_decide_eq_true hq
        rw [q2] at hq'
        refine ldM m8 (by with_unfolding_all (repeat (first | exact List.mem_cons_self | refine List.mem_cons_of_mem _ ?_))) (by with_unfolding_all rfl) ?_
        refine stM0 m8 (by with_unfolding_all (repeat (first | exact Up.head _ _ _ _ | apply Up.tail))) fun w5 m5 => ?_
        have e : IntKind.wrap .i64 ((la : Int) + by_) = bl := by rw [q2, ← hbl, if_pos (by omega)]
        rw [← e]
        exact m5
      · have hq' : ¬ (lb : Int) < IntKind.wrap .i64 ((la : Int) + by_) := of_decide_eq_false hq
        rw [q2] at hq'
        have e : (lb : Int) = bl := by rw [← hbl]; split <;> omega
        rw [← e]
        exact m8
    · clear m8
      have hA : (la : Int) ≤ ah → (la : Int).toNat / 2 ^ kk la ha = la / 2 ^ kk la ha ∧ ah.toNat / 2 ^ kk la ha = la / 2 ^ kk la ha := fun h => kk_in h31.1 h31.2.1 h (by omega) (by split at hah <;> omega)
      have hB : bl ≤ (hb : Int) → bl.toNat / 2 ^ kk lb hb = lb / 2 ^ kk lb hb ∧ (hb : Int).toNat / 2 ^ kk lb hb = lb / 2 ^ kk lb hb := fun h => kk_in h31.2.2.1 h31.2.2.2 h (by split at hbl <;> omega) (by omega)
      have hbl0 : 0 ≤ bl := by split at hbl <;> omega
      have hbl1 : bl ≤ 2 ^ 31 := by split at hbl <;> omega
      have hah1 : ah ≤ ha := by split at hah <;> omega
      refine ⟨fun t w' => M w w' [(b7, ((0, 0, 0, 0, ()) : T4)), (b6, ((0, 0, 0, 0, ()) : T4)), (bb, rgk (kk lb hb) lb bl hb), (ba, rgk (kk la ha) la la ah)] ∧ t = !decide ((la : Int) ≤ ah ∧ bl ≤ hb), ?_, ?_⟩
      · refine ldM m13 (by with_unfolding_all (repeat (first | exact List.mem_cons_self | refine List.mem_cons_of_mem _ ?_))) (by with_unfolding_all rfl) (ldM m13 (by with_unfolding_all (repeat (first | exact List.mem_cons_self | refine List.mem_cons_of_mem _ ?_))) (by with_unfolding_all rfl) (And.intro (fun hq => ?_) (fun hq => ?_)))
        · have hq' : (la : Int) > ah := of_decide_eq_true hq
          exact ⟨m13, by simp; omega⟩
        · have hq' : ¬ (la : Int) > ah := of_decide_eq_false hq
          refine ldM m13 (by with_unfolding_all (repeat (first | exact List.mem_cons_self | refine List.mem_cons_of_mem _ ?_))) (by with_unfolding_all rfl) (ldM m13 (by with_unfolding_all (repeat (first | exact List.mem_cons_self | refine List.mem_cons_of_mem _ ?_))) (by with_unfolding_all rfl) (And.intro (fun hr => ?_) (fun hr => ?_)))
          · have hr' : bl > (hb : Int) := of_decide_eq_true hr
            exact ⟨m13, by simp; omega⟩
          · have hr' : ¬ bl > (hb : Int) := of_decide_eq_false hr
            obtain ⟨nb, hnb⟩ : ∃ nb : Nat, bl = nb := ⟨bl.toNat, by omega⟩
            refine ldAM m13 (by with_unfolding_all (repeat (first | exact List.mem_cons_self | refine List.mem_cons_of_mem _ ?_))) ?_
            refine spec.l2Some.c (k := kk la ha) (x := la) (lo := la) hkl (by omega) (by omega) rfl fun w14 hb14 => ?_
            have m14 := m13.below hb14
            refine And.intro (fun hs => ?_) (fun _ => ?_)
            · simp at hs; omega
            · subst hnb
              refine ldAM m14 (by with_unfolding_all (repeat (first | exact List.mem_cons_self | refine List.mem_cons_of_mem _ ?_))) ?_
              refine spec.l2Some.c (k := kk lb hb) (x := lb) (lo := nb) hkb (by omega) (by omega) (hB (by omega)).1 fun w15 hb15 => ?_
              have m15 := m14.below hb15
              exact ⟨m15, by simp; omega⟩
      · rintro t w14 ⟨m14, rfl⟩ _
        clear m13
        refine And.intro (fun hq => ?_) (fun hq => ?_)
        · have hq' : ¬ ((la : Int) ≤ ah ∧ bl ≤ hb) := by simp at hq; omega
          repeat' (first | (with_reducible refine ldM (by assumption) (by with_unfolding_all (repeat (first | exact List.mem_cons_self | refine List.mem_cons_of_mem _ ?_))) (by with_unfolding_all rfl) ?_) | (with_reducible refine ldAM (by assumption) (by with_unfolding_all (repeat (first | exact List.mem_cons_self | refine List.mem_cons_of_mem _ ?_))) ?_) | (with_reducible refine nwZ (by assumption) fun _ _ _ => ?_) | (with_reducible refine nwM' (by assumption) fun _ _ _ => ?_) | (with_reducible refine stM0 (by assumption) (by with_unfolding_all (repeat (first | exact Up.head _ _ _ _ | apply Up.tail))) fun _ _ => ?_) | (with_reducible refine stM1 (by assumption) (by with_unfolding_all (repeat (first | exact Up.head _ _ _ _ | apply Up.tail))) fun _ _ => ?_) | (with_reducible refine stM2 (by assumption) (by with_unfolding_all (repeat (first | exact Up.head _ _ _ _ | apply Up.tail))) fun _ _ => ?_) | (with_reducible refine stM3 (by assumption) (by with_unfolding_all (repeat (first | exact Up.head _ _ _ _ | apply Up.tail))) fun _ _ => ?_) | (with_reducible refine stAM' (by assumption) (by with_unfolding_all (repeat (first | exact Up.head _ _ _ _ | apply Up.tail))) fun _ _ => ?_) | (with_reducible refine stAL (by assumption) (by with_unfolding_all (repeat (first | exact Up.head _ _ _ _ | apply Up.tail))) fun _ _ => ?_) | (with_reducible refine And.intro (fun _ => ?_) (fun _ => ?_)) | (refine stAM' (by assumption) (by with_unfolding_all (repeat (first | exact Up.head _ _ _ _ | apply Up.tail))) fun _ _ => ?_))
          rename_i m16
          exact kof (hK _ m16.low) (bwT_neg hq')
        · have hq' : (la : Int) ≤ ah ∧ bl ≤ hb := by simpa using hq
          obtain ⟨na, hna⟩ : ∃ na : Nat, ah = na := ⟨ah.toNat, by omega⟩
          obtain ⟨nb, hnb⟩ : ∃ nb : Nat, bl = nb := ⟨bl.toNat, by omega⟩
          have hA' := (hA hq'.1).2
          have hB' := (hB hq'.2).1
          clear hA hB
          subst hna hnb
          simp only [Int.toNat_natCast] at hA' hB'
          have hK' := bwT_pos hq' rfl rfl rfl rfl
          have hd : Del [(b7, ((0, 0, 0, 0, ()) : T4)), (b6, ((0, 0, 0, 0, ()) : T4)), (bb, rgk (kk lb hb) lb nb hb), (ba, rgk (kk la ha) la la na)] b6 ((0, 0, 0, 0, ()) : T4) [(b7, ((0, 0, 0, 0, ()) : T4)), (bb, rgk (kk lb hb) lb nb hb), (ba, rgk (kk la ha) la la na)] := by (repeat (first | exact Del.head _ _ _ | apply Del.tail))
          refine ⟨SpS w14.heap.size b6 (ivl la na), spsOk _ _ _, eqG (rgk (kk la ha) la la na), keptEq, eqG (ivl la na), keptEq, eqG (rgk (kk lb hb) lb nb hb), keptEq, eqG (ivl nb hb), keptEq, _, keptBx, fun w8 hs => ?_, fun t57 => ⟨fun w8 hs f => ?_, fun t58 => ⟨fun w8 hs => ?_, fun t59 => ⟨fun w8 hs f => ?_, fun t60 => ⟨fun w8 hs f47 => ?_, fun st w8 hs f46 f47 f48 f49 fs => ?_⟩⟩⟩⟩⟩
          · exact ldAM (m14.sps hd hs) (by with_unfolding_all (repeat (first | exact List.mem_cons_self | refine List.mem_cons_of_mem _ ?_))) (gkE rfl (SpS.refl _ _ _ _))
          · cases f
            refine spec.l2Tidy.c (k := kk la ha) (x := la) (lo := la) (hi := na) hkl (by omega) (by omega) rfl hA' fun w9 hb9 => gkE rfl ?_
            exact SpS.of_below (hb9.mono hs.size) (m14.box b6 _ hd.mem).2.1
          · exact ldAM (m14.sps hd hs) (by with_unfolding_all (repeat (first | exact List.mem_cons_self | refine List.mem_cons_of_mem _ ?_))) (gkE rfl (SpS.refl _ _ _ _))
          · cases f
            refine spec.l2Tidy.c (k := kk lb hb) (x := lb) (lo := nb) (hi := hb) hkb (by omega) (by omega) hB' hk2.symm fun w9 hb9 => gkE rfl ?_
            exact SpS.of_below (hb9.mono hs.size) (m14.box b6 _ hd.mem).2.1
          · cases f47
            exact stSps m14 hd hs rfl
          · cases f49
            have m8 := m14.spsB hd hs fs
            clear m14
            repeat' (first | (with_reducible refine ldM (by assumption) (by with_unfolding_all (repeat (first | exact List.mem_cons_self | refine List.mem_cons_of_mem _ ?_))) (by with_unfolding_all rfl) ?_) | (with_reducible refine ldAM (by assumption) (by with_unfolding_all (repeat (first | exact List.mem_cons_self | refine List.mem_cons_of_mem _ ?_))) ?_) | (with_reducible refine nwZ (by assumption) fun _ _ _ => ?_) | (with_reducible refine nwM' (by assumption) fun _ _ _ => ?_) | (with_reducible refine stM0 (by assumption) (by with_unfolding_all (repeat (first | exact Up.head _ _ _ _ | apply Up.tail))) fun _ _ => ?_) | (with_reducible refine stM1 (by assumption) (by with_unfolding_all (repeat (first | exact Up.head _ _ _ _ | apply Up.tail))) fun _ _ => ?_) | (with_reducible refine stM2 (by assumption) (by with_unfolding_all (repeat (first | exact Up.head _ _ _ _ | apply Up.tail))) fun _ _ => ?_) | (with_reducible refine stM3 (by assumption) (by with_unfolding_all (repeat (first | exact Up.head _ _ _ _ | apply Up.tail))) fun _ _ => ?_) | (with_reducible refine stAM' (by assumption) (by with_unfolding_all (repeat (first | exact Up.head _ _ _ _ | apply Up.tail))) fun _ _ => ?_) | (with_reducible refine stAL (by assumption) (by with_unfolding_all (repeat (first | exact Up.head _ _ _ _ | apply Up.tail))) fun _ _ => ?_) | (with_reducible refine And.intro (fun _ => ?_) (fun _ => ?_)) | (refine stAM' (by assumption) (by with_unfolding_all (repeat (first | exact Up.head _ _ _ _ | apply Up.tail))) fun _ _ => ?_))
            rename_i m9
            exact kof (hK _ m9.low) hK'
end
end Go.Proofs.Ytdlnoabihfnmmaa.V

/- Contracts: what is left of a range and a number, in the reference. -/
namespace Go.Proofs.Ytdlnoabihfnmmaa.V
open Go Go.RowKit
set_option linter.unusedVariables false
set_option linter.unusedSimpArgs false
section
variable {w0 w : World} {b8 b9 ba bb : Nat} {lo hi n : Nat} {K : T4 × T4 × Bool × Unit → World → Prop}
/-- What the second branch hands back: a box that is made for it is handed back twice. -/
theorem tailM (hm : M w0 w [(b9, ((0, 0, 0, 0, ()) : T4)), (b8, ((0, 0, 0, 0, ()) : T4)), (bb, ivl n n), (ba, ivl lo hi)]) (p : T4 × Bool × Unit) (hp : ∀ w', Below w0.heap.size w0 w' → K (p.1, p.1, p.2) w') :
    Nw (zc P0 45) 45 w fun a_m w8 => StA P0 a_m (Tup.cells (R 4 (.i .i64)) p.1) w8 fun w45 =>
        ∃ Sp : World → World → Prop, SpOk Sp w45 ∧ ∃ G1 : Tup (R 4 (.i .i64)) → World → Prop, Kept Sp G1 ∧ ∃ G2 : Tup (R 4 (.i .i64)) → World → Prop, Kept Sp G2 ∧ ∃ G3 : Unit → World → Prop, Kept Sp G3 ∧ ∃ G4 : Unit → World → Prop, Kept Sp G4 ∧
        (∀ w1, Sp w45 w1 → LdA (R 4 (.i .i64)) a_m w1 fun (t : Tup (R 4 (.i .i64))) w2 => GK (.o (.ag (R 4 (.i .i64)))) Sp w1 G1 (.agg (Tup.cells (R 4 (.i .i64)) t).toArray) w2) ∧
        ∀ (t1 : Tup (R 4 (.i .i64))), (∀ w1, Sp w45 w1 → LdA (R 4 (.i .i64)) a_m w1 fun (t : Tup (R 4 (.i .i64))) w2 => GK (.o (.ag (R 4 (.i .i64)))) Sp w1 G2 (.agg (Tup.cells (R 4 (.i .i64)) t).toArray) w2) ∧
        ∀ (t2 : Tup (R 4 (.i .i64))), (∀ w1, Sp w45 w1 → G1 t1 w1 → StA P0 ⟨b8, 0, none⟩ (Tup.cells (R 4 (.i .i64)) t1) w1 fun w2 => GK .z Sp w1 G3 (.tuple #[]) w2) ∧
        ∀ (s1 : Unit), (∀ w1, Sp w45 w1 → G2 t2 w1 → StA P0 ⟨b9, 0, none⟩ (Tup.cells (R 4 (.i .i64)) t2) w1 fun w2 => GK .z Sp w1 G4 (.tuple #[]) w2) ∧
        ∀ (s2 : Unit), ∀ w1, Sp w45 w1 → G1 t1 w1 → G2 t2 w1 → G3 s1 w1 → G4 s2 w1 → LdA (R 4 (.i .i64)) ⟨b8, 0, none⟩ w1 fun r w2 => LdA (R 4 (.i .i64)) ⟨b9, 0, none⟩ w1 fun r1 w3 => K (r, (r1, (p.2.1, ()))) w1 := by
  refine nwZ hm fun w8 bm m8 => stAM' m8 (by with_unfolding_all (repeat (first | exact Up.head _ _ _ _ | apply Up.tail))) fun w9 m9 => ?_
  replace m9 : M w0 w9 [(bm, p.1), (b9, ((0, 0, 0, 0, ()) : T4)), (b8, ((0, 0, 0, 0, ()) : T4)), (bb, ivl n n), (ba, ivl lo hi)] := m9
  exact tailT (K := fun r r1 w => K (r, (r1, (p.2.1, ()))) w) (x1 := (0, 0, 0, 0, ())) (x2 := (0, 0, 0, 0, ())) (r1 := [(bm, p.1), (b9, ((0, 0, 0, 0, ()) : T4)), (bb, ivl n n), (ba, ivl lo hi)]) (r := [(bm, p.1), (bb, ivl n n), (ba, ivl lo hi)]) m9 (by (repeat (first | exact Del.head _ _ _ | apply Del.tail))) (by (repeat (first | exact Del.head _ _ _ | apply Del.tail))) (by with_unfolding_all (repeat (first | exact List.mem_cons_self | refine List.mem_cons_of_mem _ ?_))) (by with_unfolding_all (repeat (first | exact List.mem_cons_self | refine List.mem_cons_of_mem _ ?_))) fun w12 m12 => hp _ m12.low
/-- The same with two boxes, turned. -/
theorem tailS (hm : M w0 w [(b9, ((0, 0, 0, 0, ()) : T4)), (b8, ((0, 0, 0, 0, ()) : T4)), (bb, ivl n n), (ba, ivl lo hi)]) (p : T4 × T4 × Bool × Unit) (hp : ∀ w', Below w0.heap.size w0 w' → K (swT p) w') :
    Nw (zc P0 45) 45 w fun a_y w7 => Nw (zc P0 45) 45 w7 fun a_x w8 => StA P0 a_y (Tup.cells (R 4 (.i .i64)) p.1) w8 fun w9 => StA P0 a_x (Tup.cells (R 4 (.i .i64)) p.2.1) w9 fun w45 =>
        ∃ Sp : World → World → Prop, SpOk Sp w45 ∧ ∃ G1 : Tup (R 4 (.i .i64)) → World → Prop, Kept Sp G1 ∧ ∃ G2 : Tup (R 4 (.i .i64)) → World → Prop, Kept Sp G2 ∧ ∃ G3 : Unit → World → Prop, Kept Sp G3 ∧ ∃ G4 : Unit → World → Prop, Kept Sp G4 ∧
        (∀ w1, Sp w45 w1 → LdA (R 4 (.i .i64)) a_x w1 fun (t : Tup (R 4 (.i .i64))) w2 => GK (.o (.ag (R 4 (.i .i64)))) Sp w1 G1 (.agg (Tup.cells (R 4 (.i .i64)) t).toArray) w2) ∧
        ∀ (t1 : Tup (R 4 (.i .i64))), (∀ w1, Sp w45 w1 → LdA (R 4 (.i .i64)) a_y w1 fun (t : Tup (R 4 (.i .i64))) w2 => GK (.o (.ag (R 4 (.i .i64)))) Sp w1 G2 (.agg (Tup.cells (R 4 (.i .i64)) t).toArray) w2) ∧
        ∀ (t2 : Tup (R 4 (.i .i64))), (∀ w1, Sp w45 w1 → G1 t1 w1 → StA P0 ⟨b8, 0, none⟩ (Tup.cells (R 4 (.i .i64)) t1) w1 fun w2 => GK .z Sp w1 G3 (.tuple #[]) w2) ∧
        ∀ (s1 : Unit), (∀ w1, Sp w45 w1 → G2 t2 w1 → StA P0 ⟨b9, 0, none⟩ (Tup.cells (R 4 (.i .i64)) t2) w1 fun w2 => GK .z Sp w1 G4 (.tuple #[]) w2) ∧
        ∀ (s2 : Unit), ∀ w1, Sp w45 w1 → G1 t1 w1 → G2 t2 w1 → G3 s1 w1 → G4 s2 w1 → LdA (R 4 (.i .i64)) ⟨b8, 0, none⟩ w1 fun r w2 => LdA (R 4 (.i .i64)) ⟨b9, 0, none⟩ w1 fun r1 w3 => K (r, (r1, (p.2.2.1, ()))) w1 := by
  refine nwZ hm fun w7 by_ m7 => nwZ m7 fun w8 bx_ m8 => stAM' m8 (by with_unfolding_all (repeat (first | exact Up.head _ _ _ _ | apply Up.tail))) fun w9 m9 => stAM' m9 (by with_unfolding_all (repeat (first | exact Up.head _ _ _ _ | apply Up.tail))) fun w10 m10 => ?_
  replace m10 : M w0 w10 [(bx_, p.2.1), (by_, p.1), (b9, ((0, 0, 0, 0, ()) : T4)), (b8, ((0, 0, 0, 0, ()) : T4)), (bb, ivl n n), (ba, ivl lo hi)] := m10
  exact tailT (K := fun r r1 w => K (r, (r1, (p.2.2.1, ()))) w) (x1 := (0, 0, 0, 0, ())) (x2 := (0, 0, 0, 0, ())) (r1 := [(bx_, p.2.1), (by_, p.1), (b9, ((0, 0, 0, 0, ()) : T4)), (bb, ivl n n), (ba, ivl lo hi)]) (r := [(bx_, p.2.1), (by_, p.1), (bb, ivl n n), (ba, ivl lo hi)]) m10 (by (repeat (first | exact Del.head _ _ _ | apply Del.tail))) (by (repeat (first | exact Del.head _ _ _ | apply Del.tail))) (by with_unfolding_all (repeat (first | exact List.mem_cons_self | refine List.mem_cons_of_mem _ ?_))) (by with_unfolding_all (repeat (first | exact List.mem_cons_self | refine List.mem_cons_of_mem _ ?_))) fun w12 m12 => hp _ m12.low
theorem tailP (hm : M w0 w [(b9, ((0, 0, 0, 0, ()) : T4)), (b8, ((0, 0, 0, 0, ()) : T4)), (bb, ivl n n), (ba, ivl lo hi)]) (p : T4 × T4 × Bool × Unit) (hp : ∀ w', Below w0.heap.size w0 w' → K p w') :
    StA P0 ⟨b8, 0, none⟩ (Tup.cells (R 4 (.i .i64)) p.1) w fun w19 => StA P0 ⟨b9, 0, none⟩ (Tup.cells (R 4 (.i .i64)) p.2.1) w19 fun w20 => LdA (R 4 (.i .i64)) ⟨b8, 0, none⟩ w20 fun r w21 => LdA (R 4 (.i .i64)) ⟨b9, 0, none⟩ w20 fun r1 w22 => K (r, (r1, (p.2.2.1, ()))) w20 := by
  repeat' (first | (with_reducible refine ldM (by assumption) (by with_unfolding_all (repeat (first | exact List.mem_cons_self | refine List.mem_cons_of_mem _ ?_))) (by with_unfolding_all rfl) ?_) | (with_reducible refine ldAM (by assumption) (by with_unfolding_all (repeat (first | exact List.mem_cons_self | refine List.mem_cons_of_mem _ ?_))) ?_) | (with_reducible refine nwZ (by assumption) fun _ _ _ => ?_) | (with_reducible refine nwM' (by assumption) fun _ _ _ => ?_) | (with_reducible refine stM0 (by assumption) (by with_unfolding_all (repeat (first | exact Up.head _ _ _ _ | apply Up.tail))) fun _ _ => ?_) | (with_reducible refine stM1 (by assumption) (by with_unfolding_all (repeat (first | exact Up.head _ _ _ _ | apply Up.tail))) fun _ _ => ?_) | (with_reducible refine stM2 (by assumption) (by with_unfolding_all (repeat (first | exact Up.head _ _ _ _ | apply Up.tail))) fun _ _ => ?_) | (with_reducible refine stM3 (by assumption) (by with_unfolding_all (repeat (first | exact Up.head _ _ _ _ | apply Up.tail))) fun _ _ => ?_) | (with_reducible refine stAM' (by assumption) (by with_unfolding_all (repeat (first | exact Up.head _ _ _ _ | apply Up.tail))) fun _ _ => ?_) | (with_reducible refine stAL (by assumption) (by with_unfolding_all (repeat (first | exact Up.head _ _ _ _ | apply Up.tail))) fun _ _ => ?_) | (with_reducible refine And.intro (fun _ => ?_) (fun _ => ?_)) | (refine stAM' (by assumption) (by with_unfolding_all (repeat (first | exact Up.head _ _ _ _ | apply Up.tail))) fun _ _ => ?_))
  rename_i m9
  exact hp _ m9.low
end
section
variable {w : World}
set_option maxHeartbeats 4000000 in
theorem spec.l2Branch.c {op : Int} {lo hi n : Nat} {is_ : Bool} {K : T4 × T4 × Bool × Unit → World → Prop} (ho : 12 ≤ op ∧ op ≤ 15) (hle : lo ≤ hi) (hhi : hi < 2 ^ 31) (hn : n < 2 ^ 31)
    (hK : ∀ w', Below w.heap.size w w' → K (brT op lo hi n is_) w') :
    CallT (.n [(.ag (R 4 (.i .i64))), (.ag (R 4 (.i .i64))), (.lf .b)]) P0 49 [.int .i64 op, .agg (Tup.cells (R 4 (.i .i64)) (ivl lo hi)).toArray, .agg (Tup.cells (R 4 (.i .i64)) (ivl n n)).toArray, .bool is_] w K := by
  refine spec.l2Branch.ok ?_
  unfold spec.l2Branch.vc
  have hm := M.start w
  refine nwM' hm fun w1 ba m1 => nwM' m1 fun w2 bb m2 => nwZ m2 fun w3 b8 m3 => nwZ m3 fun w4 b9 m4 => ?_
  clear hm m1 m2 m3
  refine ⟨fun t w' => M w w' [(b9, ((0, 0, 0, 0, ()) : T4)), (b8, ((0, 0, 0, 0, ()) : T4)), (bb, ivl n n), (ba, ivl lo hi)] ∧ t = decide (op ≤ 13 ∧ is_ = decide (op = 12)), ?_, ?_⟩
  · refine And.intro (fun h => ⟨m4, ?_⟩) (fun h => ⟨m4, ?_⟩)
    · rw [decide_eq_decide]
      have : (op == 12) = is_ := by simpa using h
      rw [← this]
      exact ⟨fun h => ⟨h, rfl⟩, fun h => h.1⟩
    · have : ¬ ((op == 12) = is_) := by simpa using h
      symm
      rw [decide_eq_false_iff_not]
      exact fun h2 => this h2.2.symm
  rintro t w5 ⟨m5, rfl⟩ _
  clear m4
  refine And.intro (fun h1 => ?_) (fun h1 => And.intro (fun h2 => ?_) (fun h2 => ?_))
  · simp only [decide_eq_true_eq] at h1
    have e := brT_same (lo := lo) (hi := hi) (n := n) ⟨ho.1, h1.1⟩ h1.2
    refine ldAM m5 (by with_unfolding_all (repeat (first | exact List.mem_cons_self | refine List.mem_cons_of_mem _ ?_))) (ldAM m5 (by with_unfolding_all (repeat (first | exact List.mem_cons_self | refine List.mem_cons_of_mem _ ?_))) ?_)
    refine spec.l2Meet.c hle hhi hn fun w6 hb6 => ?_
    have m6 := m5.below hb6
    refine tailM m6 _ fun w' hb' => kof (hK w' hb') ?_
    rw [e]
    split <;> rfl
  · simp only [decide_eq_true_eq] at h2
    simp only [decide_eq_false_iff_not] at h1
    have hno : ¬ is_ = decide (op = 12) := fun h => h1 ⟨h2, h⟩
    have e := brT_but (lo := lo) (hi := hi) (n := n) ⟨ho.1, h2⟩ hno
    refine ldAM m5 (by with_unfolding_all (repeat (first | exact List.mem_cons_self | refine List.mem_cons_of_mem _ ?_))) (ldAM m5 (by with_unfolding_all (repeat (first | exact List.mem_cons_self | refine List.mem_cons_of_mem _ ?_))) ?_)
    refine spec.l2Apart.c hle hhi fun w7 hb7 => ?_
    have m7 := m5.below hb7
    clear m5
    have two : ∀ {w8 : World} {Kp : T4 × Bool × Unit → World → Prop}, (∀ w' y, Below w8.heap.size w8 w' → (¬ (lo = n ∧ hi = n) → y = (ivl n n, true, ())) → Kp y w') → CallT (.n [(.ag (R 4 (.i .i64))), (.lf .b)]) P0 70 [.agg (Tup.cells (R 4 (.i .i64)) (ivl n n)).toArray, .agg (Tup.cells (R 4 (.i .i64)) (ivl lo hi)).toArray] w8 Kp := by
      intro w8 Kp hKp
      by_cases hq : lo = hi
      · subst hq
        refine spec.l2Apart.c (lo := n) (hi := n) (n := lo) (Nat.le_refl _) hn fun w9 hb9 => hKp _ _ hb9 fun hne => ?_
        rw [if_neg (by omega), if_neg (by omega), if_neg (by omega)]
      · refine spec.l2Apart.n (fun e => hq (by have e' : (lo : Int) = (hi : Int) := e; omega)) fun w9 hb9 => hKp _ _ hb9 fun _ => rfl
    by_cases hq : lo = n ∧ hi = n
    · rw [if_pos hq] at e ⊢
      refine nwZ m7 fun w8 bx_ m8 => stAM' m8 (by with_unfolding_all (repeat (first | exact Up.head _ _ _ _ | apply Up.tail))) fun w9 m9 => ?_
      replace m9 : M w w9 [(bx_, nR), (b9, ((0, 0, 0, 0, ()) : T4)), (b8, ((0, 0, 0, 0, ()) : T4)), (bb, ivl n n), (ba, ivl lo hi)] := m9
      refine ldAM m9 (by with_unfolding_all (repeat (first | exact List.mem_cons_self | refine List.mem_cons_of_mem _ ?_))) (ldAM m9 (by with_unfolding_all (repeat (first | exact List.mem_cons_self | refine List.mem_cons_of_mem _ ?_))) ?_)
      refine two fun w10 y hb10 _ => ?_
      have m10 := m9.below hb10
      refine nwZ m10 fun w11 by_ m11 => stAM' m11 (by with_unfolding_all (repeat (first | exact Up.head _ _ _ _ | apply Up.tail))) fun w12 m12 => ?_
      refine And.intro (fun _ => ?_) (fun h => by simp at h)
      clear m7 m8 m9 m10 m11
      repeat' (first | (with_reducible refine ldM (by assumption) (by with_unfolding_all (repeat (first | exact List.mem_cons_self | refine List.mem_cons_of_mem _ ?_))) (by with_unfolding_all rfl) ?_) | (with_reducible refine ldAM (by assumption) (by with_unfolding_all (repeat (first | exact List.mem_cons_self | refine List.mem_cons_of_mem _ ?_))) ?_) | (with_reducible refine nwZ (by assumption) fun _ _ _ => ?_) | (with_reducible refine nwM' (by assumption) fun _ _ _ => ?_) | (with_reducible refine stM0 (by assumption) (by with_unfolding_all (repeat (first | exact Up.head _ _ _ _ | apply Up.tail))) fun _ _ => ?_) | (with_reducible refine stM1 (by assumption) (by with_unfolding_all (repeat (first | exact Up.head _ _ _ _ | apply Up.tail))) fun _ _ => ?_) | (with_reducible refine stM2 (by assumption) (by with_unfolding_all (repeat (first | exact Up.head _ _ _ _ | apply Up.tail))) fun _ _ => ?_) | (with_reducible refine stM3 (by assumption) (by with_unfolding_all (repeat (first | exact Up.head _ _ _ _ | apply Up.tail))) fun _ _ => ?_) | (with_reducible refine stAM' (by assumption) (by with_unfolding_all (repeat (first | exact Up.head _ _ _ _ | apply Up.tail))) fun _ _ => ?_) | (with_reducible refine stAL (by assumption) (by with_unfolding_all (repeat (first | exact Up.head _ _ _ _ | apply Up.tail))) fun _ _ => ?_) | (with_reducible refine And.intro (fun _ => ?_) (fun _ => ?_)) | (refine stAM' (by assumption) (by with_unfolding_all (repeat (first | exact Up.head _ _ _ _ | apply Up.tail))) fun _ _ => ?_))
      rename_i m15
      exact kof (hK _ m15.low) e
    · rw [if_neg hq] at e ⊢
      refine nwZ m7 fun w8 bx_ m8 => stAM' m8 (by with_unfolding_all (repeat (first | exact Up.head _ _ _ _ | apply Up.tail))) fun w9 m9 => ?_
      replace m9 : M w w9 [(bx_, ivl (if lo = n then n + 1 else lo) (if hi = n then n - 1 else hi)), (b9, ((0, 0, 0, 0, ()) : T4)), (b8, ((0, 0, 0, 0, ()) : T4)), (bb, ivl n n), (ba, ivl lo hi)] := m9
      refine ldAM m9 (by with_unfolding_all (repeat (first | exact List.mem_cons_self | refine List.mem_cons_of_mem _ ?_))) (ldAM m9 (by with_unfolding_all (repeat (first | exact List.mem_cons_self | refine List.mem_cons_of_mem _ ?_))) ?_)
      refine two fun w10 y hb10 hy => ?_
      rw [hy hq]
      have m10 := m9.below hb10
      refine nwZ m10 fun w11 by_ m11 => stAM' m11 (by with_unfolding_all (repeat (first | exact Up.head _ _ _ _ | apply Up.tail))) fun w12 m12 => ?_
      replace m12 : M w w12 [(by_, ivl n n), (bx_, ivl (if lo = n then n + 1 else lo) (if hi = n then n - 1 else hi)), (b9, ((0, 0, 0, 0, ()) : T4)), (b8, ((0, 0, 0, 0, ()) : T4)), (bb, ivl n n), (ba, ivl lo hi)] := m12
      clear m7 m8 m9 m10 m11
      refine And.intro (fun h => by simp at h) (fun _ => And.intro (fun h => by simp at h) (fun _ => ?_))
      exact tailU (K := fun r r1 w => K (r, (r1, (true, ()))) w) (x1 := (0, 0, 0, 0, ())) (x2 := (0, 0, 0, 0, ())) (r := [(by_, ivl n n), (bx_, ivl (if lo = n then n + 1 else lo) (if hi = n then n - 1 else hi)), (b9, ((0, 0, 0, 0, ()) : T4)), (bb, ivl n n), (ba, ivl lo hi)]) m12 (by (repeat (first | exact Del.head _ _ _ | apply Del.tail))) (by with_unfolding_all (repeat (first | exact List.mem_cons_self | refine List.mem_cons_of_mem _ ?_))) (by with_unfolding_all (repeat (first | exact List.mem_cons_self | refine List.mem_cons_of_mem _ ?_))) (by with_unfolding_all (repeat (first | exact List.mem_cons_self | refine List.mem_cons_of_mem _ ?_))) fun w13 hb13 => kof (hK _ hb13) e
  · simp only [decide_eq_false_iff_not] at h2
    refine ⟨fun t w' => M w w' [(b9, ((0, 0, 0, 0, ()) : T4)), (b8, ((0, 0, 0, 0, ()) : T4)), (bb, ivl n n), (ba, ivl lo hi)] ∧ t = decide (op = 14 ∧ is_ = true), ?_, ?_⟩
    · refine And.intro (fun h => ⟨m5, ?_⟩) (fun h => ⟨m5, ?_⟩)
      · have : op = 14 := by simpa using h
        cases is_ <;> simp [this]
      · have : ¬ op = 14 := by simpa using h
        simp [this]
    rintro t w6 ⟨m6, rfl⟩ _
    clear m5
    refine And.intro (fun h3 => ?_) (fun h3 => ?_)
    · simp only [decide_eq_true_eq] at h3
      obtain ⟨rfl, rfl⟩ := h3
      refine ldAM m6 (by with_unfolding_all (repeat (first | exact List.mem_cons_self | refine List.mem_cons_of_mem _ ?_))) (ldAM m6 (by with_unfolding_all (repeat (first | exact List.mem_cons_self | refine List.mem_cons_of_mem _ ?_))) ?_)
      refine spec.l2Below.c (by_ := 1) ⟨hle, hhi, Nat.le_refl _, hn⟩ (by omega) fun w7 hb7 => ?_
      refine tailP (m6.below hb7) _ fun w' hb' => kof (hK w' hb') (bw14t hle).symm
    · simp only [decide_eq_false_iff_not] at h3
      refine ⟨fun t w' => M w w' [(b9, ((0, 0, 0, 0, ()) : T4)), (b8, ((0, 0, 0, 0, ()) : T4)), (bb, ivl n n), (ba, ivl lo hi)] ∧ t = decide (op = 15 ∧ is_ = false), ?_, ?_⟩
      · refine And.intro (fun h => ⟨m6, ?_⟩) (fun h => ⟨m6, ?_⟩)
        · have : op = 15 := by simpa using h
          cases is_ <;> simp [this]
        · have : ¬ op = 15 := by simpa using h
          simp [this]
      rintro t w7 ⟨m7, rfl⟩ _
      clear m6
      refine And.intro (fun h4 => ?_) (fun h4 => And.intro (fun h5 => ?_) (fun h5 => ?_))
      · simp only [decide_eq_true_eq] at h4
        obtain ⟨rfl, rfl⟩ := h4
        refine ldAM m7 (by with_unfolding_all (repeat (first | exact List.mem_cons_self | refine List.mem_cons_of_mem _ ?_))) (ldAM m7 (by with_unfolding_all (repeat (first | exact List.mem_cons_self | refine List.mem_cons_of_mem _ ?_))) ?_)
        refine spec.l2Below.c (by_ := 0) ⟨hle, hhi, Nat.le_refl _, hn⟩ (by omega) fun w8 hb8 => ?_
        refine tailP (m7.below hb8) _ fun w' hb' => kof (hK w' hb') ?_
        rw [← bw15f hle]; simp
      · have h14 : op = 14 := by simpa using h5
        subst h14
        have hf : is_ = false := by cases is_ <;> simp at h3 ⊢
        subst hf
        refine ldAM m7 (by with_unfolding_all (repeat (first | exact List.mem_cons_self | refine List.mem_cons_of_mem _ ?_))) (ldAM m7 (by with_unfolding_all (repeat (first | exact List.mem_cons_self | refine List.mem_cons_of_mem _ ?_))) ?_)
        refine spec.l2Below.c (by_ := 0) ⟨Nat.le_refl _, hn, hle, hhi⟩ (by omega) fun w8 hb8 => ?_
        refine tailS (m7.below hb8) _ fun w' hb' => kof (hK w' hb') ?_
        have e := bw14f (lo := lo) (hi := hi) (n := n) hle
        simp only [Int.natCast_zero, Int.sub_zero, Int.add_zero]
        rw [show (if (hi : Int) < (n : Int) then (hi : Int) else (n : Int)) = (if (n : Int) < (hi : Int) then (n : Int) else (hi : Int)) by split <;> split <;> omega, e]
        rfl
      · simp only [decide_eq_false_iff_not] at h4
        have h14 : ¬ op = 14 := by simpa using h5
        have h15 : op = 15 := by omega
        subst h15
        have hf : is_ = true := by cases is_ <;> simp at h4 ⊢
        subst hf
        refine ldAM m7 (by with_unfolding_all (repeat (first | exact List.mem_cons_self | refine List.mem_cons_of_mem _ ?_))) (ldAM m7 (by with_unfolding_all (repeat (first | exact List.mem_cons_self | refine List.mem_cons_of_mem _ ?_))) ?_)
        refine spec.l2Below.c (by_ := 1) ⟨Nat.le_refl _, hn, hle, hhi⟩ (by omega) fun w8 hb8 => ?_
        refine tailS (m7.below hb8) _ fun w' hb' => kof (hK w' hb') ?_
        have e := bw15t (lo := lo) (hi := hi) (n := n) hle
        show _ = swT (bwT _ _ _ _)
        rw [show ((1 : Nat) : Int) = 1 from rfl, e]
        rfl
end
end Go.Proofs.Ytdlnoabihfnmmaa.V

/- Words for regions that make boxes and fill them; contracts: what a rule leaves of a range. -/
namespace Go.Proofs.Ytdlnoabihfnmmaa.V
open Go Go.RowKit
set_option linter.unusedVariables false
set_option linter.unusedSimpArgs false
section
variable {w0 w w1 w' : World} {l : List (Nat × T4)} {H b b1 b2 : Nat} {y y1 y2 : T4}
theorem gkX {r : Rs} {x : r.T} {v : Value} (hv : v = r.emb x) (h : Below w1.heap.size w1 w') (hH : H ≤ w1.heap.size) : GK r (Sb H (Below H)) w1 (eqG x) v w' :=
  ⟨x, hv, ⟨h.mono hH, h.size, fun b _ hb => h.block b hb⟩, rfl⟩
theorem nwX {cs : Array Value} {t : TypeId} (hH : H ≤ w1.heap.size) : Nw cs t w1 fun a w2 => AXp H t cs (Below H) w1 (.pointer (some a)) w2 :=
  nw fun w2 hb hs hc => ⟨rfl, ⟨hb.mono hH, hb.size, fun b _ h => hb.block b h⟩, by omega, hc⟩
theorem stX {b : Nat} (hH : H ≤ b) (hH2 : H ≤ w1.heap.size) (hc : w1.heap[b]? = some (.cells (zc P0 45) 45 (0, 0))) :
    StA P0 ⟨b, 0, none⟩ (Tup.cells (R 4 (.i .i64)) y) w1 fun w2 => GS (.o (.ag (R 4 (.i .i64)))) (Below H) w1 (eqG y) b 45 w2 := by
  rw [zcRange] at hc
  obtain ⟨w', hr, hg, hsz, hh⟩ := run_storeCells_at' P0 (b := b) (t := 45) (Tup.cells (R 4 (.i .i64)) y) 0 [] (Tup.cells (R 4 (.i .i64)) ((0, 0, 0, 0, ()) : T4)) w1 (oneCell4 y) rfl rfl (by simpa using hc)
  exact ⟨w', hr, y, (Below.refl _ _).grown hg hH2 (fun k hk => by simp only [Option.some.injEq] at hk; omega), ⟨hg.size, fun k hk hne => hg.block k hk (by simpa using hne), (show w'.heap[b]? = some (.cells (Tup.cells (R 4 (.i .i64)) y).toArray 45 (0, 0)) by simpa using hh)⟩, rfl⟩
theorem M.bxd1 (hm : M w0 w l) (hb : Below w.heap.size w w') (h : BxD w.heap.size w' [(b, (Tup.cells (R 4 (.i .i64)) y).toArray, 45)]) : M w0 w' ((b, y) :: l) := by
  have hm' := hm.below hb
  obtain ⟨h1, _⟩ := h
  have hb1 := h1 _ List.mem_cons_self
  simp only at hb1
  refine ⟨hm'.low, fun c z hz => ?_, ?_⟩
  · rcases List.mem_cons.1 hz with e | e
    · simp only [Prod.mk.injEq] at e
      obtain ⟨rfl, rfl⟩ := e
      exact ⟨by have := hm.low.size; omega, hb1.2.1, hb1.2.2⟩
    · exact hm'.box c z e
  · simp only [List.map_cons, List.nodup_cons]
    refine ⟨fun hh => ?_, hm.one⟩
    obtain ⟨p, hp, e⟩ := List.mem_map.1 hh
    have := (hm.box p.1 p.2 hp).2.1
    omega
theorem M.bxd2 (hm : M w0 w l) (hb : Below w.heap.size w w') (h : BxD w.heap.size w' [(b1, (Tup.cells (R 4 (.i .i64)) y1).toArray, 45), (b2, (Tup.cells (R 4 (.i .i64)) y2).toArray, 45)]) : M w0 w' ((b1, y1) :: (b2, y2) :: l) := by
  have hm2 := hm.bxd1 (b := b2) (y := y2) hb ⟨fun x hx => h.1 x (List.mem_cons_of_mem _ hx), (List.nodup_cons.1 (by simpa using h.2)).2⟩
  have hb1 := h.1 _ List.mem_cons_self
  simp only at hb1
  refine ⟨hm2.low, fun c z hz => ?_, ?_⟩
  · rcases List.mem_cons.1 hz with e | e
    · simp only [Prod.mk.injEq] at e
      obtain ⟨rfl, rfl⟩ := e
      exact ⟨by have := hm.low.size; omega, hb1.2.1, hb1.2.2⟩
    · exact hm2.box c z e
  · simp only [List.map_cons, List.nodup_cons, List.mem_cons, not_or]
    refine ⟨⟨?_, fun hh => ?_⟩, List.nodup_cons.1 hm2.one⟩
    · have := h.2
      simp only [List.map_cons, List.map_nil, List.nodup_cons, List.mem_singleton] at this
      exact this.1
    · obtain ⟨p, hp, e⟩ := List.mem_map.1 hh
      have := (hm.box p.1 p.2 hp).2.1
      omega
end
section
variable {w : World}
theorem keptE {α : Type} {v : α} {Sp : World → World → Prop} : Kept Sp (eqG v) := fun _ _ _ h _ => h
/-- What a rule leaves of a range. -/
theorem spec.l9Range.c {x : Rule} {lo hi : Nat} {is_ : Bool} {K : T4 × Bool × Unit → World → Prop} (ho : 12 ≤ x.op ∧ x.op ≤ 15) (hn : 0 ≤ x.num ∧ x.num ≤ 255) (hle : lo ≤ hi) (hhi : hi < 2 ^ 31)
    (hK : ∀ w', Below w.heap.size w w' → K ((brT x.op lo hi x.num.toNat is_).1, (brN x.op lo hi x.num.toNat is_).isSome, ()) w') :
    CallT (.n [(.ag (R 4 (.i .i64))), (.lf .b)]) P0 25 [.agg (Tup.cells (R 5 (.i .i64)) x.t).toArray, .agg (Tup.cells (R 4 (.i .i64)) (ivl lo hi)).toArray, .bool is_] w K := by
  refine spec.l9Range.ok ?_
  unfold spec.l9Range.vc
  obtain ⟨n, hn'⟩ : ∃ n : Nat, x.num = n := ⟨x.num.toNat, by omega⟩
  have hn2 : x.num.toNat = n := by omega
  rw [hn2] at hK
  refine nw fun w1 hb1 hs1 hc1 => ?_
  have hm := M.start w1
  refine nwM' hm fun w2 bw m2 => nwZ m2 fun w3 b6 m3 => ?_
  clear m2 hm
  have hx : w3.heap[w.heap.size]? = some (.cells (Tup.cells (R 5 (.i .i64)) x.t).toArray 48 (0, 0)) := (m3.low.block _ (by omega)).trans hc1
  have hlt : w.heap.size < w3.heap.size := by have := m3.low.size; omega
  refine ⟨Below w3.heap.size, belOk _, eqG x.op, keptE, eqG (ivl lo hi), keptE, eqG (n : Int), keptE, eqG (ivl n n), keptE, eqG (brT x.op lo hi n is_), keptE, eqG (brT x.op lo hi n is_).1, keptE, eqG (brT x.op lo hi n is_).2.1, keptE, ?_⟩
  refine ⟨fun w4 hs => ?_, fun t13 => ⟨fun w4 hs => ?_, fun t14 => ⟨fun w4 hs => ?_, fun t16 => ⟨fun w4 hs f => ?_, fun t17 => ⟨fun w4 hs f13 f14 f17 => ?_, fun t19 => ⟨fun w4 hs => nwX hs.size, fun out => ⟨fun w4 hs => nwX hs.size, fun t9 => ⟨fun w4 hs f19 h1 h2 => ?_, fun st => ⟨fun w4 hs f19 h1 h2 => ?_, fun st1 w4 hs f13 f14 f16 f17 f19 g1 g2 hbx => ?_⟩⟩⟩⟩⟩⟩⟩⟩⟩
  · exact ldB ((hs.block _ hlt).trans hx) (j := 1) (x := x.op) rfl (gkX rfl (Below.refl _ _) hs.size)
  · exact ldAM (m3.below hs) (by with_unfolding_all (repeat (first | exact List.mem_cons_self | refine List.mem_cons_of_mem _ ?_))) (gkX rfl (Below.refl _ _) hs.size)
  · exact ldB ((hs.block _ hlt).trans hx) (j := 2) (x := (n : Int)) (by rw [← hn']; rfl) (gkX rfl (Below.refl _ _) hs.size)
  · cases f
    refine spec.l2One.c fun w5 hb5 => gkX ?_ hb5 hs.size
    rw [ivl_one]; rfl
  · cases f13; cases f14; cases f17
    exact spec.l2Branch.c ho hle hhi (by omega) fun w5 hb5 => gkX rfl hb5 hs.size
  · cases f19; exact stX h1 hs.size h2
  · cases f19; exact stX h1 hs.size h2
  · cases f19; cases g1; cases g2
    have m4 := m3.bxd2 hs hbx
    clear m3
    refine ldAM m4 (by with_unfolding_all (repeat (first | exact List.mem_cons_self | refine List.mem_cons_of_mem _ ?_))) (stAM' m4 (by with_unfolding_all (repeat (first | exact Up.head _ _ _ _ | apply Up.tail))) fun w5 m5 => ldAM m5 (by with_unfolding_all (repeat (first | exact List.mem_cons_self | refine List.mem_cons_of_mem _ ?_))) ?_)
    refine kof (hK w5 (hb1.trans (m5.low.mono hb1.size))) ?_
    rw [← brT_ok]
end
end Go.Proofs.Ytdlnoabihfnmmaa.V

/- A part of a row is copied over another part of a row. -/
namespace Go.Proofs.Ytdlnoabihfnmmaa.V
open Go Go.RowKit
set_option linter.unusedVariables false
set_option linter.unusedSimpArgs false
section
variable {α : Type} {k : Kd α} {t : TypeId} {B : Nat} {w : World} {s : Sl} {xs : List α}
theorem mul_part {L p i n : Nat} (h : i < n) {j : Nat} (hj : j < L) : p * L + (i * L + j) < (p + n) * L := by
  have h1 : (i + 1) * L ≤ n * L := Nat.mul_le_mul_right _ h
  rw [Nat.succ_mul] at h1
  rw [Nat.add_mul]; omega
/-- Elements are copied over those from a place on. -/
theorem copyW {P : Program} {dT sT e ty : TypeId} (hu : P.underlying dT = some (.slice e)) (hs : szOf P e = some k.ls.length) (h1 : ∀ l ∈ k.ls, l ≠ .any) (h0 : 0 < k.ls.length) (h : WrS k t B w s xs) {p : Nat} {d : Sl} (hda : d.a = s.a.map (·.add (p * k.ls.length))) (hdn : d.n = xs.length - p) (hp : p < xs.length) {x : Sl} {ys : List α} (hx : SlR k w x ys) (hy : ys ≠ [])
    {zs : List α} (hzl : zs.length = xs.length) (hz : ∀ i, i < xs.length → zs[i]? = if p ≤ i ∧ i - p < min ys.length (xs.length - p) then ys[i - p]? else xs[i]?) {K : Int → World → Prop}
    (hK : ∀ w', WrS k t B w' s zs → w.grownBy w' s.bk → w'.heap.size = w.heap.size → K ((min ys.length (xs.length - p) : Nat) : Int) w') :
    RunT (.o (.lf (.i .i64))) P (Builtin.copy_ #[dT, sT] ty #[d.v, x.v]) w K := by
  obtain ⟨y0, hy0⟩ := get_some (l := xs) (k := xs.length - 1) (by omega)
  obtain ⟨b, o, cur, ha, hB, hg, hc, hcs⟩ := h.at hy0 h0
  obtain ⟨b2, o2, ha2, hat⟩ : ∃ b o, x.a = some ⟨b, o, none⟩ ∧ ∀ i x, ys[i]? = some x → At w b (o + i * k.ls.length) (k.cells x) := by
    rcases hx.2.2.2 with h' | h'
    · exact absurd h' hy
    · exact h'
  generalize hn : min ys.length (xs.length - p) = n at *
  have hn1 : n ≤ ys.length := by omega
  have hn2 : p + n ≤ xs.length := by omega
  have hcl : ((ys.take n).flatMap k.cells).length = n * k.ls.length := by rw [flat_length, List.length_take, Nat.min_eq_left hn1]
  have hsrc : ∀ j v, ((ys.take n).flatMap k.cells)[j]? = some v → w.cell? ((⟨b2, o2, none⟩ : Addr).add j) = some v := by
    intro j u hu
    have hjl := lt_of_get hu
    rw [hcl] at hjl
    have hq : j / k.ls.length < n := Nat.div_lt_of_lt_mul (by rw [Nat.mul_comm]; exact hjl)
    have hr : j % k.ls.length < k.ls.length := Nat.mod_lt _ h0
    have hy : ys[j / k.ls.length]? = some (ys[j / k.ls.length]'(by omega)) := List.getElem?_eq_getElem _
    have hy' : (ys.take n)[j / k.ls.length]? = some (ys[j / k.ls.length]'(by omega)) := by rw [List.getElem?_take, if_pos hq, hy]
    have hv : (k.cells (ys[j / k.ls.length]'(by omega)))[j % k.ls.length]? = some ((k.cells (ys[j / k.ls.length]'(by omega)))[j % k.ls.length]'(by rw [k.cells_length]; exact hr)) := List.getElem?_eq_getElem _
    have h1 := flat_get k (ys.take n) _ _ hy' _ _ hv
    have hj : j / k.ls.length * k.ls.length + j % k.ls.length = j := by rw [Nat.mul_comm]; exact Nat.div_add_mod _ _
    rw [hj, hu] at h1
    simp only [Option.some.injEq] at h1
    have h2 := hat _ _ hy _ _ hv
    rw [← h1, Nat.add_assoc, hj] at h2
    rw [add_mk]
    exact h2
  have hone : ∀ u ∈ (ys.take n).flatMap k.cells, u.oneCell' = true := by
    intro u hu
    obtain ⟨y, _, hy⟩ := List.mem_flatMap.1 hu
    exact oneCell_cells k h1 y u hy
  have hfit : o + p * k.ls.length + 0 + ((ys.take n).flatMap k.cells).length ≤ cur.size := by
    rw [hcl]
    have h2 : (p + n) * k.ls.length ≤ xs.length * k.ls.length := Nat.mul_le_mul_right _ hn2
    rw [Nat.add_mul] at h2
    have h3 : (xs.length - 1) * k.ls.length + k.ls.length = xs.length * k.ls.length := by rw [← Nat.succ_mul]; congr 1; omega
    omega
  obtain ⟨w', cur', hr, hgr, hss, hh, hin, hout⟩ := run_storeCells_in P (o + p * k.ls.length) ((ys.take n).flatMap k.cells) 0 cur w hone hfit hg
  have hl := run_loadCells_list (P := P) w ⟨b2, o2, none⟩ ((ys.take n).flatMap k.cells) hsrc
  rw [hcl] at hl hout
  have hxn := hx.1
  have hrun : (Builtin.copy_ #[dT, sT] ty #[d.v, x.v]).run P w = .ok (goInt n) w' := by
    simp [Builtin.copy_, run_underlying hu, Builtin.lenOf, Builtin.firstCells, run_sizeOf hs, Sl.v, hda, hdn, ha, ha2, hxn, hn, hl, add_mk, hr]
  refine ⟨(n : Int), w', hrun, hK w' ⟨by rw [hzl]; exact h.1, h.2.1, h.2.2.1, .inr ⟨b, o, cur', ha, hB, hh, ?_⟩⟩ (by simpa [Sl.bk, ha] using hgr) hss⟩
  intro i z hi j v hj
  have hil := lt_of_get hi
  have hjl := lt_of_get hj
  rw [k.cells_length] at hjl
  rw [hz i (by omega)] at hi
  split at hi
  · rename_i hc2
    have hf := flat_get k (ys.take n) (i - p) z (by rw [List.getElem?_take, if_pos hc2.2]; exact hi) j v hj
    have := hin _ _ hf
    have e : o + p * k.ls.length + 0 + ((i - p) * k.ls.length + j) = o + i * k.ls.length + j := by
      have : p * k.ls.length + (i - p) * k.ls.length = i * k.ls.length := by rw [← Nat.add_mul]; congr 1; omega
      omega
    rw [e] at this
    exact this
  · rename_i hc2
    rw [hout _ ?_]
    · exact hc _ _ hi _ _ hj
    · rcases Nat.lt_or_ge i p with hlt | hge
      · have := idx_apart hlt hjl
        left; omega
      · right
        have : (p + n) * k.ls.length ≤ i * k.ls.length := Nat.mul_le_mul_right _ (by omega)
        rw [Nat.add_mul] at this
        omega
end
end Go.Proofs.Ytdlnoabihfnmmaa.V

/- Verification conditions, printed by this session's own program (wip/vc.py) and checked by the kernel. -/
namespace Go.Proofs.Ytdlnoabihfnmmaa.V
open Go Go.RowKit
set_option linter.unusedVariables false
/- slices.Repeat[[]impl.Range,impl.Range] -/
def slices.Repeat_Range.pl : Pl := (.s (.r (D 1)) (.j [] (.s (.r (D 2)) (.c (.r (D 2)) .z)) (.s (.r [.d, .d, .d, .d, .d, (.c (.n [(.lf (.i .u64)), (.lf (.i .u64))])), .d, .d, .d, .d, .d]) (.j [] (.s (.r [.d, .d, (.sp .d), .d, .d, .d]) (.c (.r (D 2)) .z)) (.s (.r [.d, .d, (.t (.o (.lf .sl))), .d]) (.s (.r [.d, .d, (.t (.o (.lf (.i .i64)))), .d]) (.s (.b (.l [(8, (.i .i64))] (.s (.s (.r (D 4)) (.c .z .z)) (.b (.g [(.q, []), (.q, []), (.q, []), ((.g (.o (.lf .sl)) (.t (.o (.lf .sl)))), []), (.q, []), (.q, []), ((.g (.o (.lf .sl)) (.t (.o (.lf .sl)))), []), ((.g (.o (.lf (.i .i64))) (.t (.o (.lf (.i .i64))))), [3, 6]), (.q, [7]), (.q, [7])] []))))) (.s (.r (D 2)) .z))))))))
def slices.Repeat_Range.vc (x : Sl) (count : Int) (w : World) (K : Sl → World → Prop) : Prop :=
∃ J : World → Prop,
(((decide ((count : Int) < 0)) = true → False) ∧
((decide ((count : Int) < 0)) = false → J w)) ∧
(∀  w_, J w_ → ∀ _ : Nat → Value,
CallT (.n [(.lf (.i .u64)), (.lf (.i .u64))]) P0 39 [(.int .u64 (IntKind.wrap .u64 ((x.n : Nat) : Int))), (.int .u64 (IntKind.wrap .u64 count))] w_ fun (t18 : (Int) × (Int) × Unit) w__1 =>
∃ J_1 : World → Prop,
(((decide ((t18.1 : Int) > 0)) = true → False) ∧
((decide ((t18.1 : Int) > 0)) = false → ((decide ((t18.2.1 : Int) > 9223372036854775807)) = true → False) ∧
((decide ((t18.2.1 : Int) > 9223372036854775807)) = false → J_1 w__1))) ∧
(∀  w__2, J_1 w__2 → ∀ _ : Nat → Value,
RunT (.o (.lf .sl)) P0 (Instr.makeSlice 42 (.int .i64 (IntKind.wrap .i64 t18.2.1)) (.int .i64 (IntKind.wrap .i64 t18.2.1))) w__2 fun (t30 : Sl) w__3 =>
RunT (.o (.lf (.i .i64))) P0 (Builtin.copy_ #[42, 42] 3 #[t30.v, x.v]) w__3 fun (t33 : Int) w__4 =>
∃ (I : Int → World → Prop) (M : Int → World → Nat),
I t33 w__4 ∧
(∀ (n : Int) w__5, I n w__5 → ∀ _ : Nat → Value,
((decide ((n : Int) < ((t30.n : Nat) : Int))) = true → ∃ Sp : World → World → Prop, SpOk Sp w__5 ∧
∃ G_t41 : Sl → World → Prop, Kept Sp G_t41 ∧
∃ G_t44 : Sl → World → Prop, Kept Sp G_t44 ∧
∃ G_t45 : Int → World → Prop, Kept Sp G_t45 ∧
(∀ w__6, Sp w__5 w__6 → RunT (.o (.lf .sl)) P0 (Instr.sliceAt 42 t30.v (some (.int .i64 n)) none none) w__6 fun (t41 : Sl) w__7 =>
GK (.o (.lf .sl)) Sp w__6 G_t41 t41.v w__7) ∧
∀ (t41_1 : Sl), (∀ w__8, Sp w__5 w__8 → RunT (.o (.lf .sl)) P0 (Instr.sliceAt 42 t30.v none (some (.int .i64 n)) none) w__8 fun (t44 : Sl) w__9 =>
GK (.o (.lf .sl)) Sp w__8 G_t44 t44.v w__9) ∧
∀ (t44_1 : Sl), (∀ w__10, Sp w__5 w__10 → G_t41 t41_1 w__10 → G_t44 t44_1 w__10 → RunT (.o (.lf (.i .i64))) P0 (Builtin.copy_ #[42, 42] 3 #[t41_1.v, t44_1.v]) w__10 fun (t45 : Int) w__11 =>
GK (.o (.lf (.i .i64))) Sp w__10 G_t45 (.int .i64 t45) w__11) ∧
∀ (t45_1 : Int), ∀ w__12, Sp w__5 w__12 → G_t41 t41_1 w__12 → G_t44 t44_1 w__12 → G_t45 t45_1 w__12 → 
(I (IntKind.wrap .i64 (n + t45_1)) w__12 ∧ M (IntKind.wrap .i64 (n + t45_1)) w__12 < M n w__5)) ∧
((decide ((n : Int) < ((t30.n : Nat) : Int))) = false → K t30 w__5))))
theorem slices.Repeat_Range.ok {x : Sl} {count : Int} {w : World} {K : Sl → World → Prop} (h : slices.Repeat_Range.vc x count w K) : CallT (.o (.lf .sl)) P0 19 [x.v, (.int .i64 count)] w K :=
  call_of Try.func19 rfl rfl (pl := slices.Repeat_Range.pl) (show VC P0 Try.f19 slices.Repeat_Range.pl (.o (.lf .sl)) [x.v, (.int .i64 count)] w K noP from Eq.mp (by kernel_rfl) h)
/- spec.l4Bytes -/
def spec.l4Bytes.pl : Pl := (.s (.r (D 1)) (.s (.r (D 2)) (.s (.s (.r (D 1)) (.b (.l [(0, (.i .i64)), (5, .sl), (6, (.i .i64))] (.s (.s (.r (D 3)) (.c .z .z)) (.s (.b (.s (.r [.d, .d, .d, .d, .d, (.t (.o (.lf .sl))), .d]) (.r (D 3)))) (.r (D 3))))))) (.s (.r [.d, (.t (.o (.lf .s))), .d]) .z))))
def spec.l4Bytes.vc (n : Int) (size : Int) (w : World) (K : ByteArray → World → Prop) : Prop :=
Nw #[] 5 w fun a_t7 w_ =>
∃ (I : Int → Sl → Int → World → Prop) (M : Int → Sl → Int → World → Nat),
I n ⟨(some a_t7), 0, 0⟩ 0 w_ ∧
(∀ (n_1 : Int) (out : Sl) (i : Int) w__1, I n_1 out i w__1 → ∀ _ : Nat → Value,
((decide ((i : Int) < size)) = true → Nw #[(.int .u8 (IntKind.wrap .u8 (iAnd .i64 n_1 255)))] 5 w__1 fun a_t17 w__2 =>
RunT (.o (.lf .sl)) P0 (Builtin.append_ #[22, 22] 22 #[out.v, (.slice (some a_t17) 1 1)]) w__2 fun (t18 : Sl) w__3 =>
(0 : Int) ≤ 8 ∧ (I (Int.fdiv n_1 (2 ^ (min (Int.toNat 8) (IntKind.bits .i64)))) t18 (IntKind.wrap .i64 (i + 1)) w__3 ∧ M (Int.fdiv n_1 (2 ^ (min (Int.toNat 8) (IntKind.bits .i64)))) t18 (IntKind.wrap .i64 (i + 1)) w__3 < M n_1 out i w__1)) ∧
((decide ((i : Int) < size)) = false → RunT (.o (.lf .s)) P0 (convert 22 9 out.v) w__1 fun (t22 : ByteArray) w__4 =>
K t22 w__4))
theorem spec.l4Bytes.ok {n : Int} {size : Int} {w : World} {K : ByteArray → World → Prop} (h : spec.l4Bytes.vc n size w K) : CallT (.o (.lf .s)) P0 94 [(.int .i64 n), (.int .i64 size)] w K :=
  call_of Try.func94 rfl rfl (pl := spec.l4Bytes.pl) (show VC P0 Try.f94 spec.l4Bytes.pl (.o (.lf .s)) [(.int .i64 n), (.int .i64 size)] w K noP from Eq.mp (by kernel_rfl) h)
/- spec.l3Zero -/
def spec.l3Zero.pl : Pl := (.s (.r (D 1)) (.s (.r [.d, (.t (.o (.lf .sl))), (.t (.o (.lf .s))), .d]) .z))
def spec.l3Zero.vc (n : Int) (w : World) (K : ByteArray → World → Prop) : Prop :=
RunT (.o (.lf .sl)) P0 (Instr.makeSlice 22 (.int .i64 n) (.int .i64 n)) w fun (t4 : Sl) w_ =>
RunT (.o (.lf .s)) P0 (convert 22 9 t4.v) w_ fun (t5 : ByteArray) w__1 =>
K t5 w__1
theorem spec.l3Zero.ok {n : Int} {w : World} {K : ByteArray → World → Prop} (h : spec.l3Zero.vc n w K) : CallT (.o (.lf .s)) P0 128 [(.int .i64 n)] w K :=
  call_of Try.func128 rfl rfl (pl := spec.l3Zero.pl) (show VC P0 Try.f128 spec.l3Zero.pl (.o (.lf .s)) [(.int .i64 n)] w K noP from Eq.mp (by kernel_rfl) h)
/- spec.l3Shape -/
def spec.l3Shape.pl : Pl := (.s (.r (D 2)) (.s (.r [.d, (.l (.lf (.i .i64))), (.c (.o (.lf .b))), (.sp .d), .d, (.l (.lf (.i .i64))), (.c (.o (.lf .b))), .d, (.sp .d), .d, (.l (.lf (.i .i64))), (.c (.o (.lf .b))), .d, (.sp .d), .d, (.l (.lf .sl)), .d, .d, (.l (.lf .sl)), .d, .d, .d, (.sp .d), .d, (.l (.lf .sl)), .d, .d, (.l (.lf (.i .i64))), .d, .d, .d]) .z))
def spec.l3Shape.vc (m : Tup [(.i .i64), (.i .i64), (.i .i64), .sl, .sl]) (w : World) (K : Bool → World → Prop) : Prop :=
Nw (Tup.cells [(.i .i64), (.i .i64), (.i .i64), .sl, .sl] m).toArray 107 w fun a_m w_ =>
Ld (.i .i64) (Addr.add a_m 0) w_ fun (t4 : Int) w__1 =>
CallT (.o (.lf .b)) P0 67 [(.int .i64 t4), (.int .i64 1), (.int .i64 2)] w__1 fun (t5 : Bool) w__2 =>
(t5 = true → Ld (.i .i64) (Addr.add a_m 1) w__2 fun (t8 : Int) w__3 =>
CallT (.o (.lf .b)) P0 67 [(.int .i64 t8), (.int .i64 1), (.int .i64 8)] w__3 fun (t9 : Bool) w__4 =>
(t9 = true → Ld (.i .i64) (Addr.add a_m 2) w__4 fun (t13 : Int) w__5 =>
CallT (.o (.lf .b)) P0 67 [(.int .i64 t13), (.int .i64 1), (.int .i64 8)] w__5 fun (t14 : Bool) w__6 =>
(t14 = true → Ld .sl (Addr.add a_m 3) w__6 fun (t18 : Sl) w__7 =>
Ld .sl (Addr.add a_m 4) w__7 fun (t21 : Sl) w__8 =>
(((((t18.n : Nat) : Int) : Int) == ((t21.n : Nat) : Int)) = true → Ld .sl (Addr.add a_m 3) w__8 fun (t27 : Sl) w__9 =>
Ld (.i .i64) (Addr.add a_m 2) w__9 fun (t30 : Int) w__10 =>
K (decide ((((t27.n : Nat) : Int) : Int) ≤ t30)) w__10) ∧
(((((t18.n : Nat) : Int) : Int) == ((t21.n : Nat) : Int)) = false → K false w__8)) ∧
(t14 = false → K false w__6)) ∧
(t9 = false → K false w__4)) ∧
(t5 = false → K false w__2)
theorem spec.l3Shape.ok {m : Tup [(.i .i64), (.i .i64), (.i .i64), .sl, .sl]} {w : World} {K : Bool → World → Prop} (h : spec.l3Shape.vc m w K) : CallT (.o (.lf .b)) P0 129 [(.agg (Tup.cells [(.i .i64), (.i .i64), (.i .i64), .sl, .sl] m).toArray)] w K :=
  call_of Try.func129 rfl rfl (pl := spec.l3Shape.pl) (show VC P0 Try.f129 spec.l3Shape.pl (.o (.lf .b)) [(.agg (Tup.cells [(.i .i64), (.i .i64), (.i .i64), .sl, .sl] m).toArray)] w K noP from Eq.mp (by kernel_rfl) h)
/- spec.l3Ok -/
def spec.l3Ok.pl : Pl := (.s (.r (D 2)) (.j [] (.s (.r [(.l (.ag [(.i .i64), (.i .i64), (.i .i64), .sl, .sl])), (.c (.o (.lf .b))), .d, (.sp .d), .d, (.l (.lf (.i .i64))), .d, (.sp .d), .d, (.l (.lf .sl)), .d, .d, (.l (.lf (.i .i64))), .d, .d, .d]) (.c (.s (.r (D 1)) .z) .z)) (.s (.s (.r (D 1)) (.b (.l [(3, (.i .i64))] (.s (.s (.r [.d, .d, (.l (.lf .sl)), .d, .d]) (.c .z .z)) (.s (.b (.j [] (.s (.r [.d, (.l (.lf .sl)), .d, .d, (.l (.lf .s)), .d, .d, (.l (.lf (.i .i64))), .d, (.sp .d), .d, (.l (.lf .sl)), .d, .d, (.l (.lf (.i .i64))), (.c (.o (.lf (.i .i64)))), (.c (.o (.lf .b))), .d, .d, (.sp .d), .d, (.l (.lf (.i .i64))), .d, (.sp .d), .d, (.l (.lf .sl)), .d, .d, (.l (.lf (.i .i64))), .d, .d, .d, .d]) (.c (.s (.r (D 1)) .z) .z)) (.s (.r (D 1)) (.b (.l [(4, (.i .i64))] (.s (.s (.r (D 3)) (.c .z .z)) (.s (.b (.s (.r [.d, (.l (.lf .sl)), .d, .d, (.l (.lf (.i .i64))), .d, (.l (.lf .sl)), .d, .d, (.l (.lf (.i .i64))), .d]) (.c (.s (.r (D 1)) .z) .z))) (.r (D 3))))))))) (.r (D 3))))))) (.s (.r (D 1)) .z))))
def spec.l3Ok.vc (m : Tup [(.i .i64), (.i .i64), (.i .i64), .sl, .sl]) (w : World) (K : Bool → World → Prop) : Prop :=
Nw (Tup.cells [(.i .i64), (.i .i64), (.i .i64), .sl, .sl] m).toArray 107 w fun a_m w_ =>
∃ J : World → Prop,
(LdA [(.i .i64), (.i .i64), (.i .i64), .sl, .sl] a_m w_ fun (t5 : Tup [(.i .i64), (.i .i64), (.i .i64), .sl, .sl]) w__1 =>
CallT (.o (.lf .b)) P0 129 [(.agg (Tup.cells [(.i .i64), (.i .i64), (.i .i64), .sl, .sl] t5).toArray)] w__1 fun (t6 : Bool) w__2 =>
((!t6) = true → K false w__2) ∧
((!t6) = false → Ld (.i .i64) (Addr.add a_m 0) w__2 fun (t10 : Int) w__3 =>
(((t10 : Int) == 1) = true → Ld .sl (Addr.add a_m 3) w__3 fun (t14 : Sl) w__4 =>
Ld (.i .i64) (Addr.add a_m 2) w__4 fun (t17 : Int) w__5 =>
(((((t14.n : Nat) : Int) : Int) != t17) = true → K false w__5) ∧
(((((t14.n : Nat) : Int) : Int) != t17) = false → J w__5)) ∧
(((t10 : Int) == 1) = false → J w__3))) ∧
(∀  w__6, J w__6 → ∀ _ : Nat → Value,
∃ (I : Int → World → Prop) (M : Int → World → Nat),
I 0 w__6 ∧
(∀ (i : Int) w__7, I i w__7 → ∀ _ : Nat → Value,
Ld .sl (Addr.add a_m 3) w__7 fun (t23 : Sl) w__8 =>
((decide ((i : Int) < ((t23.n : Nat) : Int))) = true → ∃ J_1 : World → Prop,
(QLd .sl (Addr.add a_m 4) (fun w' => Below (World.heap w__8).size w__8 w') fun (t29 : Sl) =>
QIx t29.a t29.n i 1 fun a_t31 =>
QLd .s a_t31 (fun w' => Below (World.heap w__8).size w__8 w') fun (t32 : ByteArray) =>
QLd (.i .i64) (Addr.add a_m 1) (fun w' => Below (World.heap w__8).size w__8 w') fun (t35 : Int) =>
((((((ByteArray.size t32) : Nat) : Int) : Int) != t35) = true → ∀ w__9, Below (World.heap w__8).size w__8 w__9 →
K false w__9) ∧
((((((ByteArray.size t32) : Nat) : Int) : Int) != t35) = false → QLd .sl (Addr.add a_m 3) (fun w' => Below (World.heap w__8).size w__8 w') fun (t39 : Sl) =>
QIx t39.a t39.n i 1 fun a_t41 =>
QLd (.i .i64) a_t41 (fun w' => Below (World.heap w__8).size w__8 w') fun (t42 : Int) =>
QCl (.o (.lf (.i .i64))) P0 48 [] (fun w' => Below (World.heap w__8).size w__8 w') fun (t43 : Int) =>
QCl (.o (.lf .b)) P0 67 [(.int .i64 t42), (.int .i64 0), (.int .i64 t43)] (fun w' => Below (World.heap w__8).size w__8 w') fun (t44 : Bool) =>
((!t44) = true → ∀ w__9, Below (World.heap w__8).size w__8 w__9 →
K false w__9) ∧
((!t44) = false → QLd (.i .i64) (Addr.add a_m 0) (fun w' => Below (World.heap w__8).size w__8 w') fun (t49 : Int) =>
(((t49 : Int) == 1) = true → QLd .sl (Addr.add a_m 3) (fun w' => Below (World.heap w__8).size w__8 w') fun (t53 : Sl) =>
QIx t53.a t53.n i 1 fun a_t55 =>
QLd (.i .i64) a_t55 (fun w' => Below (World.heap w__8).size w__8 w') fun (t56 : Int) =>
∀ w__9, Below (World.heap w__8).size w__8 w__9 →
(((t56 : Int) != i) = true → K false w__9) ∧
(((t56 : Int) != i) = false → J_1 w__9)) ∧
(((t49 : Int) == 1) = false → ∀ w__9, Below (World.heap w__8).size w__8 w__9 →
J_1 w__9)))) ∧
(∀  w__10, J_1 w__10 → ∀ _ : Nat → Value,
∃ (I_1 : Int → World → Prop) (M_1 : Int → World → Nat),
I_1 0 w__10 ∧
(∀ (k : Int) w__11, I_1 k w__11 → ∀ _ : Nat → Value,
((decide ((k : Int) < i)) = true → QLd .sl (Addr.add a_m 3) (fun w' => Below (World.heap w__11).size w__11 w') fun (t67 : Sl) =>
QIx t67.a t67.n k 1 fun a_t69 =>
QLd (.i .i64) a_t69 (fun w' => Below (World.heap w__11).size w__11 w') fun (t70 : Int) =>
QLd .sl (Addr.add a_m 3) (fun w' => Below (World.heap w__11).size w__11 w') fun (t72 : Sl) =>
QIx t72.a t72.n i 1 fun a_t74 =>
QLd (.i .i64) a_t74 (fun w' => Below (World.heap w__11).size w__11 w') fun (t75 : Int) =>
∀ w__12, Below (World.heap w__11).size w__11 w__12 →
(((t70 : Int) == t75) = true → K false w__12) ∧
(((t70 : Int) == t75) = false → (I_1 (IntKind.wrap .i64 (k + 1)) w__12 ∧ M_1 (IntKind.wrap .i64 (k + 1)) w__12 < M_1 k w__11))) ∧
((decide ((k : Int) < i)) = false → (I (IntKind.wrap .i64 (i + 1)) w__11 ∧ M (IntKind.wrap .i64 (i + 1)) w__11 < M i w__7))))) ∧
((decide ((i : Int) < ((t23.n : Nat) : Int))) = false → K true w__8)))
theorem spec.l3Ok.ok {m : Tup [(.i .i64), (.i .i64), (.i .i64), .sl, .sl]} {w : World} {K : Bool → World → Prop} (h : spec.l3Ok.vc m w K) : CallT (.o (.lf .b)) P0 105 [(.agg (Tup.cells [(.i .i64), (.i .i64), (.i .i64), .sl, .sl] m).toArray)] w K :=
  call_of Try.func105 rfl rfl (pl := spec.l3Ok.pl) (show VC P0 Try.f105 spec.l3Ok.pl (.o (.lf .b)) [(.agg (Tup.cells [(.i .i64), (.i .i64), (.i .i64), .sl, .sl] m).toArray)] w K noP from Eq.mp (by kernel_rfl) h)
/- spec.l3New -/
def spec.l3New.pl : Pl := (.s (.r (D 1)) (.s (.r (D 6)) (.s (.s (.r (D 2)) (.c (.s (.r (D 1)) (.b (.l [(8, (.i .i64))] (.s (.s (.r (D 3)) (.c .z .z)) (.s (.b (.s (.r [.d, (.l (.lf .sl)), .d, .d, (.t (.o (.lf .sl))), .d, .d]) (.x [(.q, []), ((.g (.o (.lf .sl)) (.l (.lf .sl))), []), (.q, []), ((.g (.o (.lf .s)) (.c (.o (.lf .s)))), []), ((.g (.o (.lf .sl)) .d), [3]), ((.h (.o (.lf .sl)) (.t (.o (.lf .sl)))), [1, 4]), (.q, [])] [.d]))) (.r (D 3))))))) .z)) (.s (.r [(.l (.ag [(.i .i64), (.i .i64), (.i .i64), .sl, .sl])), .d]) .z))))
def spec.l3New.vc (kind : Int) (size : Int) (room : Int) (w : World) (K : Tup [(.i .i64), (.i .i64), (.i .i64), .sl, .sl] → World → Prop) : Prop :=
Nw (zc P0 107) 107 w fun a_t6 w_ =>
Nw (zc P0 107) 107 w_ fun a_m w__1 =>
StA P0 a_m [(.int .i64 kind), (.int .i64 size), (.int .i64 room), (.slice none 0 0), (.slice none 0 0)] w__1 fun w__2 =>
(((kind : Int) == 1) = true → ∃ (I : Int → World → Prop) (M : Int → World → Nat),
I 0 w__2 ∧
(∀ (i : Int) w__3, I i w__3 → ∀ _ : Nat → Value,
((decide ((i : Int) < room)) = true → Ld .sl (Addr.add a_m 3) w__3 fun (t21 : Sl) w__4 =>
Nw #[(.int .i64 i)] 3 w__4 fun a_t23 w__5 =>
RunT (.o (.lf .sl)) P0 (Builtin.append_ #[59, 59] 59 #[t21.v, (.slice (some a_t23) 1 1)]) w__5 fun (t24 : Sl) w__6 =>
St (Addr.add a_m 3) t24.v w__6 fun w__7 =>
∃ Sp : World → World → Prop, SpOk Sp w__7 ∧
∃ Sq : World → World → Prop, QOk Sp Sq ∧
∃ N : World → Prop, NOk N w__7 ∧ KeptN Sq N ∧
∃ G_t27 : Sl → World → Prop, Kept Sp G_t27 ∧
∃ G_t29 : ByteArray → World → Prop, Kept Sp G_t29 ∧
∃ G_t30 : Sl → World → Prop, Kept Sp G_t30 ∧
∃ G_t31 : Sl → World → Prop, Kept Sq G_t31 ∧
(∀ w__8, Sp w__7 w__8 → Ld .sl (Addr.add a_m 4) w__8 fun (t27 : Sl) w__9 =>
GK (.o (.lf .sl)) (Sb (World.heap w__7).size Sq) w__8 G_t27 t27.v w__9) ∧
∀ (t27_1 : Sl), (∀ w__10, Sp w__7 w__10 → CallT (.o (.lf .s)) P0 128 [(.int .i64 size)] w__10 fun (t29 : ByteArray) w__11 =>
GK (.o (.lf .s)) (Sb (World.heap w__7).size Sq) w__10 G_t29 (.string t29) w__11) ∧
∀ (t29_1 : ByteArray), (∀ w__12, Sp w__7 w__12 → G_t29 t29_1 w__12 → Nw #[(.string t29_1)] 9 w__12 fun a_t30 w__13 =>
GK (.o (.lf .sl)) (Sb (World.heap w__7).size Sq) w__12 G_t30 (.slice (some a_t30) 1 1) w__13) ∧
∀ (t30 : Sl), (∀ w__14, Sp w__7 w__14 → N w__14 → G_t27 t27_1 w__14 → G_t30 t30 w__14 → RunT (.o (.lf .sl)) P0 (Builtin.append_ #[102, 102] 102 #[t27_1.v, t30.v]) w__14 fun (t31 : Sl) w__15 =>
GK (.o (.lf .sl)) (Sb (World.heap w__7).size Sp) w__14 G_t31 t31.v w__15) ∧
∀ (t31_1 : Sl), ∀ w__16, Sp w__7 w__16 → G_t27 t27_1 w__16 → G_t29 t29_1 w__16 → G_t30 t30 w__16 → G_t31 t31_1 w__16 → BxD (World.heap w__7).size w__16 [] → 
St (Addr.add a_m 4) t31_1.v w__16 fun w__17 =>
(I (IntKind.wrap .i64 (i + 1)) w__17 ∧ M (IntKind.wrap .i64 (i + 1)) w__17 < M i w__3)) ∧
((decide ((i : Int) < room)) = false → LdA [(.i .i64), (.i .i64), (.i .i64), .sl, .sl] a_m w__3 fun (t33 : Tup [(.i .i64), (.i .i64), (.i .i64), .sl, .sl]) w__18 =>
StA P0 a_t6 (Tup.cells [(.i .i64), (.i .i64), (.i .i64), .sl, .sl] t33) w__18 fun w__19 =>
LdA [(.i .i64), (.i .i64), (.i .i64), .sl, .sl] a_t6 w__19 fun r w__20 =>
K r w__19))) ∧
(((kind : Int) == 1) = false → LdA [(.i .i64), (.i .i64), (.i .i64), .sl, .sl] a_m w__2 fun (t33_1 : Tup [(.i .i64), (.i .i64), (.i .i64), .sl, .sl]) w__21 =>
StA P0 a_t6 (Tup.cells [(.i .i64), (.i .i64), (.i .i64), .sl, .sl] t33_1) w__21 fun w__22 =>
LdA [(.i .i64), (.i .i64), (.i .i64), .sl, .sl] a_t6 w__22 fun r_1 w__23 =>
K r_1 w__22)
theorem spec.l3New.ok {kind : Int} {size : Int} {room : Int} {w : World} {K : Tup [(.i .i64), (.i .i64), (.i .i64), .sl, .sl] → World → Prop} (h : spec.l3New.vc kind size room w K) : CallT (.o (.ag [(.i .i64), (.i .i64), (.i .i64), .sl, .sl])) P0 104 [(.int .i64 kind), (.int .i64 size), (.int .i64 room)] w K :=
  call_of Try.func104 rfl rfl (pl := spec.l3New.pl) (show VC P0 Try.f104 spec.l3New.pl (.o (.ag [(.i .i64), (.i .i64), (.i .i64), .sl, .sl])) [(.int .i64 kind), (.int .i64 size), (.int .i64 room)] w K noP from Eq.mp (by kernel_rfl) h)
/- spec.TableNew -/
def spec.TableNew.pl : Pl := (.s (.r (D 1)) (.s (.s (.r [.d, (.c (.o (.lf .b))), .d, (.sp .d), .d, (.c (.o (.lf .b))), .d, .d, (.sp .d), .d, (.c (.o (.lf .b))), .d, .d]) (.c (.s (.r (D 2)) .z) .z)) (.s (.r [.d, .d, .d, (.c (.o (.ag [(.i .i64), (.i .i64), (.i .i64), .sl, .sl]))), .d]) .z)))
def spec.TableNew.vc (kind : Int) (size : Int) (room : Int) (w : World) (K : Tup [(.i .i64), (.i .i64), (.i .i64), .sl, .sl] → World → Prop) : Prop :=
Nw (zc P0 107) 107 w fun a_t6 w_ =>
CallT (.o (.lf .b)) P0 67 [(.int .i64 kind), (.int .i64 1), (.int .i64 2)] w_ fun (t8 : Bool) w__1 =>
((!t8) = true → StA P0 a_t6 [(.int .i64 0), (.int .i64 0), (.int .i64 0), (.slice none 0 0), (.slice none 0 0)] w__1 fun w__2 =>
LdA [(.i .i64), (.i .i64), (.i .i64), .sl, .sl] a_t6 w__2 fun r w__3 =>
K r w__2) ∧
((!t8) = false → CallT (.o (.lf .b)) P0 67 [(.int .i64 size), (.int .i64 1), (.int .i64 8)] w__1 fun (t12 : Bool) w__4 =>
((!t12) = true → StA P0 a_t6 [(.int .i64 0), (.int .i64 0), (.int .i64 0), (.slice none 0 0), (.slice none 0 0)] w__4 fun w__5 =>
LdA [(.i .i64), (.i .i64), (.i .i64), .sl, .sl] a_t6 w__5 fun r_1 w__6 =>
K r_1 w__5) ∧
((!t12) = false → CallT (.o (.lf .b)) P0 67 [(.int .i64 room), (.int .i64 1), (.int .i64 8)] w__4 fun (t17 : Bool) w__7 =>
((!t17) = true → StA P0 a_t6 [(.int .i64 0), (.int .i64 0), (.int .i64 0), (.slice none 0 0), (.slice none 0 0)] w__7 fun w__8 =>
LdA [(.i .i64), (.i .i64), (.i .i64), .sl, .sl] a_t6 w__8 fun r_2 w__9 =>
K r_2 w__8) ∧
((!t17) = false → CallT (.o (.ag [(.i .i64), (.i .i64), (.i .i64), .sl, .sl])) P0 104 [(.int .i64 kind), (.int .i64 size), (.int .i64 room)] w__7 fun (t24 : Tup [(.i .i64), (.i .i64), (.i .i64), .sl, .sl]) w__10 =>
StA P0 a_t6 (Tup.cells [(.i .i64), (.i .i64), (.i .i64), .sl, .sl] t24) w__10 fun w__11 =>
LdA [(.i .i64), (.i .i64), (.i .i64), .sl, .sl] a_t6 w__11 fun r_3 w__12 =>
K r_3 w__11)))
theorem spec.TableNew.ok {kind : Int} {size : Int} {room : Int} {w : World} {K : Tup [(.i .i64), (.i .i64), (.i .i64), .sl, .sl] → World → Prop} (h : spec.TableNew.vc kind size room w K) : CallT (.o (.ag [(.i .i64), (.i .i64), (.i .i64), .sl, .sl])) P0 92 [(.int .i64 kind), (.int .i64 size), (.int .i64 room)] w K :=
  call_of Try.func92 rfl rfl (pl := spec.TableNew.pl) (show VC P0 Try.f92 spec.TableNew.pl (.o (.ag [(.i .i64), (.i .i64), (.i .i64), .sl, .sl])) [(.int .i64 kind), (.int .i64 size), (.int .i64 room)] w K noP from Eq.mp (by kernel_rfl) h)
/- spec.l3Copy -/
def spec.l3Copy.pl : Pl := (.s (.r (D 2)) (.s (.r [(.l (.ag [(.i .i64), (.i .i64), (.i .i64), .sl, .sl])), .d, .d]) (.s (.r [.d, .d, (.l (.lf .sl)), (.t (.o (.lf .sl))), .d, .d]) (.s (.r [.d, .d, (.l (.lf .sl)), (.t (.o (.lf .sl))), .d, .d]) (.s (.r [(.l (.ag [(.i .i64), (.i .i64), (.i .i64), .sl, .sl])), .d]) .z)))))
def spec.l3Copy.vc (m : Tup [(.i .i64), (.i .i64), (.i .i64), .sl, .sl]) (w : World) (K : Tup [(.i .i64), (.i .i64), (.i .i64), .sl, .sl] → World → Prop) : Prop :=
Nw (Tup.cells [(.i .i64), (.i .i64), (.i .i64), .sl, .sl] m).toArray 107 w fun a_m w_ =>
Nw (zc P0 107) 107 w_ fun a_t2 w__1 =>
LdA [(.i .i64), (.i .i64), (.i .i64), .sl, .sl] a_m w__1 fun (t4 : Tup [(.i .i64), (.i .i64), (.i .i64), .sl, .sl]) w__2 =>
Nw (zc P0 107) 107 w__2 fun a_out w__3 =>
StA P0 a_out (Tup.cells [(.i .i64), (.i .i64), (.i .i64), .sl, .sl] t4) w__3 fun w__4 =>
Nw #[] 3 w__4 fun a_t5 w__5 =>
Ld .sl (Addr.add a_m 3) w__5 fun (t7 : Sl) w__6 =>
RunT (.o (.lf .sl)) P0 (Builtin.append_ #[59, 59] 59 #[(.slice (some a_t5) 0 0), t7.v]) w__6 fun (t8 : Sl) w__7 =>
St (Addr.add a_out 3) t8.v w__7 fun w__8 =>
Nw #[] 9 w__8 fun a_t10 w__9 =>
Ld .sl (Addr.add a_m 4) w__9 fun (t12 : Sl) w__10 =>
RunT (.o (.lf .sl)) P0 (Builtin.append_ #[102, 102] 102 #[(.slice (some a_t10) 0 0), t12.v]) w__10 fun (t13 : Sl) w__11 =>
St (Addr.add a_out 4) t13.v w__11 fun w__12 =>
LdA [(.i .i64), (.i .i64), (.i .i64), .sl, .sl] a_out w__12 fun (t15 : Tup [(.i .i64), (.i .i64), (.i .i64), .sl, .sl]) w__13 =>
StA P0 a_t2 (Tup.cells [(.i .i64), (.i .i64), (.i .i64), .sl, .sl] t15) w__13 fun w__14 =>
LdA [(.i .i64), (.i .i64), (.i .i64), .sl, .sl] a_t2 w__14 fun r w__15 =>
K r w__14
theorem spec.l3Copy.ok {m : Tup [(.i .i64), (.i .i64), (.i .i64), .sl, .sl]} {w : World} {K : Tup [(.i .i64), (.i .i64), (.i .i64), .sl, .sl] → World → Prop} (h : spec.l3Copy.vc m w K) : CallT (.o (.ag [(.i .i64), (.i .i64), (.i .i64), .sl, .sl])) P0 106 [(.agg (Tup.cells [(.i .i64), (.i .i64), (.i .i64), .sl, .sl] m).toArray)] w K :=
  call_of Try.func106 rfl rfl (pl := spec.l3Copy.pl) (show VC P0 Try.f106 spec.l3Copy.pl (.o (.ag [(.i .i64), (.i .i64), (.i .i64), .sl, .sl])) [(.agg (Tup.cells [(.i .i64), (.i .i64), (.i .i64), .sl, .sl] m).toArray)] w K noP from Eq.mp (by kernel_rfl) h)
/- spec.l3At -/
def spec.l3At.pl : Pl := (.s (.r (D 2)) (.s (.s (.r (D 1)) (.b (.l [(5, (.i .i64))] (.s (.s (.r [.d, .d, (.l (.lf .sl)), .d, .d]) (.c .z .z)) (.s (.b (.s (.r [.d, (.l (.lf .sl)), .d, .d, (.l (.lf (.i .i64))), .d, .d]) (.c (.s (.r (D 2)) .z) .z))) (.r (D 3))))))) (.s (.r (D 1)) .z)))
def spec.l3At.vc (m : Tup [(.i .i64), (.i .i64), (.i .i64), .sl, .sl]) (key : Int) (w : World) (K : Int → World → Prop) : Prop :=
Nw (Tup.cells [(.i .i64), (.i .i64), (.i .i64), .sl, .sl] m).toArray 107 w fun a_m w_ =>
∃ (I : Int → World → Prop) (M : Int → World → Nat),
I 0 w_ ∧
(∀ (i : Int) w__1, I i w__1 → ∀ _ : Nat → Value,
Ld .sl (Addr.add a_m 3) w__1 fun (t8 : Sl) w__2 =>
((decide ((i : Int) < ((t8.n : Nat) : Int))) = true → Ld .sl (Addr.add a_m 3) w__2 fun (t14 : Sl) w__3 =>
Ix t14.a t14.n i 1 w__3 fun a_t16 w__4 =>
Ld (.i .i64) a_t16 w__4 fun (t17 : Int) w__5 =>
(((t17 : Int) == key) = true → K i w__5) ∧
(((t17 : Int) == key) = false → (I (IntKind.wrap .i64 (i + 1)) w__5 ∧ M (IntKind.wrap .i64 (i + 1)) w__5 < M i w__1))) ∧
((decide ((i : Int) < ((t8.n : Nat) : Int))) = false → K (-1) w__2))
theorem spec.l3At.ok {m : Tup [(.i .i64), (.i .i64), (.i .i64), .sl, .sl]} {key : Int} {w : World} {K : Int → World → Prop} (h : spec.l3At.vc m key w K) : CallT (.o (.lf (.i .i64))) P0 130 [(.agg (Tup.cells [(.i .i64), (.i .i64), (.i .i64), .sl, .sl] m).toArray), (.int .i64 key)] w K :=
  call_of Try.func130 rfl rfl (pl := spec.l3At.pl) (show VC P0 Try.f130 spec.l3At.pl (.o (.lf (.i .i64))) [(.agg (Tup.cells [(.i .i64), (.i .i64), (.i .i64), .sl, .sl] m).toArray), (.int .i64 key)] w K noP from Eq.mp (by kernel_rfl) h)
/- spec.l3Put -/
def spec.l3Put.pl : Pl := (.s (.r (D 3)) (.s (.r [(.l (.ag [(.i .i64), (.i .i64), (.i .i64), .sl, .sl])), .d, (.c (.o (.lf (.i .i64)))), .d]) (.s (.s (.r (D 2)) (.c (.s (.r [.d, (.l (.lf .sl)), .d, .d, .d, .d]) (.s (.r [(.l (.ag [(.i .i64), (.i .i64), (.i .i64), .sl, .sl])), .d, .d]) .z)) .z)) (.s (.s (.r [.d, (.l (.lf (.i .i64))), .d]) (.c (.s (.r [(.l (.ag [(.i .i64), (.i .i64), (.i .i64), .sl, .sl])), .d, .d]) .z) .z)) (.s (.s (.r [.d, (.l (.lf .sl)), .d, .d, (.l (.lf (.i .i64))), .d]) (.c (.s (.r [(.l (.ag [(.i .i64), (.i .i64), (.i .i64), .sl, .sl])), .d, .d]) .z) .z)) (.s (.r [.d, (.l (.lf .sl)), .d, .d, (.t (.o (.lf .sl))), .d, .d]) (.s (.r [.d, (.l (.lf .sl)), .d, .d, (.t (.o (.lf .sl))), .d, .d]) (.s (.r [(.l (.ag [(.i .i64), (.i .i64), (.i .i64), .sl, .sl])), .d, .d]) .z))))))))
def spec.l3Put.vc (m : Tup [(.i .i64), (.i .i64), (.i .i64), .sl, .sl]) (key : Int) (val : ByteArray) (w : World) (K : (Tup [(.i .i64), (.i .i64), (.i .i64), .sl, .sl]) × (Int) × Unit → World → Prop) : Prop :=
Nw (Tup.cells [(.i .i64), (.i .i64), (.i .i64), .sl, .sl] m).toArray 107 w fun a_m w_ =>
Nw (zc P0 107) 107 w_ fun a_t6 w__1 =>
LdA [(.i .i64), (.i .i64), (.i .i64), .sl, .sl] a_m w__1 fun (t9 : Tup [(.i .i64), (.i .i64), (.i .i64), .sl, .sl]) w__2 =>
CallT (.o (.lf (.i .i64))) P0 130 [(.agg (Tup.cells [(.i .i64), (.i .i64), (.i .i64), .sl, .sl] t9).toArray), (.int .i64 key)] w__2 fun (t11 : Int) w__3 =>
((decide ((t11 : Int) ≥ 0)) = true → Ld .sl (Addr.add a_m 4) w__3 fun (t15 : Sl) w__4 =>
Ix t15.a t15.n t11 1 w__4 fun a_t18 w__5 =>
St a_t18 (.string val) w__5 fun w__6 =>
LdA [(.i .i64), (.i .i64), (.i .i64), .sl, .sl] a_m w__6 fun (t19 : Tup [(.i .i64), (.i .i64), (.i .i64), .sl, .sl]) w__7 =>
StA P0 a_t6 (Tup.cells [(.i .i64), (.i .i64), (.i .i64), .sl, .sl] t19) w__7 fun w__8 =>
LdA [(.i .i64), (.i .i64), (.i .i64), .sl, .sl] a_t6 w__8 fun r w__9 =>
K (r, (0, ())) w__8) ∧
((decide ((t11 : Int) ≥ 0)) = false → Ld (.i .i64) (Addr.add a_m 0) w__3 fun (t21 : Int) w__10 =>
(((t21 : Int) == 1) = true → LdA [(.i .i64), (.i .i64), (.i .i64), .sl, .sl] a_m w__10 fun (t23 : Tup [(.i .i64), (.i .i64), (.i .i64), .sl, .sl]) w__11 =>
StA P0 a_t6 (Tup.cells [(.i .i64), (.i .i64), (.i .i64), .sl, .sl] t23) w__11 fun w__12 =>
LdA [(.i .i64), (.i .i64), (.i .i64), .sl, .sl] a_t6 w__12 fun r_1 w__13 =>
K (r_1, (2, ())) w__12) ∧
(((t21 : Int) == 1) = false → Ld .sl (Addr.add a_m 3) w__10 fun (t25 : Sl) w__14 =>
Ld (.i .i64) (Addr.add a_m 2) w__14 fun (t28 : Int) w__15 =>
((decide ((((t25.n : Nat) : Int) : Int) ≥ t28)) = true → LdA [(.i .i64), (.i .i64), (.i .i64), .sl, .sl] a_m w__15 fun (t30 : Tup [(.i .i64), (.i .i64), (.i .i64), .sl, .sl]) w__16 =>
StA P0 a_t6 (Tup.cells [(.i .i64), (.i .i64), (.i .i64), .sl, .sl] t30) w__16 fun w__17 =>
LdA [(.i .i64), (.i .i64), (.i .i64), .sl, .sl] a_t6 w__17 fun r_2 w__18 =>
K (r_2, (3, ())) w__17) ∧
((decide ((((t25.n : Nat) : Int) : Int) ≥ t28)) = false → Ld .sl (Addr.add a_m 3) w__15 fun (t32 : Sl) w__19 =>
Nw #[(.int .i64 key)] 3 w__19 fun a_t34 w__20 =>
RunT (.o (.lf .sl)) P0 (Builtin.append_ #[59, 59] 59 #[t32.v, (.slice (some a_t34) 1 1)]) w__20 fun (t35 : Sl) w__21 =>
St (Addr.add a_m 3) t35.v w__21 fun w__22 =>
Ld .sl (Addr.add a_m 4) w__22 fun (t38 : Sl) w__23 =>
Nw #[(.string val)] 9 w__23 fun a_t40 w__24 =>
RunT (.o (.lf .sl)) P0 (Builtin.append_ #[102, 102] 102 #[t38.v, (.slice (some a_t40) 1 1)]) w__24 fun (t41 : Sl) w__25 =>
St (Addr.add a_m 4) t41.v w__25 fun w__26 =>
LdA [(.i .i64), (.i .i64), (.i .i64), .sl, .sl] a_m w__26 fun (t43 : Tup [(.i .i64), (.i .i64), (.i .i64), .sl, .sl]) w__27 =>
StA P0 a_t6 (Tup.cells [(.i .i64), (.i .i64), (.i .i64), .sl, .sl] t43) w__27 fun w__28 =>
LdA [(.i .i64), (.i .i64), (.i .i64), .sl, .sl] a_t6 w__28 fun r_3 w__29 =>
K (r_3, (0, ())) w__28)))
theorem spec.l3Put.ok {m : Tup [(.i .i64), (.i .i64), (.i .i64), .sl, .sl]} {key : Int} {val : ByteArray} {w : World} {K : (Tup [(.i .i64), (.i .i64), (.i .i64), .sl, .sl]) × (Int) × Unit → World → Prop} (h : spec.l3Put.vc m key val w K) : CallT (.n [(.ag [(.i .i64), (.i .i64), (.i .i64), .sl, .sl]), (.lf (.i .i64))]) P0 107 [(.agg (Tup.cells [(.i .i64), (.i .i64), (.i .i64), .sl, .sl] m).toArray), (.int .i64 key), (.string val)] w K :=
  call_of Try.func107 rfl rfl (pl := spec.l3Put.pl) (show VC P0 Try.f107 spec.l3Put.pl (.n [(.ag [(.i .i64), (.i .i64), (.i .i64), .sl, .sl]), (.lf (.i .i64))]) [(.agg (Tup.cells [(.i .i64), (.i .i64), (.i .i64), .sl, .sl] m).toArray), (.int .i64 key), (.string val)] w K noP from Eq.mp (by kernel_rfl) h)
/- spec.TablePut -/
def spec.TablePut.pl : Pl := (.s (.r (D 3)) (.s (.s (.r [(.l (.ag [(.i .i64), (.i .i64), (.i .i64), .sl, .sl])), (.c (.o (.lf .b))), .d]) (.c (.s (.r (D 3)) .z) .z)) (.s (.s (.r [.d, (.c (.o (.lf (.i .i64)))), (.c (.o (.lf .b))), .d, (.sp .d), .d, .d, .d, (.l (.lf (.i .i64))), .d, .d]) (.c (.s (.r [(.l (.ag [(.i .i64), (.i .i64), (.i .i64), .sl, .sl])), (.c (.o (.ag [(.i .i64), (.i .i64), (.i .i64), .sl, .sl]))), .d, .d]) .z) .z)) (.s (.r [(.l (.ag [(.i .i64), (.i .i64), (.i .i64), .sl, .sl])), (.c (.o (.ag [(.i .i64), (.i .i64), (.i .i64), .sl, .sl]))), .d, .d, (.c (.n [(.ag [(.i .i64), (.i .i64), (.i .i64), .sl, .sl]), (.lf (.i .i64))])), .d, .d, .d, .d]) .z))))
def spec.TablePut.vc (m : Tup [(.i .i64), (.i .i64), (.i .i64), .sl, .sl]) (key : Int) (val : ByteArray) (w : World) (K : (Tup [(.i .i64), (.i .i64), (.i .i64), .sl, .sl]) × (Int) × Unit → World → Prop) : Prop :=
Nw (Tup.cells [(.i .i64), (.i .i64), (.i .i64), .sl, .sl] m).toArray 107 w fun a_m w_ =>
Nw (zc P0 107) 107 w_ fun a_t6 w__1 =>
LdA [(.i .i64), (.i .i64), (.i .i64), .sl, .sl] a_m w__1 fun (t8 : Tup [(.i .i64), (.i .i64), (.i .i64), .sl, .sl]) w__2 =>
CallT (.o (.lf .b)) P0 105 [(.agg (Tup.cells [(.i .i64), (.i .i64), (.i .i64), .sl, .sl] t8).toArray)] w__2 fun (t9 : Bool) w__3 =>
((!t9) = true → StA P0 a_t6 [(.int .i64 0), (.int .i64 0), (.int .i64 0), (.slice none 0 0), (.slice none 0 0)] w__3 fun w__4 =>
LdA [(.i .i64), (.i .i64), (.i .i64), .sl, .sl] a_t6 w__4 fun r w__5 =>
K (r, (1, ())) w__4) ∧
((!t9) = false → CallT (.o (.lf (.i .i64))) P0 48 [] w__3 fun (t13 : Int) w__6 =>
CallT (.o (.lf .b)) P0 67 [(.int .i64 key), (.int .i64 0), (.int .i64 t13)] w__6 fun (t14 : Bool) w__7 =>
((!t14) = true → LdA [(.i .i64), (.i .i64), (.i .i64), .sl, .sl] a_m w__7 fun (t23 : Tup [(.i .i64), (.i .i64), (.i .i64), .sl, .sl]) w__8 =>
CallT (.o (.ag [(.i .i64), (.i .i64), (.i .i64), .sl, .sl])) P0 106 [(.agg (Tup.cells [(.i .i64), (.i .i64), (.i .i64), .sl, .sl] t23).toArray)] w__8 fun (t24 : Tup [(.i .i64), (.i .i64), (.i .i64), .sl, .sl]) w__9 =>
StA P0 a_t6 (Tup.cells [(.i .i64), (.i .i64), (.i .i64), .sl, .sl] t24) w__9 fun w__10 =>
LdA [(.i .i64), (.i .i64), (.i .i64), .sl, .sl] a_t6 w__10 fun r_1 w__11 =>
K (r_1, (1, ())) w__10) ∧
((!t14) = false → Ld (.i .i64) (Addr.add a_m 1) w__7 fun (t20 : Int) w__12 =>
((((((ByteArray.size val) : Nat) : Int) : Int) != t20) = true → LdA [(.i .i64), (.i .i64), (.i .i64), .sl, .sl] a_m w__12 fun (t23_1 : Tup [(.i .i64), (.i .i64), (.i .i64), .sl, .sl]) w__13 =>
CallT (.o (.ag [(.i .i64), (.i .i64), (.i .i64), .sl, .sl])) P0 106 [(.agg (Tup.cells [(.i .i64), (.i .i64), (.i .i64), .sl, .sl] t23_1).toArray)] w__13 fun (t24_1 : Tup [(.i .i64), (.i .i64), (.i .i64), .sl, .sl]) w__14 =>
StA P0 a_t6 (Tup.cells [(.i .i64), (.i .i64), (.i .i64), .sl, .sl] t24_1) w__14 fun w__15 =>
LdA [(.i .i64), (.i .i64), (.i .i64), .sl, .sl] a_t6 w__15 fun r_2 w__16 =>
K (r_2, (1, ())) w__15) ∧
((((((ByteArray.size val) : Nat) : Int) : Int) != t20) = false → LdA [(.i .i64), (.i .i64), (.i .i64), .sl, .sl] a_m w__12 fun (t25 : Tup [(.i .i64), (.i .i64), (.i .i64), .sl, .sl]) w__17 =>
CallT (.o (.ag [(.i .i64), (.i .i64), (.i .i64), .sl, .sl])) P0 106 [(.agg (Tup.cells [(.i .i64), (.i .i64), (.i .i64), .sl, .sl] t25).toArray)] w__17 fun (t26 : Tup [(.i .i64), (.i .i64), (.i .i64), .sl, .sl]) w__18 =>
CallT (.n [(.ag [(.i .i64), (.i .i64), (.i .i64), .sl, .sl]), (.lf (.i .i64))]) P0 107 [(.agg (Tup.cells [(.i .i64), (.i .i64), (.i .i64), .sl, .sl] t26).toArray), (.int .i64 key), (.string val)] w__18 fun (t29 : (Tup [(.i .i64), (.i .i64), (.i .i64), .sl, .sl]) × (Int) × Unit) w__19 =>
StA P0 a_t6 (Tup.cells [(.i .i64), (.i .i64), (.i .i64), .sl, .sl] t29.1) w__19 fun w__20 =>
LdA [(.i .i64), (.i .i64), (.i .i64), .sl, .sl] a_t6 w__20 fun r_3 w__21 =>
K (r_3, (t29.2.1, ())) w__20)))
theorem spec.TablePut.ok {m : Tup [(.i .i64), (.i .i64), (.i .i64), .sl, .sl]} {key : Int} {val : ByteArray} {w : World} {K : (Tup [(.i .i64), (.i .i64), (.i .i64), .sl, .sl]) × (Int) × Unit → World → Prop} (h : spec.TablePut.vc m key val w K) : CallT (.n [(.ag [(.i .i64), (.i .i64), (.i .i64), .sl, .sl]), (.lf (.i .i64))]) P0 93 [(.agg (Tup.cells [(.i .i64), (.i .i64), (.i .i64), .sl, .sl] m).toArray), (.int .i64 key), (.string val)] w K :=
  call_of Try.func93 rfl rfl (pl := spec.TablePut.pl) (show VC P0 Try.f93 spec.TablePut.pl (.n [(.ag [(.i .i64), (.i .i64), (.i .i64), .sl, .sl]), (.lf (.i .i64))]) [(.agg (Tup.cells [(.i .i64), (.i .i64), (.i .i64), .sl, .sl] m).toArray), (.int .i64 key), (.string val)] w K noP from Eq.mp (by kernel_rfl) h)
/- spec.l20Table -/
def spec.l20Table.pl : Pl := (.s (.r (D 1)) (.s (.r [.d, (.c (.o (.lf (.i .i64)))), .d, .d, .d, (.c (.o (.lf (.i .i64)))), .d, .d, (.c (.o (.lf (.i .i64)))), (.c (.o (.ag [(.i .i64), (.i .i64), (.i .i64), .sl, .sl]))), .d, .d]) (.s (.s (.r [.d, (.c (.o (.lf (.i .i64)))), .d]) (.b (.l [(4, (.i .i64))] (.s (.s (.r (D 2)) (.c .z .z)) (.s (.b (.s (.x [((.g (.o (.ag [(.i .i64), (.i .i64), (.i .i64), .sl, .sl])) (.l (.ag [(.i .i64), (.i .i64), (.i .i64), .sl, .sl]))), []), (.q, []), ((.g (.o (.lf .sl)) .d), []), ((.h (.o (.lf (.i .i64))) (.c (.o (.lf (.i .i64))))), [2]), (.q, []), ((.k (.o (.lf (.i .i64))) (.c (.o (.lf (.i .i64))))), []), (.q, []), ((.g (.o (.lf (.i .i64))) (.l (.lf (.i .i64)))), []), ((.g (.o (.lf .s)) (.c (.o (.lf .s)))), [5, 7]), ((.g (.n [(.ag [(.i .i64), (.i .i64), (.i .i64), .sl, .sl]), (.lf (.i .i64))]) (.c (.n [(.ag [(.i .i64), (.i .i64), (.i .i64), .sl, .sl]), (.lf (.i .i64))]))), [0, 3, 8]), (.q, [9]), (.q, [9]), (.q, [9]), ((.a 107), []), ((.s 13 107 (.o (.ag [(.i .i64), (.i .i64), (.i .i64), .sl, .sl])) .d), [9])] [.d]) (.r [(.l (.ag [(.i .i64), (.i .i64), (.i .i64), .sl, .sl])), .d]))) (.r (D 3))))))) (.s (.r [(.l (.ag [(.i .i64), (.i .i64), (.i .i64), .sl, .sl])), .d]) .z))))
def spec.l20Table.vc (r : Option Addr) (w : World) (K : Tup [(.i .i64), (.i .i64), (.i .i64), .sl, .sl] → World → Prop) : Prop :=
Nw (zc P0 107) 107 w fun a_t2 w_ =>
CallT (.o (.lf (.i .i64))) P0 38 [(.pointer r), (.int .i64 2)] w_ fun (t8 : Int) w__1 =>
Nw #[(.int .i64 1), (.int .i64 2), (.int .i64 4), (.int .i64 8)] 3 w__1 fun a_t11 w__2 =>
CallT (.o (.lf (.i .i64))) P0 37 [(.pointer r), (.slice (some a_t11) 4 4)] w__2 fun (t12 : Int) w__3 =>
Nw #[(.int .i64 1), (.int .i64 2), (.int .i64 4), (.int .i64 8)] 3 w__3 fun a_t14 w__4 =>
CallT (.o (.lf (.i .i64))) P0 37 [(.pointer r), (.slice (some a_t14) 4 4)] w__4 fun (t15 : Int) w__5 =>
CallT (.o (.ag [(.i .i64), (.i .i64), (.i .i64), .sl, .sl])) P0 92 [(.int .i64 (IntKind.wrap .i64 (1 + t8))), (.int .i64 t12), (.int .i64 t15)] w__5 fun (t16 : Tup [(.i .i64), (.i .i64), (.i .i64), .sl, .sl]) w__6 =>
Nw (zc P0 107) 107 w__6 fun a_m w__7 =>
StA P0 a_m (Tup.cells [(.i .i64), (.i .i64), (.i .i64), .sl, .sl] t16) w__7 fun w__8 =>
CallT (.o (.lf (.i .i64))) P0 38 [(.pointer r), (.int .i64 6)] w__8 fun (t18 : Int) w__9 =>
∃ (I : Int → World → Prop) (M : Int → World → Nat),
I t18 w__9 ∧
(∀ (n : Int) w__10, I n w__10 → ∀ _ : Nat → Value,
((decide ((n : Int) > 0)) = true → ∃ Sp : World → World → Prop, SpOk Sp w__10 ∧
∃ Sq : World → World → Prop, QOk Sp Sq ∧
∃ N : World → Prop, NOk N w__10 ∧ KeptN Sq N ∧
∃ N1 : World → Prop, KeptN Sq N1 ∧
∃ G_t24 : Tup [(.i .i64), (.i .i64), (.i .i64), .sl, .sl] → World → Prop, Kept Sp G_t24 ∧
∃ G_t26 : Sl → World → Prop, Kept Sp G_t26 ∧
∃ G_t27 : Int → World → Prop, Kept Sp G_t27 ∧
∃ G_t29 : Int → World → Prop, Kept Sq G_t29 ∧
∃ G_t31 : Int → World → Prop, Kept Sp G_t31 ∧
∃ G_t32 : ByteArray → World → Prop, Kept Sp G_t32 ∧
∃ G_t33 : (Tup [(.i .i64), (.i .i64), (.i .i64), .sl, .sl]) × (Int) × Unit → World → Prop, Kept Sp G_t33 ∧
∃ G_st : Tup [(.i .i64), (.i .i64), (.i .i64), .sl, .sl] → World → Prop, Kept Sp G_st ∧
(∀ w__11, Sp w__10 w__11 → LdA [(.i .i64), (.i .i64), (.i .i64), .sl, .sl] a_m w__11 fun (t24 : Tup [(.i .i64), (.i .i64), (.i .i64), .sl, .sl]) w__12 =>
GK (.o (.ag [(.i .i64), (.i .i64), (.i .i64), .sl, .sl])) (Sb (World.heap w__10).size Sq) w__11 G_t24 (.agg (Tup.cells [(.i .i64), (.i .i64), (.i .i64), .sl, .sl] t24).toArray) w__12) ∧
∀ (t24_1 : Tup [(.i .i64), (.i .i64), (.i .i64), .sl, .sl]), (∀ w__13, Sp w__10 w__13 → Nw #[(.int .i64 0), (.int .i64 1), (.int .i64 2), (.int .i64 3), (.int .i64 7), (.int .i64 200), (.int .i64 4294967295)] 3 w__13 fun a_t26 w__14 =>
GK (.o (.lf .sl)) (Sb (World.heap w__10).size Sq) w__13 G_t26 (.slice (some a_t26) 7 7) w__14) ∧
∀ (t26 : Sl), (∀ w__15, Sp w__10 w__15 → N w__15 → G_t26 t26 w__15 → CallT (.o (.lf (.i .i64))) P0 37 [(.pointer r), t26.v] w__15 fun (t27 : Int) w__16 =>
GK (.o (.lf (.i .i64))) (Sb (World.heap w__10).size (Sn Sp N1)) w__15 G_t27 (.int .i64 t27) w__16) ∧
∀ (t27_1 : Int), (∀ w__17, Sp w__10 w__17 → N1 w__17 → CallT (.o (.lf (.i .i64))) P0 56 [(.pointer r)] w__17 fun (t29 : Int) w__18 =>
GK (.o (.lf (.i .i64))) (Sb (World.heap w__10).size Sp) w__17 G_t29 (.int .i64 t29) w__18) ∧
∀ (t29_1 : Int), (∀ w__19, Sp w__10 w__19 → Ld (.i .i64) (Addr.add a_m 1) w__19 fun (t31 : Int) w__20 =>
GK (.o (.lf (.i .i64))) (Sb (World.heap w__10).size Sq) w__19 G_t31 (.int .i64 t31) w__20) ∧
∀ (t31_1 : Int), (∀ w__21, Sp w__10 w__21 → G_t29 t29_1 w__21 → G_t31 t31_1 w__21 → CallT (.o (.lf .s)) P0 94 [(.int .i64 t29_1), (.int .i64 t31_1)] w__21 fun (t32 : ByteArray) w__22 =>
GK (.o (.lf .s)) (Sb (World.heap w__10).size Sq) w__21 G_t32 (.string t32) w__22) ∧
∀ (t32_1 : ByteArray), (∀ w__23, Sp w__10 w__23 → G_t24 t24_1 w__23 → G_t27 t27_1 w__23 → G_t32 t32_1 w__23 → CallT (.n [(.ag [(.i .i64), (.i .i64), (.i .i64), .sl, .sl]), (.lf (.i .i64))]) P0 93 [(.agg (Tup.cells [(.i .i64), (.i .i64), (.i .i64), .sl, .sl] t24_1).toArray), (.int .i64 t27_1), (.string t32_1)] w__23 fun (t33 : (Tup [(.i .i64), (.i .i64), (.i .i64), .sl, .sl]) × (Int) × Unit) w__24 =>
GK (.n [(.ag [(.i .i64), (.i .i64), (.i .i64), .sl, .sl]), (.lf (.i .i64))]) (Sb (World.heap w__10).size Sq) w__23 G_t33 (.tuple #[(.agg (Tup.cells [(.i .i64), (.i .i64), (.i .i64), .sl, .sl] t33.1).toArray), (.int .i64 t33.2.1)]) w__24) ∧
∀ (t33_1 : (Tup [(.i .i64), (.i .i64), (.i .i64), .sl, .sl]) × (Int) × Unit), (∀ w__25, Sp w__10 w__25 → Nw (zc P0 107) 107 w__25 fun a_x w__26 =>
AXp (World.heap w__10).size 107 (zc P0 107) Sq w__25 (.pointer (some a_x)) w__26) ∧
∀ (x : Nat), (∀ w__27, Sp w__10 w__27 → G_t33 t33_1 w__27 → (World.heap w__10).size ≤ x → (World.heap w__27)[x]? = some (.cells (zc P0 107) 107 (0, 0)) → StA P0 (⟨x, 0, none⟩ : Addr) (Tup.cells [(.i .i64), (.i .i64), (.i .i64), .sl, .sl] t33_1.1) w__27 fun w__28 =>
GS (.o (.ag [(.i .i64), (.i .i64), (.i .i64), .sl, .sl])) Sq w__27 G_st x 107 w__28) ∧
∀ (st : Tup [(.i .i64), (.i .i64), (.i .i64), .sl, .sl]), ∀ w__29, Sp w__10 w__29 → G_t24 t24_1 w__29 → G_t26 t26 w__29 → G_t27 t27_1 w__29 → G_t29 t29_1 w__29 → G_t31 t31_1 w__29 → G_t32 t32_1 w__29 → G_t33 t33_1 w__29 → G_st st w__29 → BxD (World.heap w__10).size w__29 [(x, ((.agg (Tup.cells [(.i .i64), (.i .i64), (.i .i64), .sl, .sl] st).toArray) : Value).cells, 107)] → 
LdA [(.i .i64), (.i .i64), (.i .i64), .sl, .sl] (⟨x, 0, none⟩ : Addr) w__29 fun (t36 : Tup [(.i .i64), (.i .i64), (.i .i64), .sl, .sl]) w__30 =>
StA P0 a_m (Tup.cells [(.i .i64), (.i .i64), (.i .i64), .sl, .sl] t36) w__30 fun w__31 =>
(I (IntKind.wrap .i64 (n - 1)) w__31 ∧ M (IntKind.wrap .i64 (n - 1)) w__31 < M n w__10)) ∧
((decide ((n : Int) > 0)) = false → LdA [(.i .i64), (.i .i64), (.i .i64), .sl, .sl] a_m w__10 fun (t37 : Tup [(.i .i64), (.i .i64), (.i .i64), .sl, .sl]) w__32 =>
StA P0 a_t2 (Tup.cells [(.i .i64), (.i .i64), (.i .i64), .sl, .sl] t37) w__32 fun w__33 =>
LdA [(.i .i64), (.i .i64), (.i .i64), .sl, .sl] a_t2 w__33 fun r_1 w__34 =>
K r_1 w__33))
theorem spec.l20Table.ok {r : Option Addr} {w : World} {K : Tup [(.i .i64), (.i .i64), (.i .i64), .sl, .sl] → World → Prop} (h : spec.l20Table.vc r w K) : CallT (.o (.ag [(.i .i64), (.i .i64), (.i .i64), .sl, .sl])) P0 77 [(.pointer r)] w K :=
  call_of Try.func77 rfl rfl (pl := spec.l20Table.pl) (show VC P0 Try.f77 spec.l20Table.pl (.o (.ag [(.i .i64), (.i .i64), (.i .i64), .sl, .sl])) [(.pointer r)] w K noP from Eq.mp (by kernel_rfl) h)
/- spec.l20Tables -/
def spec.l20Tables.pl : Pl := (.s (.r (D 1)) (.s (.r [.d, (.c (.o (.ag [(.i .i64), (.i .i64), (.i .i64), .sl, .sl]))), .d, (.c (.o (.ag [(.i .i64), (.i .i64), (.i .i64), .sl, .sl]))), .d, .d]) (.s (.s (.r [.d, (.c (.o (.lf (.i .i64)))), .d]) (.c (.s (.r [.d, .d, (.c (.o (.lf (.i .i64)))), (.t (.o (.lf .sl))), .d]) .z) .z)) (.s (.r (D 2)) .z))))
def spec.l20Tables.vc (r : Option Addr) (w : World) (K : Sl → World → Prop) : Prop :=
CallT (.o (.ag [(.i .i64), (.i .i64), (.i .i64), .sl, .sl])) P0 77 [(.pointer r)] w fun (t5 : Tup [(.i .i64), (.i .i64), (.i .i64), .sl, .sl]) w_ =>
CallT (.o (.ag [(.i .i64), (.i .i64), (.i .i64), .sl, .sl])) P0 77 [(.pointer r)] w_ fun (t7 : Tup [(.i .i64), (.i .i64), (.i .i64), .sl, .sl]) w__1 =>
Nw #[(.int .i64 t5.1), (.int .i64 t5.2.1), (.int .i64 t5.2.2.1), t5.2.2.2.1.v, t5.2.2.2.2.1.v, (.int .i64 t7.1), (.int .i64 t7.2.1), (.int .i64 t7.2.2.1), t7.2.2.2.1.v, t7.2.2.2.2.1.v] 107 w__1 fun a_t8 w__2 =>
CallT (.o (.lf (.i .i64))) P0 38 [(.pointer r), (.int .i64 6)] w__2 fun (t10 : Int) w__3 =>
(((t10 : Int) == 0) = true → CallT (.o (.lf (.i .i64))) P0 38 [(.pointer r), (.int .i64 2)] w__3 fun (t14 : Int) w__4 =>
RunT (.o (.lf .sl)) P0 (Instr.sliceAt 58 (.slice (some a_t8) 2 2) none (some (.int .i64 t14)) none) w__4 fun (t15 : Sl) w__5 =>
K t15 w__5) ∧
(((t10 : Int) == 0) = false → K ⟨(some a_t8), 2, 2⟩ w__3)
theorem spec.l20Tables.ok {r : Option Addr} {w : World} {K : Sl → World → Prop} (h : spec.l20Tables.vc r w K) : CallT (.o (.lf .sl)) P0 55 [(.pointer r)] w K :=
  call_of Try.func55 rfl rfl (pl := spec.l20Tables.pl) (show VC P0 Try.f55 spec.l20Tables.pl (.o (.lf .sl)) [(.pointer r)] w K noP from Eq.mp (by kernel_rfl) h)
/- spec.l20Start -/
def spec.l20Start.pl : Pl := (.s (.r (D 1)) (.s (.r [.d, (.c (.o (.lf .sl))), .d, (.c (.o (.lf .sl))), .d, .d, .d]) (.s (.r (D 2)) (.s (.s (.r (D 1)) (.b (.l [(4, .sl), (5, (.i .i64))] (.s (.s (.r (D 2)) (.c .z .z)) (.s (.b (.r [.d, .d, .d, (.c (.o (.lf (.i .i64)))), .d, .d, (.t (.o (.lf .sl))), .d])) (.r (D 3))))))) (.s (.r [.d, (.t (.o (.lf .s))), .d, .d]) (.s (.s (.r [.d, (.c (.o (.lf (.i .i64)))), .d, .d]) (.b (.l [(6, (.i .i64))] (.s (.s (.r (D 2)) (.c .z .z)) (.s (.b (.x [(.q, []), ((.g (.o (.lf .sl)) (.l (.lf .sl))), []), (.q, []), ((.h (.o (.lf (.i .i64))) (.c (.o (.lf (.i .i64))))), []), ((.g (.o (.lf .sl)) .d), [3]), ((.k (.o (.lf .sl)) (.t (.o (.lf .sl)))), [1, 4]), (.q, [])] [.d])) (.r (D 3))))))) (.s (.s (.r [.d, (.c (.o (.lf (.i .i64)))), .d]) (.b (.l [(7, (.i .i64))] (.s (.s (.r (D 2)) (.c .z .z)) (.s (.b (.x [(.q, []), ((.g (.o (.lf .sl)) (.l (.lf .sl))), []), (.q, []), ((.g (.o (.lf .sl)) .d), []), ((.h (.o (.lf (.i .i64))) (.c (.o (.lf (.i .i64))))), [3]), ((.g (.o (.lf .sl)) .d), [4]), ((.k (.o (.lf .sl)) (.t (.o (.lf .sl)))), [1, 5]), (.q, [])] [.d])) (.r (D 3))))))) (.s (.r [(.l (.ag [.sl, .s, .sl, .sl, .sl])), .d]) .z))))))))
def spec.l20Start.vc (r : Option Addr) (w : World) (K : Tup [.sl, .s, .sl, .sl, .sl] → World → Prop) : Prop :=
Nw (zc P0 61) 61 w fun a_t2 w_ =>
CallT (.o (.lf .sl)) P0 54 [(.pointer r)] w_ fun (t9 : Sl) w__1 =>
CallT (.o (.lf .sl)) P0 55 [(.pointer r)] w__1 fun (t11 : Sl) w__2 =>
Nw (zc P0 61) 61 w__2 fun a_s w__3 =>
StA P0 a_s [t9.v, (.string ByteArray.empty), t11.v, (.slice none 0 0), (.slice none 0 0)] w__3 fun w__4 =>
Nw #[] 5 w__4 fun a_t13 w__5 =>
∃ (I : Sl → Int → World → Prop) (M : Sl → Int → World → Nat),
I ⟨(some a_t13), 0, 0⟩ 0 w__5 ∧
(∀ (came : Sl) (i : Int) w__6, I came i w__6 → ∀ _ : Nat → Value,
((decide ((i : Int) < 12)) = true → Nw #[(.int .i64 0), (.int .i64 1), (.int .i64 2), (.int .i64 3), (.int .i64 5), (.int .i64 7), (.int .i64 9), (.int .i64 10), (.int .i64 200), (.int .i64 255)] 3 w__6 fun a_t20 w__7 =>
CallT (.o (.lf (.i .i64))) P0 37 [(.pointer r), (.slice (some a_t20) 10 10)] w__7 fun (t21 : Int) w__8 =>
Nw #[(.int .u8 (IntKind.wrap .u8 t21))] 5 w__8 fun a_t23 w__9 =>
RunT (.o (.lf .sl)) P0 (Builtin.append_ #[22, 22] 22 #[came.v, (.slice (some a_t23) 1 1)]) w__9 fun (t24 : Sl) w__10 =>
(I t24 (IntKind.wrap .i64 (i + 1)) w__10 ∧ M t24 (IntKind.wrap .i64 (i + 1)) w__10 < M came i w__6)) ∧
((decide ((i : Int) < 12)) = false → RunT (.o (.lf .s)) P0 (convert 22 9 came.v) w__6 fun (t26 : ByteArray) w__11 =>
St (Addr.add a_s 1) (.string t26) w__11 fun w__12 =>
CallT (.o (.lf (.i .i64))) P0 38 [(.pointer r), (.int .i64 3)] w__12 fun (t29 : Int) w__13 =>
∃ (I_1 : Int → World → Prop) (M_1 : Int → World → Nat),
I_1 (IntKind.wrap .i64 (1 + t29)) w__13 ∧
(∀ (n : Int) w__14, I_1 n w__14 → ∀ _ : Nat → Value,
((decide ((n : Int) > 0)) = true → ∃ Sp : World → World → Prop, SpOk Sp w__14 ∧
∃ Sq : World → World → Prop, QOk Sp Sq ∧
∃ N : World → Prop, NOk N w__14 ∧ KeptN Sq N ∧
∃ N1 : World → Prop, KeptN Sq N1 ∧
∃ G_t36 : Sl → World → Prop, Kept Sp G_t36 ∧
∃ G_t38 : Int → World → Prop, Kept Sp G_t38 ∧
∃ G_t39 : Sl → World → Prop, Kept Sp G_t39 ∧
∃ G_t40 : Sl → World → Prop, Kept Sq G_t40 ∧
(∀ w__15, Sp w__14 w__15 → Ld .sl (Addr.add a_s 3) w__15 fun (t36 : Sl) w__16 =>
GK (.o (.lf .sl)) (Sb (World.heap w__14).size Sq) w__15 G_t36 t36.v w__16) ∧
∀ (t36_1 : Sl), (∀ w__17, Sp w__14 w__17 → N w__17 → CallT (.o (.lf (.i .i64))) P0 56 [(.pointer r)] w__17 fun (t38 : Int) w__18 =>
GK (.o (.lf (.i .i64))) (Sb (World.heap w__14).size (Sn Sp N1)) w__17 G_t38 (.int .i64 t38) w__18) ∧
∀ (t38_1 : Int), (∀ w__19, Sp w__14 w__19 → G_t38 t38_1 w__19 → Nw #[(.int .i64 t38_1)] 3 w__19 fun a_t39 w__20 =>
GK (.o (.lf .sl)) (Sb (World.heap w__14).size Sq) w__19 G_t39 (.slice (some a_t39) 1 1) w__20) ∧
∀ (t39 : Sl), (∀ w__21, Sp w__14 w__21 → N1 w__21 → G_t36 t36_1 w__21 → G_t39 t39 w__21 → RunT (.o (.lf .sl)) P0 (Builtin.append_ #[59, 59] 59 #[t36_1.v, t39.v]) w__21 fun (t40 : Sl) w__22 =>
GK (.o (.lf .sl)) (Sb (World.heap w__14).size Sp) w__21 G_t40 t40.v w__22) ∧
∀ (t40_1 : Sl), ∀ w__23, Sp w__14 w__23 → G_t36 t36_1 w__23 → G_t38 t38_1 w__23 → G_t39 t39 w__23 → G_t40 t40_1 w__23 → BxD (World.heap w__14).size w__23 [] → 
St (Addr.add a_s 3) t40_1.v w__23 fun w__24 =>
(I_1 (IntKind.wrap .i64 (n - 1)) w__24 ∧ M_1 (IntKind.wrap .i64 (n - 1)) w__24 < M_1 n w__14)) ∧
((decide ((n : Int) > 0)) = false → CallT (.o (.lf (.i .i64))) P0 38 [(.pointer r), (.int .i64 4)] w__14 fun (t43 : Int) w__25 =>
∃ (I_2 : Int → World → Prop) (M_2 : Int → World → Nat),
I_2 t43 w__25 ∧
(∀ (n_1 : Int) w__26, I_2 n_1 w__26 → ∀ _ : Nat → Value,
((decide ((n_1 : Int) > 0)) = true → ∃ Sp_1 : World → World → Prop, SpOk Sp_1 w__26 ∧
∃ Sq_1 : World → World → Prop, QOk Sp_1 Sq_1 ∧
∃ N_1 : World → Prop, NOk N_1 w__26 ∧ KeptN Sq_1 N_1 ∧
∃ N1_1 : World → Prop, KeptN Sq_1 N1_1 ∧
∃ G_t49 : Sl → World → Prop, Kept Sp_1 G_t49 ∧
∃ G_t51 : Sl → World → Prop, Kept Sp_1 G_t51 ∧
∃ G_t52 : Int → World → Prop, Kept Sp_1 G_t52 ∧
∃ G_t53 : Sl → World → Prop, Kept Sp_1 G_t53 ∧
∃ G_t54 : Sl → World → Prop, Kept Sq_1 G_t54 ∧
(∀ w__27, Sp_1 w__26 w__27 → Ld .sl (Addr.add a_s 4) w__27 fun (t49 : Sl) w__28 =>
GK (.o (.lf .sl)) (Sb (World.heap w__26).size Sq_1) w__27 G_t49 t49.v w__28) ∧
∀ (t49_1 : Sl), (∀ w__29, Sp_1 w__26 w__29 → Nw #[(.int .i64 0), (.int .i64 1), (.int .i64 2), (.int .i64 3), (.int .i64 7), (.int .i64 9)] 3 w__29 fun a_t51 w__30 =>
GK (.o (.lf .sl)) (Sb (World.heap w__26).size Sq_1) w__29 G_t51 (.slice (some a_t51) 6 6) w__30) ∧
∀ (t51 : Sl), (∀ w__31, Sp_1 w__26 w__31 → N_1 w__31 → G_t51 t51 w__31 → CallT (.o (.lf (.i .i64))) P0 37 [(.pointer r), t51.v] w__31 fun (t52 : Int) w__32 =>
GK (.o (.lf (.i .i64))) (Sb (World.heap w__26).size (Sn Sp_1 N1_1)) w__31 G_t52 (.int .i64 t52) w__32) ∧
∀ (t52_1 : Int), (∀ w__33, Sp_1 w__26 w__33 → G_t52 t52_1 w__33 → Nw #[(.int .i64 t52_1)] 3 w__33 fun a_t53 w__34 =>
GK (.o (.lf .sl)) (Sb (World.heap w__26).size Sq_1) w__33 G_t53 (.slice (some a_t53) 1 1) w__34) ∧
∀ (t53 : Sl), (∀ w__35, Sp_1 w__26 w__35 → N1_1 w__35 → G_t49 t49_1 w__35 → G_t53 t53 w__35 → RunT (.o (.lf .sl)) P0 (Builtin.append_ #[59, 59] 59 #[t49_1.v, t53.v]) w__35 fun (t54 : Sl) w__36 =>
GK (.o (.lf .sl)) (Sb (World.heap w__26).size Sp_1) w__35 G_t54 t54.v w__36) ∧
∀ (t54_1 : Sl), ∀ w__37, Sp_1 w__26 w__37 → G_t49 t49_1 w__37 → G_t51 t51 w__37 → G_t52 t52_1 w__37 → G_t53 t53 w__37 → G_t54 t54_1 w__37 → BxD (World.heap w__26).size w__37 [] → 
St (Addr.add a_s 4) t54_1.v w__37 fun w__38 =>
(I_2 (IntKind.wrap .i64 (n_1 - 1)) w__38 ∧ M_2 (IntKind.wrap .i64 (n_1 - 1)) w__38 < M_2 n_1 w__26)) ∧
((decide ((n_1 : Int) > 0)) = false → LdA [.sl, .s, .sl, .sl, .sl] a_s w__26 fun (t56 : Tup [.sl, .s, .sl, .sl, .sl]) w__39 =>
StA P0 a_t2 (Tup.cells [.sl, .s, .sl, .sl, .sl] t56) w__39 fun w__40 =>
LdA [.sl, .s, .sl, .sl, .sl] a_t2 w__40 fun r_1 w__41 =>
K r_1 w__40))))))
theorem spec.l20Start.ok {r : Option Addr} {w : World} {K : Tup [.sl, .s, .sl, .sl, .sl] → World → Prop} (h : spec.l20Start.vc r w K) : CallT (.o (.ag [.sl, .s, .sl, .sl, .sl])) P0 29 [(.pointer r)] w K :=
  call_of Try.func29 rfl rfl (pl := spec.l20Start.pl) (show VC P0 Try.f29 spec.l20Start.pl (.o (.ag [.sl, .s, .sl, .sl, .sl])) [(.pointer r)] w K noP from Eq.mp (by kernel_rfl) h)
/- spec.DrawRulesOf -/
def spec.DrawRulesOf.pl : Pl := (.s (.r (D 2)) (.s (.r [.d, (.c (.o (.lf .p))), .d]) (.s (.r [.d, (.c (.o (.lf .sl))), .d]) (.s (.r [.d, .d, (.c (.o (.ag [.sl, .s, .sl, .sl, .sl]))), .d, .d, .d]) .z))))
def spec.DrawRulesOf.vc (code : Sl) (w : World) (K : (Sl) × (ByteArray) × Unit → World → Prop) : Prop :=
CallT (.o (.lf .p)) P0 18 [code.v] w fun (t7 : Option Addr) w_ =>
CallT (.o (.lf .sl)) P0 17 [(.pointer t7)] w_ fun (t9 : Sl) w__1 =>
CallT (.o (.ag [.sl, .s, .sl, .sl, .sl])) P0 29 [(.pointer t7)] w__1 fun (t12 : Tup [.sl, .s, .sl, .sl, .sl]) w__2 =>
K (t9, (t12.2.1, ())) w__2
theorem spec.DrawRulesOf.ok {code : Sl} {w : World} {K : (Sl) × (ByteArray) × Unit → World → Prop} (h : spec.DrawRulesOf.vc code w K) : CallT (.n [(.lf .sl), (.lf .s)]) P0 10 [code.v] w K :=
  call_of Try.func10 rfl rfl (pl := spec.DrawRulesOf.pl) (show VC P0 Try.f10 spec.DrawRulesOf.pl (.n [(.lf .sl), (.lf .s)]) [code.v] w K noP from Eq.mp (by kernel_rfl) h)
end Go.Proofs.Ytdlnoabihfnmmaa.V

/- Contracts: a row of one range, repeated. -/
namespace Go.Proofs.Ytdlnoabihfnmmaa.V
open Go Go.RowKit
set_option linter.unusedVariables false
set_option linter.unusedSimpArgs false
def kRange : Kd T4 := ⟨R 4 (.i .i64), fun x => x⟩
theorem mkRange : Mk P0 42 45 kRange 32 ((0, 0, 0, 0, ()) : T4) := ⟨by kernel_rfl, ⟨_, _, Option.eq_some_of_isSome (by kernel_rfl), Option.eq_some_of_isSome (by kernel_rfl), by kernel_rfl, by kernel_rfl, by kernel_rfl⟩⟩
theorem noAnyRange : ∀ l ∈ kRange.ls, l ≠ Lf.any := by intro l hl; simp [kRange, R, List.mem_replicate] at hl; simp [hl]
/-- What a part of a row is. -/
theorem slcRun {P : Program} {tS e : TypeId} {sz : Nat} (hu : P.underlying tS = some (.slice e)) (hs : szOf P e = some sz) {w : World} {s : Sl} {lo hi : Option Int} {l h' : Nat}
    (hlo : lo.getD 0 = l) (hhi : hi.getD s.n = h') (h1 : l ≤ h') (h2 : h' ≤ s.c) (h4 : h' ≤ s.n) :
    (Instr.sliceAt tS s.v (lo.map (.int .i64)) (hi.map (.int .i64)) none).run P w = .ok (.slice (if s.c = l then s.a else s.a.map (·.add (l * sz))) (h' - l) (s.c - l)) w := by
  have ho : ∀ (x : Option Int) (d a : Nat), x.getD (d : Int) = (a : Int) → (x = none ∧ a = d) ∨ x = some (a : Int) := by
    intro x d a hx
    cases x with
    | none => left; simp only [Option.getD_none] at hx; exact ⟨rfl, by omega⟩
    | some y => right; simp only [Option.getD_some] at hx; rw [hx]
  rcases ho lo 0 l hlo with ⟨rfl, rfl⟩ | rfl <;> rcases ho hi s.n h' hhi with ⟨rfl, rfl⟩ | rfl <;>
    simp [Instr.sliceAt, Instr.slice, Sl.v, underlying, hu, Instr.sliceBounds, Instr.sliceBound, asIntOf, run_sizeOf hs, h1, h2, h4]
section
variable {w : World}
theorem bitsMul.c {x y : Nat} {a b : Int} {K : Int × Int × Unit → World → Prop} (hx : x < 18446744073709551616) (hy : y < 18446744073709551616) (ha : a = (x : Int)) (hb : b = (y : Int))
    (hk : K (((x * y / 18446744073709551616 : Nat) : Int), ((x * y % 18446744073709551616 : Nat) : Int), ()) w) : CallT (.n [(.lf (.i .u64)), (.lf (.i .u64))]) P0 39 [.int .u64 a, .int .u64 b] w K := by
  subst ha hb
  refine Calls.mono (Try.bits_Mul x y hx hy w) fun e w' h => ?_
  obtain ⟨rfl, rfl⟩ := h
  exact ⟨_, rfl, hk⟩
theorem cells4_inj {a b : T4} (h : Tup.cells (R 4 (.i .i64)) a = Tup.cells (R 4 (.i .i64)) b) : a = b := by
  obtain ⟨a0, a1, a2, a3, _⟩ := a
  obtain ⟨b0, b1, b2, b3, _⟩ := b
  have h0 := congrArg (·[0]?) h
  have h1 := congrArg (·[1]?) h
  have h2 := congrArg (·[2]?) h
  have h3 := congrArg (·[3]?) h
  simp [R, Tup.cells, Lf.emb] at h0 h1 h2 h3
  subst h0 h1 h2 h3
  rfl
theorem wrs_uniq {H : Nat} {t : TypeId} {s : Sl} {zs ys : List T4} (h1 : WrS kRange t H w s zs) (h2 : WrS kRange t H w s ys) : zs = ys := by
  have hl : zs.length = ys.length := by rw [← h1.1, ← h2.1]
  rcases h1.2.2.2 with e | ⟨b, o, cur, ha, hB, hg, hc⟩
  · rw [e.2] at hl
    rw [e.2, List.eq_nil_of_length_eq_zero hl.symm]
  · rcases h2.2.2.2 with e | ⟨b', o', cur', ha', hB', hg', hc'⟩
    · rw [e.1] at ha; simp at ha
    · rw [ha] at ha'
      simp only [Option.some.injEq, Addr.mk.injEq, and_true] at ha'
      obtain ⟨rfl, rfl⟩ := ha'
      rw [hg] at hg'
      simp only [Option.some.injEq, Obj.cells.injEq, and_true, true_and] at hg'
      subst hg'
      refine List.ext_getElem? fun i => ?_
      rcases Nat.lt_or_ge i zs.length with h | h
      · have e1 : zs[i]? = some zs[i] := List.getElem?_eq_getElem h
        have e2 : ys[i]? = some (ys[i]'(by omega)) := List.getElem?_eq_getElem _
        rw [e1, e2]
        congr 1
        refine cells4_inj (List.ext_getElem? fun c => ?_)
        rcases Nat.lt_or_ge c 4 with hc4 | hc4
        · have l1 : (kRange.cells zs[i])[c]? = some ((kRange.cells zs[i])[c]'(by rw [kRange.cells_length]; exact hc4)) := List.getElem?_eq_getElem _
          have l2 : (kRange.cells (ys[i]'(by omega)))[c]? = some ((kRange.cells (ys[i]'(by omega)))[c]'(by rw [kRange.cells_length]; exact hc4)) := List.getElem?_eq_getElem _
          have q1 := hc _ _ e1 _ _ l1
          have q2 := hc' _ _ e2 _ _ l2
          rw [q1] at q2
          show (kRange.cells zs[i])[c]? = (kRange.cells (ys[i]'(by omega)))[c]?
          rw [l1, l2]; exact q2
        · rw [List.getElem?_eq_none (by rw [V.cells_length]; exact hc4), List.getElem?_eq_none (by rw [V.cells_length]; exact hc4)]
      · rw [List.getElem?_eq_none h, List.getElem?_eq_none (by omega)]
/-- So many of a row of twelve are one range. -/
def RpR (H : Nat) (s : Sl) (y : T4) (j : Nat) (w : World) : Prop := ∃ zs : List T4, WrS kRange 45 H w s zs ∧ zs.length = 12 ∧ ∀ i, i < j → zs[i]? = some y
theorem RpR.drew {H : Nat} {s : Sl} {y : T4} {j : Nat} {w : World} (h : RpR H s y j w) : RpR H s y j w.drew := h
theorem slices.Repeat_Range.c {x : Sl} {y : T4} {K : Sl → World → Prop} (hx : SlR kRange w x [y]) (hk : ∀ r w', Below w.heap.size w w' → WrS kRange 45 w.heap.size w' r (List.replicate 12 y) → K r w') :
    CallT (.o (.lf .sl)) P0 19 [x.v, .int .i64 12] w K := by
  have hxn : x.n = 1 := hx.1
  refine slices.Repeat_Range.ok ?_
  unfold slices.Repeat_Range.vc
  refine ⟨fun w' => w' = w, And.intro (fun h => by simp at h) (fun _ => rfl), ?_⟩
  rintro w1 rfl _
  refine bitsMul.c (x := 1) (y := 12) (by omega) (by omega) (by rw [hxn]; decide) (by decide) ?_
  refine ⟨fun w' => w' = w1, And.intro (fun h => by simp at h) (fun _ => And.intro (fun h => by simp at h) (fun _ => rfl)), ?_⟩
  rintro w2 rfl _
  have e12 : IntKind.wrap .i64 (((1 * 12 % 18446744073709551616 : Nat) : Int)) = ((12 : Nat) : Int) := by decide
  rw [e12]
  refine mkS mkRange (n := 12) (by omega) (by simp [maxLen]) fun s w3 hb3 hs30 => ?_
  obtain ⟨Z, hZ, hs3⟩ : ∃ Z : List T4, Z.length = 12 ∧ WrS kRange 45 w2.heap.size w3 s Z := ⟨_, List.length_replicate, hs30⟩
  clear hs30
  have hx3 := hx.below hb3
  have hxb : ∀ b, x.bk = some b → b < w2.heap.size := by
    intro b hb
    rcases hx.2.2.2 with h0 | ⟨g, o, ha, hat⟩
    · simp at h0
    · have hg : g = b := by simpa [Sl.bk, ha] using hb
      subst hg
      have h0 := hat 0 y rfl 0 _ (show (kRange.cells y)[0]? = some (.int .i64 y.1) from rfl)
      rcases Nat.lt_or_ge g w2.heap.size with h | h
      · exact h
      · unfold World.cell? at h0
        simp only at h0
        rw [Array.getElem?_eq_none (by omega)] at h0
        simp at h0
  have hsn : s.n = 12 := hs3.1.trans hZ
  have hsc : s.n ≤ s.c := hs3.2.1
  have hu : P0.underlying 42 = some (.slice 45) := by kernel_rfl
  have hz : szOf P0 45 = some kRange.ls.length := by kernel_rfl
  obtain ⟨b0, o0, ha0⟩ : ∃ b o, s.a = some ⟨b, o, none⟩ := by
    rcases hs3.2.2.2 with h0 | ⟨b, o, cur, ha, _⟩
    · rw [h0.2] at hZ; simp at hZ
    · exact ⟨b, o, ha⟩
  refine copyW (k := kRange) hu hz noAnyRange (by decide) hs3 (p := 0) (d := s) (by rw [ha0]; simp [add_mk]) (by rw [hsn, hZ]) (by omega) hx3 (by simp) (zs := y :: Z.tail) (by simp [hZ]) (fun i hi => ?_) fun w4 hs4 hg4 hsz4 => ?_
  · cases i with
    | zero => rw [if_pos (by simp; omega)]; rfl
    | succ i =>
      rw [if_neg (by simp; omega), List.getElem?_cons_succ]
      cases Z with
      | nil => simp at hZ
      | cons z Z => rfl
  have hbk : ∀ b, s.bk = some b → w2.heap.size ≤ b := by
    intro b hb
    rcases hs3.2.2.2 with h0 | ⟨g, o, cur, ha, hB, _⟩
    · rw [h0.2] at hZ; simp at hZ
    · have : g = b := by simpa [Sl.bk, ha] using hb
      omega
  have hb4 : Below w2.heap.size w2 w4 := hb3.grown hg4 hb3.size hbk
  have h1 : ((min [y].length (Z.length - 0) : Nat) : Int) = ((1 : Nat) : Int) := by rw [hZ]; simp
  rw [h1]
  have hR1 : RpR w2.heap.size s y 1 w4 := ⟨_, hs4, by simp [hZ], fun i hi => by
    have : i = 0 := by omega
    subst this; rfl⟩
  refine ⟨fun n w' => ∃ j : Nat, n = j ∧ 1 ≤ j ∧ j ≤ 12 ∧ RpR w2.heap.size s y j w' ∧ Below w2.heap.size w2 w', fun n _ => 12 - n.toNat, ⟨1, rfl, by omega, by omega, hR1, hb4⟩, ?_⟩
  rintro n w5 ⟨j, rfl, hj1, hj2, hR, hb5⟩ _
  refine And.intro (fun hlt => ?_) (fun hge => ?_)
  · rw [hsn] at hlt
    have hlt' : j < 12 := by simp at hlt; omega
    refine ⟨fun a c => Below w2.heap.size a c ∧ ∀ q, RpR w2.heap.size s y q a → RpR w2.heap.size s y q c, ⟨fun a => ⟨Below.refl _ _, fun _ h => h⟩, fun a b c h1 h2 => ⟨h1.1.trans h2.1, fun q h => h2.2 q (h1.2 q h)⟩, ⟨(Below.refl _ _).drew, fun q h => h⟩⟩,
      eqG ⟨s.a.map (·.add (j * 4)), 12 - j, s.c - j⟩, fun _ _ _ h _ => h, eqG ⟨s.a, j, s.c⟩, fun _ _ _ h _ => h, fun t w' => t = ((min j (12 - j) : Nat) : Int) ∧ RpR w2.heap.size s y (j + min j (12 - j)) w', fun _ _ _ h hab => ⟨h.1, hab.2 _ h.2⟩, ?_⟩
    refine ⟨fun w6 hs => ?_, fun t41 => ⟨fun w6 hs => ?_, fun t44 => ⟨fun w6 hs f41 f44 => ?_, fun t45 w6 hs f41 f44 f45 => ?_⟩⟩⟩
    · have hr := slcRun (P := P0) (w := w6) hu hz (s := s) (lo := some (j : Int)) (hi := none) (l := j) (h' := 12) (by simp) (by simp [hsn]) (by omega) (by omega) (by omega)
      rw [if_neg (show ¬ s.c = j by omega)] at hr
      exact ⟨⟨s.a.map (·.add (j * 4)), 12 - j, s.c - j⟩, w6, hr, _, rfl, ⟨Below.refl _ _, fun _ h => h⟩, rfl⟩
    · have hr := slcRun (P := P0) (w := w6) hu hz (s := s) (lo := none) (hi := some (j : Int)) (l := 0) (h' := j) (by simp) (by simp) (by omega) (by omega) (by omega)
      rw [if_neg (show ¬ s.c = 0 by omega)] at hr
      have e : Value.slice (s.a.map (·.add (0 * kRange.ls.length))) (j - 0) (s.c - 0) = .slice s.a j s.c := by rw [ha0]; simp [add_mk]
      rw [e] at hr
      exact ⟨⟨s.a, j, s.c⟩, w6, hr, _, rfl, ⟨Below.refl _ _, fun _ h => h⟩, rfl⟩
    · cases f41; cases f44
      obtain ⟨zs, hw, hl, hz6⟩ := hs.2 j hR
      have hrd : SlR kRange w6 ⟨s.a, j, s.c⟩ (zs.take j) := by
        refine ⟨by simp [hl]; omega, by simp only; omega, hw.2.2.1, ?_⟩
        rcases hw.2.2.2 with h0 | ⟨b, o, cur, ha, hB, hg, hc⟩
        · rw [h0.2] at hl; simp at hl
        · refine .inr ⟨b, o, ha, fun i z hi m v hv => ?_⟩
          rw [List.getElem?_take] at hi
          split at hi
          · rw [cell_of hg]; exact hc i z hi m v hv
          · simp at hi
      have hmin : min (zs.take j).length (zs.length - j) = min j (12 - j) := by rw [List.length_take, hl]; omega
      have hall : ∀ i, (i < j → zs[i]? = some y) := hz6
      refine copyW (k := kRange) hu hz noAnyRange (by decide) hw (p := j) (d := ⟨s.a.map (·.add (j * 4)), 12 - j, s.c - j⟩) rfl (by rw [hl]) (by omega) hrd (by intro h; have := congrArg List.length h; simp [hl] at this; omega)
        (zs := zs.take j ++ (List.replicate (min j (12 - j)) y ++ zs.drop (j + min j (12 - j)))) (by simp [hl]; omega) (fun i hi => ?_) fun w7 hs7 hg7 hsz7 => ?_
      · rw [hmin]
        rcases Nat.lt_or_ge i j with h | h
        · rw [if_neg (by omega), List.getElem?_append_left (by simp [hl]; omega), List.getElem?_take, if_pos h]
        · rcases Nat.lt_or_ge i (j + min j (12 - j)) with h2 | h2
          · rw [if_pos ⟨h, by omega⟩, List.getElem?_append_right (by simp [hl]; omega), List.getElem?_append_left (by simp [hl]; omega), List.getElem?_replicate, if_pos (by simp [hl]; omega), List.getElem?_take, if_pos (show i - j < j by omega)]
            exact (hall _ (by omega)).symm
          · rw [if_neg (by omega), List.getElem?_append_right (by simp [hl]; omega), List.getElem?_append_right (by simp [hl]; omega), List.getElem?_drop]
            exact congrArg (zs[·]?) (by simp [hl]; omega)
      · refine ⟨_, rfl, ⟨(Below.refl _ _).grown hg7 (Nat.le_trans hb5.size hs.1.size) hbk, fun q hq => ?_⟩, by rw [hmin], ?_⟩
        · obtain ⟨zs2, hw2, hl2, hq2⟩ := hq
          have hqi : ∀ i, i < q → zs[i]? = some y := by rw [wrs_uniq hw hw2]; exact hq2
          refine ⟨_, hs7, by simp [hl]; omega, fun i hi => ?_⟩
          rcases Nat.lt_or_ge i j with h | h
          · rw [List.getElem?_append_left (by simp [hl]; omega), List.getElem?_take, if_pos h]; exact hall i h
          · rcases Nat.lt_or_ge i (j + min j (12 - j)) with h2 | h2
            · rw [List.getElem?_append_right (by simp [hl]; omega), List.getElem?_append_left (by simp [hl]; omega), List.getElem?_replicate, if_pos (by simp [hl]; omega)]
            · rw [List.getElem?_append_right (by simp [hl]; omega), List.getElem?_append_right (by simp [hl]; omega), List.getElem?_drop, ← hqi i hi]
              exact congrArg (zs[·]?) (by simp [hl]; omega)
        · refine ⟨_, hs7, by simp [hl]; omega, fun i hi => ?_⟩
          rcases Nat.lt_or_ge i j with h | h
          · rw [List.getElem?_append_left (by simp [hl]; omega), List.getElem?_take, if_pos h]; exact hall i h
          · rw [List.getElem?_append_right (by simp [hl]; omega), List.getElem?_append_left (by simp [hl]; omega), List.getElem?_replicate, if_pos (by simp [hl]; omega)]
    · obtain ⟨rfl, hR'⟩ := f45
      have e : IntKind.wrap .i64 ((j : Int) + ((min j (12 - j) : Nat) : Int)) = ((j + min j (12 - j) : Nat) : Int) := by rw [i64_of (by omega) (by omega)]; omega
      rw [e]
      refine ⟨⟨_, rfl, by omega, by omega, hR', hb5.trans hs.1⟩, ?_⟩
      simp only [Int.toNat_natCast]; omega
  · rw [hsn] at hge
    have : j = 12 := by simp at hge; omega
    subst this
    obtain ⟨zs, hw, hl, hz6⟩ := hR
    refine hk s w5 hb5 ?_
    have : zs = List.replicate 12 y := by
      refine List.ext_getElem? fun i => ?_
      rcases Nat.lt_or_ge i 12 with h | h
      · rw [hz6 i h, List.getElem?_replicate, if_pos h]
      · rw [List.getElem?_eq_none (by omega), List.getElem?_eq_none (by simp; omega)]
    rw [← this]; exact hw
end
end Go.Proofs.Ytdlnoabihfnmmaa.V

/- Plain laws: rules without those that do nothing. -/
namespace Go.Proofs.Ytdlnoabihfnmmaa.V
open Go Go.RowKit
set_option linter.unusedVariables false
set_option linter.unusedSimpArgs false
/-- What is known of each byte, as rules go on. -/
abbrev Kn := List (Nat × Nat)
def kn0 : Kn := List.replicate 12 (0, 255)
def knAt (st : Kn) (r : Rule) : Nat × Nat := st.getD r.at_.toNat (0, 255)
/-- Rules without those that do nothing. -/
def tidyL : Kn → List Rule → List Rule
  | _, [] => []
  | st, r :: rs =>
    match brN r.op (knAt st r).1 (knAt st r).2 r.num.toNat true with
    | none => tidyL st rs
    | some _ => r :: (match brN r.op (knAt st r).1 (knAt st r).2 r.num.toNat false with
      | none => []
      | some p => tidyL (st.set r.at_.toNat p) rs)
/-- Bytes of which this is known. -/
def Fits (st : Kn) (cs : List Int) : Prop := st.length = 12 ∧ ∀ (i : Nat) (p : Nat × Nat), st[i]? = some p → ∃ x, cs[i]? = some x ∧ (p.1 : Int) ≤ x ∧ x ≤ p.2
theorem fits0 {cs : List Int} (hc : Came cs) : Fits kn0 cs := by
  refine ⟨by simp [kn0], fun i p hp => ?_⟩
  have hi := lt_of_get hp
  simp only [kn0, List.length_replicate] at hi
  obtain ⟨x, hx⟩ := get_some (l := cs) (k := i) (by have := hc.1; omega)
  refine ⟨x, hx, ?_⟩
  simp only [kn0, List.getElem?_replicate] at hp
  split at hp
  · simp only [Option.some.injEq] at hp
    subst hp
    have := hc.2 x (List.mem_of_getElem? hx)
    simp; omega
  · omega
theorem fits_at {st : Kn} {cs : List Int} (h : Fits st cs) {r : Rule} (hr : RuleP r) : st[r.at_.toNat]? = some (knAt st r) ∧ ((knAt st r).1 : Int) ≤ cs.getD r.at_.toNat 0 ∧ cs.getD r.at_.toNat 0 ≤ (knAt st r).2 := by
  obtain ⟨p, hp⟩ := get_some (l := st) (k := r.at_.toNat) (by have := hr.1; have := h.1; omega)
  have hk : knAt st r = p := by unfold knAt; rw [List.getD_eq_getElem?_getD, hp]; rfl
  obtain ⟨x, hx, h1, h2⟩ := h.2 _ p hp
  rw [hk, List.getD_eq_getElem?_getD, hx]
  exact ⟨hp, h1, h2⟩
theorem fits_set {st : Kn} {cs : List Int} (h : Fits st cs) {r : Rule} (hr : RuleP r) {p : Nat × Nat} (h1 : (p.1 : Int) ≤ cs.getD r.at_.toNat 0) (h2 : cs.getD r.at_.toNat 0 ≤ p.2) : Fits (st.set r.at_.toNat p) cs := by
  refine ⟨by simpa using h.1, fun i q hq => ?_⟩
  by_cases e : r.at_.toNat = i
  · subst e
    have hi := lt_of_get hq
    rw [List.getElem?_set_self (by simpa using hi)] at hq
    simp only [Option.some.injEq] at hq
    subst hq
    obtain ⟨p0, hp0⟩ := get_some (l := st) (k := r.at_.toNat) (by simpa using hi)
    obtain ⟨x, hx, _⟩ := h.2 _ p0 hp0
    refine ⟨x, hx, ?_⟩
    rw [List.getD_eq_getElem?_getD, hx] at h1 h2
    exact ⟨h1, h2⟩
  · rw [List.getElem?_set_ne e] at hq
    exact h.2 i q hq
theorem holds_has {r : Rule} (hr : RuleP r) {lo hi : Nat} {x : Int} {is_ : Bool} (h1 : (lo : Int) ≤ x) (h2 : x ≤ hi) (hh : holdsB r.op x r.num = is_) : ∃ a b, brN r.op lo hi r.num.toNat is_ = some (a, b) ∧ (a : Int) ≤ x ∧ x ≤ b := by
  have hn := hr.2.2.1
  have h3 : holdsX r.op (x.toNat : Int) (r.num.toNat : Int) = is_ := by
    rw [show ((x.toNat : Nat) : Int) = x by omega, show ((r.num.toNat : Nat) : Int) = r.num by omega]; exact hh
  obtain ⟨a, b, hb, h4, h5⟩ := brN_has (op := r.op) (lo := lo) (hi := hi) (n := r.num.toNat) hr.2.1 (x := x.toNat) (by omega) h3
  exact ⟨a, b, hb, by omega, by omega⟩
/-- Tidied rules say the same. -/
theorem tidy_ruled {cs : List Int} : ∀ {st : Kn} {l : List Rule}, Fits st cs → (∀ r ∈ l, RuleP r) → ruledL (tidyL st l) cs = ruledL l cs
  | _, [], _, _ => rfl
  | st, r :: rs, hf, hp => by
    have hr := hp r List.mem_cons_self
    have hrs : ∀ q ∈ rs, RuleP q := fun q hq => hp q (List.mem_cons_of_mem _ hq)
    obtain ⟨hg, h1, h2⟩ := fits_at hf hr
    unfold tidyL
    cases hh : holdsB r.op (cs.getD r.at_.toNat 0) r.num with
    | true =>
      obtain ⟨a, b, hb, _⟩ := holds_has hr h1 h2 hh
      rw [hb]
      simp only [ruledL, hh, if_true]
    | false =>
      obtain ⟨a, b, hb, h3, h4⟩ := holds_has hr h1 h2 hh
      rw [hb]
      have ih1 := tidy_ruled hf hrs
      have ih2 := tidy_ruled (fits_set hf hr (p := (a, b)) h3 h4) hrs
      cases brN r.op (knAt st r).1 (knAt st r).2 r.num.toNat true with
      | none => simp only [ruledL, hh]; exact ih1
      | some q => simp only [ruledL, hh]; exact ih2
theorem tidy_idem : ∀ (st : Kn) (l : List Rule), tidyL st (tidyL st l) = tidyL st l
  | _, [] => rfl
  | st, r :: rs => by
    cases h1 : brN r.op (knAt st r).1 (knAt st r).2 r.num.toNat true with
    | none =>
      have e : tidyL st (r :: rs) = tidyL st rs := by rw [tidyL, h1]
      rw [e]; exact tidy_idem st rs
    | some q =>
      cases h2 : brN r.op (knAt st r).1 (knAt st r).2 r.num.toNat false with
      | none =>
        have e : ∀ xs, tidyL st (r :: xs) = [r] := fun xs => by rw [tidyL, h1, h2]
        rw [e, e]
      | some p =>
        have e : ∀ xs, tidyL st (r :: xs) = r :: tidyL (st.set r.at_.toNat p) xs := fun xs => by rw [tidyL, h1, h2]
        rw [e, e, tidy_idem]
theorem tidy_sub : ∀ (st : Kn) (l : List Rule), (tidyL st l).Sublist l
  | _, [] => List.Sublist.slnil
  | st, r :: rs => by
    cases h1 : brN r.op (knAt st r).1 (knAt st r).2 r.num.toNat true with
    | none =>
      have e : tidyL st (r :: rs) = tidyL st rs := by rw [tidyL, h1]
      rw [e]; exact (tidy_sub st rs).cons r
    | some q =>
      cases h2 : brN r.op (knAt st r).1 (knAt st r).2 r.num.toNat false with
      | none =>
        have e : tidyL st (r :: rs) = [r] := by rw [tidyL, h1, h2]
        rw [e]; exact List.Sublist.cons_cons _ (List.nil_sublist _)
      | some p =>
        have e : tidyL st (r :: rs) = r :: tidyL (st.set r.at_.toNat p) rs := by rw [tidyL, h1, h2]
        rw [e]; exact List.Sublist.cons_cons _ (tidy_sub _ rs)
/-- Rules that are ok, tidied. -/
def tidyR (l : List Rule) : List Rule := if RulesP l then tidyL kn0 l else []
theorem tidy_ok {l : List Rule} (h : RulesP l) : RulesP (tidyL kn0 l) :=
  ⟨Nat.le_trans (tidy_sub kn0 l).length_le h.1, fun x hx => h.2 x ((tidy_sub kn0 l).subset hx)⟩
end Go.Proofs.Ytdlnoabihfnmmaa.V

/- Contracts: rules without those that do nothing, in the program. -/
namespace Go.Proofs.Ytdlnoabihfnmmaa.V
open Go Go.RowKit
set_option linter.unusedVariables false
set_option linter.unusedSimpArgs false
theorem mkOG {α : Type} {k : Kd α} {t tS : TypeId} {bytes : Nat} (hE : El P0 tS t k bytes) {w : World} {n : Nat} (hm : n * bytes ≤ 281474976710656) (hm2 : n ≤ 17592186044416) {K : Sl → World → Prop} (hk : ∀ s w', OwnS k t w.heap.size w' s [] → Below w.heap.size w w' → K s w') :
    RunT (.o (.lf .sl)) P0 (Instr.makeSlice tS (.int .i64 0) (.int .i64 (n : Int))) w K := by
  obtain ⟨i, z, hi, hz, hsz, hby, hzs⟩ := hE.info
  obtain ⟨w', hr, ho, hg⟩ := run_make_own (P := P0) w w.heap.size tS t i z k.ls.length hE.elem hi hz hsz .i64 .i64 n (by
    rw [hby, Nat.mul_comm]; exact hm) (by simp only [maxLen]; omega) (Nat.le_refl _)
  exact ⟨⟨_, 0, n⟩, w', hr, hk _ _ ⟨rfl, ho⟩ ((Below.refl _ _).grown hg (Nat.le_refl _) (by simp))⟩
theorem ldAt {w : World} {b o : Nat} {y : T4} (h : At w b o (Tup.cells (R 4 (.i .i64)) y)) {K : T4 → World → Prop} (hk : K y w) : LdA (R 4 (.i .i64)) ⟨b, o, none⟩ w K := ⟨y, fun j v hv => by rw [add_mk]; exact h j v hv, hk⟩
/-- An address of a range, in old memory. -/
def AtG (H : Nat) (y : T4) (a : Addr) (w : World) : Prop := ∃ b o, a = ⟨b, o, none⟩ ∧ b < H ∧ At w b o (Tup.cells (R 4 (.i .i64)) y)
theorem keptAt {H : Nat} {y : T4} : Kept (Below H) (AtG H y) := by
  rintro a x z ⟨b, o, h1, h2, h3⟩ hxz
  refine ⟨b, o, h1, h2, fun m v hv => ?_⟩
  rw [← h3 m v hv]
  unfold World.cell?
  simp only
  rw [hxz.block b h2]
theorem at_lt {w : World} {b o : Nat} {y : T4} (h : At w b o (Tup.cells (R 4 (.i .i64)) y)) : b < w.heap.size := World.block_lt_of_cell? w _ (h 0 _ (show (Tup.cells (R 4 (.i .i64)) y)[0]? = some (.int .i64 y.1) from rfl))
theorem ixRb {α : Type} {k : Kd α} {w : World} {s : Sl} {xs : List α} {i : Int} {x : α} {sz : Nat} (h : SlR k w s xs) (hi : 0 ≤ i) (hx : xs[i.toNat]? = some x) (hsz : sz = k.ls.length) {K : Addr → World → Prop}
    (hk : ∀ b o, s.bk = some b → At w b o (k.cells x) → K ⟨b, o, none⟩ w) : Ix s.a s.n i sz w K := by
  obtain ⟨b, o, ha, hA⟩ := h.at hx
  have hl : i.toNat < xs.length := by
    rcases Nat.lt_or_ge i.toNat xs.length with h | h
    · exact h
    · simp [List.getElem?_eq_none h] at hx
  refine ⟨⟨b, o, none⟩, ha, hi, by rw [h.1]; omega, ?_⟩
  rw [add_mk, hsz]
  exact hk _ _ (by simp [Sl.bk, ha]) hA
def ivlp (p : Nat × Nat) : T4 := ivl p.1 p.2
def StOk (st : Kn) : Prop := st.length = 12 ∧ ∀ p ∈ st, p.1 ≤ p.2 ∧ p.2 ≤ 255
theorem stOk0 : StOk kn0 := ⟨by simp [kn0], fun p hp => by simp only [kn0, List.mem_replicate] at hp; rw [hp.2]; simp⟩
theorem stOk_at {st : Kn} (h : StOk st) {r : Rule} (hr : RuleP r) : st[r.at_.toNat]? = some (knAt st r) ∧ (knAt st r).1 ≤ (knAt st r).2 ∧ (knAt st r).2 ≤ 255 := by
  obtain ⟨p, hp⟩ := get_some (l := st) (k := r.at_.toNat) (by have := hr.1; have := h.1; omega)
  have hk : knAt st r = p := by unfold knAt; rw [List.getD_eq_getElem?_getD, hp]; rfl
  rw [hk]
  exact ⟨hp, h.2 p (List.mem_of_getElem? hp)⟩
theorem stOk_set {st : Kn} (h : StOk st) {r : Rule} (hr : RuleP r) {is_ : Bool} {p : Nat × Nat} (hb : brN r.op (knAt st r).1 (knAt st r).2 r.num.toNat is_ = some p) : StOk (st.set r.at_.toNat p) := by
  refine ⟨by simpa using h.1, fun q hq => ?_⟩
  rcases List.mem_or_eq_of_mem_set hq with h1 | rfl
  · exact h.2 q h1
  · obtain ⟨_, h2, h3⟩ := stOk_at h hr
    have := brN_in (a := q.1) (b := q.2) h2 hb
    omega
theorem map_set {st : Kn} {i : Nat} {p : Nat × Nat} : (st.set i p).map ivlp = (st.map ivlp).set i (ivlp p) := List.map_set
section
variable {w : World} {s : Sl} {l : List Rule}
theorem impl.RangeOne.i {m : Nat} {v : Int} {K : T4 → World → Prop} (hv : v = m) (hm : m ≤ 255) (hk : ∀ w', Below w.heap.size w w' → K (ivl m m) w') : CallT (.o (.ag (R 4 (.i .i64)))) P0 21 [.int .i64 v] w K := by
  subst hv
  refine impl.RangeOne.c (by omega) (by omega) fun w' hb => ?_
  have := hk w' hb
  rw [ivl_one] at this
  exact this
/-- What is known between two rounds. -/
structure TdI (l : List Rule) (H0 H1 : Nat) (kn : Sl) (w0 : World) (out : Sl) (n : Nat) (st : Kn) (done : List Rule) (w : World) : Prop where
  le : n ≤ l.length
  ok : StOk st
  out : OwnS kRule 48 H1 w out done
  kn : WrS kRange 45 H0 w kn (st.map ivlp)
  bel : Below w0.heap.size w0 w
  size : H1 ≤ w.heap.size
  law : tidyL kn0 l = done ++ tidyL st (l.drop n)
  few : done.length ≤ n
theorem TdI.below {H0 H1 : Nat} {kn out : Sl} {w0 w w' : World} {n : Nat} {st : Kn} {done : List Rule} (h : TdI l H0 H1 kn w0 out n st done w) (hb : Below w.heap.size w w') : TdI l H0 H1 kn w0 out n st done w' :=
  ⟨h.le, h.ok, h.out.below hb, h.kn.below hb, h.bel.trans (hb.mono h.bel.size), Nat.le_trans h.size hb.size, h.law, h.few⟩
end
end Go.Proofs.Ytdlnoabihfnmmaa.V

/- Contracts: RulesTidy, in the program. -/
namespace Go.Proofs.Ytdlnoabihfnmmaa.V
open Go Go.RowKit
set_option linter.unusedVariables false
set_option linter.unusedSimpArgs false
section
variable {w : World} {s : Sl} {l : List Rule}
/-- The rest is handed back. -/
theorem tdRet {out : Sl} {done : List Rule} {H : Nat} {t : TypeId} {w0 w1 : World} {K : Sl → World → Prop} (ho : OwnS kRule t H w1 out done) (hb : Below w0.heap.size w0 w1) (hk : ∀ r w', Below w0.heap.size w0 w' → SlR kRule w' r done → K r w') :
    RunT (.o (.lf .sl)) P0 (Instr.sliceAt 23 out.v none (some (.int .i64 ((out.n : Nat) : Int))) (some (.int .i64 ((out.n : Nat) : Int)))) w1 K := by
  have hc := ho.cap
  have hn := ho.len
  refine slcR (k := kRule) (e := 48) (by kernel_rfl) (by kernel_rfl) ho.read (lo := none) (hi := some (out.n : Int)) (mx := some (out.n : Int)) (l := 0) (h' := out.n) (m := out.n) rfl rfl rfl (by simp) (by omega) (by omega) (by omega) (by omega) fun r _ _ hr _ => ?_
  refine hk r w1 hb ?_
  rw [List.drop_zero, hn, List.take_length] at hr
  exact hr
set_option maxHeartbeats 4000000 in
theorem impl.RulesTidy.c {K : Sl → World → Prop} (h : SlR kRule w s l) (hk : ∀ r w', Below w.heap.size w w' → SlR kRule w' r (tidyR l) → K r w') : CallT (.o (.lf .sl)) P0 6 [s.v] w K := by
  refine impl.RulesTidy.ok (impl.RulesOk.c h fun w1 hb1 => ?_)
  refine And.intro (fun hq => ?_) (fun hq => ?_)
  · have hno : ¬ RulesP l := by simpa using hq
    refine hk _ w1 hb1 ?_
    have e : tidyR l = [] := by unfold tidyR; rw [if_neg hno]
    rw [e]; exact SlR.nil _ _
  · have hp : RulesP l := by simpa using hq
    have et : tidyR l = tidyL kn0 l := by unfold tidyR; rw [if_pos hp]
    rw [et] at hk
    have hl6 := hp.1
    have hsn := h.len
    refine impl.fromTo.c fun w2 hb2 => ?_
    generalize hy0 : ivl 0 255 = y0
    refine nw fun w3 hb3 hs3 hc3 => ?_
    have hb13 := hb1.trans ((hb2.trans (hb3.mono hb2.size)).mono hb1.size)
    have h1 : SlR kRange w3 ⟨some ⟨w2.heap.size, 0, none⟩, 1, 1⟩ [y0] := (OwnS.lit (k := kRange) (B := w2.heap.size) (xs := [y0]) (n := 1) (Nat.le_refl _) hc3 rfl rfl (by simp [maxLen])).read
    refine slices.Repeat_Range.c (x := ⟨some ⟨w2.heap.size, 0, none⟩, 1, 1⟩) (y := y0) h1 ?_
    intro kn w4 hb4 hkn
    have hb14 := hb13.trans (hb4.mono hb13.size)
    refine mkOG elRule (n := s.n) (by omega) (by omega) fun o5 w5 ho5 hb5 => ?_
    have hb15 := hb14.trans (hb5.mono hb14.size)
    have hkn5 := hkn.below hb5
    have hknb : ∀ b, kn.bk = some b → b < w4.heap.size := fun b hb => (hkn.blk hb).2
    have hkn0 : (List.replicate 12 y0) = kn0.map ivlp := by rw [← hy0]; simp [kn0, ivlp]
    rw [hkn0] at hkn5
    refine ⟨fun out t w' => ∃ (n : Nat) (st : Kn) (done : List Rule), t = n ∧ TdI l w3.heap.size w4.heap.size kn w out n st done w', fun _ t _ => l.length - t.toNat, ⟨0, kn0, [], rfl, Nat.zero_le _, stOk0, ho5, hkn5, hb15, hb5.size, rfl, by simp⟩, ?_⟩
    rintro out t w6 ⟨n, st, done, rfl, hI⟩ _
    refine And.intro (fun hlt => ?_) (fun hge => ?_)
    · simp only [decide_eq_true_eq] at hlt
      have hnl : n < l.length := by omega
      obtain ⟨x, hx⟩ := get_some hnl
      have hpx := hp.2 x (List.mem_of_getElem? hx)
      obtain ⟨hstx, hle, h255⟩ := stOk_at hI.ok hpx
      have hxn := hpx.2.2.1
      have hdrop := getElem?_drop_cons hx
      refine ixA (h.below hI.bel) (i := (n : Int)) (by omega) (x := x) (by simpa using hx) rfl ?_
      refine nwStRule fun w7 hb7 hs7 hc7 => ?_
      have hI7 := hI.below hb7
      refine ldB hc7 (j := 2) (x := x.num) rfl ?_
      obtain ⟨m, hm⟩ : ∃ m : Nat, x.num = m := ⟨x.num.toNat, by omega⟩
      have hm2 : x.num.toNat = m := by omega
      have hm255 : m ≤ 255 := by omega
      refine impl.RangeOne.i (m := m) hm hm255 fun w8 hb8 => ?_
      have hI8 := hI7.below hb8
      have hM := M.start w8
      refine nwZ hM fun w9 bo m9 => stAM' m9 (by with_unfolding_all (repeat (first | exact Up.head _ _ _ _ | apply Up.tail))) fun w10 m10 => ?_
      replace m10 : M w8 w10 [(bo, ivl m m)] := m10
      clear m9 hM
      have hI10 := hI8.below m10.low
      have hr10 : w10.heap[w6.heap.size]? = some (.cells x.cs 48 (0, 0)) := (m10.low.block _ (by have := hb8.size; omega)).trans ((hb8.block _ (by omega)).trans hc7)
      have hbo := m10.box bo _ List.mem_cons_self
      have hbo6 : w6.heap.size < bo := by have := hb8.size; omega
      have hatg : ∀ {w' : World} {H : Nat}, H = w'.heap.size → TdI l w3.heap.size w4.heap.size kn w out n st done w' → True := fun _ _ => trivial
      generalize hkx : knAt st x = px at *
      obtain ⟨lo, hi⟩ := px
      simp only at hle h255
      have hkat : (st.map ivlp)[x.at_.toNat]? = some (ivl lo hi) := by rw [List.getElem?_map, hstx]; rfl
      refine ⟨Below w10.heap.size, belOk _, eqG x.op, keptE, eqG x.at_, keptE, AtG w10.heap.size (ivl lo hi), keptAt, eqG (ivl lo hi), keptE, eqG (ivl m m), keptE, eqG (brT x.op lo hi m true), keptE, eqG (brT x.op lo hi m true).1, keptE, eqG (brT x.op lo hi m true).2.1, keptE, ?_⟩
      refine ⟨fun w' hs => ?_, fun t34 => ⟨fun w' hs => ?_, fun t37 => ⟨fun w' hs f => ?_, fun t38 => ⟨fun w' hs f => ?_, fun t39 => ⟨fun w' hs => ?_, fun t40 => ⟨fun w' hs f34 f39 f40 => ?_, fun t41 => ⟨fun w' hs => nwX hs.size, fun t8 => ⟨fun w' hs => nwX hs.size, fun t9 => ⟨fun w' hs f41 q1 q2 => ?_, fun st0 => ⟨fun w' hs f41 q1 q2 => ?_, fun st1 w11 hs f34 f37 f38 f39 f40 f41 g1 g2 hbx => ?_⟩⟩⟩⟩⟩⟩⟩⟩⟩⟩
      · exact ldB ((hs.block _ (by omega)).trans hr10) (j := 1) (x := x.op) rfl (gkX rfl (Below.refl _ _) hs.size)
      · exact ldB0 ((hs.block _ (by omega)).trans hr10) (x := x.at_) rfl (gkX rfl (Below.refl _ _) hs.size)
      · cases f
        exact ixRb ((hI10.kn.below hs).read) (i := x.at_) hpx.1.1 hkat rfl fun b o hb hA => ⟨⟨b, o, none⟩, rfl, ⟨Below.refl _ _, Nat.le_refl _, fun _ _ _ => rfl⟩, b, o, rfl, by have := hknb b hb; have := hI10.size; omega, hA⟩
      · obtain ⟨b, o, rfl, _, hA⟩ := f
        exact ldAt hA (gkX rfl (Below.refl _ _) hs.size)
      · exact ldAM (m10.below hs) (by with_unfolding_all (repeat (first | exact List.mem_cons_self | refine List.mem_cons_of_mem _ ?_))) (gkX rfl (Below.refl _ _) hs.size)
      · cases f34; cases f39; cases f40
        exact impl.branch.c hpx.2.1 hle (by omega) (by omega) fun w5 hb5 => gkX rfl hb5 hs.size
      · cases f41; exact stX q1 hs.size q2
      · cases f41; exact stX q1 hs.size q2
      · cases f34; cases f37; cases f39; cases f40; cases f41
        have hI11 := hI10.below hs
        have hr11 : w11.heap[w6.heap.size]? = some (.cells x.cs 48 (0, 0)) := (hs.block _ (by omega)).trans hr10
        have m11 := m10.below hs
        clear hbx
        have hlaw : tidyL kn0 l = done ++ (match brN x.op lo hi m true with
          | none => tidyL st (l.drop (n + 1))
          | some _ => x :: (match brN x.op lo hi m false with
            | none => []
            | some p => tidyL (st.set x.at_.toNat p) (l.drop (n + 1)))) := by
          first | (rw [hI.law, hdrop, tidyL, hkx, hm2]; rfl) | rw [hI.law, hdrop, tidyL, hkx, hm2]
        have ei : IntKind.wrap .i64 ((n : Int) + 1) = ((n + 1 : Nat) : Int) := by rw [i64_of (by omega) (by omega)]; omega
        rw [ei]
        have hok1 := brT_ok (op := x.op) (lo := lo) (hi := hi) (n := m) (is_ := true)
        have hok2 := brT_ok (op := x.op) (lo := lo) (hi := hi) (n := m) (is_ := false)
        refine And.intro (fun hc => ?_) (fun hc => ?_)
        · have hnone : brN x.op lo hi m true = none := by rw [hok1] at hc; cases hbn : brN x.op lo hi m true with
            | none => rfl
            | some p => rw [hbn] at hc; simp at hc
          rw [hnone] at hlaw
          refine ⟨⟨n + 1, st, done, rfl, ⟨by omega, hI11.ok, hI11.out, hI11.kn, hI11.bel, hI11.size, hlaw, by have := hI11.few; omega⟩⟩, ?_⟩
          simp only [Int.toNat_natCast]; omega
        · obtain ⟨p1, hp1⟩ : ∃ p, brN x.op lo hi m true = some p := by rw [hok1] at hc; cases hbn : brN x.op lo hi m true with
            | none => rw [hbn] at hc; simp at hc
            | some p => exact ⟨p, rfl⟩
          rw [hp1] at hlaw
          simp only at hlaw
          have hfew := hI.few
          have hob : ∀ b, (Value.slice out.a out.n out.c).ownBlock = some b → w4.heap.size ≤ b ∧ b < w6.heap.size := fun b hb => hI.out.blk hb
          refine ldAB hr11 (x := x.t) rfl ?_
          refine ap1 elRule hI11.out x rfl (by omega) (by omega) hI11.size fun out2 w12 ho2 hg2 hbk2 => ?_
          have hw1112 := hg2.size
          have hw611 : w6.heap.size < w11.heap.size := by have := hs.size; omega
          have hw1011 := hs.size
          have hr12 : w12.heap[w6.heap.size]? = some (.cells x.cs 48 (0, 0)) := (hg2.block _ (by omega) (fun e => by have := (hob _ e.symm).2; omega)).trans hr11
          have hbo12 : w12.heap[bo]? = some (.cells (Tup.cells (R 4 (.i .i64)) (ivl m m)).toArray 45 (0, 0)) := (hg2.block bo (by omega) (fun e => by have := (hob _ e.symm).2; omega)).trans (m11.box bo _ List.mem_cons_self).2.2
          have hkn12 : WrS kRange 45 w3.heap.size w12 kn (st.map ivlp) := hI11.kn.kept hg2 (fun b hb e => by have := (hob b hb).1; have := hknb b e; omega)
          have hbel12 : Below w.heap.size w w12 := hI11.bel.grown hg2 hI11.bel.size (fun b hb => by have := (hob b hb).1; have := hb14.size; omega)
          have hsz12 : w4.heap.size ≤ w12.heap.size := by have := hI11.size; omega
          clear hr10 hr11 m10 m11 hI10 hI7 hI8 hc7 hc hok1 hs
          refine ⟨Below w12.heap.size, belOk _, eqG x.op, keptE, eqG x.at_, keptE, AtG w12.heap.size (ivl lo hi), keptAt, eqG (ivl lo hi), keptE, eqG (ivl m m), keptE, eqG (brT x.op lo hi m false), keptE, eqG (brT x.op lo hi m false).1, keptE, eqG (brT x.op lo hi m false).2.1, keptE, ?_⟩
          refine ⟨fun w' hs => ?_, fun t34 => ⟨fun w' hs => ?_, fun t37 => ⟨fun w' hs f => ?_, fun t38 => ⟨fun w' hs f => ?_, fun t39 => ⟨fun w' hs => ?_, fun t40 => ⟨fun w' hs f34 f39 f40 => ?_, fun t41 => ⟨fun w' hs => nwX hs.size, fun lf => ⟨fun w' hs => nwX hs.size, fun t9 => ⟨fun w' hs f41 q1 q2 => ?_, fun st2 => ⟨fun w' hs f41 q1 q2 => ?_, fun st3 w13 hs f34 f37 f38 f39 f40 f41 g1 g2 hbx => ?_⟩⟩⟩⟩⟩⟩⟩⟩⟩⟩
          · exact ldB ((hs.block _ (by omega)).trans hr12) (j := 1) (x := x.op) rfl (gkX rfl (Below.refl _ _) hs.size)
          · exact ldB0 ((hs.block _ (by omega)).trans hr12) (x := x.at_) rfl (gkX rfl (Below.refl _ _) hs.size)
          · cases f
            exact ixRb ((hkn12.below hs).read) (i := x.at_) hpx.1.1 hkat rfl fun b o hb hA => ⟨⟨b, o, none⟩, rfl, ⟨Below.refl _ _, Nat.le_refl _, fun _ _ _ => rfl⟩, b, o, rfl, by have := hknb b hb; omega, hA⟩
          · obtain ⟨b, o, rfl, _, hA⟩ := f
            exact ldAt hA (gkX rfl (Below.refl _ _) hs.size)
          · exact ldAB ((hs.block _ (by omega)).trans hbo12) (by simp) (gkX rfl (Below.refl _ _) hs.size)
          · cases f34; cases f39; cases f40
            exact impl.branch.c hpx.2.1 hle (by omega) (by omega) fun w5 hb5 => gkX rfl hb5 hs.size
          · cases f41; exact stX q1 hs.size q2
          · cases f41; exact stX q1 hs.size q2
          · cases f34; cases f37; cases f39; cases f40; cases f41; cases g1
            have hlf := hbx.1 _ List.mem_cons_self
            simp only at hlf
            have hbel13 : Below w.heap.size w w13 := hbel12.trans (hs.mono hbel12.size)
            have hr13 := (hs.block _ (by omega)).trans hr12
            refine And.intro (fun hc => ?_) (fun hc => ?_)
            · have hnone : brN x.op lo hi m false = none := by rw [hok2] at hc; cases hbn : brN x.op lo hi m false with
                | none => rfl
                | some p => rw [hbn] at hc; simp at hc
              rw [hnone] at hlaw
              rw [hlaw] at hk
              exact tdRet (ho2.below hs) hbel13 hk
            · obtain ⟨p2, hp2⟩ : ∃ p, brN x.op lo hi m false = some p := by rw [hok2] at hc; cases hbn : brN x.op lo hi m false with
                | none => rw [hbn] at hc; simp at hc
                | some p => exact ⟨p, rfl⟩
              rw [hp2] at hlaw
              have e1 : (brT x.op lo hi m false).1 = ivlp p2 := by rw [brT_some (a := p2.1) (b := p2.2) hp2]; rfl
              refine ldB0 hr13 (x := x.at_) rfl ?_
              refine ldAB hlf.2.2 (x := (brT x.op lo hi m false).1) rfl ?_
              refine ixStA (hkn12.below hs) (i := x.at_) hpx.1.1 hkat rfl (by decide) noAnyRange (ivlp p2) (by rw [e1]; rfl) fun w14 hkn14 hg14 hsz14 => ?_
              have hknb3 : ∀ b, kn.bk = some b → w3.heap.size ≤ b ∧ b < w4.heap.size := fun b hb => ⟨((hkn12.below hs).blk hb).1, hknb b hb⟩
              rw [← map_set] at hkn14
              refine ⟨⟨n + 1, st.set x.at_.toNat p2, done ++ [x], rfl, ⟨by omega, stOk_set hI.ok hpx (is_ := false) (by rw [hkx]; show brN x.op lo hi x.num.toNat false = some p2; rw [hm2]; exact hp2), (ho2.below hs).kept hg14 (fun b hb e => by have := ((ho2.below hs).blk e).1; have := hknb b hb; omega), hkn14, hbel13.grown hg14 hbel13.size (fun b hb => by have := (hknb3 b hb).1; have := hb13.size; omega), by have := hs.size; omega, by rw [hlaw]; simp, by simp; omega⟩⟩, ?_⟩
              simp only [Int.toNat_natCast]; omega
    · simp only [decide_eq_false_iff_not] at hge
      have hnl : n = l.length := by have := hI.le; omega
      have e := hI.law
      rw [hnl, List.drop_length, show tidyL st [] = [] from rfl, List.append_nil] at e
      rw [e] at hk
      exact tdRet hI.out hI.bel hk
end
end Go.Proofs.Ytdlnoabihfnmmaa.V

/- Contracts: RulesTidy, in the reference. -/
namespace Go.Proofs.Ytdlnoabihfnmmaa.V
open Go Go.RowKit
set_option linter.unusedVariables false
set_option linter.unusedSimpArgs false
theorem elRange : El P0 42 45 kRange 32 := ⟨by kernel_rfl, ⟨_, _, Option.eq_some_of_isSome (by kernel_rfl), Option.eq_some_of_isSome (by kernel_rfl), by kernel_rfl, by kernel_rfl, by kernel_rfl⟩, by decide, noAnyRange⟩
def AtV (H : Nat) (vs : List Value) (a : Addr) (w : World) : Prop := ∃ b o, a = ⟨b, o, none⟩ ∧ b < H ∧ At w b o vs
theorem keptAv {H : Nat} {vs : List Value} : Kept (Below H) (AtV H vs) := by
  rintro a x z ⟨b, o, h1, h2, h3⟩ hxz
  refine ⟨b, o, h1, h2, fun m v hv => ?_⟩
  rw [← h3 m v hv]
  unfold World.cell?
  simp only
  rw [hxz.block b h2]
theorem bk_lt {α : Type} {k : Kd α} {w : World} {s : Sl} {xs : List α} (h : SlR k w s xs) {i : Nat} {x : α} (hx : xs[i]? = some x) {v : Value} (hv : (k.cells x)[0]? = some v) {b : Nat} (hb : s.bk = some b) : b < w.heap.size := by
  obtain ⟨b', o, ha, hA⟩ := h.at hx
  have : b' = b := by simpa [Sl.bk, ha] using hb
  subst this
  exact World.block_lt_of_cell? w _ (hA 0 v hv)
theorem ldAv {w : World} {b o : Nat} {ls : List Lf} {y : Tup ls} (h : At w b o (Tup.cells ls y)) {K : Tup ls → World → Prop} (hk : K y w) : LdA ls ⟨b, o, none⟩ w K := ⟨y, fun j v hv => by rw [add_mk]; exact h j v hv, hk⟩
/-- A rule is asked of what is known. -/
theorem regT {w : World} {s kn : Sl} {l : List Rule} {ks : List T4} {i : Int} {x : Rule} {lo hi m : Nat} {is_ : Bool} {K : T4 × Bool × Unit → Nat → World → Prop} (hs : SlR kRule w s l) (hkn : SlR kRange w kn ks) (hi0 : 0 ≤ i) (hx : l[i.toNat]? = some x) (hpx : RuleP x) (hm : x.num.toNat = m) (hkat : ks[x.at_.toNat]? = some (ivl lo hi)) (hle : lo ≤ hi) (h255 : hi ≤ 255)
    (hk : ∀ b w', Below w.heap.size w w' → w'.heap[b]? = some (.cells (Tup.cells (R 4 (.i .i64)) (brT x.op lo hi m is_).1).toArray 45 (0, 0)) → w.heap.size ≤ b → K ((brT x.op lo hi m is_).1, (brN x.op lo hi m is_).isSome, ()) b w') :
    ∃ Sp : World → World → Prop, SpOk Sp w ∧ ∃ G40 : Addr → World → Prop, Kept Sp G40 ∧ ∃ G41 : Tup (R 5 (.i .i64)) → World → Prop, Kept Sp G41 ∧ ∃ G44 : Addr → World → Prop, Kept Sp G44 ∧ ∃ G45 : Tup (R 4 (.i .i64)) → World → Prop, Kept Sp G45 ∧ ∃ G46 : (Tup (R 4 (.i .i64))) × (Bool) × Unit → World → Prop, Kept Sp G46 ∧ ∃ Gs : Tup (R 4 (.i .i64)) → World → Prop, Kept Sp Gs ∧
    (∀ w1, Sp w w1 → Ix s.a s.n i 5 w1 fun a w2 => GK (.o (.lf .ad)) (Sb (World.heap w).size Sp) w1 G40 (.pointer (some a)) w2) ∧
    ∀ (t40 : Addr), (∀ w1, Sp w w1 → G40 t40 w1 → LdA (R 5 (.i .i64)) t40 w1 fun (t : Tup (R 5 (.i .i64))) w2 => GK (.o (.ag (R 5 (.i .i64)))) (Sb (World.heap w).size Sp) w1 G41 (.agg (Tup.cells (R 5 (.i .i64)) t).toArray) w2) ∧
    ∀ (t41 : Tup (R 5 (.i .i64))), (∀ w1, Sp w w1 → Ix kn.a kn.n x.at_ 4 w1 fun a w2 => GK (.o (.lf .ad)) (Sb (World.heap w).size Sp) w1 G44 (.pointer (some a)) w2) ∧
    ∀ (t44 : Addr), (∀ w1, Sp w w1 → G44 t44 w1 → LdA (R 4 (.i .i64)) t44 w1 fun (t : Tup (R 4 (.i .i64))) w2 => GK (.o (.ag (R 4 (.i .i64)))) (Sb (World.heap w).size Sp) w1 G45 (.agg (Tup.cells (R 4 (.i .i64)) t).toArray) w2) ∧
    ∀ (t45 : Tup (R 4 (.i .i64))), (∀ w1, Sp w w1 → G41 t41 w1 → G45 t45 w1 → CallT (.n [(.ag (R 4 (.i .i64))), (.lf .b)]) P0 25 [(.agg (Tup.cells (R 5 (.i .i64)) t41).toArray), (.agg (Tup.cells (R 4 (.i .i64)) t45).toArray), (.bool is_)] w1 fun (t : (Tup (R 4 (.i .i64))) × (Bool) × Unit) w2 => GK (.n [(.ag (R 4 (.i .i64))), (.lf .b)]) (Sb (World.heap w).size Sp) w1 G46 (.tuple #[(.agg (Tup.cells (R 4 (.i .i64)) t.1).toArray), (.bool t.2.1)]) w2) ∧
    ∀ (t46 : (Tup (R 4 (.i .i64))) × (Bool) × Unit), (∀ w1, Sp w w1 → Nw (zc P0 45) 45 w1 fun a w2 => AXp (World.heap w).size 45 (zc P0 45) Sp w1 (.pointer (some a)) w2) ∧
    ∀ (t8 : Nat), (∀ w1, Sp w w1 → G46 t46 w1 → (World.heap w).size ≤ t8 → (World.heap w1)[t8]? = some (.cells (zc P0 45) 45 (0, 0)) → StA P0 (⟨t8, 0, none⟩ : Addr) (Tup.cells (R 4 (.i .i64)) t46.1) w1 fun w2 => GS (.o (.ag (R 4 (.i .i64)))) Sp w1 Gs t8 45 w2) ∧
    ∀ (st : Tup (R 4 (.i .i64))), ∀ w1, Sp w w1 → G40 t40 w1 → G41 t41 w1 → G44 t44 w1 → G45 t45 w1 → G46 t46 w1 → Gs st w1 → BxD (World.heap w).size w1 [(t8, ((.agg (Tup.cells (R 4 (.i .i64)) st).toArray) : Value).cells, 45)] → K t46 t8 w1 := by
  have hsl : ∀ b, s.bk = some b → b < w.heap.size := fun b hb => bk_lt hs hx (v := .int .i64 x.at_) rfl hb
  have hkl : ∀ b, kn.bk = some b → b < w.heap.size := fun b hb => bk_lt hkn hkat (v := .int .i64 (ivl lo hi).1) rfl hb
  refine ⟨Below w.heap.size, belOk _, AtV w.heap.size (Tup.cells (R 5 (.i .i64)) x.t), keptAv, eqG x.t, keptE, AtG w.heap.size (ivl lo hi), keptAt, eqG (ivl lo hi), keptE, eqG ((brT x.op lo hi m is_).1, (brN x.op lo hi m is_).isSome, ()), keptE, eqG (brT x.op lo hi m is_).1, keptE, ?_⟩
  refine ⟨fun w' hs' => ?_, fun t40 => ⟨fun w' hs' f => ?_, fun t41 => ⟨fun w' hs' => ?_, fun t44 => ⟨fun w' hs' f => ?_, fun t45 => ⟨fun w' hs' f41 f45 => ?_, fun t46 => ⟨fun w' hs' => nwX hs'.size, fun t8 => ⟨fun w' hs' f46 q1 q2 => ?_, fun st w' hs' f40 f41 f44 f45 f46 g hbx => ?_⟩⟩⟩⟩⟩⟩⟩
  · exact ixRb (hs.below hs') hi0 hx rfl fun b o hb hA => ⟨⟨b, o, none⟩, rfl, ⟨Below.refl _ _, Nat.le_refl _, fun _ _ _ => rfl⟩, b, o, rfl, hsl b hb, hA⟩
  · obtain ⟨b, o, rfl, _, hA⟩ := f
    exact ldAv hA (gkX rfl (Below.refl _ _) hs'.size)
  · exact ixRb (hkn.below hs') hpx.1.1 hkat rfl fun b o hb hA => ⟨⟨b, o, none⟩, rfl, ⟨Below.refl _ _, Nat.le_refl _, fun _ _ _ => rfl⟩, b, o, rfl, hkl b hb, hA⟩
  · obtain ⟨b, o, rfl, _, hA⟩ := f
    exact ldAt hA (gkX rfl (Below.refl _ _) hs'.size)
  · cases f41; cases f45
    refine spec.l9Range.c hpx.2.1 hpx.2.2.1 hle (by omega) fun w5 hb5 => ?_
    rw [hm]
    exact gkX rfl hb5 hs'.size
  · cases f46; exact stX q1 hs'.size q2
  · cases f46; cases g
    have hb := hbx.1 _ List.mem_cons_self
    exact hk t8 w' hs' hb.2.2 hb.1
section
variable {w : World} {s : Sl} {l : List Rule}
set_option maxHeartbeats 4000000 in
theorem spec.RulesTidy.c {K : Sl → World → Prop} (h : SlR kRule w s l) (hk : ∀ r w', Below w.heap.size w w' → SlR kRule w' r (tidyR l) → K r w') : CallT (.o (.lf .sl)) P0 8 [s.v] w K := by
  refine spec.RulesTidy.ok ?_
  unfold spec.RulesTidy.vc
  refine nw fun w1 hb1 hs1 hc1 => ?_
  refine spec.l9Ok.c (h.below hb1) fun w2 hb2 => ?_
  have hb12 := hb1.trans (hb2.mono hb1.size)
  have ho2 : OwnS kRule 48 w.heap.size w2 ⟨some ⟨w.heap.size, 0, none⟩, 0, 0⟩ [] := (OwnS.lit (k := kRule) (B := w.heap.size) (xs := []) (n := 0) (Nat.le_refl _) hc1 rfl rfl (by simp)).below hb2
  refine And.intro (fun hq => ?_) (fun hq => ?_)
  · have hno : ¬ RulesP l := by simpa using hq
    refine hk _ w2 hb12 ?_
    have e : tidyR l = [] := by unfold tidyR; rw [if_neg hno]
    rw [e]; exact ho2.read
  · have hp : RulesP l := by simpa using hq
    have et : tidyR l = tidyL kn0 l := by unfold tidyR; rw [if_pos hp]
    rw [et] at hk
    have hl6 := hp.1
    have hsn := h.len
    have hw12 : w.heap.size < w2.heap.size := by have := hb2.size; omega
    refine nw fun w3 hb3 hs3 hc3 => ?_
    have ho3 : OwnS kRange 45 w2.heap.size w3 ⟨some ⟨w2.heap.size, 0, none⟩, 0, 0⟩ [] := OwnS.lit (k := kRange) (B := w2.heap.size) (xs := []) (n := 0) (Nat.le_refl _) hc3 rfl rfl (by simp)
    generalize hy0 : ivl 0 255 = y0
    refine ⟨fun kn t w' => ∃ n : Nat, t = n ∧ n ≤ 12 ∧ OwnS kRange 45 w2.heap.size w' kn (List.replicate n y0) ∧ Below w2.heap.size w2 w', fun _ t _ => 12 - t.toNat, ⟨0, rfl, by omega, ho3, hb3⟩, ?_⟩
    rintro kn t w4 ⟨n, rfl, hn, hkn, hb4⟩ _
    refine And.intro (fun hlt => ?_) (fun hge => ?_)
    · simp only [decide_eq_true_eq] at hlt
      refine spec.l2Ends.c fun w5 hb5 => ?_
      rw [hy0]
      refine ap1 elRange (hkn.below hb5) y0 rfl (by simp; omega) (by simp; omega) (by have := hb4.size; have := hb5.size; omega) fun kn2 w6 hkn2 hg6 _ => ?_
      have ei : IntKind.wrap .i64 ((n : Int) + 1) = ((n + 1 : Nat) : Int) := by rw [i64_of (by omega) (by omega)]; omega
      rw [ei]
      refine ⟨⟨n + 1, rfl, by omega, by rw [List.replicate_succ']; exact hkn2, (hb4.trans (hb5.mono hb4.size)).grown hg6 (by have := hb4.size; have := hb5.size; omega) (fun b hb => (hkn.blk hb).1)⟩, ?_⟩
      simp only [Int.toNat_natCast]; omega
    · simp only [decide_eq_false_iff_not] at hge
      obtain rfl : n = 12 := by omega
      have hkn0 : (List.replicate 12 y0) = kn0.map ivlp := by rw [← hy0]; simp [kn0, ivlp]
      rw [hkn0] at hkn
      have hb14 := hb12.trans (hb4.mono hb12.size)
      have hknb : ∀ b, kn.bk = some b → w2.heap.size ≤ b ∧ b < w4.heap.size := fun b hb => hkn.wr.blk hb
      refine ⟨fun out t w' => ∃ (n : Nat) (st : Kn) (done : List Rule), t = n ∧ TdI l w2.heap.size w.heap.size kn w out n st done w' ∧ w4.heap.size ≤ w'.heap.size ∧ ∀ b, (Value.slice out.a out.n out.c).ownBlock = some b → kn.bk ≠ some b, fun _ t _ => l.length - t.toNat,
        ⟨0, kn0, [], rfl, ⟨Nat.zero_le _, stOk0, ho2.below hb4, hkn.wr, hb14, hb14.size, rfl, by simp⟩, Nat.le_refl _, fun b hb e => by
          have h1 : w.heap.size = b := by simpa [Value.ownBlock] using hb
          have := (hknb b e).1
          omega⟩, ?_⟩
      rintro out t w5 ⟨n, st, done, rfl, hI, hw45, hdis⟩ _
      refine And.intro (fun hlt => ?_) (fun hge => ?_)
      · simp only [decide_eq_true_eq] at hlt
        have hnl : n < l.length := by omega
        obtain ⟨x, hx⟩ := get_some hnl
        have hpx := hp.2 x (List.mem_of_getElem? hx)
        obtain ⟨hstx, hle, h255⟩ := stOk_at hI.ok hpx
        have hxn := hpx.2.2.1
        have hdrop := getElem?_drop_cons hx
        have hls : ∀ b, s.bk = some b → b < w.heap.size := fun b hb => bk_lt h hx (v := .int .i64 x.at_) rfl hb
        have hw5 := hI.bel.size
        refine ixF (h.below hI.bel) (i := (n : Int)) (by omega) (x := x) (by simpa using hx) rfl (l := .i .i64) (v := x.at_) (j := 0) rfl ?_
        obtain ⟨m, hm⟩ : ∃ m : Nat, x.num.toNat = m := ⟨_, rfl⟩
        generalize hkx : knAt st x = px at *
        obtain ⟨lo, hi⟩ := px
        simp only at hle h255
        have hkat : (st.map ivlp)[x.at_.toNat]? = some (ivl lo hi) := by rw [List.getElem?_map, hstx]; rfl
        have hlaw : tidyL kn0 l = done ++ (match brN x.op lo hi m true with
          | none => tidyL st (l.drop (n + 1))
          | some _ => x :: (match brN x.op lo hi m false with
            | none => []
            | some p => tidyL (st.set x.at_.toNat p) (l.drop (n + 1)))) := by
          first | (rw [hI.law, hdrop, tidyL, hkx, hm]; rfl) | rw [hI.law, hdrop, tidyL, hkx, hm]
        have hfew := hI.few
        have ei : IntKind.wrap .i64 ((n : Int) + 1) = ((n + 1 : Nat) : Int) := by rw [i64_of (by omega) (by omega)]; omega
        rw [ei]
        refine regT (is_ := true) (h.below hI.bel) hI.kn.read (i := (n : Int)) (by omega) (by simpa using hx) hpx hm hkat hle h255 fun t8 w6 hb6 _ _ => ?_
        have hI6 := hI.below hb6
        refine regT (is_ := false) (h.below hI6.bel) hI6.kn.read (i := (n : Int)) (by omega) (by simpa using hx) hpx hm hkat hle h255 fun rest w7 hb7 hrest hrest2 => ?_
        have hI7 := hI6.below hb7
        have hw7 : w4.heap.size ≤ w7.heap.size := by have := hb6.size; have := hb7.size; omega
        refine And.intro (fun hc => ?_) (fun hc => ?_)
        · have hnone : brN x.op lo hi m true = none := by cases hbn : brN x.op lo hi m true with
            | none => rfl
            | some p => rw [hbn] at hc; simp at hc
          rw [hnone] at hlaw
          refine ⟨⟨n + 1, st, done, rfl, ⟨by omega, hI7.ok, hI7.out, hI7.kn, hI7.bel, hI7.size, hlaw, by omega⟩, hw7, hdis⟩, ?_⟩
          simp only [Int.toNat_natCast]; omega
        · obtain ⟨p1, hp1⟩ : ∃ p, brN x.op lo hi m true = some p := by cases hbn : brN x.op lo hi m true with
            | none => rw [hbn] at hc; simp at hc
            | some p => exact ⟨p, rfl⟩
          rw [hp1] at hlaw
          simp only at hlaw
          refine ixA (h.below hI7.bel) (i := (n : Int)) (by omega) (x := x) (by simpa using hx) rfl ?_
          refine ap1 elRule hI7.out x rfl (by omega) (by omega) hI7.size fun out2 w8 ho2' hg2 hbk2 => ?_
          have hob : ∀ b, (Value.slice out.a out.n out.c).ownBlock = some b → w.heap.size ≤ b ∧ b < w5.heap.size := fun b hb => hI.out.blk hb
          have hkn8 : WrS kRange 45 w2.heap.size w8 kn (st.map ivlp) := hI7.kn.kept hg2 (fun b hb e => hdis b hb e)
          have hbel8 : Below w.heap.size w w8 := hI7.bel.grown hg2 hI7.bel.size (fun b hb => (hob b hb).1)
          have hsz8 := hg2.size
          have hdis2 : ∀ b, (Value.slice out2.a out2.n out2.c).ownBlock = some b → kn.bk ≠ some b := fun b hb e => by
            rcases hbk2 b hb with h1 | h1
            · exact hdis b h1 e
            · have := (hknb b e).2; omega
          refine And.intro (fun hc => ?_) (fun hc => ?_)
          · have hnone : brN x.op lo hi m false = none := by cases hbn : brN x.op lo hi m false with
              | none => rfl
              | some p => rw [hbn] at hc; simp at hc
            rw [hnone] at hlaw
            rw [hlaw] at hk
            exact hk _ _ hbel8 ho2'.read
          · obtain ⟨p2, hp2⟩ : ∃ p, brN x.op lo hi m false = some p := by cases hbn : brN x.op lo hi m false with
              | none => rw [hbn] at hc; simp at hc
              | some p => exact ⟨p, rfl⟩
            rw [hp2] at hlaw
            have e1 : (brT x.op lo hi m false).1 = ivlp p2 := by rw [brT_some (a := p2.1) (b := p2.2) hp2]; rfl
            have hrl : rest < w7.heap.size := (Array.getElem?_eq_some_iff.1 hrest).1
            have hrest8 := (hg2.block rest hrl (fun e => by have := (hob _ e.symm).2; have := hb6.size; omega)).trans hrest
            refine ldAB hrest8 (x := (brT x.op lo hi m false).1) rfl ?_
            refine ixStA hkn8 (i := x.at_) hpx.1.1 hkat rfl (by decide) noAnyRange (ivlp p2) (by rw [e1]; rfl) fun w14 hkn14 hg14 hsz14 => ?_
            rw [← map_set] at hkn14
            refine ⟨⟨n + 1, st.set x.at_.toNat p2, done ++ [x], rfl, ⟨by omega, stOk_set hI.ok hpx (is_ := false) (by rw [hkx]; show brN x.op lo hi x.num.toNat false = some p2; rw [hm]; exact hp2), ho2'.kept hg14 (fun b hb e => hdis2 b e hb), hkn14, hbel8.grown hg14 hbel8.size (fun b hb => by have := (hknb b hb).1; omega), by have := hI7.size; omega, by rw [hlaw]; simp, by simp; omega⟩, by omega, hdis2⟩, ?_⟩
            simp only [Int.toNat_natCast]; omega
      · simp only [decide_eq_false_iff_not] at hge
        have hnl : n = l.length := by have := hI.le; omega
        have e := hI.law
        rw [hnl, List.drop_length, show tidyL st [] = [] from rfl, List.append_nil] at e
        rw [e] at hk
        exact hk _ _ hI.bel hI.out.read
end
end Go.Proofs.Ytdlnoabihfnmmaa.V

/- Contracts: the draws of rules. -/
namespace Go.Proofs.Ytdlnoabihfnmmaa.V
open Go Go.RowKit
set_option linter.unusedVariables false
set_option linter.unusedSimpArgs false
section
variable {B br m : Nat} {w : World}
theorem spec.l20Number.c {K : Int → World → Prop} (h : RdS B br m w) (hm : m ≤ 900000000) (hk : ∀ x w', w.grownBy w' (some br) → RdS B br (m + 3) w' → K x w') : CallT (.o (.lf (.i .i64))) P0 56 [.pointer (some ⟨br, 0, none⟩)] w K := by
  refine spec.l20Number.ok (spec.l20Rd.pick.c h (by omega) (by omega) fun t4 w1 _ _ g1 r1 => ?_)
  refine And.intro (fun _ => ?_) (fun _ => And.intro (fun _ => ?_) (fun _ => ?_))
  · exact spec.l20Imm.c r1 (by omega) fun x w2 g2 r2 => hk _ _ (grown_trans g1 g2) (r2.more (by omega))
  · exact spec.l20Rd.pick.c r1 (by omega) (by omega) fun x w2 _ _ g2 r2 => hk _ _ (grown_trans g1 g2) (r2.more (by omega))
  · refine spec.l20Rd.pick.c r1 (by omega) (by omega) fun x w2 _ _ g2 r2 => ?_
    refine oneLit (xs := [0, 4, 8, 16, 24]) r2 (by omega) rfl rfl (by decide) fun y w3 hy g3 r3 => ⟨?_, hk _ _ (grown_trans (grown_trans g1 g2) g3) (r3.more (by omega))⟩
    simp at hy; omega
def RlI (B br m : Nat) (w : World) (n : Int) (out : Sl) (w' : World) : Prop :=
  ∃ (c : Nat) (ys : List Rule), n = c ∧ ys.length + c ≤ 6 ∧ OwnS kRule 48 w.heap.size w' out ys ∧ RdS B br (m + 1 + 10 * ys.length) w' ∧ w.grownBy w' (some br)
theorem knRule : KN kRule := ⟨by intro l hl; simp [kRule, List.mem_replicate] at hl; exact hl, by decide, fun t => ⟨⟨t.1, t.2.1, t.2.2.1, t.2.2.2.1, t.2.2.2.2.1⟩, rfl⟩⟩
set_option maxHeartbeats 2000000 in
theorem spec.l20Rules.c {K : Sl → World → Prop} (h : RdS B br m w) (hm : m ≤ 800000000) (hk : ∀ r w' ys, w.grownBy w' (some br) → RdS B br (m + 100) w' → OwnS kRule 48 w.heap.size w' r ys → ys.length ≤ 6 → K r w') :
    CallT (.o (.lf .sl)) P0 17 [.pointer (some ⟨br, 0, none⟩)] w K := by
  have hlt := h.lt
  refine spec.l20Rules.ok (nw fun w1 b1 s1 c1 => ?_)
  have ho1 : OwnS kRule 48 w.heap.size w1 ⟨some ⟨w.heap.size, 0, none⟩, 0, 0⟩ [] := OwnS.lit (k := kRule) (B := w.heap.size) (xs := []) (n := 0) (Nat.le_refl _) c1 rfl rfl (by simp)
  refine oneLit (xs := [0, 1, 2, 3, 4, 6]) (h.below b1) (by omega) rfl rfl (by decide) fun n0 w2 hn0 g2 r2 => ?_
  have hn06 : 0 ≤ n0 ∧ n0 ≤ 6 := by simp at hn0; omega
  have G2 : w.grownBy w2 (some br) := grown_trans (grown_any b1) g2
  refine ⟨fun out n w' => RlI B br m w n out w', fun _ n _ => n.toNat, ⟨n0.toNat, [], by omega, by simp; omega, ho1.keptBr g2 hlt, r2.more (by simp), G2⟩, ?_⟩
  rintro out n w3 ⟨c, ys, rfl, hc, o3, r3, G3⟩ _
  have hon := o3.len
  refine And.intro (fun hpos => ?_) (fun hpos => ?_)
  · simp only [decide_eq_true_eq] at hpos
    have hc1 : 1 ≤ c := by omega
    refine oneLit (xs := [0, 0, 1, 2, 11]) r3 (by omega) rfl rfl (by decide) fun t17 w5 _ g5 r5 => ?_
    refine spec.l20Rd.pick.c r5 (by omega) (by omega) fun t19 w6 _ _ g6 r6 => ?_
    refine oneLit (xs := [0, 1, 2, 3, 7, 9, 10, 200, 254, 255]) r6 (by omega) rfl rfl (by decide) fun t23 w8 _ g8 r8 => ?_
    refine spec.l20Rd.pick.c r8 (by omega) (by omega) fun t25 w9 _ _ g9 r9 => ?_
    have g39 : w3.grownBy w9 (some br) := grown_trans (grown_trans (grown_trans g5 g6) g8) g9
    have o9 := o3.keptBr g39 hlt
    have G9 : w.grownBy w9 (some br) := grown_trans G3 g39
    refine nwStRule (x := ⟨t17, IntKind.wrap .i64 (12 + t19), t23, t25, 0⟩) fun w10 b10 s10 c10 => ?_
    have r10 := r9.below b10
    have o10 := o9.below b10
    have hH := G9.size
    have G10 : w.grownBy w10 (some br) := grown_trans G9 (grown_any b10)
    refine ldB c10 (j := 3) (x := t25) rfl ?_
    have ei : IntKind.wrap .i64 ((c : Int) - 1) = ((c - 1 : Nat) : Int) := by rw [i64_of (by omega) (by omega)]; omega
    have fin : ∀ {w15 : World} (y : Rule), w.grownBy w15 (some br) → RdS B br (m + 1 + 10 * ys.length + 9) w15 → OwnS kRule 48 w.heap.size w15 out ys → w15.heap[w9.heap.size]? = some (.cells y.cs 48 (0, 0)) →
        LdA (R 5 (.i .i64)) ⟨w9.heap.size, 0, none⟩ w15 fun (t35 : Tup (R 5 (.i .i64))) w16 => Nw #[(.int .i64 t35.1), (.int .i64 t35.2.1), (.int .i64 t35.2.2.1), (.int .i64 t35.2.2.2.1), (.int .i64 t35.2.2.2.2.1)] 48 w16 fun a_t36 w17 =>
        RunT (.o (.lf .sl)) P0 (Builtin.append_ #[23, 23] 23 #[out.v, (.slice (some a_t36) 1 1)]) w17 fun (t37 : Sl) w18 =>
        (RlI B br m w (IntKind.wrap .i64 ((c : Int) - 1)) t37 w18 ∧ (IntKind.wrap .i64 ((c : Int) - 1)).toNat < (c : Int).toNat) := by
      intro w15 y g15 r15 o15 c15
      refine ldAB (x := y.t) c15 rfl ?_
      refine ap1 elRule o15 y rfl (by omega) (by omega) g15.size fun out2 w18 o18 g18 _ => ?_
      rw [ei]
      refine ⟨⟨c - 1, ys ++ [y], rfl, by simp; omega, o18, (r15.keptO o15 g18 hlt).more (by simp; omega), grown_newO g15 g18 (fun b hb => (o15.blk hb).1)⟩, ?_⟩
      simp only [Int.toNat_natCast]; omega
    refine And.intro (fun _ => ?_) (fun _ => fin _ G10 (r10.more (by omega)) o10 c10)
    refine oneLit (xs := [0, 1, 2, 3, 7, 9, 4294967295]) r10 (by omega) rfl rfl (by decide) fun t32 w14 _ g14 r14 => ?_
    have hbr9 : br < w9.heap.size := by omega
    have c14 := keepB c10 g14 hbr9
    refine stB c14 rfl (by simp [Rule.cs]) fun w15 g15 s15 c15 => ?_
    refine fin ⟨t17, IntKind.wrap .i64 (12 + t19), t23, t25, t32⟩ (grown_new (grown_trans G10 g14) g15 (by omega)) ((r14.kept g15 (fun b hb => by simp only [Option.some.injEq] at hb; omega)).more (by omega)) ((o10.keptBr g14 hlt).kept g15 (fun b hb e => by simp only [Option.some.injEq] at hb; have := (o9.blk e).2; omega)) c15
  · have hc0 : c = 0 := by simp at hpos; omega
    subst hc0
    refine ⟨fun t w' => ∃ ys' : List Rule, (t = true → 1 ≤ ys.length) ∧ OwnS kRule 48 w.heap.size w' out ys ∧ RdS B br (m + 70) w' ∧ w.grownBy w' (some br), ?_, ?_⟩
    · refine And.intro (fun hp => ?_) (fun _ => ⟨[], fun h => by simp at h, o3, r3.more (by omega), G3⟩)
      have hp' : 1 ≤ ys.length := by simp only [decide_eq_true_eq] at hp; omega
      exact spec.l20Rd.pick.c r3 (by omega) (by omega) fun t43 w4 _ _ g4 r4 => ⟨[], fun _ => hp', o3.keptBr g4 hlt, r4.more (by omega), grown_trans G3 g4⟩
    · rintro t w4 ⟨_, hy, o4, r4, G4⟩ _
      refine And.intro (fun ht => ?_) (fun _ => hk out w4 ys G4 (r4.more (by omega)) o4 (by omega))
      have hy1 := hy ht
      refine spec.l20Rd.pick.c r4 (by omega) (by omega) fun t49 w5 k0 k1 g5 r5 => ?_
      refine spec.l20Rd.pick.c r5 (by omega) (by omega) fun t51 w6 _ _ g6 r6 => ?_
      have o6 := (o4.keptBr g5 hlt).keptBr g6 hlt
      have G6 : w.grownBy w6 (some br) := grown_trans (grown_trans G4 g5) g6
      obtain ⟨x, hx⟩ := get_some (l := ys) (k := t49.toNat) (by omega)
      have stf : ∀ {w11 : World} (j : Nat) (v : Int) (y : Rule), w6.grownBy w11 (some br) → RdS B br (m + 80) w11 → j < 5 → kRule.cells y = (kRule.cells x).set j (.int .i64 v) → Ix out.a out.n t49 5 w11 fun a w12 => St (Addr.add a j) (.int .i64 v) w12 fun w13 => K out w13 := by
        intro w11 j v y g11 r11 hj hy
        have o11 := o6.keptBr g11 hlt
        refine ixOwF o11 k0 hx rfl hj rfl y hy fun w12 o12 g12 _ => ?_
        rw [← ob_bk] at g12
        exact hk out w12 _ (grown_newO (grown_trans G6 g11) g12 (fun b hb => (o11.blk hb).1)) ((r11.keptO o11 g12 hlt).more (by omega)) o12 (by simp; omega)
      refine And.intro (fun _ => ?_) (fun _ => And.intro (fun _ => ?_) (fun _ => And.intro (fun _ => ?_) (fun _ => ?_)))
      · exact oneLit (xs := [-1, 12]) r6 (by omega) rfl rfl (by decide) fun v w11 _ g11 r11 => stf 0 v { x with at_ := v } g11 (r11.more (by omega)) (by omega) rfl
      · exact oneLit (xs := [-1, 256]) r6 (by omega) rfl rfl (by decide) fun v w11 _ g11 r11 => stf 2 v { x with num := v } g11 (r11.more (by omega)) (by omega) rfl
      · exact oneLit (xs := [11, 16]) r6 (by omega) rfl rfl (by decide) fun v w11 _ g11 r11 => stf 1 v { x with op := v } g11 (r11.more (by omega)) (by omega) rfl
      · exact stf 4 5 { x with key := 5 } (grown_refl _ _) (r6.more (by omega)) (by omega) rfl
theorem spec.l20Few.c {K : Sl → World → Prop} (h : RdS B br m w) (hm : m ≤ 800000000) (hk : ∀ r w' ys, w.grownBy w' (some br) → RdS B br (m + 100) w' → SlR kRule w' r ys → (∀ b, r.bk = some b → w.heap.size ≤ b) → ys.length ≤ 3 → K r w') :
    CallT (.o (.lf .sl)) P0 58 [.pointer (some ⟨br, 0, none⟩)] w K := by
  refine spec.l20Few.ok (spec.l20Rules.c h hm fun r w1 ys g1 r1 o1 hy => ?_)
  have hn := o1.len
  have hc := o1.cap
  have hb : ∀ b, r.bk = some b → w.heap.size ≤ b := fun b hb => (o1.blk ((ob_bk _).trans hb)).1
  refine And.intro (fun h3 => ?_) (fun h3 => hk r w1 ys g1 r1 o1.read hb (by simp at h3; omega))
  simp only [decide_eq_true_eq] at h3
  refine slcR (k := kRule) (e := 48) (by kernel_rfl) (by kernel_rfl) o1.read (lo := none) (hi := some 3) (mx := none) (l := 0) (h' := 3) (m := r.c) rfl rfl rfl (by simp) (by omega) (by omega) (by omega) (by omega) fun q _ _ hq hqb => ?_
  exact hk q w1 _ g1 r1 hq (fun b h => hb b (hqb b h)) (by simp; omega)
end
section
variable {w : World} {code : Sl} {bs : List Int}
theorem spec.DrawRulesTidy.c {K : Sl → World → Prop} (h : SlR kU8 w code bs) (hb : ∀ x ∈ bs, 0 ≤ x ∧ x ≤ 255) (hk : ∀ r w' ys, Below w.heap.size w w' → SlR kRule w' r ys → ys.length ≤ 6 → K r w') : CallT (.o (.lf .sl)) P0 5 [code.v] w K := by
  refine spec.DrawRulesTidy.ok (spec.l20Open.c h hb fun w1 b1 r1 => ?_)
  refine spec.l20Rules.c r1 (by omega) fun r w2 ys g2 r2 o2 h1 => ?_
  exact hk r w2 ys (b1.grown g2 b1.size (fun b hb => by simp only [Option.some.injEq] at hb; omega)) o2.read h1
end
end Go.Proofs.Ytdlnoabihfnmmaa.V

/- Contracts: the draw of two lists of rules. -/
namespace Go.Proofs.Ytdlnoabihfnmmaa.V
open Go Go.RowKit
set_option linter.unusedVariables false
set_option linter.unusedSimpArgs false
/-- An address in old memory that holds a rule. -/
def AtD (H br : Nat) (a : Addr) (w : World) : Prop := ∃ b o, a = ⟨b, o, none⟩ ∧ b < H ∧ b ≠ br ∧ ∃ y : Rule, At w b o (kRule.cells y)
theorem keptAd {H br : Nat} {R : World → Prop} : Kept (SpD H br R) (AtD H br) := by
  rintro a x z ⟨b, o, h1, h2, h3, y, h4⟩ hxz
  refine ⟨b, o, h1, h2, h3, y, fun m v hv => ?_⟩
  rw [← h4 m v hv]
  unfold World.cell?
  simp only
  rw [hxz.low b h2 h3]
theorem tidyR_len (l : List Rule) : (tidyR l).length ≤ l.length := by
  unfold tidyR
  split
  · exact (tidy_sub kn0 l).length_le
  · simp
section
variable {w : World} {code : Sl} {bs : List Int}
set_option maxHeartbeats 2000000 in
theorem spec.DrawSameFind.c {K : Sl × Sl × Unit → World → Prop} (h : SlR kU8 w code bs) (hb : ∀ x ∈ bs, 0 ≤ x ∧ x ≤ 255)
    (hk : ∀ r1 r2 w' xs ys, Below w.heap.size w w' → SlR kRule w' r1 xs → SlR kRule w' r2 ys → xs.length ≤ 3 → ys.length ≤ 6 → K (r1, r2, ()) w') : CallT (.n [(.lf .sl), (.lf .sl)]) P0 31 [code.v] w K := by
  refine spec.DrawSameFind.ok (spec.l20Open.c h hb fun w1 b1 r1 => ?_)
  have hbr := r1.lt
  refine spec.l20Few.c r1 (by omega) fun t9 w2 xs g2 r2 a2 hab hx3 => ?_
  have hne : ∀ b, t9.bk = some b → b ≠ w.heap.size := fun b hb e => by have := hab b hb; omega
  have kp : ∀ {w3 w4 : World} {ys : List Rule}, SlR kRule w3 t9 ys → w3.grownBy w4 (some w.heap.size) → SlR kRule w4 t9 ys := fun hs hg =>
    hs.kept2 hg (fun b o ha e => hne b (by simp [Sl.bk, ha]) (by simpa using e.symm))
  have bl : ∀ {w3 w4 : World}, Below w.heap.size w w3 → w3.grownBy w4 (some w.heap.size) → Below w.heap.size w w4 := fun hb hg => hb.grown hg hb.size (fun b hb => by simp only [Option.some.injEq] at hb; omega)
  have b2 := bl b1 g2
  refine spec.l20Rd.pick.c r2 (by omega) (by omega) fun t11 w3 _ _ g3 r3 => ?_
  have a3 := kp a2 g3
  have b3 := bl b2 g3
  have hn := a3.len
  have few : CallT (.o (.lf .sl)) P0 58 [(.pointer (some ⟨w.heap.size, 0, none⟩))] w3 fun (t43 : Sl) w23 => K (t9, (t43, ())) w23 := by
    refine spec.l20Few.c r3 (by omega) fun t43 w4 ys g4 r4 a4 _ hy3 => ?_
    exact hk _ _ _ xs ys (bl b3 g4) (kp a3 g4) a4 hx3 (by omega)
  have hw13 : w1.heap.size ≤ w3.heap.size := by have := g2.size; have := g3.size; omega
  refine And.intro (fun _ => ?_) (fun _ => And.intro (fun _ => ?_) (fun _ => And.intro (fun _ => And.intro (fun hgt => ?_) (fun _ => few)) (fun _ => few)))
  · refine spec.RulesTidy.c a3 fun t16 w4 b4 h4 => ?_
    exact hk _ _ _ xs _ (b3.trans (b4.mono b3.size)) (a3.below b4) h4 hx3 (by have := tidyR_len xs; omega)
  · refine nw fun w4 b4 s4 c4 => ?_
    have ho4 : OwnS kRule 48 w3.heap.size w4 ⟨some ⟨w3.heap.size, 0, none⟩, 0, 0⟩ [] := OwnS.lit (k := kRule) (B := w3.heap.size) (xs := []) (n := 0) (Nat.le_refl _) c4 rfl rfl (by simp)
    have a4 := a3.below b4
    refine apS (s := ⟨some ⟨w3.heap.size, 0, none⟩, 0, 0⟩) (tR := 23) elRule ho4 a4 (by simp; omega) (by simp; omega) (by omega) fun t22 w5 o5 g5 _ _ => ?_
    have r4 := r3.below b4
    have ob4 : ∀ b, (Value.slice (some (⟨w3.heap.size, 0, none⟩ : Addr)) 0 0).ownBlock = some b → b = w3.heap.size := fun b hb => by simpa [Value.ownBlock] using hb.symm
    have r5 := r4.kept g5 (fun b hb => by have := ob4 b hb; omega)
    have b5 : Below w.heap.size w w5 := (b3.trans (b4.mono b3.size)).grown g5 (by have := b3.size; omega) (fun b hb => by have := ob4 b hb; have := b3.size; omega)
    have a5 := a4.kept3 g5 (fun _ b o ha e => by
      have h1 := ob4 b e
      have h2 : b < w3.heap.size := by
        obtain ⟨x, hx⟩ : ∃ x, xs[0]? = some x := by
          cases xs with
          | nil => contradiction
          | cons x _ => exact ⟨x, rfl⟩
        exact bk_lt a3 hx (v := .int .i64 x.at_) rfl (by simp [Sl.bk, ha])
      omega)
    refine spec.l20Few.c r5 (by omega) fun t24 w6 ys g6 r6 a6 hab6 hy3 => ?_
    have o6 := o5.keptBr g6 (by omega)
    simp only [List.nil_append] at o6
    refine apS (tR := 23) elRule o6 a6 (by omega) (by omega) (by have := g5.size; have := g6.size; omega) fun t25 w7 o7 g7 _ _ => ?_
    have a6' := kp a5 g6
    have hob6 : ∀ b, (Value.slice t22.a t22.n t22.c).ownBlock = some b → w3.heap.size ≤ b := fun b hb => (o6.blk hb).1
    refine hk _ _ _ xs _ ((bl b5 g6).grown g7 (bl b5 g6).size (fun b hb => by have := hob6 b hb; have := b3.size; omega)) (a6'.kept3 g7 (fun hxn b o ha e => ?_)) o7.read hx3 (by simp; omega)
    have h1 := hob6 b e
    obtain ⟨x, hx⟩ : ∃ x, xs[0]? = some x := by
      cases xs with
      | nil => contradiction
      | cons x _ => exact ⟨x, rfl⟩
    have := bk_lt a3 hx (v := .int .i64 x.at_) rfl (b := b) (by simp [Sl.bk, ha])
    omega
  · simp only [decide_eq_true_eq] at hgt
    have hx2 : 2 ≤ xs.length := by omega
    obtain ⟨x0, hx0⟩ : ∃ x, xs[0]? = some x := get_some (by omega)
    have hbr3 : w.heap.size < w3.heap.size := by omega
    have hbk3 : ∀ b, t9.bk = some b → b < w3.heap.size ∧ b ≠ w.heap.size := fun b hb => ⟨bk_lt a3 hx0 (v := .int .i64 x0.at_) rfl hb, hne b hb⟩
    have hc3 := a3.2.1
    refine ⟨SpD w3.heap.size w.heap.size (RdS w.heap.size w.heap.size 500), spD_ok w3, IO kRule 48 w3.heap.size 0, kept_IO knRule, RO kRule w3.heap.size w.heap.size (xs.length - 1), kept_RO, IO kRule 48 w3.heap.size (xs.length - 1), kept_IO knRule, AtD w3.heap.size w.heap.size, keptAd, fun _ _ => True, keptT, IO kRule 48 w3.heap.size 1, kept_IO knRule, IO kRule 48 w3.heap.size (xs.length - 1 + 1), kept_IO knRule, ?_⟩
    have app : ∀ {w11 : World} {s x : Sl} {n1 n2 : Nat}, SpD w3.heap.size w.heap.size (RdS w.heap.size w.heap.size 500) w3 w11 → IO kRule 48 w3.heap.size n1 s w11 → (∃ zs, zs.length = n2 ∧ SlR kRule w11 x zs) → n1 + n2 ≤ 100 →
        RunT (.o (.lf .sl)) P0 (Builtin.append_ #[23, 23] 23 #[.slice s.a s.n s.c, .slice x.a x.n x.c]) w11 fun t w12 => GK (.o (.lf .sl)) (SpD w3.heap.size w.heap.size (RdS w.heap.size w.heap.size 500)) w11 (IO kRule 48 w3.heap.size (n1 + n2)) t.v w12 := by
      rintro w11 s x n1 n2 hsp ⟨zs, hz, ho⟩ ⟨us, hu, hx⟩ hle
      have h1 := apS (tR := 23) elRule ho hx (by omega) (by omega) hsp.size (K := fun s' w' => OwnS kRule 48 w3.heap.size w' s' (zs ++ us) ∧ w11.grownBy w' (Value.slice s.a s.n s.c).ownBlock) (fun s' w' h1 h2 _ _ => ⟨h1, h2⟩)
      obtain ⟨t, w12, hr, ⟨h2, h3⟩, h4⟩ := h1.and (I := Ip w3.heap.size w11) (ap_ip elRule knRule ho hx (by omega) (by omega))
      exact ⟨t, w12, hr, t, rfl, (sk_step (m2 := 500) h3 hsp.size (fun g hg => (ho.blk hg).1) h4 hbr3).1, _, by simp [hz, hu], h2⟩
    have sb : ∀ {w11 w12 : World}, Below w11.heap.size w11 w12 → w3.heap.size ≤ w11.heap.size → SpD w3.heap.size w.heap.size (RdS w.heap.size w.heap.size 500) w11 w12 := fun hb hH => (sk_below (m2 := 500) hb hH hbr3).1
    have aR : ∀ {w11 : World}, SpD w3.heap.size w.heap.size (RdS w.heap.size w.heap.size 500) w3 w11 → ∃ zs, zs.length = xs.length ∧ SlR kRule w11 t9 zs := fun hsp => by
      obtain ⟨zs, hz, hr, _⟩ := kept_RO (k := kRule) (H := w3.heap.size) (br := w.heap.size) (n := xs.length) (R := RdS w.heap.size w.heap.size 500) t9 w3 _ ⟨xs, rfl, a3, hbk3⟩ hsp
      exact ⟨zs, hz, hr⟩
    refine ⟨fun w11 hsp => ?_, fun t32 => ⟨fun w11 hsp => ?_, fun t34 => ⟨fun w11 hsp f32 f34 => ?_, fun t35 => ⟨fun w11 hsp => ?_, fun t37 => ⟨fun w11 hsp f37 => ?_, fun t38 => ⟨fun w11 hsp _ => ?_, fun t39 => ⟨fun w11 hsp f35 f39 => ?_, fun t40 w11 hsp _ _ _ _ _ _ f40 => ?_⟩⟩⟩⟩⟩⟩⟩
    · exact nw fun w12 b12 s12 c12 => ⟨⟨some ⟨w11.heap.size, 0, none⟩, 0, 0⟩, rfl, sb b12 hsp.size, [], rfl, OwnS.lit hsp.size c12 rfl rfl (by simp)⟩
    · obtain ⟨zs, hz, hr⟩ := aR hsp
      refine slcR (k := kRule) (e := 48) (by kernel_rfl) (by kernel_rfl) hr (lo := some 1) (hi := none) (mx := none) (l := 1) (h' := t9.n) (m := t9.c) rfl rfl rfl (by simp) (by omega) (by omega) (by omega) (by omega) fun r _ _ hr2 hb2 => ?_
      exact ⟨r, rfl, sb (Below.refl _ _) hsp.size, _, by simp; omega, hr2, fun b h => hbk3 b (hb2 b h)⟩
    · obtain ⟨zs, hz, hr, _⟩ := f34
      have := app (x := t34) (n2 := xs.length - 1) hsp f32 ⟨zs, hz, hr⟩ (by omega)
      rw [Nat.zero_add] at this
      exact this
    · obtain ⟨zs, hz, hr⟩ := aR hsp
      obtain ⟨y, hy⟩ := get_some (l := zs) (k := 0) (by omega)
      exact ixRb hr (i := 0) (by omega) (x := y) (by simpa using hy) rfl fun b o hbb hA => ⟨⟨b, o, none⟩, rfl, sb (Below.refl _ _) hsp.size, b, o, rfl, (hbk3 b hbb).1, (hbk3 b hbb).2, y, hA⟩
    · obtain ⟨b, o, rfl, _, _, y, hA⟩ := f37
      exact ⟨y.t, fun j v hv => by rw [add_mk]; exact hA j v hv, y.t, rfl, sb (Below.refl _ _) hsp.size, trivial⟩
    · exact nw fun w12 b12 s12 c12 => ⟨⟨some ⟨w11.heap.size, 0, none⟩, 1, 1⟩, rfl, sb b12 hsp.size, [⟨t38.1, t38.2.1, t38.2.2.1, t38.2.2.2.1, t38.2.2.2.2.1⟩], rfl, OwnS.lit hsp.size c12 rfl rfl (by simp [maxLen])⟩
    · obtain ⟨zs, hz, ho⟩ := f39
      exact app (x := t39) (n2 := 1) hsp f35 ⟨zs, hz, ho.read⟩ (by omega)
    · obtain ⟨zs, hz, ho⟩ := f40
      obtain ⟨us, hu, hr⟩ := aR hsp
      exact hk _ _ _ us zs (b3.grown (hsp.grown rfl) b3.size (fun b hb => by simp only [Option.some.injEq] at hb; omega)) hr ho.read (by omega) (by omega)
theorem spec.DrawSameRules.c {K : Sl × Sl × Unit → World → Prop} (h : SlR kU8 w code bs) (hb : ∀ x ∈ bs, 0 ≤ x ∧ x ≤ 255)
    (hk : ∀ r1 r2 w' xs ys, Below w.heap.size w w' → SlR kRule w' r1 xs → SlR kRule w' r2 ys → xs.length ≤ 3 → ys.length ≤ 6 → K (r1, r2, ()) w') : CallT (.n [(.lf .sl), (.lf .sl)]) P0 12 [code.v] w K :=
  spec.DrawSameRules.ok (spec.DrawSameFind.c h hb hk)
end
end Go.Proofs.Ytdlnoabihfnmmaa.V

/- Verification conditions, printed by this session's own program (wip/vc.py) and checked by the kernel. -/
namespace Go.Proofs.Ytdlnoabihfnmmaa.V
open Go Go.RowKit
set_option linter.unusedVariables false
/- impl.looked -/
def impl.looked.pl : Pl := (.s (.r (D 1)) (.s (.r [.d, (.c (.o (.lf .b))), (.sp .d), .d, (.c (.o (.lf .b))), .d, (.sp .d), .d, .d, (.c (.o (.lf (.i .i64)))), .d, .d, .d]) .z))
def impl.looked.vc (a : Sl) (b : Sl) (w : World) (K : Bool → World → Prop) : Prop :=
CallT (.o (.lf .b)) P0 9 [a.v] w fun (t6 : Bool) w_ =>
(t6 = true → CallT (.o (.lf .b)) P0 9 [b.v] w_ fun (t9 : Bool) w__1 =>
(t9 = true → CallT (.o (.lf (.i .i64))) P0 36 [a.v, b.v] w__1 fun (t14 : Int) w__2 =>
K (decide ((t14 : Int) ≤ 400)) w__2) ∧
(t9 = false → K false w__1)) ∧
(t6 = false → K false w_)
theorem impl.looked.ok {a : Sl} {b : Sl} {w : World} {K : Bool → World → Prop} (h : impl.looked.vc a b w K) : CallT (.o (.lf .b)) P0 32 [a.v, b.v] w K :=
  call_of Try.func32 rfl rfl (pl := impl.looked.pl) (show VC P0 Try.f32 impl.looked.pl (.o (.lf .b)) [a.v, b.v] w K noP from Eq.mp (by kernel_rfl) h)
/- impl.everyPiece -/
def impl.everyPiece.pl : Pl := (.s (.r (D 3)) (.s (.r (D 2)) .z))
def impl.everyPiece.vc (a : Sl) (b : Sl) (w : World) (K : Value → World → Prop) : Prop :=
Nw #[a.v] 23 w fun a_a w_ =>
Nw #[b.v] 23 w_ fun a_b w__1 =>
K (.func (.func 78) #[] #[(.pointer (some a_a)), (.pointer (some a_b))]) w__1
theorem impl.everyPiece.ok {a : Sl} {b : Sl} {w : World} {K : Value → World → Prop} (h : impl.everyPiece.vc a b w K) : CallT (.o (.lf .any)) P0 59 [a.v, b.v] w K :=
  call_of Try.func59 rfl rfl (pl := impl.everyPiece.pl) (show VC P0 Try.f59 impl.everyPiece.pl (.o (.lf .any)) [a.v, b.v] w K noP from Eq.mp (by kernel_rfl) h)
/- impl.everyPiece$1$1 -/
def impl.everyPiece_1_1.pl : Pl := (.s (.r (D 1)) (.s (.s (.r (D 2)) (.c (.s (.r [(.l (.lf .yl)), (.l (.lf .sl)), (.t (.o (.lf .s))), .y, .d]) .z) .z)) (.s (.s (.r [(.l (.lf .sl)), (.l (.lf .sl)), .d, (.c (.o (.lf .sl))), .d, .d]) (.b (.l [(21, (.i .i64))] (.s (.r (D 1)) (.s (.c .z .z) (.s (.b (.s (.r [.d, (.l (.lf (.i .i64))), .d]) (.s (.r [(.l (.lf .sl)), .d, .d, .d, .d, .d]) (.s (.r [(.l (.lf (.fn 79 5))), .d, .d, (.c (.o (.lf .b))), .d]) (.c (.s (.r (D 1)) .z) .z))))) (.r (D 2)))))))) (.s (.r (D 1)) .z))))
def impl.everyPiece_1_1.vc (at_ : Int) (t1 : Addr) (t2 : Addr) (t3 : Addr) (t4 : Addr) (t5 : Addr) (w : World) (K : Bool → World → Prop) : Prop :=
(((at_ : Int) == 12) = true → Ld .yl t1 w fun (t12 : Nat) w_ =>
Ld .sl t2 w_ fun (t13 : Sl) w__1 =>
RunT (.o (.lf .s)) P0 (convert 22 9 t13.v) w__1 fun (t14 : ByteArray) w__2 =>
YldT P0 t12 [(.string t14)] w__2 fun (t15 : Bool) w__3 =>
K t15 w__3) ∧
(((at_ : Int) == 12) = false → Ld .sl t3 w fun (t16 : Sl) w__4 =>
Ld .sl t4 w__4 fun (t17 : Sl) w__5 =>
CallT (.o (.lf .sl)) P0 62 [t16.v, t17.v, (.int .i64 at_)] w__5 fun (t19 : Sl) w__6 =>
∃ (I : Int → World → Prop) (M : Int → World → Nat),
I 0 w__6 ∧
(∀ (t21 : Int) w__7, I t21 w__7 → ∀ _ : Nat → Value,
((decide ((t21 : Int) < ((t19.n : Nat) : Int))) = true → Ix t19.a t19.n t21 1 w__7 fun a_t23 w__8 =>
Ld (.i .i64) a_t23 w__8 fun (t24 : Int) w__9 =>
Ld .sl t2 w__9 fun (t25 : Sl) w__10 =>
Ix t25.a t25.n at_ 1 w__10 fun a_t29 w__11 =>
St a_t29 (.int .u8 (IntKind.wrap .u8 t24)) w__11 fun w__12 =>
Ld (.fn 79 5) t5 w__12 fun (t30 : AdT 5) w__13 =>
CallT (.o (.lf .b)) P0 79 [(.int .i64 (IntKind.wrap .i64 (at_ + 1))), (.pointer (some t30.1)), (.pointer (some t30.2.1)), (.pointer (some t30.2.2.1)), (.pointer (some t30.2.2.2.1)), (.pointer (some t30.2.2.2.2.1))] w__13 fun (t33 : Bool) w__14 =>
((!t33) = true → K false w__14) ∧
((!t33) = false → (I (IntKind.wrap .i64 (t21 + 1)) w__14 ∧ M (IntKind.wrap .i64 (t21 + 1)) w__14 < M t21 w__7))) ∧
((decide ((t21 : Int) < ((t19.n : Nat) : Int))) = false → K true w__7)))
theorem impl.everyPiece_1_1.ok {at_ : Int} {t1 : Addr} {t2 : Addr} {t3 : Addr} {t4 : Addr} {t5 : Addr} {w : World} {K : Bool → World → Prop} (h : impl.everyPiece_1_1.vc at_ t1 t2 t3 t4 t5 w K) : CallT (.o (.lf .b)) P0 79 [(.int .i64 at_), (.pointer (some t1)), (.pointer (some t2)), (.pointer (some t3)), (.pointer (some t4)), (.pointer (some t5))] w K :=
  callI_of Try.func79 rfl rfl (pl := impl.everyPiece_1_1.pl) (show VCI P0 Try.f79 impl.everyPiece_1_1.pl (.o (.lf .b)) [(.int .i64 at_), (.pointer (some t1)), (.pointer (some t2)), (.pointer (some t3)), (.pointer (some t4)), (.pointer (some t5))] w K noP from Eq.mp (by kernel_rfl) h)
/- impl.everyPiece$1 -/
def impl.everyPiece_1.pl : Pl := (.s (.r (D 1)) (.s (.r [(.t (.o (.lf .sl))), .d, .d]) (.s (.r (D 1)) (.s (.r (D 2)) (.r [(.l (.lf (.fn 79 5))), (.c (.o (.lf .b)))])))))
def impl.everyPiece_1.vc (yield : Nat) (t1 : Addr) (t2 : Addr) (w : World) (K : Unit → World → Prop) : Prop :=
Nw #[(.func (.yield yield) #[] #[])] 109 w fun a_yield w_ =>
RunT (.o (.lf .sl)) P0 (Instr.makeSlice 22 (.int .i64 12) (.int .i64 12)) w_ fun (t6 : Sl) w__1 =>
Nw (zc P0 22) 22 w__1 fun a_came w__2 =>
St a_came t6.v w__2 fun w__3 =>
Nw (zc P0 72) 72 w__3 fun a_from w__4 =>
St a_from (.func (.func 79) #[] #[(.pointer (some a_yield)), (.pointer (some a_came)), (.pointer (some t1)), (.pointer (some t2)), (.pointer (some a_from))]) w__4 fun w__5 =>
Ld (.fn 79 5) a_from w__5 fun (t8 : AdT 5) w__6 =>
CallT (.o (.lf .b)) P0 79 [(.int .i64 0), (.pointer (some t8.1)), (.pointer (some t8.2.1)), (.pointer (some t8.2.2.1)), (.pointer (some t8.2.2.2.1)), (.pointer (some t8.2.2.2.2.1))] w__6 fun (t9 : Bool) w__7 =>
K () w__7
theorem impl.everyPiece_1.ok {yield : Nat} {t1 : Addr} {t2 : Addr} {w : World} {K : Unit → World → Prop} (h : impl.everyPiece_1.vc yield t1 t2 w K) : CallT .z P0 78 [(.func (.yield yield) #[] #[]), (.pointer (some t1)), (.pointer (some t2))] w K :=
  call_of Try.func78 rfl rfl (pl := impl.everyPiece_1.pl) (show VC P0 Try.f78 impl.everyPiece_1.pl .z [(.func (.yield yield) #[] #[]), (.pointer (some t1)), (.pointer (some t2))] w K noP from Eq.mp (by kernel_rfl) h)
/- impl.SameFind -/
def impl.SameFind.pl : Pl := (.s (.r (D 2)) (.s (.s (.r [.d, .d, (.c (.o (.lf .b))), .d]) (.c (.s (.r (D 2)) .z) .z)) (.s (.r [.d, .d, (.c (.n [(.lf .s), (.lf .b)])), .d, .d, .d, .d]) .z)))
def impl.SameFind.vc (a : Sl) (b : Sl) (w : World) (K : (ByteArray) × (Bool) × Unit → World → Prop) : Prop :=
CallT (.o (.lf .b)) P0 32 [a.v, b.v] w fun (t8 : Bool) w_ =>
((!t8) = true → K (⟨#[]⟩, (false, ())) w_) ∧
((!t8) = false → CallT (.n [(.lf .s), (.lf .b)]) P0 33 [a.v, b.v] w_ fun (t12 : (ByteArray) × (Bool) × Unit) w__1 =>
K (t12.1, (t12.2.1, ())) w__1)
theorem impl.SameFind.ok {a : Sl} {b : Sl} {w : World} {K : (ByteArray) × (Bool) × Unit → World → Prop} (h : impl.SameFind.vc a b w K) : CallT (.n [(.lf .s), (.lf .b)]) P0 16 [a.v, b.v] w K :=
  call_of Try.func16 rfl rfl (pl := impl.SameFind.pl) (show VC P0 Try.f16 impl.SameFind.pl (.n [(.lf .s), (.lf .b)]) [a.v, b.v] w K noP from Eq.mp (by kernel_rfl) h)
/- impl.SameRules -/
def impl.SameRules.pl : Pl := (.s (.r (D 1)) (.s (.s (.r [.d, .d, (.c (.o (.lf .b))), .d]) (.c (.s (.r (D 1)) .z) .z)) (.s (.r [.d, .d, (.c (.n [(.lf .s), (.lf .b)])), .d, .d, .d, .d, .d]) (.s (.r (D 3)) .z))))
def impl.SameRules.vc (a : Sl) (b : Sl) (w : World) (K : Bool → World → Prop) : Prop :=
CallT (.o (.lf .b)) P0 32 [a.v, b.v] w fun (t9 : Bool) w_ =>
((!t9) = true → K false w_) ∧
((!t9) = false → CallT (.n [(.lf .s), (.lf .b)]) P0 33 [a.v, b.v] w_ fun (t14 : (ByteArray) × (Bool) × Unit) w__1 =>
K (!t14.2.1) w__1)
theorem impl.SameRules.ok {a : Sl} {b : Sl} {w : World} {K : Bool → World → Prop} (h : impl.SameRules.vc a b w K) : CallT (.o (.lf .b)) P0 13 [a.v, b.v] w K :=
  call_of Try.func13 rfl rfl (pl := impl.SameRules.pl) (show VC P0 Try.f13 impl.SameRules.pl (.o (.lf .b)) [a.v, b.v] w K noP from Eq.mp (by kernel_rfl) h)
end Go.Proofs.Ytdlnoabihfnmmaa.V

/- Contracts: the iterator over all pieces of all bytes. -/
namespace Go.Proofs.Ytdlnoabihfnmmaa.V
open Go Go.RowKit
set_option linter.unusedVariables false
set_option linter.unusedSimpArgs false
/-- What the iterator's closure has captured; the first bytes are those that are looked at. -/
structure PcM (la lb : List Rule) (sa sb sc : Sl) (l y cc pa pb f bb H : Nat) (cs : List Int) (w : World) : Prop where
  hy : ∃ t, w.heap[y]? = some (.cells #[.func (.yield l) #[] #[]] t (0, 0))
  hc : ∃ t, w.heap[cc]? = some (.cells #[sc.v] t (0, 0))
  ha' : ∃ t, w.heap[pa]? = some (.cells #[sa.v] t (0, 0))
  hb' : ∃ t, w.heap[pb]? = some (.cells #[sb.v] t (0, 0))
  hf : ∃ t, w.heap[f]? = some (.cells #[.func (.func 79) #[] #[.pointer (some ⟨y, 0, none⟩), .pointer (some ⟨cc, 0, none⟩), .pointer (some ⟨pa, 0, none⟩), .pointer (some ⟨pb, 0, none⟩), .pointer (some ⟨f, 0, none⟩)]] t (0, 0))
  ha : SlR kRule w sa la
  hb : SlR kRule w sb lb
  na : la ≠ [] → ∀ b o, sa.a = some ⟨b, o, none⟩ → b ≠ bb
  nb : lb ≠ [] → ∀ b o, sb.a = some ⟨b, o, none⟩ → b ≠ bb
  ne : y ≠ bb ∧ cc ≠ bb ∧ pa ≠ bb ∧ pb ≠ bb ∧ f ≠ bb
  hbk : sc.bk = some bb ∧ H ≤ bb
  hz : ∃ zs : List Int, WrS kU8 5 H w sc zs ∧ zs.length = 12 ∧ (∀ x ∈ zs, 0 ≤ x ∧ x ≤ 255) ∧ zs.take cs.length = cs
section
variable {la lb : List Rule} {sa sb sc : Sl} {l y cc pa pb f bb H : Nat} {cs : List Int} {w w' : World}
theorem SlR.kept3' {α : Type} {k : Kd α} {w w' : World} {s : Sl} {xs : List α} {row : Option Nat} (h : SlR k w s xs) (hg : w.grownBy w' row) (hb : xs ≠ [] → ∀ b o, s.a = some ⟨b, o, none⟩ → row ≠ some b) : SlR k w' s xs := by
  by_cases hx : xs = []
  · exact ⟨h.1, h.2.1, h.2.2.1, .inl hx⟩
  · exact h.kept2 hg (hb hx)
theorem blk_kept {b bb : Nat} {o : Obj} (h : w.heap[b]? = some o) (hg : w.grownBy w' (some bb)) (hne : b ≠ bb) : w'.heap[b]? = some o :=
  (hg.block b (Array.getElem?_eq_some_iff.1 h).1 (by simp only [ne_eq, Option.some.injEq]; exact hne)).trans h
/-- Behind a step that may have written the bytes. -/
theorem PcM.put {cs' : List Int} (h : PcM la lb sa sb sc l y cc pa pb f bb H cs w) (hg : w.grownBy w' (some bb)) (hz : ∃ zs : List Int, WrS kU8 5 H w' sc zs ∧ zs.length = 12 ∧ (∀ x ∈ zs, 0 ≤ x ∧ x ≤ 255) ∧ zs.take cs'.length = cs') :
    PcM la lb sa sb sc l y cc pa pb f bb H cs' w' := by
  obtain ⟨n1, n2, n3, n4, n5⟩ := h.ne
  obtain ⟨t1, h1⟩ := h.hy
  obtain ⟨t2, h2⟩ := h.hc
  obtain ⟨t3, h3⟩ := h.ha'
  obtain ⟨t4, h4⟩ := h.hb'
  obtain ⟨t5, h5⟩ := h.hf
  exact ⟨⟨t1, blk_kept h1 hg n1⟩, ⟨t2, blk_kept h2 hg n2⟩, ⟨t3, blk_kept h3 hg n3⟩, ⟨t4, blk_kept h4 hg n4⟩, ⟨t5, blk_kept h5 hg n5⟩,
    h.ha.kept3' hg (fun hne b o e e2 => h.na hne b o e (by simpa using e2.symm)), h.hb.kept3' hg (fun hne b o e e2 => h.nb hne b o e (by simpa using e2.symm)), h.na, h.nb, h.ne, h.hbk, hz⟩
theorem PcM.below (h : PcM la lb sa sb sc l y cc pa pb f bb H cs w) (hb : Below w.heap.size w w') : PcM la lb sa sb sc l y cc pa pb f bb H cs w' := by
  obtain ⟨zs, h1, h2⟩ := h.hz
  exact h.put (⟨hb.os, hb.tape, hb.output, hb.size, fun k hk _ => hb.block k hk⟩) ⟨zs, h1.below hb, h2⟩
theorem PcM.cut {n : Nat} (h : PcM la lb sa sb sc l y cc pa pb f bb H cs w) : PcM la lb sa sb sc l y cc pa pb f bb H (cs.take n) w := by
  obtain ⟨zs, h1, h2, h3, h4⟩ := h.hz
  have hcs : cs.length ≤ 12 := by
    have := congrArg List.length h4
    rw [List.length_take] at this; omega
  refine h.put (grown_refl _ _) ⟨zs, h1, h2, h3, ?_⟩
  rw [List.length_take]
  conv => rhs; rw [← h4, List.take_take]
theorem gen_cons {la lb : List Rule} {n k : Nat} {cs : List Int} {x : Int} (hx : (cuts la lb cs.length)[k]? = some x) :
    ((cuts la lb cs.length).take (k + 1)).flatMap (fun x => gen la lb n (cs ++ [x])) = ((cuts la lb cs.length).take k).flatMap (fun x => gen la lb n (cs ++ [x])) ++ gen la lb n (cs ++ [x]) := by
  rw [List.take_add_one, hx]
  simp
theorem gen_pre {la lb : List Rule} {n k : Nat} {cs : List Int} {x : Int} (hx : (cuts la lb cs.length)[k]? = some x) {q : List (List Int)} (hq : q <+: gen la lb n (cs ++ [x])) :
    ((cuts la lb cs.length).take k).flatMap (fun x => gen la lb n (cs ++ [x])) ++ q <+: gen la lb (n + 1) cs := by
  have h1 : gen la lb (n + 1) cs = ((cuts la lb cs.length).take (k + 1)).flatMap (fun x => gen la lb n (cs ++ [x])) ++ ((cuts la lb cs.length).drop (k + 1)).flatMap (fun x => gen la lb n (cs ++ [x])) := by
    rw [← List.flatMap_append, List.take_append_drop]
    rfl
  obtain ⟨u, hu⟩ := hq
  refine ⟨u ++ ((cuts la lb cs.length).drop (k + 1)).flatMap (fun x => gen la lb n (cs ++ [x])), ?_⟩
  rw [h1, gen_cons hx, ← hu]
  simp
end
section
variable {la lb : List Rule} (hpa : RulesP la) (hpb : RulesP lb) {sa sb sc : Sl} {l y cc pa pb f bb H : Nat} {J Jx : List (List Int) → World → Prop}
  (hJ : ∀ s A B, J s A → Below H A B → J s B)
  (hY : ∀ pre x W1, Came x → J pre W1 → H ≤ W1.heap.size → YieldAt Fence.wide 0 P0 l #[.string (strOfNums x)] W1 fun e W' => (e = .returned (.bool true) ∧ J (pre ++ [x]) W' ∧ Below W1.heap.size W1 W') ∨ (e = .returned (.bool false) ∧ Jx (pre ++ [x]) W'))
include hpa hpb hJ hY
set_option maxHeartbeats 1000000 in
theorem impl.everyPiece_1_1.c : ∀ (n : Nat) {cs : List Int} {w : World} {pre : List (List Int)} {K : Bool → World → Prop}, cs.length + n = 12 → PcM la lb sa sb sc l y cc pa pb f bb H cs w → J pre w → H ≤ w.heap.size →
    (∀ w', J (pre ++ gen la lb n cs) w' → PcM la lb sa sb sc l y cc pa pb f bb H cs w' → w.grownBy w' (some bb) → K true w') → (∀ w' q, q <+: gen la lb n cs → Jx (pre ++ q) w' → K false w') →
    CallT (.o (.lf .b)) P0 79 [.int .i64 (cs.length : Int), .pointer (some ⟨y, 0, none⟩), .pointer (some ⟨cc, 0, none⟩), .pointer (some ⟨pa, 0, none⟩), .pointer (some ⟨pb, 0, none⟩), .pointer (some ⟨f, 0, none⟩)] w K
  | 0, cs, w, pre, K, hn, hm, hj, hH, hT, hF => by
    refine impl.everyPiece_1_1.ok (And.intro (fun _ => ?_) (fun hne => by rw [beq_eq_false_iff_ne] at hne; omega))
    obtain ⟨t1, h1⟩ := hm.hy
    obtain ⟨t2, h2⟩ := hm.hc
    obtain ⟨zs, hz1, hz2, hz3, hz4⟩ := hm.hz
    have hzc : zs = cs := by rw [← hz4, List.take_of_length_le (by omega)]
    subst hzc
    refine ldB0 h1 (x := l) rfl (ldB0 h2 (x := sc) rfl ?_)
    obtain ⟨b, o, ha, hat⟩ : ∃ b o, sc.a = some ⟨b, o, none⟩ ∧ ∀ i x, zs[i]? = some x → At w b (o + i * 1) [.int .u8 x] := by
      rcases hz1.read.2.2.2 with h0 | h
      · rw [h0] at hz2; simp at hz2
      · exact h
    have hzn := hz1.len
    have hconv := run_convert_bytes_arg (P := P0) w 22 5 (by kernel_rfl) (by kernel_rfl) b o sc.n sc.c zs hz1.len.symm (fun i hi => by
      obtain ⟨x, hx⟩ := get_some (l := zs) (k := i) (by omega)
      have := hat i x hx 0 _ rfl
      rw [show zs.getD i 0 = x by rw [List.getD_eq_getElem?_getD, hx]; rfl]
      simpa using this) 9 (by kernel_rfl)
    refine ⟨strOfNums zs, w, by unfold Sl.v; rw [ha]; exact hconv, ?_⟩
    obtain ⟨fn, tmps, asg, body, hy, hR⟩ := hY pre zs w ⟨hz2, hz3⟩ hj hH
    refine ⟨fn, tmps, asg, body, hy, hR.mono ?_⟩
    rintro e w' (⟨rfl, hj', hb⟩ | ⟨rfl, hx⟩)
    · exact ⟨true, rfl, hT w' hj' (hm.below hb) ⟨hb.os, hb.tape, hb.output, hb.size, fun k hk _ => hb.block k hk⟩⟩
    · exact ⟨false, rfl, hF w' [zs] (List.prefix_refl _) hx⟩
  | n + 1, cs, w, pre, K, hn, hm, hj, hH, hT, hF => by
    refine impl.everyPiece_1_1.ok (And.intro (fun he => by rw [beq_iff_eq] at he; omega) (fun _ => ?_))
    obtain ⟨t3, h3⟩ := hm.ha'
    obtain ⟨t4, h4⟩ := hm.hb'
    refine ldB0 h3 (x := sa) rfl (ldB0 h4 (x := sb) rfl ?_)
    refine impl.cuts.c hm.ha hm.hb hpa hpb fun r w2 ho2 b2 => ?_
    have hrn := ho2.len
    have hcl := cuts_length la lb (cs.length : Int)
    have g2 : w.grownBy w2 (some bb) := ⟨b2.os, b2.tape, b2.output, b2.size, fun k hk _ => b2.block k hk⟩
    have hsz2 := b2.size
    have hbbw : bb < w.heap.size := by
      obtain ⟨zs, hz1, _⟩ := hm.hz
      exact (hz1.blk hm.hbk.1).2
    have hj2 : J pre w2 := hJ _ _ _ hj (b2.mono hH)
    refine ⟨fun i w' => ∃ k : Nat, i = k ∧ k ≤ (cuts la lb cs.length).length ∧ PcM la lb sa sb sc l y cc pa pb f bb H cs w' ∧ J (pre ++ ((cuts la lb cs.length).take k).flatMap (fun x => gen la lb n (cs ++ [x]))) w' ∧ OwnS kI 3 w.heap.size w' r (cuts la lb cs.length) ∧ w.grownBy w' (some bb),
      fun i _ => (cuts la lb cs.length).length - i.toNat, ⟨0, rfl, by omega, hm.below b2, by simpa using hj2, ho2, g2⟩, ?_⟩
    rintro i w3 ⟨k, rfl, hk1, hm3, hj3, ho3, g3⟩ _
    have hsz3 := g3.size
    refine And.intro (fun hlt => ?_) (fun hge => ?_)
    · simp only [decide_eq_true_eq] at hlt
      obtain ⟨x, hx⟩ := get_some (l := cuts la lb cs.length) (k := k) (by omega)
      have hxb := cuts_byte (List.mem_of_getElem? hx)
      obtain ⟨t2, h2⟩ := hm3.hc
      obtain ⟨zs, hz1, hz2, hz3, hz4⟩ := hm3.hz
      refine ixL ho3.read (i := k) (by omega) (x := x) (by simpa using hx) rfl (l := .i .i64) (v := x) rfl ?_
      refine ldB0 h2 (x := sc) rfl ?_
      obtain ⟨z, hz⟩ := get_some (l := zs) (k := cs.length) (by omega)
      rw [show IntKind.wrap .u8 x = x by rw [IntKind.wrap_u8]; omega]
      refine ixStL hz1 (i := (cs.length : Int)) (by omega) (x := z) (by simpa using hz) rfl rfl rfl x rfl fun w4 hz4' g4 s4 => ?_
      rw [hm3.hbk.1] at g4
      have hzl : zs.length = 12 := hz2
      have hm4 : PcM la lb sa sb sc l y cc pa pb f bb H (cs ++ [x]) w4 := by
        refine hm3.put g4 ⟨_, hz4', by simpa using hz2, fun u hu => ?_, ?_⟩
        · rcases List.mem_or_eq_of_mem_set hu with h | h
          · exact hz3 u h
          · rw [h]; exact hxb
        · rw [Int.toNat_natCast]
          have e1 : (cs ++ [x]).length = cs.length + 1 := by simp
          rw [e1, List.take_add_one, List.take_set_of_le (Nat.le_refl _), hz4, List.getElem?_set_self (by omega)]
          rfl
      have hj4 : J (pre ++ ((cuts la lb cs.length).take k).flatMap (fun x => gen la lb n (cs ++ [x]))) w4 := hJ _ _ _ hj3 ⟨g4.os, g4.tape, g4.output, g4.size, fun q hq => g4.block q (by omega) (by have := hm.hbk.2; simp only [ne_eq, Option.some.injEq]; omega)⟩
      obtain ⟨t5, h5⟩ := hm4.hf
      refine ldB0 h5 (l := .fn 79 5) (x := (⟨y, 0, none⟩, ⟨cc, 0, none⟩, ⟨pa, 0, none⟩, ⟨pb, 0, none⟩, ⟨f, 0, none⟩, ())) rfl ?_
      rw [i64_of (n := (cs.length : Int) + 1) (by omega) (by omega), i64_of (n := (k : Int) + 1) (by omega) (by omega)]
      have hl1 : ((cs.length : Int) + 1) = ((cs ++ [x]).length : Int) := by simp
      rw [hl1]
      refine impl.everyPiece_1_1.c n (by simp; omega) hm4 hj4 (by omega) (fun w5 hj5 hm5 g5 => ?_) (fun w5 q hq hx5 => ?_)
      · refine And.intro (fun hc => by simp at hc) (fun _ => ?_)
        refine ⟨⟨k + 1, by omega, by omega, ?_, ?_, ?_, ?_⟩, by simp only; omega⟩
        · have := hm5.cut (n := cs.length)
          rwa [List.take_left' rfl] at this
        · rw [gen_cons hx, ← List.append_assoc]; exact hj5
        · have o4 := ho3.kept g4 (fun b hb e => by simp only [Option.some.injEq] at hb; have := (ho3.blk e).1; omega)
          exact o4.kept g5 (fun b hb e => by simp only [Option.some.injEq] at hb; have := (o4.blk e).1; omega)
        · exact grown_trans (grown_trans g3 g4) g5
      · refine And.intro (fun _ => ?_) (fun hc => by simp at hc)
        exact hF w5 _ (gen_pre hx hq) (by rw [← List.append_assoc]; exact hx5)
    · simp only [decide_eq_false_iff_not] at hge
      obtain rfl : k = (cuts la lb cs.length).length := by omega
      rw [List.take_length] at hj3
      exact hT w3 hj3 hm3 g3
end
end Go.Proofs.Ytdlnoabihfnmmaa.V

/- Contracts: the search through an iterator; SameFind and SameRules on both sides. -/
namespace Go.Proofs.Ytdlnoabihfnmmaa.V
open Go Go.RowKit
set_option linter.unusedVariables false
set_option linter.unusedSimpArgs false
theorem mkU8 : Mk P0 22 5 kU8 1 0 := ⟨by kernel_rfl, ⟨_, _, Option.eq_some_of_isSome (by kernel_rfl), Option.eq_some_of_isSome (by kernel_rfl), by kernel_rfl, by kernel_rfl, by kernel_rfl⟩⟩
theorem zSl8 : zc P0 22 = #[.slice none 0 0] := by kernel_rfl
theorem zFn : zc P0 72 = #[.nilFunc] := by kernel_rfl
theorem rd_lt {la : List Rule} {s : Sl} {w : World} (h : SlR kRule w s la) (hne : la ≠ []) {b o : Nat} (ha : s.a = some ⟨b, o, none⟩) : b < w.heap.size := by
  rcases h.2.2.2 with h0 | ⟨b', o', ha', hat⟩
  · exact absurd h0 hne
  · rw [ha] at ha'
    simp only [Option.some.injEq, Addr.mk.injEq] at ha'
    obtain ⟨x, hx⟩ := get_some (l := la) (k := 0) (List.length_pos_iff.2 hne)
    have := hat 0 x hx 0 (.int .i64 x.at_) rfl
    have := World.block_lt_of_cell? w _ this
    simp only at this; omega
section
variable {la lb : List Rule} (hpa : RulesP la) (hpb : RulesP lb) {sa sb : Sl} {l pa pb : Nat} {J Jx : List (List Int) → World → Prop} {W : World}
  (hJ : ∀ s A B, J s A → Below W.heap.size A B → J s B)
  (hY : ∀ pre x W1, Came x → J pre W1 → W.heap.size ≤ W1.heap.size → YieldAt Fence.wide 0 P0 l #[.string (strOfNums x)] W1 fun e W' => (e = .returned (.bool true) ∧ J (pre ++ [x]) W' ∧ Below W1.heap.size W1 W') ∨ (e = .returned (.bool false) ∧ Jx (pre ++ [x]) W'))
include hpa hpb hJ hY
theorem impl.everyPiece_1.c (h1 : ∃ t, W.heap[pa]? = some (.cells #[sa.v] t (0, 0))) (h2 : ∃ t, W.heap[pb]? = some (.cells #[sb.v] t (0, 0))) (ha : SlR kRule W sa la) (hb : SlR kRule W sb lb) (h0 : J [] W) :
    CallT .z P0 78 [.func (.yield l) #[] #[], .pointer (some ⟨pa, 0, none⟩), .pointer (some ⟨pb, 0, none⟩)] W fun _ W' => J (gen la lb 12 []) W' ∨ ∃ q, q <+: gen la lb 12 [] ∧ Jx q W' := by
  obtain ⟨ta, h1⟩ := h1
  obtain ⟨tb, h2⟩ := h2
  have hpa' := (Array.getElem?_eq_some_iff.1 h1).1
  have hpb' := (Array.getElem?_eq_some_iff.1 h2).1
  refine impl.everyPiece_1.ok (nw fun w1 b1 s1 c1 => ?_)
  refine mkS (n := 12) mkU8 (by omega) (by simp [maxLen]) fun sc w2 b2 hz2 => ?_
  have b12 := b1.trans (b2.mono b1.size)
  have hs2 := b2.size
  obtain ⟨bb, o, cur, hsa, hbbH, hbbw, _, _⟩ := hz2.at (i := 0) (x := 0) (by simp) (by decide)
  have hbb2 := (Array.getElem?_eq_some_iff.1 hbbw).1
  refine nw fun w3 b3 s3 c3 => ?_
  rw [zSl8] at c3
  have b13 := b12.trans (b3.mono b12.size)
  refine stB0 c3 rfl (by simp) fun w4 g4 s4 c4 => ?_
  have b14 : Below W.heap.size W w4 := b13.grown g4 b13.size (fun b hb => by simp only [Option.some.injEq] at hb; have := b12.size; omega)
  refine nw fun w5 b5 s5 c5 => ?_
  rw [zFn] at c5
  have b15 := b14.trans (b5.mono b14.size)
  refine stB0 c5 rfl (by simp) fun w6 g6 s6 c6 => ?_
  have hs12 := b12.size
  have b16 : Below W.heap.size W w6 := b15.grown g6 b15.size (fun b hb => by simp only [Option.some.injEq] at hb; omega)
  have k36 : ∀ {k : Nat} {o : Obj}, k < w4.heap.size → w4.heap[k]? = some o → w6.heap[k]? = some o := fun hk h => by
    have h5 := (b5.block _ hk).trans h
    exact blk_kept h5 g6 (by omega)
  have k24 : ∀ {k : Nat} {o : Obj}, k < w2.heap.size → w2.heap[k]? = some o → w4.heap[k]? = some o := fun hk h => by
    have h5 := (b3.block _ hk).trans h
    exact blk_kept h5 g4 (by omega)
  have hz6 : WrS kU8 5 W.heap.size w6 sc (List.replicate 12 0) := by
    have z3 := hz2.below b3
    have z4 := z3.kept g4 (fun b hb e => by simp only [Option.some.injEq] at hb; rw [Sl.bk, hsa] at e; simp only [Option.map_some, Option.some.injEq] at e; omega)
    have z5 := z4.below b5
    exact (z5.kept g6 (fun b hb e => by simp only [Option.some.injEq] at hb; rw [Sl.bk, hsa] at e; simp only [Option.map_some, Option.some.injEq] at e; omega)).low b1.size
  have hm : PcM la lb sa sb sc l W.heap.size w2.heap.size pa pb w4.heap.size bb W.heap.size [] w6 := by
    refine ⟨⟨_, k36 (by omega) (k24 (by omega) ((b2.block _ (by omega)).trans c1))⟩, ⟨_, k36 (by omega) c4⟩, ⟨ta, (b16.block _ hpa').trans h1⟩, ⟨tb, (b16.block _ hpb').trans h2⟩, ⟨_, c6⟩, ha.below b16, hb.below b16,
      fun hne b o e => ?_, fun hne b o e => ?_, ⟨by omega, by omega, by omega, by omega, by omega⟩, ⟨by simp [Sl.bk, hsa], by omega⟩, ⟨_, hz6, by simp, by simp, by simp⟩⟩
    · have := rd_lt ha hne e; omega
    · have := rd_lt hb hne e; omega
  refine ldB0 c6 (l := .fn 79 5) (x := (⟨W.heap.size, 0, none⟩, ⟨w2.heap.size, 0, none⟩, ⟨pa, 0, none⟩, ⟨pb, 0, none⟩, ⟨w4.heap.size, 0, none⟩, ())) rfl ?_
  refine impl.everyPiece_1_1.c hpa hpb hJ hY 12 (cs := []) (pre := []) rfl hm (hJ _ _ _ h0 b16) b16.size (fun w' hj _ _ => .inl (by simpa using hj)) (fun w' q hq hx => .inr ⟨q, hq, by simpa using hx⟩)
end
/-! ### the code of the search -/
noncomputable def dC : Code := code Try.f33
noncomputable def dR0 : Code := cL dC
noncomputable def dX : Code := cR dC
noncomputable def dR1 : Code := cL (cL dX)
noncomputable def dRf : Code := cB (cR (cL dX))
noncomputable def dAs : Code := cAs dRf
noncomputable def dBd : Code := cBd dRf
noncomputable def dR7 : Code := cL (cR dX)
set_option maxRecDepth 100000 in
theorem differ_code : Try.f33.body = some (.seq dR0 (.seq (.seq dR1 (.block 0 (.rangeFunc (.tmp 13) #[14] dAs dBd))) (.seq dR7 .ret))) := by kernel_rfl
def dEnv (sa sb : Sl) (p2 p3 p4 p5 : Addr) (v6 v11 v12 v13 v14 : Value) : Env :=
  [.v sa.v, .v sb.v, .v (.pointer (some p2)), .v (.pointer (some p3)), .v (.pointer (some p4)), .v (.pointer (some p5)), .v v6, u0, u0, u0, u0, .v v11, .v v12, .v v13, .v v14] ++ List.replicate 21 u0
section
variable {sa sb : Sl} {p2 p3 p4 p5 : Addr} {v6 v11 v12 v13 v14 : Value} {w : World} {Kn : Env → World → Prop}
set_option maxRecDepth 100000 in
theorem differ_r0 (h : Nw #[sa.v] 23 w fun p2 w1 => Nw #[sb.v] 23 w1 fun p3 w2 => Nw (zc P0 9) 9 w2 fun p4 w3 => Nw (zc P0 4) 4 w3 fun p5 w4 => Kn (dEnv sa sb p2 p3 p4 p5 undef undef undef undef undef) w4) :
    evI P0 (.r (D 4)) dR0 (nK Kn) ([sa.v, sb.v].map EV.v ++ List.replicate (Try.f33.ntmps - [sa.v, sb.v].length) u0) w := Eq.mp (by kernel_rfl) h
set_option maxRecDepth 100000 in
theorem differ_r1 (h : Ld .sl p2 w fun x w1 => Ld .sl p3 w1 fun y w2 => CallT (.o (.lf .any)) P0 59 [x.v, y.v] w2 fun f w3 => Kn (dEnv sa sb p2 p3 p4 p5 undef x.v y.v f undef) w3) :
    evI P0 (.r [.l (.lf .sl), .l (.lf .sl), .c (.o (.lf .any))]) dR1 (nK Kn) (dEnv sa sb p2 p3 p4 p5 undef undef undef undef undef) w := Eq.mp (by kernel_rfl) h
set_option maxRecDepth 100000 in
theorem differ_as (h : Kn (dEnv sa sb p2 p3 p4 p5 v14 v11 v12 v13 v14) w) : evI P0 (.r (D 1)) dAs (nK Kn) (dEnv sa sb p2 p3 p4 p5 v6 v11 v12 v13 v14) w := Eq.mp (by kernel_rfl) h
set_option maxRecDepth 100000 in
theorem differ_r7 (h : St p4 (.string ⟨#[]⟩) w fun w1 => St p5 (.bool false) w1 fun w2 => Kn (dEnv sa sb p2 p3 p4 p5 v6 v11 v12 v13 v14) w2) : evI P0 (.r (D 2)) dR7 (nK Kn) (dEnv sa sb p2 p3 p4 p5 v6 v11 v12 v13 v14) w := Eq.mp (by kernel_rfl) h
def differ.body.pl : Pl := (.b (.s (.r [(.l (.lf .sl)), .d, (.c (.n [(.lf (.i .i64)), (.lf (.i .i64))])), .d, .d, .d, .d, .d]) (.s (.r [(.l (.lf .sl)), .d, (.c (.n [(.lf (.i .i64)), (.lf (.i .i64))])), .d, .d, .d, .d, .d]) (.s (.r [.d, .d, .d, (.sp .d), .d, .d, .d, .d]) (.c (.s (.r (D 3)) .z) .z)))))
def differ.body.vc (t2 : Addr) (t3 : Addr) (t4 : Addr) (t5 : Addr) (came : ByteArray) (w : World) (K : Bool → World → Prop) : Prop :=
Ld .sl t2 w fun (t16 : Sl) w_ =>
CallT (.n [(.lf (.i .i64)), (.lf (.i .i64))]) P0 30 [t16.v, (.string came)] w_ fun (t18 : (Int) × (Int) × Unit) w__1 =>
Ld .sl t3 w__1 fun (t22 : Sl) w__2 =>
CallT (.n [(.lf (.i .i64)), (.lf (.i .i64))]) P0 30 [t22.v, (.string came)] w__2 fun (t24 : (Int) × (Int) × Unit) w__3 =>
(((t18.1 : Int) != t24.1) = true → St t4 (.string came) w__3 fun w__4 =>
St t5 (.bool true) w__4 fun w__5 =>
K false w__5) ∧
(((t18.1 : Int) != t24.1) = false → (((t18.2.1 : Int) != t24.2.1) = true → St t4 (.string came) w__3 fun w__6 =>
St t5 (.bool true) w__6 fun w__7 =>
K false w__7) ∧
(((t18.2.1 : Int) != t24.2.1) = false → K true w__3))
set_option maxRecDepth 100000 in
theorem differ_yield {u : Value} : ({ tmps := ((#[14] : Array Tmp).zip #[u]).foldl (fun t (p, v) => t.setIfInBounds p v) (act [] (dEnv sa sb p2 p3 p4 p5 v6 v11 v12 v13 v14)).tmps, defers := [] } : Act) = act [] (dEnv sa sb p2 p3 p4 p5 v6 v11 v12 v13 u) := by kernel_rfl
set_option maxRecDepth 100000 in
theorem differ_body {s : ByteArray} {K : Bool → World → Prop} (h : differ.body.vc p2 p3 p4 p5 s w K) : evI P0 differ.body.pl dBd (bK K) (dEnv sa sb p2 p3 p4 p5 (.string s) v11 v12 v13 v14) w := Eq.mp (by kernel_rfl) h
set_option maxRecDepth 100000 in
theorem differ_res {x : ByteArray} {b : Bool} {k : ByteArray × Bool × Unit → World → Prop} (h1 : w.cell? p4 = some (.string x)) (h2 : w.cell? p5 = some (.bool b)) (hk : k (x, b, ()) w) :
    resK P0 Try.f33.results.toList [(.lf .s), (.lf .b)] (dEnv sa sb p2 p3 p4 p5 v6 v11 v12 v13 v14) w fun t => k t w :=
  Eq.mp (by kernel_rfl) (show Ld .s p4 w fun x _ => Ld .b p5 w fun y _ => k (x, y, ()) w from ⟨x, h1, b, h2, hk⟩)
end
end Go.Proofs.Ytdlnoabihfnmmaa.V

/- Contracts: the search; SameFind, SameRules on both sides. -/
namespace Go.Proofs.Ytdlnoabihfnmmaa.V
open Go Go.RowKit
set_option linter.unusedVariables false
set_option linter.unusedSimpArgs false
theorem results_leave {r : Rs} {env : Env} {w : World} {fn : Func} {K : r.T → World → Prop} (hr : r.fine = true) (h : resK P0 fn.results.toList r.tys env w fun t => K (r.of t) w) :
    LeavesInM (Rd none) 0 P0 fn (act [] env).tmps (fun e w' => ∃ x, e = .returned (r.emb x) ∧ K x w') [] .returning w := by
  obtain ⟨x, hx, hrun⟩ := results_run (ds := []) (env := env) hr h
  exact ⟨_, hrun, x, rfl, hx⟩
/-- What is known between two rounds. -/
structure DiI (la lb : List Rule) (sa sb : Sl) (b2 b3 b4 b5 : Nat) (w0 : World) (pre : List (List Int)) (W : World) : Prop where
  bel : Below w0.heap.size w0 W
  h2 : ∃ t, W.heap[b2]? = some (.cells #[sa.v] t (0, 0))
  h3 : ∃ t, W.heap[b3]? = some (.cells #[sb.v] t (0, 0))
  h4 : ∃ t, W.heap[b4]? = some (.cells #[.string ByteArray.empty] t (0, 0))
  h5 : ∃ t, W.heap[b5]? = some (.cells #[.bool false] t (0, 0))
  no : ∀ x ∈ pre, diffB la lb x = false
structure DiX (la lb : List Rule) (b4 b5 : Nat) (w0 : World) (pre : List (List Int)) (W : World) : Prop where
  bel : Below w0.heap.size w0 W
  ex : ∃ q x, pre = q ++ [x] ∧ (∀ y ∈ q, diffB la lb y = false) ∧ diffB la lb x = true ∧ (∃ t, W.heap[b4]? = some (.cells #[.string (strOfNums x)] t (0, 0))) ∧ ∃ t, W.heap[b5]? = some (.cells #[.bool true] t (0, 0))
theorem find_none {la lb : List Rule} {l : List (List Int)} (h : ∀ x ∈ l, diffB la lb x = false) : l.find? (diffB la lb) = none := by
  rw [List.find?_eq_none]; intro x hx; simp [h x hx]
theorem find_some' {la lb : List Rule} {l q : List (List Int)} {x : List Int} (hp : q ++ [x] <+: l) (h : ∀ y ∈ q, diffB la lb y = false) (hx : diffB la lb x = true) : l.find? (diffB la lb) = some x := by
  obtain ⟨u, hu⟩ := hp
  rw [← hu, List.append_assoc, List.find?_append, find_none h]
  simp [List.find?_cons, hx]
theorem gen_came {la lb : List Rule} : ∀ (n : Nat) {cs : List Int}, cs.length + n = 12 → (∀ x ∈ cs, 0 ≤ x ∧ x ≤ 255) → ∀ y ∈ gen la lb n cs, Came y
  | 0, cs, hn, hx, y, hy => by
    simp only [gen, List.mem_singleton] at hy
    subst hy; exact ⟨by omega, hx⟩
  | n + 1, cs, hn, hx, y, hy => by
    simp only [gen, List.mem_flatMap] at hy
    obtain ⟨x, hxc, hy⟩ := hy
    exact gen_came n (by simp; omega) (fun z hz => by rcases List.mem_append.1 hz with h | h; exact hx z h; simp at h; subst h; exact cuts_byte hxc) y hy
theorem zStr : zc P0 9 = #[.string ByteArray.empty] := by kernel_rfl
theorem zBool : zc P0 4 = #[.bool false] := by kernel_rfl
section
variable {la lb : List Rule} {sa sb : Sl} {w : World}
set_option maxHeartbeats 2000000 in
set_option maxRecDepth 100000 in
theorem impl.differ.c (hpa : RulesP la) (hpb : RulesP lb) (ha : SlR kRule w sa la) (hb : SlR kRule w sb lb) {K : ByteArray × Bool × Unit → World → Prop} (hk : ∀ w', Below w.heap.size w w' → K ((fres la lb 12 []).1, (fres la lb 12 []).2, ()) w') :
    CallT (.n [(.lf .s), (.lf .b)]) P0 33 [sa.v, sb.v] w K := by
  refine callM_of Try.func33 differ_code (step_seq (differ_r0 ?_))
  refine nw fun w1 b1 s1 c1 => nw fun w2 b2 s2 c2 => nw fun w3 b3 s3 c3 => nw fun w4 b4 s4 c4 => ?_
  rw [zStr] at c3
  rw [zBool] at c4
  have b12 := b1.trans (b2.mono (by omega))
  have b13 := b12.trans (b3.mono (by omega))
  have b14 := b13.trans (b4.mono (by omega))
  have h2 := (b4.block _ (by omega)).trans ((b3.block _ (by omega)).trans ((b2.block _ (by omega)).trans c1))
  have h3 := (b4.block _ (by omega)).trans ((b3.block _ (by omega)).trans c2)
  have h4 := (b4.block _ (by omega)).trans c3
  refine wpIn_seq (step_seq (differ_r1 ?_))
  refine ldB0 h2 (x := sa) rfl (ldB0 h3 (x := sb) rfl ?_)
  refine impl.everyPiece.ok (nw fun w5 b5 s5 c5 => nw fun w6 b6 s6 c6 => ?_)
  have b56 := b5.trans (b6.mono (by omega))
  have b16 := b14.trans (b56.mono (by omega))
  have i5 := (b6.block _ (by omega)).trans c5
  refine wpIn_block ?_
  have hI0 : DiI la lb sa sb w.heap.size w1.heap.size w2.heap.size w3.heap.size w [] w6 := ⟨b16, ⟨_, (b56.block _ (by omega)).trans h2⟩, ⟨_, (b56.block _ (by omega)).trans h3⟩, ⟨_, (b56.block _ (by omega)).trans h4⟩, ⟨_, (b56.block _ (by omega)).trans c4⟩, by simp⟩
  have keep : ∀ {A B : World} {k : Nat} {o : Obj}, k < w6.heap.size → A.heap[k]? = some o → Below w6.heap.size A B → B.heap[k]? = some o := fun hk h hab => (hab.block _ hk).trans h
  have hs6 : w3.heap.size < w6.heap.size ∧ w2.heap.size < w6.heap.size ∧ w1.heap.size < w6.heap.size ∧ w.heap.size < w6.heap.size := by have := b56.size; omega
  refine rf_law (n := 0) (α := List Int) (gf := 78) (lb := #[.pointer (some ⟨w4.heap.size, 0, none⟩), .pointer (some ⟨w5.heap.size, 0, none⟩)]) (by rw [act_eval]; rfl) (enters_ok (by kernel_rfl)) (encs := fun x => #[.string (strOfNums x)]) (fun _ => rfl) Came
    (DiI la lb sa sb w.heap.size w1.heap.size w2.heap.size w3.heap.size w) (DiX la lb w2.heap.size w3.heap.size w) ?_ ?_ hI0 (gen la lb 12 []) (fun x => act [] (dEnv sa sb ⟨w.heap.size, 0, none⟩ ⟨w1.heap.size, 0, none⟩ ⟨w2.heap.size, 0, none⟩ ⟨w3.heap.size, 0, none⟩ (.string (strOfNums x)) sa.v sb.v (.func (.func 78) #[] #[.pointer (some ⟨w4.heap.size, 0, none⟩), .pointer (some ⟨w5.heap.size, 0, none⟩)]) (.string (strOfNums x)))) ?_ ?_ ?_ ?_ ?_
  · rintro s A B h hab
    obtain ⟨t2, q2⟩ := h.h2
    obtain ⟨t3, q3⟩ := h.h3
    obtain ⟨t4, q4⟩ := h.h4
    obtain ⟨t5, q5⟩ := h.h5
    exact ⟨h.bel.trans (hab.mono (by omega)), ⟨t2, keep (by omega) q2 hab⟩, ⟨t3, keep (by omega) q3 hab⟩, ⟨t4, keep (by omega) q4 hab⟩, ⟨t5, keep (by omega) q5 hab⟩, h.no⟩
  · rintro s A B h hab
    obtain ⟨q, x, e, h1, h2, ⟨t4, q4⟩, t5, q5⟩ := h.ex
    exact ⟨h.bel.trans (hab.mono (by omega)), q, x, e, h1, h2, ⟨t4, keep (by omega) q4 hab⟩, t5, keep (by omega) q5 hab⟩
  · intro l W J Jx hW hWs hJ hJx hY h0
    have hl4 : w4.heap.size < w6.heap.size := by omega
    have hl5 : w5.heap.size < w6.heap.size := by omega
    have c5' : W.heap[w4.heap.size]? = _ := keep hl4 i5 hW
    have c6' : W.heap[w5.heap.size]? = _ := keep hl5 c6 hW
    have := impl.everyPiece_1.c hpa hpb hJ hY ⟨_, c5'⟩ ⟨_, c6'⟩ (ha.below (b16.trans (hW.mono (by omega)))) (hb.below (b16.trans (hW.mono (by omega)))) h0
    exact Calls.mono this fun e W' ⟨x, he, hx⟩ => ⟨⟨_, he⟩, hx.imp id (fun ⟨q, h1, h2⟩ => ⟨q, h1, h2⟩)⟩
  · intro l x W K' hK
    refine Eq.mpr (congrArg (fun a => Code.wpIn (Rd (some l)) 0 P0 dAs (Exit.then K' fun _ _ _ => False) a W) differ_yield) ?_
    exact step_one (differ_as hK)
  · intro l pre x W hok hI hW
    refine step_body (differ_body ?_)
    obtain ⟨t2, q2⟩ := hI.h2
    obtain ⟨t3, q3⟩ := hI.h3
    obtain ⟨t4, q4⟩ := hI.h4
    obtain ⟨t5, q5⟩ := hI.h5
    refine ldB0 q2 (x := sa) rfl ?_
    refine impl.ruled.c (ha.below hI.bel) hpa hok fun u1 d1 => ?_
    refine ldB0 ((d1.block _ (by omega)).trans q3) (x := sb) rfl ?_
    refine impl.ruled.c (hb.below (hI.bel.trans (d1.mono hI.bel.size))) hpb hok fun u2 d2 => ?_
    have d12 := d1.trans (d2.mono d1.size)
    have hsW := d12.size
    have fin : diffB la lb x = true → St ⟨w2.heap.size, 0, none⟩ (.string (strOfNums x)) u2 fun u3 => St ⟨w3.heap.size, 0, none⟩ (.bool true) u3 fun u4 => KeepsHi w6.heap.size W u4 ∧ DiX la lb w2.heap.size w3.heap.size w (pre ++ [x]) u4 := by
      intro hd
      refine stB0 ((d12.block _ (by omega)).trans q4) rfl (by simp) fun u3 g3 e3 k3 => ?_
      refine stB0 (blk_kept ((d12.block _ (by omega)).trans q5) g3 (by omega)) rfl (by simp) fun u4 g4 e4 k4 => ?_
      refine ⟨⟨by omega, fun k h1 h2 => ?_⟩, ?_, pre, x, rfl, hI.no, hd, ⟨_, blk_kept k3 g4 (by omega)⟩, ⟨_, k4⟩⟩
      · rw [g4.block k (by omega) (by simp only [ne_eq, Option.some.injEq]; omega), g3.block k (by omega) (by simp only [ne_eq, Option.some.injEq]; omega)]
        exact d12.block k h2
      · have := hI.bel.trans (d12.mono hI.bel.size)
        exact (this.grown g3 this.size (fun b hb => by simp only [Option.some.injEq] at hb; omega)).grown g4 (by have := this.size; have := g3.size; omega) (fun b hb => by simp only [Option.some.injEq] at hb; omega)
    refine And.intro (fun hd => fin (by unfold diffB; rw [hd]; rfl)) (fun hd => And.intro (fun hd2 => fin (by unfold diffB; rw [hd2]; simp)) (fun hd2 => ?_))
    have kk : ∀ {k : Nat} {o : Obj}, k < W.heap.size → W.heap[k]? = some o → u2.heap[k]? = some o := fun hk h => (d12.block _ hk).trans h
    refine ⟨d12, hI.bel.trans (d12.mono hI.bel.size), ⟨t2, kk (by omega) q2⟩, ⟨t3, kk (by omega) q3⟩, ⟨t4, kk (by omega) q4⟩, ⟨t5, kk (by omega) q5⟩, fun y hy => ?_⟩
    rcases List.mem_append.1 hy with h | h
    · exact hI.no y h
    · simp only [List.mem_singleton] at h
      subst h
      unfold diffB; rw [hd, hd2]; rfl
  · intro W hI hD
    obtain ⟨t4, q4⟩ := hI.h4
    obtain ⟨t5, q5⟩ := hI.h5
    refine step_seq (ds := [{ target := .collected w6.heap.size, args := #[] }]) (pl := .r (D 2)) (differ_r7 ?_)
    refine stB0 q4 rfl (by simp) fun u3 g3 e3 k3 => ?_
    refine stB0 (blk_kept q5 g3 (by omega)) rfl (by simp) fun u4 g4 e4 k4 => ?_
    have hD4 := blk_kept (blk_kept hD g3 (by omega)) g4 (by omega)
    have k34 := blk_kept k3 g4 (by omega)
    refine wpIn_ret ⟨by simp, .inl ⟨_, _, rfl, run_takeDeferred hD4, results_leave rfl (differ_res (x := ⟨#[]⟩) (b := false) ?_ ?_ ?_)⟩⟩
    · have := cell_of ((World.putObj_heap_other (o := .deferred none) (w := u4) (r := w6.heap.size) (k := w2.heap.size) (by omega)).trans k34) 0
      rw [this]; rfl
    · have := cell_of ((World.putObj_heap_other (o := .deferred none) (w := u4) (r := w6.heap.size) (k := w3.heap.size) (by omega)).trans k4) 0
      rw [this]; rfl
    · have hb4 : Below w.heap.size w u4 := (hI.bel.grown g3 hI.bel.size (fun b hb => by simp only [Option.some.injEq] at hb; omega)).grown g4 (by have := hI.bel.size; have := g3.size; omega) (fun b hb => by simp only [Option.some.injEq] at hb; omega)
      have := hk _ (hb4.trans (below_putObj (l := w6.heap.size) (o := .deferred none) (by omega)))
      unfold fres at this
      rw [find_none hI.no] at this
      exact this
  · intro pre W hp hX hD
    obtain ⟨q, x, rfl, h1, h2, ⟨t4, q4⟩, t5, q5⟩ := hX.ex
    refine ⟨by simp, .inl ⟨_, _, rfl, run_takeDeferred hD, results_leave rfl (differ_res (x := strOfNums x) (b := true) ?_ ?_ ?_)⟩⟩
    · have := cell_of ((World.putObj_heap_other (o := .deferred none) (w := W) (r := w6.heap.size) (k := w2.heap.size) (by omega)).trans q4) 0
      rw [this]; rfl
    · have := cell_of ((World.putObj_heap_other (o := .deferred none) (w := W) (r := w6.heap.size) (k := w3.heap.size) (by omega)).trans q5) 0
      rw [this]; rfl
    · have := hk _ (hX.bel.trans (below_putObj (l := w6.heap.size) (o := .deferred none) (by omega)))
      unfold fres at this
      rw [find_some' hp h1 h2] at this
      exact this
end
end Go.Proofs.Ytdlnoabihfnmmaa.V

/- Contracts: SameFind and SameRules on both sides. -/
namespace Go.Proofs.Ytdlnoabihfnmmaa.V
open Go Go.RowKit
set_option linter.unusedVariables false
def SameOk (la lb : List Rule) : Prop := RulesP la ∧ RulesP lb ∧ pieces la lb ≤ 400
open Classical in
/-- The first bytes of which rules say something else, if there are such. -/
noncomputable def sameFind (la lb : List Rule) : ByteArray × Bool := if SameOk la lb then fres la lb 12 [] else (⟨#[]⟩, false)
open Classical in
noncomputable def sameRules (la lb : List Rule) : Bool := if SameOk la lb then !(fres la lb 12 []).2 else false
section
variable {la lb : List Rule} {sa sb : Sl} {w : World}
open Classical in
theorem impl.looked.c {K : Bool → World → Prop} (ha : SlR kRule w sa la) (hb : SlR kRule w sb lb) (hk : ∀ w', Below w.heap.size w w' → K (decide (SameOk la lb)) w') : CallT (.o (.lf .b)) P0 32 [sa.v, sb.v] w K := by
  refine impl.looked.ok (impl.RulesOk.c ha fun w1 b1 => ?_)
  refine And.intro (fun h1 => ?_) (fun h1 => ?_)
  · simp only [decide_eq_true_eq] at h1
    refine impl.RulesOk.c (hb.below b1) fun w2 b2 => ?_
    have b12 := b1.trans (b2.mono b1.size)
    refine And.intro (fun h2 => ?_) (fun h2 => ?_)
    · simp only [decide_eq_true_eq] at h2
      refine impl.pieces.c (ha.below b12) (hb.below b12) h1 h2 fun w3 b3 => ?_
      refine kof (hk w3 (b12.trans (b3.mono b12.size))) ?_
      rw [decide_eq_decide]
      exact ⟨fun h => h.2.2, fun h => ⟨h1, h2, h⟩⟩
    · simp only [decide_eq_false_iff_not] at h2
      exact kof (hk w2 b12) (by simp only [decide_eq_false_iff_not]; exact fun h => h2 h.2.1)
  · simp only [decide_eq_false_iff_not] at h1
    exact kof (hk w1 b1) (by simp only [decide_eq_false_iff_not]; exact fun h => h1 h.1)
theorem impl.SameFind.c {K : ByteArray × Bool × Unit → World → Prop} (ha : SlR kRule w sa la) (hb : SlR kRule w sb lb) (hk : ∀ w', Below w.heap.size w w' → K ((sameFind la lb).1, (sameFind la lb).2, ()) w') :
    CallT (.n [(.lf .s), (.lf .b)]) P0 16 [sa.v, sb.v] w K := by
  refine impl.SameFind.ok (impl.looked.c ha hb fun w1 b1 => ?_)
  unfold sameFind at hk
  refine And.intro (fun h => ?_) (fun h => ?_)
  · simp only [Bool.not_eq_true', decide_eq_false_iff_not] at h
    rw [if_neg h] at hk
    exact hk w1 b1
  · simp only [Bool.not_eq_false', decide_eq_true_eq] at h
    rw [if_pos h] at hk
    exact impl.differ.c h.1 h.2.1 (ha.below b1) (hb.below b1) fun w2 b2 => hk w2 (b1.trans (b2.mono b1.size))
theorem impl.SameRules.c {K : Bool → World → Prop} (ha : SlR kRule w sa la) (hb : SlR kRule w sb lb) (hk : ∀ w', Below w.heap.size w w' → K (sameRules la lb) w') :
    CallT (.o (.lf .b)) P0 13 [sa.v, sb.v] w K := by
  refine impl.SameRules.ok (impl.looked.c ha hb fun w1 b1 => ?_)
  unfold sameRules at hk
  refine And.intro (fun h => ?_) (fun h => ?_)
  · simp only [Bool.not_eq_true', decide_eq_false_iff_not] at h
    rw [if_neg h] at hk
    exact hk w1 b1
  · simp only [Bool.not_eq_false', decide_eq_true_eq] at h
    rw [if_pos h] at hk
    exact impl.differ.c h.1 h.2.1 (ha.below b1) (hb.below b1) fun w2 b2 => hk w2 (b1.trans (b2.mono b1.size))
theorem spec.SameRules.c {K : Bool → World → Prop} (ha : SlR kRule w sa la) (hb : SlR kRule w sb lb) (hk : ∀ w', Below w.heap.size w w' → K (sameRules la lb) w') :
    CallT (.o (.lf .b)) P0 14 [sa.v, sb.v] w K := by
  unfold sameRules at hk
  refine spec.SameRules.ok ⟨fun w' => Below w.heap.size w w' ∧ SameOk la lb, ?_, ?_⟩
  · refine spec.l9Ok.c ha fun w1 b1 => ?_
    refine And.intro (fun h => ?_) (fun h1 => ?_)
    · simp only [Bool.not_eq_true', decide_eq_false_iff_not] at h
      rw [if_neg (fun hh => h hh.1)] at hk
      exact hk w1 b1
    · simp only [Bool.not_eq_false', decide_eq_true_eq] at h1
      refine spec.l9Ok.c (hb.below b1) fun w2 b2 => ?_
      have b12 := b1.trans (b2.mono b1.size)
      refine And.intro (fun h => ?_) (fun h2 => ?_)
      · simp only [Bool.not_eq_true', decide_eq_false_iff_not] at h
        rw [if_neg (fun hh => h hh.2.1)] at hk
        exact hk w2 b12
      · simp only [Bool.not_eq_false', decide_eq_true_eq] at h2
        refine spec.l14Ways.c (ha.below b12) (hb.below b12) h1 h2 fun w3 b3 => ?_
        have b13 := b12.trans (b3.mono b12.size)
        refine And.intro (fun h => ?_) (fun h3 => ?_)
        · simp only [decide_eq_true_eq] at h
          rw [if_neg (fun hh => by have := hh.2.2; omega)] at hk
          exact hk w3 b13
        · simp only [decide_eq_false_iff_not] at h3
          exact ⟨b13, h1, h2, by omega⟩
  · rintro w3 ⟨b3, hok⟩ _
    rw [if_pos hok] at hk
    exact spec.l14Find.c hok.1 hok.2.1 12 (cs := []) rfl (by simp) (ha.below b3) (hb.below b3) fun w4 b4 => hk w4 (b3.trans (b4.mono b3.size))
end
end Go.Proofs.Ytdlnoabihfnmmaa.V

/- Plain laws: each byte has a cut that stands for it; the first bytes that are found are the first of all. -/
namespace Go.Proofs.Ytdlnoabihfnmmaa.V
open Go Go.RowKit
set_option linter.unusedVariables false
set_option linter.unusedSimpArgs false
/-- The last hit at a number or below it. -/
def lastHit (f : Nat → Bool) : Nat → Nat
  | 0 => 0
  | n + 1 => if f (n + 1) then n + 1 else lastHit f n
theorem lastHit_le (f : Nat → Bool) : ∀ n, lastHit f n ≤ n
  | 0 => Nat.le_refl _
  | n + 1 => by
    unfold lastHit
    split
    · exact Nat.le_refl _
    · have := lastHit_le f n; omega
theorem lastHit_hit {f : Nat → Bool} (h0 : f 0 = true) : ∀ n, f (lastHit f n) = true
  | 0 => h0
  | n + 1 => by
    unfold lastHit
    split
    · rename_i h; exact h
    · exact lastHit_hit h0 n
theorem lastHit_no {f : Nat → Bool} : ∀ {n m : Nat}, lastHit f n < m → m ≤ n → f m = false
  | 0, m, h, hm => by omega
  | n + 1, m, h, hm => by
    unfold lastHit at h
    split at h
    · omega
    · rename_i hf
      by_cases e : m = n + 1
      · subst e; simpa using hf
      · exact lastHit_no h (by omega)
open Classical in
noncomputable def hitB (a b : List Rule) (i : Int) (n : Nat) : Bool := decide (hits (a ++ b) i n)
theorem hitB_zero (a b : List Rule) (i : Int) : hitB a b i 0 = true := by simp [hitB, hits]
/-- The cut that stands for a byte. -/
noncomputable def stand (a b : List Rule) (i x : Int) : Int := (lastHit (hitB a b i) x.toNat : Nat)
theorem stand_le {a b : List Rule} {i x : Int} (hx : 0 ≤ x) : 0 ≤ stand a b i x ∧ stand a b i x ≤ x := by
  have := lastHit_le (hitB a b i) x.toNat
  unfold stand; omega
theorem stand_cut {a b : List Rule} {i x : Int} (hx : 0 ≤ x ∧ x ≤ 255) : stand a b i x ∈ cuts a b i := by
  have h1 := lastHit_le (hitB a b i) x.toNat
  unfold cuts
  rw [mem_picks]
  exact ⟨lastHit (hitB a b i) x.toNat, rfl, by omega, lastHit_hit (hitB_zero a b i) _⟩
theorem stand_holds {a b : List Rule} {r : Rule} (hr : r ∈ a ++ b) (hp : RuleP r) {x : Int} (hx : 0 ≤ x ∧ x ≤ 255) : holdsB r.op (stand a b r.at_ x) r.num = holdsB r.op x r.num := by
  have hle := stand_le (a := a) (b := b) (i := r.at_) hx.1
  have h1 : hitB a b r.at_ r.num.toNat = true := by
    simp only [hitB, decide_eq_true_eq]
    exact .inr ⟨r, hr, rfl, .inl (by have := hp.2.2.1; omega)⟩
  have h2 : hitB a b r.at_ (r.num.toNat + 1) = true := by
    simp only [hitB, decide_eq_true_eq]
    exact .inr ⟨r, hr, rfl, .inr (by have := hp.2.2.1; omega)⟩
  have hn := hp.2.2.1
  have c1 : ¬ (stand a b r.at_ x < r.num ∧ r.num ≤ x) := by
    rintro ⟨c, d⟩
    have := lastHit_no (f := hitB a b r.at_) (n := x.toNat) (m := r.num.toNat) (by unfold stand at c; omega) (by omega)
    rw [h1] at this; simp at this
  have c2 : ¬ (stand a b r.at_ x < r.num + 1 ∧ r.num + 1 ≤ x) := by
    rintro ⟨c, d⟩
    have := lastHit_no (f := hitB a b r.at_) (n := x.toNat) (m := r.num.toNat + 1) (by unfold stand at c; omega) (by omega)
    rw [h2] at this; simp at this
  unfold holdsB
  generalize stand a b r.at_ x = y at *
  split
  · rw [Bool.eq_iff_iff]; simp only [beq_iff_eq]; omega
  · split
    · rw [Bool.eq_iff_iff]; simp only [bne_iff_ne, ne_eq]; omega
    · split
      · rw [decide_eq_decide]; omega
      · rw [decide_eq_decide]; omega
/-- The bytes that stand for bytes, from a place on. -/
noncomputable def standL (a b : List Rule) : Nat → List Int → List Int
  | _, [] => []
  | i, x :: xs => stand a b i x :: standL a b (i + 1) xs
theorem standL_length (a b : List Rule) : ∀ (i : Nat) (xs : List Int), (standL a b i xs).length = xs.length
  | _, [] => rfl
  | i, x :: xs => by simp [standL, standL_length a b (i + 1) xs]
theorem standL_get (a b : List Rule) : ∀ (i : Nat) (xs : List Int) (j : Nat) (x : Int), xs[j]? = some x → (standL a b i xs)[j]? = some (stand a b ((i + j : Nat) : Int) x)
  | _, [], j, x, h => by simp at h
  | i, y :: ys, 0, x, h => by
    simp only [List.getElem?_cons_zero, Option.some.injEq] at h
    subst h; rfl
  | i, y :: ys, j + 1, x, h => by
    have := standL_get a b (i + 1) ys j x (by simpa using h)
    rw [standL, List.getElem?_cons_succ, this]
    congr 3; omega
theorem standL_gen (a b : List Rule) : ∀ (n : Nat) (pre xs : List Int), xs.length = n → (∀ x ∈ xs, 0 ≤ x ∧ x ≤ 255) → pre ++ standL a b pre.length xs ∈ gen a b n pre
  | 0, pre, xs, hn, hx => by
    have : xs = [] := List.eq_nil_of_length_eq_zero hn
    subst this; simp [standL, gen]
  | n + 1, pre, [], hn, hx => by simp at hn
  | n + 1, pre, x :: xs, hn, hx => by
    simp only [gen, List.mem_flatMap, standL]
    refine ⟨stand a b pre.length x, stand_cut (hx x List.mem_cons_self), ?_⟩
    have := standL_gen a b n (pre ++ [stand a b pre.length x]) xs (by simpa using hn) (fun y hy => hx y (List.mem_cons_of_mem _ hy))
    simpa [List.append_assoc] using this
theorem ruledL_stand {a b : List Rule} {cs : List Int} (hc : Came cs) : ∀ (l : List Rule), (∀ r ∈ l, r ∈ a ++ b ∧ RuleP r) → ruledL l (standL a b 0 cs) = ruledL l cs
  | [], _ => rfl
  | r :: rs, h => by
    obtain ⟨hr, hp⟩ := h r List.mem_cons_self
    obtain ⟨hg, hb⟩ := came_at hc hp
    have hs := standL_get a b 0 cs _ _ hg
    have e : (standL a b 0 cs).getD r.at_.toNat 0 = stand a b r.at_ (cs.getD r.at_.toNat 0) := by
      conv => lhs; rw [List.getD_eq_getElem?_getD, hs]
      have : ((0 + r.at_.toNat : Nat) : Int) = r.at_ := by have := hp.1.1; omega
      rw [this]; rfl
    unfold ruledL
    rw [e, stand_holds hr hp hb, ruledL_stand hc rs (fun q hq => h q (List.mem_cons_of_mem _ hq))]
theorem diffB_stand {a b : List Rule} (ha : RulesP a) (hb : RulesP b) {cs : List Int} (hc : Came cs) : diffB a b (standL a b 0 cs) = diffB a b cs := by
  unfold diffB
  rw [ruledL_stand hc a (fun r hr => ⟨List.mem_append_left _ hr, ha.2 r hr⟩), ruledL_stand hc b (fun r hr => ⟨List.mem_append_right _ hr, hb.2 r hr⟩)]
/-- If no bytes are found, rules say the same of all. -/
theorem none_same {a b : List Rule} (ha : RulesP a) (hb : RulesP b) (h : (gen a b 12 []).find? (diffB a b) = none) {cs : List Int} (hc : Came cs) : diffB a b cs = false := by
  rw [← diffB_stand ha hb hc]
  have hm := standL_gen a b 12 [] cs hc.1 hc.2
  rw [List.find?_eq_none] at h
  simpa using h _ hm
theorem some_diff {a b : List Rule} {s : List Int} (h : (gen a b 12 []).find? (diffB a b) = some s) : diffB a b s = true ∧ Came s :=
  ⟨List.find?_some h, gen_came 12 rfl (by simp) s (List.mem_of_find?_eq_some h)⟩
/-- One text of bytes is no later than another one. -/
def lexLe : List Int → List Int → Prop
  | [], _ => True
  | _ :: _, [] => False
  | x :: xs, y :: ys => x < y ∨ (x = y ∧ lexLe xs ys)
theorem lexLe_refl : ∀ xs, lexLe xs xs
  | [] => trivial
  | x :: xs => .inr ⟨rfl, lexLe_refl xs⟩
theorem lexLe_trans : ∀ {xs ys zs : List Int}, lexLe xs ys → lexLe ys zs → lexLe xs zs
  | [], _, _, _, _ => trivial
  | _ :: _, [], _, h, _ => h.elim
  | _ :: _, _ :: _, [], _, h => h.elim
  | x :: xs, y :: ys, z :: zs, h1, h2 => by
    rcases h1 with h1 | ⟨rfl, h1⟩
    · rcases h2 with h2 | ⟨rfl, h2⟩
      · exact .inl (by omega)
      · exact .inl h1
    · rcases h2 with h2 | ⟨rfl, h2⟩
      · exact .inl h2
      · exact .inr ⟨rfl, lexLe_trans h1 h2⟩
theorem lexLe_app : ∀ (pre xs ys : List Int), lexLe xs ys → lexLe (pre ++ xs) (pre ++ ys)
  | [], _, _, h => h
  | p :: ps, xs, ys, h => .inr ⟨rfl, lexLe_app ps xs ys h⟩
theorem standL_le {a b : List Rule} : ∀ (i : Nat) (xs : List Int), (∀ x ∈ xs, 0 ≤ x ∧ x ≤ 255) → lexLe (standL a b i xs) xs
  | _, [], _ => trivial
  | i, x :: xs, h => by
    have h1 := stand_le (a := a) (b := b) (i := i) (h x List.mem_cons_self).1
    rcases Int.lt_or_le (stand a b i x) x with h2 | h2
    · exact .inl h2
    · exact .inr ⟨by omega, standL_le (i + 1) xs (fun y hy => h y (List.mem_cons_of_mem _ hy))⟩
theorem gen_app {a b : List Rule} : ∀ (n : Nat) {cs y : List Int}, y ∈ gen a b n cs → ∃ u, y = cs ++ u
  | 0, cs, y, h => by
    simp only [gen, List.mem_singleton] at h
    exact ⟨[], by simp [h]⟩
  | n + 1, cs, y, h => by
    simp only [gen, List.mem_flatMap] at h
    obtain ⟨x, _, h⟩ := h
    obtain ⟨u, hu⟩ := gen_app n h
    exact ⟨x :: u, by rw [hu]; simp⟩
theorem cuts_asc (a b : List Rule) (i : Int) : (cuts a b i).Pairwise (· < ·) := picks_asc _ _
theorem pairwise_flat {α β : Type} {R : β → β → Prop} {f : α → List β} : ∀ {l : List α}, (∀ x ∈ l, (f x).Pairwise R) → l.Pairwise (fun x y => ∀ u ∈ f x, ∀ v ∈ f y, R u v) → (l.flatMap f).Pairwise R
  | [], _, _ => by simp
  | x :: xs, h, hp => by
    rw [List.flatMap_cons, List.pairwise_append]
    rw [List.pairwise_cons] at hp
    refine ⟨h x List.mem_cons_self, pairwise_flat (fun y hy => h y (List.mem_cons_of_mem _ hy)) hp.2, fun u hu v hv => ?_⟩
    obtain ⟨y, hy, hv⟩ := List.mem_flatMap.1 hv
    exact hp.1 y hy u hu v hv
theorem gen_sorted {a b : List Rule} : ∀ (n : Nat) (cs : List Int), (gen a b n cs).Pairwise lexLe
  | 0, cs => by simp [gen]
  | n + 1, cs => by
    refine pairwise_flat (fun x _ => gen_sorted n _) ((cuts_asc a b cs.length).imp fun {x y} hxy u hu v hv => ?_)
    obtain ⟨p, rfl⟩ := gen_app n hu
    obtain ⟨q, rfl⟩ := gen_app n hv
    rw [List.append_assoc, List.append_assoc]
    exact lexLe_app cs _ _ (.inl hxy)
theorem find_first {a b : List Rule} {s y : List Int} (h : (gen a b 12 []).find? (diffB a b) = some s) (hy : y ∈ gen a b 12 []) (hd : diffB a b y = true) : lexLe s y := by
  obtain ⟨_, us, vs, he, hno⟩ := List.find?_eq_some_iff_append.1 h
  have hs := gen_sorted (a := a) (b := b) 12 []
  rw [he] at hy hs
  rcases List.mem_append.1 hy with h1 | h1
  · have := hno y h1; simp [hd] at this
  · rcases List.mem_cons.1 h1 with rfl | h1
    · exact lexLe_refl _
    · exact (List.pairwise_cons.1 (List.pairwise_append.1 hs).2.1).1 y h1
/-- What is found is no later than any bytes of which rules say something else. -/
theorem found_first {a b : List Rule} (ha : RulesP a) (hb : RulesP b) {s cs : List Int} (h : (gen a b 12 []).find? (diffB a b) = some s) (hc : Came cs) (hd : diffB a b cs = true) : lexLe s cs := by
  have h1 := standL_gen a b 12 [] cs hc.1 hc.2
  have h2 := find_first h h1 (by rw [show [] ++ standL a b ([] : List Int).length cs = standL a b 0 cs from rfl, diffB_stand ha hb hc]; exact hd)
  exact lexLe_trans h2 (standL_le 0 cs hc.2)
end Go.Proofs.Ytdlnoabihfnmmaa.V

/- Plain laws: how many pieces there are, without a wrap; to say the same is to say the same both ways; tidied rules say the same. -/
namespace Go.Proofs.Ytdlnoabihfnmmaa.V
open Go Go.RowKit
set_option linter.unusedVariables false
set_option linter.unusedSimpArgs false
theorem nodup_sub {α : Type} [DecidableEq α] : ∀ {l m : List α}, l.Nodup → (∀ x ∈ l, x ∈ m) → l.length ≤ m.length
  | [], _, _, _ => Nat.zero_le _
  | x :: xs, m, hn, hs => by
    rw [List.nodup_cons] at hn
    have hx := hs x List.mem_cons_self
    have := nodup_sub (l := xs) (m := m.erase x) hn.2 fun y hy => (List.mem_erase_of_ne (fun e : y = x => by subst e; exact hn.1 hy)).2 (hs y (List.mem_cons_of_mem _ hy))
    rw [List.length_erase_of_mem hx] at this
    have h1 := List.length_pos_of_mem hx
    rw [List.length_cons]
    omega
/-- How many rules ask of a byte. -/
def askN (l : List Rule) (i : Int) : Nat := l.countP fun r => r.at_ == i
def askB (l : List Rule) (n : Nat) : Nat := l.countP fun r => decide (0 ≤ r.at_ ∧ r.at_ < (n : Int))
theorem askB_le (l : List Rule) (n : Nat) : askB l n ≤ l.length := List.countP_le_length
theorem askB_succ (n : Nat) : ∀ l : List Rule, askB l (n + 1) = askB l n + askN l n
  | [] => rfl
  | r :: rs => by
    have ih := askB_succ n rs
    unfold askB askN at *
    rw [List.countP_cons, List.countP_cons, List.countP_cons, ih]
    have h : ((if decide (0 ≤ r.at_ ∧ r.at_ < ((n + 1 : Nat) : Int)) = true then 1 else 0) : Nat) = (if decide (0 ≤ r.at_ ∧ r.at_ < (n : Int)) = true then 1 else 0) + (if (r.at_ == (n : Int)) = true then 1 else 0) := by
      simp only [decide_eq_true_eq, beq_iff_eq]
      split <;> split <;> split <;> omega
    omega
def askL (l : List Rule) (i : Int) : List Int := 0 :: (l.filter fun r => r.at_ == i).flatMap fun r => [r.num, r.num + 1]
theorem flat2_len {α : Type} (f g : α → Int) : ∀ l : List α, (l.flatMap fun r => [f r, g r]).length = 2 * l.length
  | [] => rfl
  | r :: rs => by rw [List.flatMap_cons, List.length_append, flat2_len f g rs, List.length_cons]; simp; omega
theorem cuts_few (a b : List Rule) (i : Int) : (cuts a b i).length ≤ 1 + 2 * askN (a ++ b) i := by
  have h1 : (cuts a b i).Nodup := (cuts_asc a b i).imp fun {x y} h e => by omega
  have h2 := nodup_sub (m := askL (a ++ b) i) h1 fun x hx => by
    unfold cuts at hx
    rw [mem_picks] at hx
    obtain ⟨n, rfl, hn, hf⟩ := hx
    simp only [decide_eq_true_eq] at hf
    rcases hf with h0 | ⟨r, hr, ha, hnum⟩
    · rw [h0]; exact List.mem_cons_self
    · refine List.mem_cons_of_mem _ (List.mem_flatMap.2 ⟨r, List.mem_filter.2 ⟨hr, by simpa using ha⟩, ?_⟩)
      rcases hnum with h | h
      · rw [h]; exact List.mem_cons_self
      · rw [h]; exact List.mem_cons_of_mem _ List.mem_cons_self
  refine Nat.le_trans h2 ?_
  unfold askL askN
  rw [List.length_cons, flat2_len, List.countP_eq_length_filter]
  omega
theorem cuts_some (a b : List Rule) (i : Int) : 1 ≤ (cuts a b i).length := by
  have : (0 : Int) ∈ cuts a b i := by
    unfold cuts
    rw [mem_picks]
    exact ⟨0, rfl, by omega, by simp [hits]⟩
  exact List.length_pos_of_mem this
theorem many_some {a b : List Rule} (h : (a ++ b).length ≤ 12) : ∀ n : Nat, ∃ p : Nat, many a b n = (p : Int) ∧ 1 ≤ p ∧ p ≤ 2 ^ (2 * askB (a ++ b) n)
  | 0 => ⟨1, rfl, Nat.le_refl _, Nat.two_pow_pos _⟩
  | n + 1 => by
    obtain ⟨p, hp, h1, h2⟩ := many_some h n
    have h3 := cuts_few a b n
    have h4 := cuts_some a b n
    have h5 : 1 + 2 * askN (a ++ b) n ≤ 2 ^ (2 * askN (a ++ b) n) := by have := Nat.lt_two_pow_self (n := 2 * askN (a ++ b) n); omega
    have h6 := askB_succ n (a ++ b)
    have h7 : p * (cuts a b n).length ≤ 2 ^ (2 * askB (a ++ b) (n + 1)) := by
      rw [h6, Nat.mul_add, Nat.pow_add]
      exact Nat.mul_le_mul h2 (Nat.le_trans h3 h5)
    have h8 := askB_le (a ++ b) (n + 1)
    have h9 : 2 ^ (2 * askB (a ++ b) (n + 1)) ≤ 2 ^ 24 := Nat.pow_le_pow_right (by omega) (by omega)
    refine ⟨p * (cuts a b n).length, ?_, Nat.mul_pos h1 h4, h7⟩
    rw [many, hp, ← Int.natCast_mul]
    exact i64_of (by omega) (by omega)
theorem pieces_pos {a b : List Rule} (ha : RulesP a) (hb : RulesP b) : 1 ≤ pieces a b := by
  obtain ⟨p, hp, h1, _⟩ := many_some (a := a) (b := b) (by rw [List.length_append]; have := ha.1; have := hb.1; omega) 12
  unfold pieces; omega
/-! ### both ways -/
theorem cuts_comm (a b : List Rule) (i : Int) : cuts a b i = cuts b a i := by
  unfold cuts
  refine picks_congr fun n _ => ?_
  rw [decide_eq_decide]
  unfold hits
  simp only [List.mem_append]
  constructor
  · rintro (h | ⟨r, hr, h⟩)
    · exact .inl h
    · exact .inr ⟨r, hr.symm, h⟩
  · rintro (h | ⟨r, hr, h⟩)
    · exact .inl h
    · exact .inr ⟨r, hr.symm, h⟩
theorem many_comm (a b : List Rule) : ∀ n, many a b n = many b a n
  | 0 => rfl
  | n + 1 => by rw [many, many, many_comm a b n, cuts_comm]
theorem gen_comm (a b : List Rule) : ∀ (n : Nat) (cs : List Int), gen a b n cs = gen b a n cs
  | 0, _ => rfl
  | n + 1, cs => by
    unfold gen
    rw [cuts_comm]
    congr 1
    funext x
    exact gen_comm a b n _
theorem diffB_comm (a b : List Rule) (cs : List Int) : diffB a b cs = diffB b a cs := by
  unfold diffB
  rw [bne_comm (a := (ruledL a cs).1), bne_comm (a := (ruledL a cs).2)]
theorem fres_snd (a b : List Rule) (n : Nat) (cs : List Int) : (fres a b n cs).2 = ((gen a b n cs).find? (diffB a b)).isSome := by
  unfold fres
  cases (gen a b n cs).find? (diffB a b) <;> rfl
theorem fres_comm (a b : List Rule) (n : Nat) (cs : List Int) : (fres a b n cs).2 = (fres b a n cs).2 := by
  rw [fres_snd, fres_snd, gen_comm, show diffB a b = diffB b a from funext (diffB_comm a b)]
theorem sameOk_comm {a b : List Rule} : SameOk a b ↔ SameOk b a := by
  unfold SameOk pieces
  rw [many_comm a b]
  exact ⟨fun h => ⟨h.2.1, h.1, h.2.2⟩, fun h => ⟨h.2.1, h.1, h.2.2⟩⟩
theorem sameRules_comm (a b : List Rule) : sameRules a b = sameRules b a := by
  unfold sameRules
  rw [fres_comm a b]
  by_cases h : SameOk a b
  · rw [if_pos h, if_pos (sameOk_comm.1 h)]
  · rw [if_neg h, if_neg (fun h2 => h (sameOk_comm.1 h2))]
theorem same_of {a b : List Rule} (ho : SameOk a b) (h : ∀ cs, Came cs → ruledL a cs = ruledL b cs) : sameRules a b = true := by
  unfold sameRules
  rw [if_pos ho, fres_snd]
  have : (gen a b 12 []).find? (diffB a b) = none := by
    rw [List.find?_eq_none]
    intro y hy
    have := gen_came 12 (by simp) (by simp) y hy
    simp [diffB, h y this]
  rw [this]; rfl
/-- What the search finds of rules that it looks at. -/
theorem sameFind_pos {a b : List Rule} (h : SameOk a b) : sameFind a b = fres a b 12 [] := by unfold sameFind; rw [if_pos h]
theorem samePieces_none {a b : List Rule} (h : samePieces a b < 0 ∨ samePieces a b > 400) : ¬ SameOk a b := by
  intro ho
  unfold samePieces at h
  rw [if_pos ⟨ho.1, ho.2.1⟩] at h
  have := pieces_pos ho.1 ho.2.1
  have := ho.2.2
  omega
theorem samePieces_ok {a b : List Rule} (h : ¬ (samePieces a b < 0 ∨ samePieces a b > 400)) : SameOk a b := by
  unfold samePieces at h
  split at h
  · rename_i h2
    exact ⟨h2.1, h2.2, by omega⟩
  · simp at h
/-- Rules say the same as themselves, and as they tidied. -/
theorem same_self {a : List Rule} (h : RulesP a) : samePieces a a > 400 ∨ sameRules a a = true := by
  rcases Int.lt_or_le 400 (samePieces a a) with h1 | h1
  · exact .inl h1
  · refine .inr (same_of ?_ fun _ _ => rfl)
    unfold samePieces at h1
    rw [if_pos ⟨h, h⟩] at h1
    exact ⟨h, h, h1⟩
theorem same_tidy {a : List Rule} (h : RulesP a) : samePieces a (tidyR a) > 400 ∨ sameRules a (tidyR a) = true := by
  have e : tidyR a = tidyL kn0 a := by unfold tidyR; rw [if_pos h]
  rw [e]
  have ht := tidy_ok h
  rcases Int.lt_or_le 400 (samePieces a (tidyL kn0 a)) with h1 | h1
  · exact .inl h1
  · refine .inr (same_of ?_ fun cs hc => (tidy_ruled (fits0 hc) h.2).symm)
    unfold samePieces at h1
    rw [if_pos ⟨h, ht⟩] at h1
    exact ⟨h, ht, h1⟩
end Go.Proofs.Ytdlnoabihfnmmaa.V

/- Contracts: the draws of the flow's laws, and what the laws use. -/
namespace Go.Proofs.Ytdlnoabihfnmmaa.V
open Go Go.RowKit
set_option linter.unusedVariables false
set_option linter.unusedSimpArgs false
section
variable {w : World} {a b : Sl} {xs ys : List Int}
end
theorem u8_all {bs : List Int} (h : ∀ x ∈ bs, (Lit.int .u8 x).wf = true) : ∀ x ∈ bs, 0 ≤ x ∧ x ≤ 255 := fun x hx => by
  have := h x hx
  simp only [Lit.wf, Bool.and_eq_true, decide_eq_true_eq] at this
  exact this
section
variable {w : World} {code : Sl} {bs : List Int}
/-- What a draw of a program begins with. -/
theorem prog0 {Kp : Option Addr → World → Prop} (h : SlR kU8 w code bs) (hb : ∀ x ∈ bs, 0 ≤ x ∧ x ≤ 255)
    (hk : ∀ w1, Below w.heap.size w w1 → RdS w.heap.size w.heap.size 0 w1 → Kp (some ⟨w.heap.size, 0, none⟩) w1) : CallT (.o (.lf .p)) P0 18 [code.v] w Kp := spec.l20Open.c h hb hk
end
end Go.Proofs.Ytdlnoabihfnmmaa.V

/- The law SameRules: to say the same is to say the same both ways; rules say the same as themselves, and as they tidied. No condition. -/
namespace Go.Proofs.Ytdlnoabihfnmmaa.V
open Go Go.RowKit
set_option linter.unusedVariables false
set_option linter.unusedSimpArgs false
theorem sameRules_not {a b : List Rule} (h : ¬ SameOk a b) : sameRules a b = false := by unfold sameRules; rw [if_neg h]
theorem sameRules_ok {a b : List Rule} (h : SameOk a b) : sameRules a b = !(sameFind a b).2 := by rw [sameFind_pos h]; unfold sameRules; rw [if_pos h]
theorem laws.FnSameRules.pure {w : World} (s : Sl) (bs : List Int) (h : SlR kU8 w s bs ∧ ∀ x ∈ bs, (Lit.int .u8 x).wf = true) :
    CallT (.o (.lf .b)) P0 4 [s.v] w fun b w' => b = true ∧ Below w.heap.size w w' := by
  refine laws.FnSameRules.ok (And.intro (fun _ => ⟨rfl, Below.refl _ _⟩) (fun _ => ?_))
  refine spec.DrawSameRules.c h.1 (u8_all h.2) fun ra rb w1 xs ys b1 ha hb hx3 hy6 => ?_
  refine impl.SameRules.c ha hb fun w2 b2' => ?_
  have b2 := b1.trans (b2'.mono b1.size)
  have ha2 := ha.below b2'; have hb2 := hb.below b2'
  refine spec.SameRules.c ha2 hb2 fun w3 b3' => ?_
  have b3 := b2.trans (b3'.mono b2.size)
  have ha3 := ha2.below b3'; have hb3 := hb2.below b3'
  refine And.intro (fun hc => by simp at hc) (fun _ => ?_)
  refine impl.SamePieces.c ha3 hb3 fun w4 b4' => ?_
  have b4 := b3.trans (b4'.mono b3.size)
  have ha4 := ha3.below b4'; have hb4 := hb3.below b4'
  refine ⟨fun w' => w' = w4 ∧ SameOk xs ys, ?_, ?_⟩
  · refine And.intro (fun hn => ?_) (fun hn => And.intro (fun hg => ?_) (fun hg => ⟨rfl, ?_⟩))
    · simp only [decide_eq_true_eq] at hn
      exact ⟨by rw [sameRules_not (samePieces_none (.inl hn))]; rfl, b4⟩
    · simp only [decide_eq_true_eq] at hg
      exact ⟨by rw [sameRules_not (samePieces_none (.inr hg))]; rfl, b4⟩
    · simp only [decide_eq_false_iff_not] at hn hg
      exact samePieces_ok (by omega)
  · rintro w5 ⟨rfl, hok⟩ _
    have hpa := hok.1
    refine impl.SameFind.c ha4 hb4 fun w6 b6' => ?_
    have b6 := b4.trans (b6'.mono b4.size)
    have ha6 := ha4.below b6'; have hb6 := hb4.below b6'
    refine impl.SamePieces.c ha6 ha6 fun w7 b7' => ?_
    have b7 := b6.trans (b7'.mono b6.size)
    have ha7 := ha6.below b7'; have hb7 := hb6.below b7'
    refine impl.RulesTidy.c ha7 fun rt w8 b8' ht8 => ?_
    have b8 := b7.trans (b8'.mono b7.size)
    have ha8 := ha7.below b8'; have hb8 := hb7.below b8'
    refine impl.SamePieces.c ha8 ht8 fun w9 b9' => ?_
    have b9 := b8.trans (b9'.mono b8.size)
    have ha9 := ha8.below b9'; have hb9 := hb8.below b9'
    have hself := same_self hpa
    have htidy := same_tidy hpa
    refine And.intro (fun _ => ?_) (fun hc => ?_)
    · refine impl.SameRules.c hb9 ha9 fun w10 b10' => ?_
      have b10 := b9.trans (b10'.mono b9.size)
      have ha10 := ha9.below b10'
      refine And.intro (fun _ => ?_) (fun hc => ?_)
      · have last : ∀ {w' : World}, Below w10.heap.size w10 w' → ((decide ((samePieces xs (tidyR xs) : Int) > 400)) = true → (true = true ∧ Below w.heap.size w w')) ∧
            ((decide ((samePieces xs (tidyR xs) : Int) > 400)) = false → CallT (.o (.lf .sl)) P0 6 [ra.v] w' fun (t77 : Sl) w13 => CallT (.o (.lf .b)) P0 13 [ra.v, t77.v] w13 fun (t78 : Bool) w14 => t78 = true ∧ Below w.heap.size w w14) := by
          intro w' hw'
          have bw := b10.trans (hw'.mono b10.size)
          refine And.intro (fun _ => ⟨rfl, bw⟩) (fun hg => ?_)
          simp only [decide_eq_false_iff_not] at hg
          refine impl.RulesTidy.c (ha10.below hw') fun rt2 w11 b11' ht11 => ?_
          refine impl.SameRules.c ((ha10.below hw').below b11') ht11 fun w12 b12' => ?_
          refine ⟨?_, bw.trans ((b11'.trans (b12'.mono b11'.size)).mono bw.size)⟩
          rcases htidy with h1 | h1
          · omega
          · exact h1
        refine And.intro (fun _ => last (Below.refl _ _)) (fun hg => ?_)
        simp only [decide_eq_false_iff_not] at hg
        refine impl.SameRules.c ha10 ha10 fun w11 b11' => ?_
        refine And.intro (fun _ => last b11') (fun hc => ?_)
        exfalso
        rcases hself with h1 | h1
        · omega
        · rw [h1] at hc; simp at hc
      · exfalso
        rw [sameRules_comm ys xs] at hc
        simp at hc
    · exfalso
      rw [sameRules_ok hok] at hc
      simp at hc
end Go.Proofs.Ytdlnoabihfnmmaa.V

/- The row of FnSameRules: it returns true and leaves its input as it was, whatever the input. PRINTED by row.py out of the law of the same name. -/
namespace Go.Proofs.Ytdlnoabihfnmmaa.V
open Go Go.RowKit Go.ChangeShapes Go.WideShapes Go.ChangeAt
open Go.ChangeMaps (open_string shut_string)
set_option linter.unusedVariables false
set_option maxRecDepth 100000 in
theorem FnSameRules.lifted (os : Os) (started : os.Started) (H : Type) (enc : TypeId × Value → H) :
    ReturnsInHanded {} Try.checked os 4 .any (Rows.fnSameRulesSpec.pre6 enc P0 Try.f4 Rows.fnSameRulesRow.domain false) (Rows.fnSameRulesSpec.post enc P0 Try.f4 false true false false) := by
  refine returnsInHanded_of_change_sized (C := Try.checked) own started (by kernel_rfl) Try.func4
    (ChangeSpec.witness6 (enc := enc) (C := Try.checked) false ⟨#[], #[.slice none 0 0], []⟩ 8 (by kernel_rfl) (by kernel_rfl) (by kernel_rfl) (by kernel_rfl)) ?_
  intro W base args ds gs before hval0 hW hcnd hsz0 _
  have hsz : (DataW.weightsEach P0 (Try.f4.params.toList ++ Rows.fnSameRulesSpec.plain.varTypes P0) (ds ++ gs)).all (· ≤ reachBytes) = true := hsz0
  have hval : ∀ (j : Nat) t v, Try.f4.params[j]? = some t → args[j]? = some v → Value.okWide P0 W .any base t v := hval0
  have hW' := hW
  obtain ⟨p, q, hA0, hV, rfl, hfz, hnd⟩ := hW
  have hA : DataW.TrodAll enc P0 W 0 (fun _ => true) true Try.f4.params.toList args.toList ds p := hA0
  rw [Try.params4] at hA hval hsz
  obtain ⟨v0, vs0, d0, ds0, p0, q0, hargs, rfl, rfl, h0, r0⟩ := trodAll_cons hA
  obtain ⟨rfl, rfl, rfl⟩ := trodAll_nil r0
  obtain rfl : args = #[v0] := by cases args; simp_all
  obtain ⟨rfl, rfl⟩ := trodVars_none hV
  obtain ⟨a0, len0, cap0, rfl⟩ := okWide_slice Try.underlying22 (hval 0 22 v0 rfl rfl)
  have k0 := h0
  have lt0 : ∀ x ∈ p0, x.block < W.heap.size := by obtain ⟨m, hm⟩ := k0; exact DataW.trod_lt m _ _ _ hm
  obtain ⟨l0, w0⟩ : ∃ l, SlR kU8 W ⟨a0, len0, cap0⟩ l ∧ ∀ x ∈ l, (Lit.int .u8 x).wf = true := by
    obtain ⟨fuel, hf⟩ := h0
    exact open_nums (e := 5) Try.underlying22 Try.underlying5 (by kernel_rfl) hf
  clear hA0 hval0 hsz0 hsz
  refine Calls.mono (laws.FnSameRules.pure (w := W) ⟨a0, len0, cap0⟩ l0 w0) fun e W' he => ?_
  obtain ⟨x, he, hx, bel⟩ := he
  subst hx
  subst he
  exact ⟨_, rfl, _, _, _, [], _, [], hW', trodAll_mk1 (shut_bool Try.underlying4 _), (trodAll_cons_mk (Below.trod laidOut (by kernel_rfl) (of_decide_eq_true (by kernel_rfl)) k0 bel lt0) trodAll_mk0), rfl, bel.frame _, fun h => by cases h⟩
theorem FnSameRules.over : Rows.fnSameRulesRow.holds Try.pinned (OpenSpec.ofChange Rows.fnSameRulesSpec) :=
  OpenClaim.holds_of_wide 4 Try.f4 rfl rfl rfl rfl rfl rfl rfl ⟨rfl, rfl, rfl, rfl, rfl⟩ rfl rfl rfl rfl rfl (by kernel_rfl) Try.func4 (by kernel_rfl)
    (of_decide_eq_true (by kernel_rfl)) (by unfold Func.isWrapper; first | (rw [if_pos (by decide +kernel)]; kernel_rfl) | (rw [if_neg (by decide +kernel)]; exact ⟨rfl, rfl⟩))
    (fun os started H enc _ => FnSameRules.lifted os started H enc)
end Go.Proofs.Ytdlnoabihfnmmaa.V
namespace Go.Proofs.Ytdlnoabihfnmmaa
/-- The row, under a short name, for the claim. -/
theorem fnSameRules_holds : Rows.FnSameRulesSaid := V.FnSameRules.over
#print axioms fnSameRules_holds
end Go.Proofs.Ytdlnoabihfnmmaa
