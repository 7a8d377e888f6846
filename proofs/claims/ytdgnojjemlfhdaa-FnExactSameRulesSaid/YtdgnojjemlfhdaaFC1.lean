/- Contracts: ops and the form of programs. -/
import Derived.Test.YtdgnojjemlfhdaaFP
import Derived.Test.YtdgnojjemlfhdaaC1
import Derived.Laws.StructEq
namespace Go.Proofs.Ytdgnojjemlfhdaa.V
open Go Go.RowKit
set_option linter.unusedVariables false
set_option linter.unusedSimpArgs false

section
variable {w : World} {K : Bool → World → Prop}
theorem impl.within.c {n lo hi : Int} (hk : K (decide (lo ≤ n ∧ n ≤ hi)) w) : CallT (.o (.lf .b)) P0 66 [.int .i64 n, .int .i64 lo, .int .i64 hi] w K :=
  impl.within.ok ⟨fun h => kof hk (dec_eq (by simp at h ⊢; omega)), fun h => kof hk (dec_eq (by simp at h ⊢; omega))⟩
theorem spec.l1In.c {n lo hi : Int} (hk : K (decide (lo ≤ n ∧ n ≤ hi)) w) : CallT (.o (.lf .b)) P0 61 [.int .i64 n, .int .i64 lo, .int .i64 hi] w K :=
  spec.l1In.ok ⟨fun h => kof hk (dec_eq (by simp at h ⊢; omega)), fun h => kof hk (dec_eq (by simp at h ⊢; omega))⟩
theorem impl.numOk.c {n : Int} (hk : K (decide (0 ≤ n ∧ n ≤ 4294967295)) w) : CallT (.o (.lf .b)) P0 103 [.int .i64 n] w K := impl.numOk.ok (impl.within.c hk)
theorem impl.regOk.c {n : Int} (hk : K (decide (0 ≤ n ∧ n ≤ 10)) w) : CallT (.o (.lf .b)) P0 98 [.int .i64 n] w K := impl.regOk.ok (impl.within.c hk)
theorem impl.kind.reckons.c {n : Int} (hk : K (decide (1 ≤ n ∧ n ≤ 11)) w) : CallT (.o (.lf .b)) P0 97 [.int .i64 n] w K := impl.kind.reckons.ok (impl.within.c hk)
theorem impl.kind.asks.c {n : Int} (hk : K (decide (12 ≤ n ∧ n ≤ 15)) w) : CallT (.o (.lf .b)) P0 85 [.int .i64 n] w K := impl.kind.asks.ok (impl.within.c hk)
theorem impl.kind.goes.c {n : Int} (hk : K (decide (12 ≤ n ∧ n ≤ 16)) w) : CallT (.o (.lf .b)) P0 57 [.int .i64 n] w K := impl.kind.goes.ok (impl.within.c hk)
theorem spec.l1Alu.c {n : Int} (hk : K (decide (1 ≤ n ∧ n ≤ 11)) w) : CallT (.o (.lf .b)) P0 129 [.int .i64 n] w K := spec.l1Alu.ok (spec.l1In.c hk)
theorem spec.l1Jump.c {n : Int} (hk : K (decide (12 ≤ n ∧ n ≤ 15)) w) : CallT (.o (.lf .b)) P0 55 [.int .i64 n] w K := spec.l1Jump.ok (spec.l1In.c hk)
theorem impl.sizeOk.c {n : Int} (hk : K (decide (szP n)) w) : CallT (.o (.lf .b)) P0 100 [.int .i64 n] w K := by
  refine impl.sizeOk.ok ?_
  unfold impl.sizeOk.vc
  (repeat' (first | refine And.intro (fun _ => ?_) (fun _ => ?_)))
  all_goals exact kof hk (dec_eq (by simp only [InsP, BareP, szP, decide_eq_true_eq, decide_eq_false_iff_not, beq_iff_eq, beq_eq_false_iff_ne, bne_iff_ne, bne_eq_false_iff_eq, ne_eq, Bool.not_eq_true', Bool.not_eq_false', Bool.false_eq_true, iff_true, iff_false, true_and] at *; omega))
theorem impl.Ins.either.c {x : Ins} (hk : ∀ w', Below w.heap.size w w' → K (decide ((0 ≤ x.src ∧ x.src ≤ 10 ∧ x.imm = 0) ∨ (x.src = -1 ∧ 0 ≤ x.imm ∧ x.imm ≤ 4294967295))) w') : CallT (.o (.lf .b)) P0 99 [.agg (Tup.cells (R 6 (.i .i64)) x.t).toArray] w K := by
  refine impl.Ins.either.ok (nwIns fun w1 hb hs hc => ?_)
  have hk := hk w1 hb
  (repeat' (first | refine ldB hc rfl ?_ | refine impl.regOk.c ?_ | refine impl.numOk.c ?_ | refine And.intro (fun _ => ?_) (fun _ => ?_)))
  all_goals exact kof hk (dec_eq (by simp only [InsP, BareP, szP, decide_eq_true_eq, decide_eq_false_iff_not, beq_iff_eq, beq_eq_false_iff_ne, bne_iff_ne, bne_eq_false_iff_eq, ne_eq, Bool.not_eq_true', Bool.not_eq_false', Bool.false_eq_true, iff_true, iff_false, true_and] at *; omega))

theorem eqlIns {xo yo : Operand} {a0 a1 a2 a3 a4 a5 b0 b1 b2 b3 b4 b5 : Int} {cs : Array Value} (hcs : cs = #[.int .i64 a0, .int .i64 a1, .int .i64 a2, .int .i64 a3, .int .i64 a4, .int .i64 a5])
    (hk : K (decide (a0 = b0 ∧ a1 = b1 ∧ a2 = b2 ∧ a3 = b3 ∧ a4 = b4 ∧ a5 = b5)) w) :
    RunT (.o (.lf .b)) P0 (do eqGuard .eql 51 xo yo (.agg cs) (.agg #[.int .i64 b0, .int .i64 b1, .int .i64 b2, .int .i64 b3, .int .i64 b4, .int .i64 b5]); binOp .eql 51 (.agg cs) (.agg #[.int .i64 b0, .int .i64 b1, .int .i64 b2, .int .i64 b3, .int .i64 b4, .int .i64 b5])) w K := by
  subst hcs
  refine ⟨_, w, ?_, hk⟩
  have hg := run_eqGuard_agg (P := P0) w .eql 51 xo yo #[.int .i64 a0, .int .i64 a1, .int .i64 a2, .int .i64 a3, .int .i64 a4, .int .i64 a5] #[.int .i64 b0, .int .i64 b1, .int .i64 b2, .int .i64 b3, .int .i64 b4, .int .i64 b5] (by kernel_rfl)
  have ht : P0.underlying 51 = some (.struct (P0.fieldsOf 51)) := by kernel_rfl
  have hf : (P0.fieldsOf 51).toList = [Field.mk "Op" 3 0 false "" "" 0, Field.mk "Dst" 3 1 false "" "" 8, Field.mk "Src" 3 2 false "" "" 16, Field.mk "Off" 3 3 false "" "" 24, Field.mk "Imm" 3 4 false "" "" 32, Field.mk "Size" 3 5 false "" "" 40] := by kernel_rfl
  have hi : P0.underlying 3 = some (.int .i64) := by kernel_rfl
  have hag : aggT P0 3 = some false := by kernel_rfl
  have hp : ∀ (cs : Array Value) (j : Nat) (h : j < cs.size), (part 3 cs j).run P0 w = .ok cs[j] w := fun cs j h => by simp [part, run_isAgg hag, Array.getElem?_eq_getElem h]
  simp only [Sem.run_bind, hg, Result.andThen_ok, run_eql_struct, run_equalIn_agg (P := P0) w 9999 51 _ _ ht (by kernel_rfl), hf]
  by_cases e0 : a0 = b0 <;> by_cases e1 : a1 = b1 <;> by_cases e2 : a2 = b2 <;> by_cases e3 : a3 = b3 <;> by_cases e4 : a4 = b4 <;> by_cases e5 : a5 = b5 <;>
    simp [Op.eqFields, hp, run_equalIn_int (P := P0) w 9998 3 .i64 .i64 _ _ hi, e0, e1, e2, e3, e4, e5, Rs.emb, Ty.emb, Lf.emb]
set_option maxHeartbeats 2000000 in
theorem impl.InsOk.c {x : Ins} (hk : ∀ w', Below w.heap.size w w' → K (decide (InsP x)) w') : CallT (.o (.lf .b)) P0 75 [.agg (Tup.cells (R 6 (.i .i64)) x.t).toArray] w K := by
  refine impl.InsOk.ok (nwIns fun w1 hb hs hc => ?_)
  (repeat' (first | refine ldB hc rfl ?_ | refine ldAB (x := x.t) hc rfl ?_ | refine impl.within.c ?_ | refine impl.kind.reckons.c ?_ | refine impl.kind.asks.c ?_ | refine impl.regOk.c ?_ | refine impl.sizeOk.c ?_ | refine eqlIns rfl ?_ | refine And.intro (fun _ => ?_) (fun _ => ?_) | (refine impl.Ins.either.c (x := x) fun w2 hb2 => ?_; replace hc := (hb2.block _ (by omega)).trans hc; replace hb := hb.trans (hb2.mono (by omega)))))
  all_goals
    refine kof (hk _ hb) (dec_eq ?_)
    clear hk hb hc
    grind [InsP, BareP, szP]
end
end Go.Proofs.Ytdgnojjemlfhdaa.V
