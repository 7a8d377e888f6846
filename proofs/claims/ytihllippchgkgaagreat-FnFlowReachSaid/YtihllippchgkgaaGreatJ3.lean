/- Texts of one proof, put together in build order by pack.py (the last one states what is proved). -/
import Derived.Maps.Range
import Derived.Lib.SlKeysI
import Derived.WalkArith
import Derived.Laws.BytesArg
import Derived.Laws.Slices
import Derived.Test.YtihllippchgkgaaGreatJ2
/- Verification conditions, printed by this session's own program (wip/vc.py) and checked by the kernel. -/
namespace Go.Proofs.YtihllippchgkgaaGreat.V
open Go Go.RowKit
set_option linter.unusedVariables false
/- spec.l20Number -/
def spec.l20Number.pl : Pl := (.s (.r (D 1)) (.s (.s (.r [.d, (.c (.o (.lf (.i .i64))))]) (.b (.s (.r (D 2)) (.c (.s (.r [.d, (.c (.o (.lf (.i .i64)))), .d]) .z) (.s (.r (D 2)) (.c (.s (.r [.d, (.c (.o (.lf (.i .i64)))), .d]) .z) .z)))))) (.s (.r [.d, (.c (.o (.lf (.i .i64)))), .d, .d, (.c (.o (.lf (.i .i64)))), .d, .d]) .z)))
def spec.l20Number.vc (r : Option Addr) (w : World) (K : Int → World → Prop) : Prop :=
CallT (.o (.lf (.i .i64))) P0 42 [(.pointer r), (.int .i64 3)] w fun (t4 : Int) w_ =>
(((t4 : Int) == 0) = true → CallT (.o (.lf (.i .i64))) P0 81 [(.pointer r)] w_ fun (t8 : Int) w__1 =>
K t8 w__1) ∧
(((t4 : Int) == 0) = false → (((t4 : Int) == 1) = true → CallT (.o (.lf (.i .i64))) P0 42 [(.pointer r), (.int .i64 256)] w_ fun (t12 : Int) w__2 =>
K t12 w__2) ∧
(((t4 : Int) == 1) = false → CallT (.o (.lf (.i .i64))) P0 42 [(.pointer r), (.int .i64 256)] w_ fun (t14 : Int) w__3 =>
Nw #[(.int .i64 0), (.int .i64 4), (.int .i64 8), (.int .i64 16), (.int .i64 24)] 3 w__3 fun a_t16 w__4 =>
CallT (.o (.lf (.i .i64))) P0 82 [(.pointer r), (.slice (some a_t16) 5 5)] w__4 fun (t17 : Int) w__5 =>
(0 : Int) ≤ t17 ∧ K (IntKind.wrap .i64 (t14 * 2 ^ (min (Int.toNat t17) (IntKind.bits .i64)))) w__5))
theorem spec.l20Number.ok {r : Option Addr} {w : World} {K : Int → World → Prop} (h : spec.l20Number.vc r w K) : CallT (.o (.lf (.i .i64))) P0 95 [(.pointer r)] w K :=
  call_of Tryz.func95 rfl rfl (pl := spec.l20Number.pl) (show VC P0 Tryz.f95 spec.l20Number.pl (.o (.lf (.i .i64))) [(.pointer r)] w K noP from Eq.mp (by kernel_rfl) h)
/- impl.noRange -/
def impl.noRange.pl : Pl := (.s (.r (D 1)) (.s (.r (D 2)) .z))
def impl.noRange.vc  (w : World) (K : Tup (R 4 (.i .i64)) → World → Prop) : Prop :=
Nw (zc P0 90) 90 w fun a_t0 w_ =>
StA P0 a_t0 [(.int .i64 1), (.int .i64 0), (.int .i64 0), (.int .i64 0)] w_ fun w__1 =>
LdA (R 4 (.i .i64)) a_t0 w__1 fun r w__2 =>
K r w__1
theorem impl.noRange.ok  {w : World} {K : Tup (R 4 (.i .i64)) → World → Prop} (h : impl.noRange.vc  w K) : CallT (.o (.ag (R 4 (.i .i64)))) P0 199 [] w K :=
  call_of Tryz.func199 rfl rfl (pl := impl.noRange.pl) (show VC P0 Tryz.f199 impl.noRange.pl (.o (.ag (R 4 (.i .i64)))) [] w K noP from Eq.mp (by kernel_rfl) h)
/- impl.RangeOk -/
def impl.RangeOk.pl : Pl := (.s (.r (D 2)) (.s (.r [.d, (.l (.lf (.i .i64))), (.c (.o (.lf .b))), (.sp .d), .d, (.l (.lf (.i .i64))), .d, (.l (.lf (.i .i64))), (.c (.o (.lf .b))), .d, (.sp .d), .d, (.l (.lf (.i .i64))), (.c (.o (.lf .b))), .d, (.sp .d), .d, (.l (.lf (.i .i64))), (.c (.o (.lf .b))), .d, (.sp .d), .d, (.l (.lf (.i .i64))), .d, (.l (.lf (.i .i64))), .d, .d, .d, .d]) .z))
def impl.RangeOk.vc (r : Tup (R 4 (.i .i64))) (w : World) (K : Bool → World → Prop) : Prop :=
Nw (Tup.cells (R 4 (.i .i64)) r).toArray 90 w fun a_r w_ =>
Ld (.i .i64) (Addr.add a_r 0) w_ fun (t4 : Int) w__1 =>
CallT (.o (.lf .b)) P0 77 [(.int .i64 t4)] w__1 fun (t5 : Bool) w__2 =>
(t5 = true → Ld (.i .i64) (Addr.add a_r 1) w__2 fun (t8 : Int) w__3 =>
Ld (.i .i64) (Addr.add a_r 0) w__3 fun (t10 : Int) w__4 =>
CallT (.o (.lf .b)) P0 26 [(.int .i64 t8), (.int .i64 t10), (.int .i64 4294967295)] w__4 fun (t11 : Bool) w__5 =>
(t11 = true → Ld (.i .i64) (Addr.add a_r 2) w__5 fun (t15 : Int) w__6 =>
CallT (.o (.lf .b)) P0 77 [(.int .i64 t15)] w__6 fun (t16 : Bool) w__7 =>
(t16 = true → Ld (.i .i64) (Addr.add a_r 3) w__7 fun (t20 : Int) w__8 =>
CallT (.o (.lf .b)) P0 77 [(.int .i64 t20)] w__8 fun (t21 : Bool) w__9 =>
(t21 = true → Ld (.i .i64) (Addr.add a_r 2) w__9 fun (t25 : Int) w__10 =>
Ld (.i .i64) (Addr.add a_r 3) w__10 fun (t27 : Int) w__11 =>
K (((iAnd .i64 t25 t27) : Int) == 0) w__11) ∧
(t21 = false → K false w__9)) ∧
(t16 = false → K false w__7)) ∧
(t11 = false → K false w__5)) ∧
(t5 = false → K false w__2)
theorem impl.RangeOk.ok {r : Tup (R 4 (.i .i64))} {w : World} {K : Bool → World → Prop} (h : impl.RangeOk.vc r w K) : CallT (.o (.lf .b)) P0 219 [(.agg (Tup.cells (R 4 (.i .i64)) r).toArray)] w K :=
  call_of Tryz.func219 rfl rfl (pl := impl.RangeOk.pl) (show VC P0 Tryz.f219 impl.RangeOk.pl (.o (.lf .b)) [(.agg (Tup.cells (R 4 (.i .i64)) r).toArray)] w K noP from Eq.mp (by kernel_rfl) h)
/- (impl.Range).has -/
def impl.Range.has.pl : Pl := (.s (.r (D 2)) (.s (.r [.d, .d, (.l (.lf (.i .i64))), .d, (.l (.lf (.i .i64))), (.c (.o (.lf .b))), (.sp .d), .d, .d, (.l (.lf (.i .i64))), .d, .d, (.l (.lf (.i .i64))), .d, .d, .d]) .z))
def impl.Range.has.vc (r : Tup (R 4 (.i .i64))) (n : Int) (w : World) (K : Bool → World → Prop) : Prop :=
Nw (Tup.cells (R 4 (.i .i64)) r).toArray 90 w fun a_r w_ =>
Ld (.i .i64) (Addr.add a_r 0) w_ fun (t7 : Int) w__1 =>
Ld (.i .i64) (Addr.add a_r 1) w__1 fun (t9 : Int) w__2 =>
CallT (.o (.lf .b)) P0 26 [(.int .i64 n), (.int .i64 t7), (.int .i64 t9)] w__2 fun (t10 : Bool) w__3 =>
(t10 = true → Ld (.i .i64) (Addr.add a_r 3) w__3 fun (t14 : Int) w__4 =>
Ld (.i .i64) (Addr.add a_r 2) w__4 fun (t17 : Int) w__5 =>
K (((iAndNot .i64 n t14) : Int) == t17) w__5) ∧
(t10 = false → K false w__3)
theorem impl.Range.has.ok {r : Tup (R 4 (.i .i64))} {n : Int} {w : World} {K : Bool → World → Prop} (h : impl.Range.has.vc r n w K) : CallT (.o (.lf .b)) P0 223 [(.agg (Tup.cells (R 4 (.i .i64)) r).toArray), (.int .i64 n)] w K :=
  call_of Tryz.func223 rfl rfl (pl := impl.Range.has.pl) (show VC P0 Tryz.f223 impl.Range.has.pl (.o (.lf .b)) [(.agg (Tup.cells (R 4 (.i .i64)) r).toArray), (.int .i64 n)] w K noP from Eq.mp (by kernel_rfl) h)
/- (impl.Range).above -/
def impl.Range.above.pl : Pl := (.s (.r (D 2)) (.s (.s (.r (D 1)) (.b (.l [(5, (.i .i64))] (.s (.r (D 1)) (.s (.c .z .z) (.s (.b (.s (.r (D 2)) (.s (.r (D 5)) (.j [] (.s (.r [.d, (.l (.lf (.i .i64))), .d, .d, .d, .d, (.sp .d), .d, (.l (.lf (.i .i64))), .d, (.l (.lf (.i .i64))), .d, .d, .d, .d, .d, .d, (.sp .d), .d, (.l (.lf (.i .i64))), .d, .d, .d, (.l (.lf (.i .i64))), .d, .d, (.l (.lf (.i .i64))), .d, .d, .d, .d]) (.c .z .z)) (.s (.g [(.q, []), ((.g (.o (.lf (.i .i64))) (.l (.lf (.i .i64)))), []), (.q, []), (.q, [1]), (.q, []), ((.g (.o (.lf (.i .i64))) .d), []), (.q, [1, 5]), (.q, []), ((.g (.o (.lf (.i .i64))) (.l (.lf (.i .i64)))), []), (.q, []), ((.g (.o (.lf (.i .i64))) .d), []), (.q, [10]), (.q, [8, 10]), (.q, [1, 5, 8, 10]), (.q, [1, 5, 8, 10])] []) .z))))) (.r (D 2)))))))) (.s (.r (D 1)) .z)))
def impl.Range.above.vc (r : Tup (R 4 (.i .i64))) (w : World) (K : Int → World → Prop) : Prop :=
Nw (Tup.cells (R 4 (.i .i64)) r).toArray 90 w fun a_r w_ =>
∃ (I : Int → World → Prop) (M : Int → World → Nat),
I 0 w_ ∧
(∀ (t5 : Int) w__1, I t5 w__1 → ∀ _ : Nat → Value,
((decide ((t5 : Int) < 32)) = true → (0 : Int) ≤ t5 ∧ ∃ J : World → Prop,
(Ld (.i .i64) (Addr.add a_r 0) w__1 fun (t13 : Int) w__2 =>
(0 : Int) ≤ t5 ∧ ((((iAnd .i64 (Int.fdiv t13 (2 ^ (min (Int.toNat t5) (IntKind.bits .i64)))) 1) : Int) == 1) = true → (I (IntKind.wrap .i64 (t5 + 1)) w__2 ∧ M (IntKind.wrap .i64 (t5 + 1)) w__2 < M t5 w__1)) ∧
((((iAnd .i64 (Int.fdiv t13 (2 ^ (min (Int.toNat t5) (IntKind.bits .i64)))) 1) : Int) == 1) = false → Ld (.i .i64) (Addr.add a_r 2) w__2 fun (t20 : Int) w__3 =>
Ld (.i .i64) (Addr.add a_r 3) w__3 fun (t22 : Int) w__4 =>
(0 : Int) ≤ t5 ∧ ((((iAnd .i64 (Int.fdiv (iOr .i64 t20 t22) (2 ^ (min (Int.toNat t5) (IntKind.bits .i64)))) 1) : Int) == 0) = true → (I (IntKind.wrap .i64 (t5 + 1)) w__4 ∧ M (IntKind.wrap .i64 (t5 + 1)) w__4 < M t5 w__1)) ∧
((((iAnd .i64 (Int.fdiv (iOr .i64 t20 t22) (2 ^ (min (Int.toNat t5) (IntKind.bits .i64)))) 1) : Int) == 0) = false → Ld (.i .i64) (Addr.add a_r 0) w__4 fun (t31 : Int) w__5 =>
Ld (.i .i64) (Addr.add a_r 3) w__5 fun (t35 : Int) w__6 =>
Ld (.i .i64) (Addr.add a_r 2) w__6 fun (t38 : Int) w__7 =>
((((iAndNot .i64 (iAnd .i64 t31 (iXor .i64 (-1) (IntKind.wrap .i64 ((IntKind.wrap .i64 (2 * 2 ^ (min (Int.toNat t5) (IntKind.bits .i64)))) - 1)))) t35) : Int) != (iAnd .i64 t38 (iXor .i64 (-1) (IntKind.wrap .i64 ((IntKind.wrap .i64 (2 * 2 ^ (min (Int.toNat t5) (IntKind.bits .i64)))) - 1))))) = true → (I (IntKind.wrap .i64 (t5 + 1)) w__7 ∧ M (IntKind.wrap .i64 (t5 + 1)) w__7 < M t5 w__1)) ∧
((((iAndNot .i64 (iAnd .i64 t31 (iXor .i64 (-1) (IntKind.wrap .i64 ((IntKind.wrap .i64 (2 * 2 ^ (min (Int.toNat t5) (IntKind.bits .i64)))) - 1)))) t35) : Int) != (iAnd .i64 t38 (iXor .i64 (-1) (IntKind.wrap .i64 ((IntKind.wrap .i64 (2 * 2 ^ (min (Int.toNat t5) (IntKind.bits .i64)))) - 1))))) = false → J w__7)))) ∧
(∀  w__8, J w__8 → ∀ _ : Nat → Value,
∃ Sp : World → World → Prop, SpOk Sp w__8 ∧
∃ G_t44 : Int → World → Prop, Kept Sp G_t44 ∧
∃ G_t48 : Int → World → Prop, Kept Sp G_t48 ∧
∃ G_t51 : Int → World → Prop, Kept Sp G_t51 ∧
∃ G_t53 : Int → World → Prop, Kept Sp G_t53 ∧
(∀ w__9, Sp w__8 w__9 → Ld (.i .i64) (Addr.add a_r 0) w__9 fun (t44 : Int) w__10 =>
GK (.o (.lf (.i .i64))) Sp w__9 G_t44 (.int .i64 t44) w__10) ∧
∀ (t44_1 : Int), (∀ w__11, Sp w__8 w__11 → (0 : Int) ≤ t5 ∧ GK (.o (.lf (.i .i64))) Sp w__11 G_t48 (.int .i64 (IntKind.wrap .i64 (1 * 2 ^ (min (Int.toNat t5) (IntKind.bits .i64))))) w__11) ∧
∀ (t48 : Int), (∀ w__12, Sp w__8 w__12 → Ld (.i .i64) (Addr.add a_r 2) w__12 fun (t51 : Int) w__13 =>
GK (.o (.lf (.i .i64))) Sp w__12 G_t51 (.int .i64 t51) w__13) ∧
∀ (t51_1 : Int), (∀ w__14, Sp w__8 w__14 → (0 : Int) ≤ t5 ∧ GK (.o (.lf (.i .i64))) Sp w__14 G_t53 (.int .i64 (IntKind.wrap .i64 (1 * 2 ^ (min (Int.toNat t5) (IntKind.bits .i64))))) w__14) ∧
∀ (t53 : Int), ∀ w__15, Sp w__8 w__15 → G_t44 t44_1 w__15 → G_t48 t48 w__15 → G_t51 t51_1 w__15 → G_t53 t53 w__15 → 
K (iOr .i64 (iOr .i64 (iAnd .i64 t44_1 (iXor .i64 (-1) (IntKind.wrap .i64 ((IntKind.wrap .i64 (2 * 2 ^ (min (Int.toNat t5) (IntKind.bits .i64)))) - 1)))) t48) (iAnd .i64 t51_1 (IntKind.wrap .i64 (t53 - 1)))) w__15)) ∧
((decide ((t5 : Int) < 32)) = false → K (-1) w__1))
theorem impl.Range.above.ok {r : Tup (R 4 (.i .i64))} {w : World} {K : Int → World → Prop} (h : impl.Range.above.vc r w K) : CallT (.o (.lf (.i .i64))) P0 222 [(.agg (Tup.cells (R 4 (.i .i64)) r).toArray)] w K :=
  call_of Tryz.func222 rfl rfl (pl := impl.Range.above.pl) (show VC P0 Tryz.f222 impl.Range.above.pl (.o (.lf (.i .i64))) [(.agg (Tup.cells (R 4 (.i .i64)) r).toArray)] w K noP from Eq.mp (by kernel_rfl) h)
/- (impl.Range).least -/
def impl.Range.least.pl : Pl := (.s (.r (D 2)) (.s (.r [.d, (.l (.lf (.i .i64))), .d]) (.s (.s (.r [.d, .d, (.l (.lf (.i .i64))), .d, .d, (.l (.lf (.i .i64))), .d]) (.c (.r [(.l (.ag (R 4 (.i .i64)))), (.c (.o (.lf (.i .i64)))), .d]) .z)) (.s (.s (.r [.d, .d, (.sp .d), (.l (.ag (R 4 (.i .i64)))), .d, (.c (.o (.lf .b))), .d, .d]) (.c (.s (.r (D 1)) .z) .z)) (.s (.r (D 2)) .z)))))
def impl.Range.least.vc (r : Tup (R 4 (.i .i64))) (w : World) (K : Int → World → Prop) : Prop :=
Nw (Tup.cells (R 4 (.i .i64)) r).toArray 90 w fun a_r w_ =>
Ld (.i .i64) (Addr.add a_r 0) w_ fun (t5 : Int) w__1 =>
Ld (.i .i64) (Addr.add a_r 3) w__1 fun (t8 : Int) w__2 =>
Ld (.i .i64) (Addr.add a_r 2) w__2 fun (t11 : Int) w__3 =>
((((iAndNot .i64 t5 t8) : Int) != t11) = true → LdA (R 4 (.i .i64)) a_r w__3 fun (t13 : Tup (R 4 (.i .i64))) w__4 =>
CallT (.o (.lf (.i .i64))) P0 222 [(.agg (Tup.cells (R 4 (.i .i64)) t13).toArray)] w__4 fun (t14 : Int) w__5 =>
((decide ((t14 : Int) < 0)) = true → K (-1) w__5) ∧
((decide ((t14 : Int) < 0)) = false → LdA (R 4 (.i .i64)) a_r w__5 fun (t18 : Tup (R 4 (.i .i64))) w__6 =>
CallT (.o (.lf .b)) P0 223 [(.agg (Tup.cells (R 4 (.i .i64)) t18).toArray), (.int .i64 t14)] w__6 fun (t20 : Bool) w__7 =>
((!t20) = true → K (-1) w__7) ∧
((!t20) = false → K t14 w__7))) ∧
((((iAndNot .i64 t5 t8) : Int) != t11) = false → ((decide ((t5 : Int) < 0)) = true → K (-1) w__3) ∧
((decide ((t5 : Int) < 0)) = false → LdA (R 4 (.i .i64)) a_r w__3 fun (t18_1 : Tup (R 4 (.i .i64))) w__8 =>
CallT (.o (.lf .b)) P0 223 [(.agg (Tup.cells (R 4 (.i .i64)) t18_1).toArray), (.int .i64 t5)] w__8 fun (t20_1 : Bool) w__9 =>
((!t20_1) = true → K (-1) w__9) ∧
((!t20_1) = false → K t5 w__9)))
theorem impl.Range.least.ok {r : Tup (R 4 (.i .i64))} {w : World} {K : Int → World → Prop} (h : impl.Range.least.vc r w K) : CallT (.o (.lf (.i .i64))) P0 220 [(.agg (Tup.cells (R 4 (.i .i64)) r).toArray)] w K :=
  call_of Tryz.func220 rfl rfl (pl := impl.Range.least.pl) (show VC P0 Tryz.f220 impl.Range.least.pl (.o (.lf (.i .i64))) [(.agg (Tup.cells (R 4 (.i .i64)) r).toArray)] w K noP from Eq.mp (by kernel_rfl) h)
/- (impl.Range).some -/
def impl.Range.some.pl : Pl := (.s (.r (D 2)) (.s (.r [(.l (.ag (R 4 (.i .i64)))), (.c (.o (.lf .b))), (.sp .d), (.l (.ag (R 4 (.i .i64)))), (.c (.o (.lf (.i .i64)))), .d, .d, .d]) .z))
def impl.Range.some.vc (r : Tup (R 4 (.i .i64))) (w : World) (K : Bool → World → Prop) : Prop :=
Nw (Tup.cells (R 4 (.i .i64)) r).toArray 90 w fun a_r w_ =>
LdA (R 4 (.i .i64)) a_r w_ fun (t3 : Tup (R 4 (.i .i64))) w__1 =>
CallT (.o (.lf .b)) P0 219 [(.agg (Tup.cells (R 4 (.i .i64)) t3).toArray)] w__1 fun (t4 : Bool) w__2 =>
(t4 = true → LdA (R 4 (.i .i64)) a_r w__2 fun (t6 : Tup (R 4 (.i .i64))) w__3 =>
CallT (.o (.lf (.i .i64))) P0 220 [(.agg (Tup.cells (R 4 (.i .i64)) t6).toArray)] w__3 fun (t7 : Int) w__4 =>
K (decide ((t7 : Int) ≥ 0)) w__4) ∧
(t4 = false → K false w__2)
theorem impl.Range.some.ok {r : Tup (R 4 (.i .i64))} {w : World} {K : Bool → World → Prop} (h : impl.Range.some.vc r w K) : CallT (.o (.lf .b)) P0 212 [(.agg (Tup.cells (R 4 (.i .i64)) r).toArray)] w K :=
  call_of Tryz.func212 rfl rfl (pl := impl.Range.some.pl) (show VC P0 Tryz.f212 impl.Range.some.pl (.o (.lf .b)) [(.agg (Tup.cells (R 4 (.i .i64)) r).toArray)] w K noP from Eq.mp (by kernel_rfl) h)
/- impl.RangeOne -/
def impl.RangeOne.pl : Pl := (.s (.r (D 1)) (.s (.s (.r [.d, (.c (.o (.lf .b))), .d]) (.c (.s (.r [(.c (.o (.ag (R 4 (.i .i64))))), .d]) .z) .z)) (.s (.r (D 5)) .z)))
def impl.RangeOne.vc (n : Int) (w : World) (K : Tup (R 4 (.i .i64)) → World → Prop) : Prop :=
Nw (zc P0 90) 90 w fun a_t2 w_ =>
CallT (.o (.lf .b)) P0 77 [(.int .i64 n)] w_ fun (t4 : Bool) w__1 =>
((!t4) = true → CallT (.o (.ag (R 4 (.i .i64)))) P0 199 [] w__1 fun (t6 : Tup (R 4 (.i .i64))) w__2 =>
StA P0 a_t2 (Tup.cells (R 4 (.i .i64)) t6) w__2 fun w__3 =>
LdA (R 4 (.i .i64)) a_t2 w__3 fun r w__4 =>
K r w__3) ∧
((!t4) = false → StA P0 a_t2 [(.int .i64 n), (.int .i64 n), (.int .i64 n), (.int .i64 0)] w__1 fun w__5 =>
LdA (R 4 (.i .i64)) a_t2 w__5 fun r_1 w__6 =>
K r_1 w__5)
theorem impl.RangeOne.ok {n : Int} {w : World} {K : Tup (R 4 (.i .i64)) → World → Prop} (h : impl.RangeOne.vc n w K) : CallT (.o (.ag (R 4 (.i .i64)))) P0 193 [(.int .i64 n)] w K :=
  call_of Tryz.func193 rfl rfl (pl := impl.RangeOne.pl) (show VC P0 Tryz.f193 impl.RangeOne.pl (.o (.ag (R 4 (.i .i64)))) [(.int .i64 n)] w K noP from Eq.mp (by kernel_rfl) h)
/- (impl.Range).tidy -/
def impl.Range.tidy.pl : Pl := (.s (.r (D 2)) (.s (.r [.d, (.l (.lf (.i .i64))), .d, (.l (.lf (.i .i64))), .d, .d, (.c (.o (.lf (.i .i64)))), .d, .d, .d]) (.s (.r [.d, (.l (.lf (.i .i64))), .d, .d, .d, .d, .d]) (.s (.r [.d, (.l (.lf (.i .i64))), .d, (.l (.lf (.i .i64))), .d, .d, .d, .d, (.l (.lf (.i .i64))), .d, .d, .d]) (.s (.g [(.q, []), ((.g (.o (.lf (.i .i64))) (.l (.lf (.i .i64)))), []), (.q, []), ((.g (.o (.lf (.i .i64))) (.l (.lf (.i .i64)))), []), ((.g (.o (.lf (.i .i64))) .d), [1, 3]), (.q, []), ((.g (.o (.lf (.i .i64))) (.l (.lf (.i .i64)))), []), (.q, []), ((.g (.o (.lf (.i .i64))) (.l (.lf (.i .i64)))), []), (.q, []), ((.g (.o (.lf (.i .i64))) (.l (.lf (.i .i64)))), []), (.q, [8, 10]), ((.g (.o (.lf (.i .i64))) .d), [6, 8, 10]), (.q, []), ((.g .z .d), [4])] [.d, .d]) (.s (.r [(.l (.ag (R 4 (.i .i64)))), .d]) .z))))))
def impl.Range.tidy.vc (r : Tup (R 4 (.i .i64))) (w : World) (K : Tup (R 4 (.i .i64)) → World → Prop) : Prop :=
Nw (Tup.cells (R 4 (.i .i64)) r).toArray 90 w fun a_r w_ =>
Nw (zc P0 90) 90 w_ fun a_t2 w__1 =>
Ld (.i .i64) (Addr.add a_r 0) w__1 fun (t6 : Int) w__2 =>
Ld (.i .i64) (Addr.add a_r 1) w__2 fun (t8 : Int) w__3 =>
CallT (.o (.lf (.i .i64))) P0 89 [(.int .u64 (IntKind.wrap .u64 (iXor .i64 t6 t8)))] w__3 fun (t11 : Int) w__4 =>
(0 : Int) ≤ t11 ∧ Ld (.i .i64) (Addr.add a_r 3) w__4 fun (t15 : Int) w__5 =>
Nw (zc P0 90) 90 w__5 fun a_out w__6 =>
StA P0 a_out [(.int .i64 0), (.int .i64 0), (.int .i64 0), (.int .i64 (iAnd .i64 t15 (IntKind.wrap .i64 ((IntKind.wrap .i64 (1 * 2 ^ (min (Int.toNat t11) (IntKind.bits .i64)))) - 1))))] w__6 fun w__7 =>
Ld (.i .i64) (Addr.add a_r 2) w__7 fun (t20 : Int) w__8 =>
Ld (.i .i64) (Addr.add a_r 0) w__8 fun (t22 : Int) w__9 =>
Ld (.i .i64) (Addr.add a_out 3) w__9 fun (t27 : Int) w__10 =>
St (Addr.add a_out 2) (.int .i64 (iAndNot .i64 (iOr .i64 t20 (iAndNot .i64 t22 (IntKind.wrap .i64 ((IntKind.wrap .i64 (1 * 2 ^ (min (Int.toNat t11) (IntKind.bits .i64)))) - 1)))) t27)) w__10 fun w__11 =>
∃ Sp : World → World → Prop, SpOk Sp w__11 ∧
∃ G_t31 : Int → World → Prop, Kept Sp G_t31 ∧
∃ G_t33 : Int → World → Prop, Kept Sp G_t33 ∧
∃ G_t34 : Int → World → Prop, Kept Sp G_t34 ∧
∃ G_t36 : Int → World → Prop, Kept Sp G_t36 ∧
∃ G_t38 : Int → World → Prop, Kept Sp G_t38 ∧
∃ G_t40 : Int → World → Prop, Kept Sp G_t40 ∧
∃ G_t42 : Int → World → Prop, Kept Sp G_t42 ∧
∃ G_st : Unit → World → Prop, Kept Sp G_st ∧
(∀ w__12, Sp w__11 w__12 → Ld (.i .i64) (Addr.add a_r 0) w__12 fun (t31 : Int) w__13 =>
GK (.o (.lf (.i .i64))) Sp w__12 G_t31 (.int .i64 t31) w__13) ∧
∀ (t31_1 : Int), (∀ w__14, Sp w__11 w__14 → Ld (.i .i64) (Addr.add a_out 2) w__14 fun (t33 : Int) w__15 =>
GK (.o (.lf (.i .i64))) Sp w__14 G_t33 (.int .i64 t33) w__15) ∧
∀ (t33_1 : Int), (∀ w__16, Sp w__11 w__16 → G_t31 t31_1 w__16 → G_t33 t33_1 w__16 → GK (.o (.lf (.i .i64))) Sp w__16 G_t34 (.int .i64 (if (t33_1 : Int) > t31_1 then t33_1 else t31_1)) w__16) ∧
∀ (t34 : Int), (∀ w__17, Sp w__11 w__17 → Ld (.i .i64) (Addr.add a_r 1) w__17 fun (t36 : Int) w__18 =>
GK (.o (.lf (.i .i64))) Sp w__17 G_t36 (.int .i64 t36) w__18) ∧
∀ (t36_1 : Int), (∀ w__19, Sp w__11 w__19 → Ld (.i .i64) (Addr.add a_out 2) w__19 fun (t38 : Int) w__20 =>
GK (.o (.lf (.i .i64))) Sp w__19 G_t38 (.int .i64 t38) w__20) ∧
∀ (t38_1 : Int), (∀ w__21, Sp w__11 w__21 → Ld (.i .i64) (Addr.add a_out 3) w__21 fun (t40 : Int) w__22 =>
GK (.o (.lf (.i .i64))) Sp w__21 G_t40 (.int .i64 t40) w__22) ∧
∀ (t40_1 : Int), (∀ w__23, Sp w__11 w__23 → G_t36 t36_1 w__23 → G_t38 t38_1 w__23 → G_t40 t40_1 w__23 → GK (.o (.lf (.i .i64))) Sp w__23 G_t42 (.int .i64 (if ((iOr .i64 t38_1 t40_1) : Int) < t36_1 then (iOr .i64 t38_1 t40_1) else t36_1)) w__23) ∧
∀ (t42 : Int), (∀ w__24, Sp w__11 w__24 → G_t34 t34 w__24 → St (Addr.add a_out 0) (.int .i64 t34) w__24 fun w__25 =>
GK .z Sp w__24 G_st (.tuple #[]) w__25) ∧
∀ (st : Unit), ∀ w__26, Sp w__11 w__26 → G_t31 t31_1 w__26 → G_t33 t33_1 w__26 → G_t34 t34 w__26 → G_t36 t36_1 w__26 → G_t38 t38_1 w__26 → G_t40 t40_1 w__26 → G_t42 t42 w__26 → G_st st w__26 → 
St (Addr.add a_out 1) (.int .i64 t42) w__26 fun w__27 =>
LdA (R 4 (.i .i64)) a_out w__27 fun (t45 : Tup (R 4 (.i .i64))) w__28 =>
StA P0 a_t2 (Tup.cells (R 4 (.i .i64)) t45) w__28 fun w__29 =>
LdA (R 4 (.i .i64)) a_t2 w__29 fun r_1 w__30 =>
K r_1 w__29
theorem impl.Range.tidy.ok {r : Tup (R 4 (.i .i64))} {w : World} {K : Tup (R 4 (.i .i64)) → World → Prop} (h : impl.Range.tidy.vc r w K) : CallT (.o (.ag (R 4 (.i .i64)))) P0 195 [(.agg (Tup.cells (R 4 (.i .i64)) r).toArray)] w K :=
  call_of Tryz.func195 rfl rfl (pl := impl.Range.tidy.pl) (show VC P0 Tryz.f195 impl.Range.tidy.pl (.o (.ag (R 4 (.i .i64)))) [(.agg (Tup.cells (R 4 (.i .i64)) r).toArray)] w K noP from Eq.mp (by kernel_rfl) h)
/- impl.fromTo -/
def impl.fromTo.pl : Pl := (.s (.r (D 1)) (.s (.r [.d, .d, .d, (.c (.o (.ag (R 4 (.i .i64))))), .d]) .z))
def impl.fromTo.vc (low : Int) (high : Int) (w : World) (K : Tup (R 4 (.i .i64)) → World → Prop) : Prop :=
Nw (zc P0 90) 90 w fun a_t4 w_ =>
CallT (.o (.ag (R 4 (.i .i64)))) P0 195 [(.agg #[(.int .i64 low), (.int .i64 high), (.int .i64 0), (.int .i64 4294967295)])] w_ fun (t8 : Tup (R 4 (.i .i64))) w__1 =>
StA P0 a_t4 (Tup.cells (R 4 (.i .i64)) t8) w__1 fun w__2 =>
LdA (R 4 (.i .i64)) a_t4 w__2 fun r w__3 =>
K r w__2
theorem impl.fromTo.ok {low : Int} {high : Int} {w : World} {K : Tup (R 4 (.i .i64)) → World → Prop} (h : impl.fromTo.vc low high w K) : CallT (.o (.ag (R 4 (.i .i64)))) P0 205 [(.int .i64 low), (.int .i64 high)] w K :=
  call_of Tryz.func205 rfl rfl (pl := impl.fromTo.pl) (show VC P0 Tryz.f205 impl.fromTo.pl (.o (.ag (R 4 (.i .i64)))) [(.int .i64 low), (.int .i64 high)] w K noP from Eq.mp (by kernel_rfl) h)
/- impl.meet -/
def impl.meet.pl : Pl := (.s (.r (D 4)) (.s (.r [.d, (.l (.lf (.i .i64))), .d, (.l (.lf (.i .i64))), .d, .d, (.l (.lf (.i .i64))), .d, (.l (.lf (.i .i64))), .d, .d, (.l (.lf (.i .i64))), .d, (.l (.lf (.i .i64))), .d, .d, (.l (.lf (.i .i64))), .d, (.l (.lf (.i .i64))), .d, .d, .d, .d]) (.s (.s (.r [.d, (.l (.lf (.i .i64))), .d, (.l (.lf (.i .i64))), .d, .d, (.l (.lf (.i .i64))), .d, (.l (.lf (.i .i64))), .d, .d, .d, (.sp .d), (.l (.ag (R 4 (.i .i64)))), (.c (.o (.lf .b))), .d, .d]) (.c (.s (.r [(.c (.o (.ag (R 4 (.i .i64))))), .d, .d]) .z) .z)) (.s (.r [(.l (.ag (R 4 (.i .i64)))), (.c (.o (.ag (R 4 (.i .i64))))), .d, .d]) .z))))
def impl.meet.vc (a : Tup (R 4 (.i .i64))) (b : Tup (R 4 (.i .i64))) (w : World) (K : (Tup (R 4 (.i .i64))) × (Bool) × Unit → World → Prop) : Prop :=
Nw (Tup.cells (R 4 (.i .i64)) a).toArray 90 w fun a_a w_ =>
Nw (Tup.cells (R 4 (.i .i64)) b).toArray 90 w_ fun a_b w__1 =>
Nw (zc P0 90) 90 w__1 fun a_t4 w__2 =>
Ld (.i .i64) (Addr.add a_a 0) w__2 fun (t8 : Int) w__3 =>
Ld (.i .i64) (Addr.add a_b 0) w__3 fun (t10 : Int) w__4 =>
Ld (.i .i64) (Addr.add a_a 1) w__4 fun (t13 : Int) w__5 =>
Ld (.i .i64) (Addr.add a_b 1) w__5 fun (t15 : Int) w__6 =>
Ld (.i .i64) (Addr.add a_a 2) w__6 fun (t18 : Int) w__7 =>
Ld (.i .i64) (Addr.add a_b 2) w__7 fun (t20 : Int) w__8 =>
Ld (.i .i64) (Addr.add a_a 3) w__8 fun (t23 : Int) w__9 =>
Ld (.i .i64) (Addr.add a_b 3) w__9 fun (t25 : Int) w__10 =>
Nw (zc P0 90) 90 w__10 fun a_out w__11 =>
StA P0 a_out [(.int .i64 (if (t10 : Int) > t8 then t10 else t8)), (.int .i64 (if (t15 : Int) < t13 then t15 else t13)), (.int .i64 (iOr .i64 t18 t20)), (.int .i64 (iAnd .i64 t23 t25))] w__11 fun w__12 =>
Ld (.i .i64) (Addr.add a_a 2) w__12 fun (t29 : Int) w__13 =>
Ld (.i .i64) (Addr.add a_b 2) w__13 fun (t31 : Int) w__14 =>
Ld (.i .i64) (Addr.add a_a 3) w__14 fun (t34 : Int) w__15 =>
Ld (.i .i64) (Addr.add a_b 3) w__15 fun (t36 : Int) w__16 =>
((((iAndNot .i64 (iXor .i64 t29 t31) (iOr .i64 t34 t36)) : Int) != 0) = true → CallT (.o (.ag (R 4 (.i .i64)))) P0 199 [] w__16 fun (t45 : Tup (R 4 (.i .i64))) w__17 =>
StA P0 a_t4 (Tup.cells (R 4 (.i .i64)) t45) w__17 fun w__18 =>
LdA (R 4 (.i .i64)) a_t4 w__18 fun r w__19 =>
K (r, (false, ())) w__18) ∧
((((iAndNot .i64 (iXor .i64 t29 t31) (iOr .i64 t34 t36)) : Int) != 0) = false → LdA (R 4 (.i .i64)) a_out w__16 fun (t41 : Tup (R 4 (.i .i64))) w__20 =>
CallT (.o (.lf .b)) P0 212 [(.agg (Tup.cells (R 4 (.i .i64)) t41).toArray)] w__20 fun (t42 : Bool) w__21 =>
((!t42) = true → CallT (.o (.ag (R 4 (.i .i64)))) P0 199 [] w__21 fun (t45_1 : Tup (R 4 (.i .i64))) w__22 =>
StA P0 a_t4 (Tup.cells (R 4 (.i .i64)) t45_1) w__22 fun w__23 =>
LdA (R 4 (.i .i64)) a_t4 w__23 fun r_1 w__24 =>
K (r_1, (false, ())) w__23) ∧
((!t42) = false → LdA (R 4 (.i .i64)) a_out w__21 fun (t46 : Tup (R 4 (.i .i64))) w__25 =>
CallT (.o (.ag (R 4 (.i .i64)))) P0 195 [(.agg (Tup.cells (R 4 (.i .i64)) t46).toArray)] w__25 fun (t47 : Tup (R 4 (.i .i64))) w__26 =>
StA P0 a_t4 (Tup.cells (R 4 (.i .i64)) t47) w__26 fun w__27 =>
LdA (R 4 (.i .i64)) a_t4 w__27 fun r_2 w__28 =>
K (r_2, (true, ())) w__27))
theorem impl.meet.ok {a : Tup (R 4 (.i .i64))} {b : Tup (R 4 (.i .i64))} {w : World} {K : (Tup (R 4 (.i .i64))) × (Bool) × Unit → World → Prop} (h : impl.meet.vc a b w K) : CallT (.n [(.ag (R 4 (.i .i64))), (.lf .b)]) P0 197 [(.agg (Tup.cells (R 4 (.i .i64)) a).toArray), (.agg (Tup.cells (R 4 (.i .i64)) b).toArray)] w K :=
  call_of Tryz.func197 rfl rfl (pl := impl.meet.pl) (show VC P0 Tryz.f197 impl.meet.pl (.n [(.ag (R 4 (.i .i64))), (.lf .b)]) [(.agg (Tup.cells (R 4 (.i .i64)) a).toArray), (.agg (Tup.cells (R 4 (.i .i64)) b).toArray)] w K noP from Eq.mp (by kernel_rfl) h)
/- (impl.Range).but -/
def impl.Range.but.pl : Pl := (.s (.r (D 4)) (.s (.s (.r [.d, (.l (.lf (.i .i64))), .d, (.l (.lf (.i .i64))), .d]) (.c (.s (.r [(.l (.ag (R 4 (.i .i64)))), .d, .d]) .z) .z)) (.s (.r [.d, (.l (.lf (.i .i64))), .d]) (.s (.r [(.l (.ag (R 4 (.i .i64)))), .d, .d]) (.j [] (.s (.r [.d, (.l (.lf (.i .i64))), .d, .d]) (.c (.r [.d, (.l (.lf (.i .i64))), .d, .d, .d]) .z)) (.s (.s (.r [.d, (.l (.lf (.i .i64))), .d, .d]) (.c (.r [.d, (.l (.lf (.i .i64))), .d, .d, .d]) .z)) (.s (.s (.r [(.l (.ag (R 4 (.i .i64)))), (.c (.o (.lf .b))), .d]) (.c (.s (.r [(.c (.o (.ag (R 4 (.i .i64))))), .d, .d]) .z) .z)) (.s (.r [(.l (.ag (R 4 (.i .i64)))), (.c (.o (.ag (R 4 (.i .i64))))), .d, .d]) .z))))))))
def impl.Range.but.vc (r : Tup (R 4 (.i .i64))) (other : Tup (R 4 (.i .i64))) (w : World) (K : (Tup (R 4 (.i .i64))) × (Bool) × Unit → World → Prop) : Prop :=
Nw (Tup.cells (R 4 (.i .i64)) r).toArray 90 w fun a_r w_ =>
Nw (Tup.cells (R 4 (.i .i64)) other).toArray 90 w_ fun a_other w__1 =>
Nw (zc P0 90) 90 w__1 fun a_t4 w__2 =>
Ld (.i .i64) (Addr.add a_other 0) w__2 fun (t9 : Int) w__3 =>
Ld (.i .i64) (Addr.add a_other 1) w__3 fun (t11 : Int) w__4 =>
(((t9 : Int) != t11) = true → LdA (R 4 (.i .i64)) a_r w__4 fun (t13 : Tup (R 4 (.i .i64))) w__5 =>
StA P0 a_t4 (Tup.cells (R 4 (.i .i64)) t13) w__5 fun w__6 =>
LdA (R 4 (.i .i64)) a_t4 w__6 fun r_1 w__7 =>
K (r_1, (true, ())) w__6) ∧
(((t9 : Int) != t11) = false → Ld (.i .i64) (Addr.add a_other 0) w__4 fun (t15 : Int) w__8 =>
LdA (R 4 (.i .i64)) a_r w__8 fun (t16 : Tup (R 4 (.i .i64))) w__9 =>
Nw (zc P0 90) 90 w__9 fun a_out w__10 =>
StA P0 a_out (Tup.cells (R 4 (.i .i64)) t16) w__10 fun w__11 =>
∃ J : World → Prop,
(Ld (.i .i64) (Addr.add a_r 0) w__11 fun (t18 : Int) w__12 =>
(((t18 : Int) == t15) = true → Ld (.i .i64) (Addr.add a_out 0) w__12 fun (t22 : Int) w__13 =>
St (Addr.add a_out 0) (.int .i64 (IntKind.wrap .i64 (t22 + 1))) w__13 fun w__14 =>
J w__14) ∧
(((t18 : Int) == t15) = false → J w__12)) ∧
(∀  w__15, J w__15 → ∀ _ : Nat → Value,
Ld (.i .i64) (Addr.add a_r 1) w__15 fun (t26 : Int) w__16 =>
(((t26 : Int) == t15) = true → Ld (.i .i64) (Addr.add a_out 1) w__16 fun (t30 : Int) w__17 =>
St (Addr.add a_out 1) (.int .i64 (IntKind.wrap .i64 (t30 - 1))) w__17 fun w__18 =>
LdA (R 4 (.i .i64)) a_out w__18 fun (t33 : Tup (R 4 (.i .i64))) w__19 =>
CallT (.o (.lf .b)) P0 212 [(.agg (Tup.cells (R 4 (.i .i64)) t33).toArray)] w__19 fun (t34 : Bool) w__20 =>
((!t34) = true → CallT (.o (.ag (R 4 (.i .i64)))) P0 199 [] w__20 fun (t36 : Tup (R 4 (.i .i64))) w__21 =>
StA P0 a_t4 (Tup.cells (R 4 (.i .i64)) t36) w__21 fun w__22 =>
LdA (R 4 (.i .i64)) a_t4 w__22 fun r_2 w__23 =>
K (r_2, (false, ())) w__22) ∧
((!t34) = false → LdA (R 4 (.i .i64)) a_out w__20 fun (t37 : Tup (R 4 (.i .i64))) w__24 =>
CallT (.o (.ag (R 4 (.i .i64)))) P0 195 [(.agg (Tup.cells (R 4 (.i .i64)) t37).toArray)] w__24 fun (t38 : Tup (R 4 (.i .i64))) w__25 =>
StA P0 a_t4 (Tup.cells (R 4 (.i .i64)) t38) w__25 fun w__26 =>
LdA (R 4 (.i .i64)) a_t4 w__26 fun r_3 w__27 =>
K (r_3, (true, ())) w__26)) ∧
(((t26 : Int) == t15) = false → LdA (R 4 (.i .i64)) a_out w__16 fun (t33_1 : Tup (R 4 (.i .i64))) w__28 =>
CallT (.o (.lf .b)) P0 212 [(.agg (Tup.cells (R 4 (.i .i64)) t33_1).toArray)] w__28 fun (t34_1 : Bool) w__29 =>
((!t34_1) = true → CallT (.o (.ag (R 4 (.i .i64)))) P0 199 [] w__29 fun (t36_1 : Tup (R 4 (.i .i64))) w__30 =>
StA P0 a_t4 (Tup.cells (R 4 (.i .i64)) t36_1) w__30 fun w__31 =>
LdA (R 4 (.i .i64)) a_t4 w__31 fun r_4 w__32 =>
K (r_4, (false, ())) w__31) ∧
((!t34_1) = false → LdA (R 4 (.i .i64)) a_out w__29 fun (t37_1 : Tup (R 4 (.i .i64))) w__33 =>
CallT (.o (.ag (R 4 (.i .i64)))) P0 195 [(.agg (Tup.cells (R 4 (.i .i64)) t37_1).toArray)] w__33 fun (t38_1 : Tup (R 4 (.i .i64))) w__34 =>
StA P0 a_t4 (Tup.cells (R 4 (.i .i64)) t38_1) w__34 fun w__35 =>
LdA (R 4 (.i .i64)) a_t4 w__35 fun r_5 w__36 =>
K (r_5, (true, ())) w__35))))
theorem impl.Range.but.ok {r : Tup (R 4 (.i .i64))} {other : Tup (R 4 (.i .i64))} {w : World} {K : (Tup (R 4 (.i .i64))) × (Bool) × Unit → World → Prop} (h : impl.Range.but.vc r other w K) : CallT (.n [(.ag (R 4 (.i .i64))), (.lf .b)]) P0 198 [(.agg (Tup.cells (R 4 (.i .i64)) r).toArray), (.agg (Tup.cells (R 4 (.i .i64)) other).toArray)] w K :=
  call_of Tryz.func198 rfl rfl (pl := impl.Range.but.pl) (show VC P0 Tryz.f198 impl.Range.but.pl (.n [(.ag (R 4 (.i .i64))), (.lf .b)]) [(.agg (Tup.cells (R 4 (.i .i64)) r).toArray), (.agg (Tup.cells (R 4 (.i .i64)) other).toArray)] w K noP from Eq.mp (by kernel_rfl) h)
/- impl.below -/
def impl.below.pl : Pl := (.s (.r (D 5)) (.j [] (.s (.r (D 1)) (.c (.s (.r [.d, (.l (.lf (.i .i64))), .d, (.l (.lf (.i .i64))), .d, .d, .d, .d]) (.r [.d, (.l (.lf (.i .i64))), .d, (.l (.lf (.i .i64))), .d, .d, .d, .d])) (.s (.r [.d, (.l (.lf (.i .i64))), .d, (.l (.lf (.i .i64))), .d, .d, .d]) (.r [.d, (.l (.lf (.i .i64))), .d, (.l (.lf (.i .i64))), .d, .d, .d])))) (.s (.s (.r [(.l (.ag (R 4 (.i .i64)))), (.c (.o (.lf .b))), .d, (.sp .d), (.l (.ag (R 4 (.i .i64)))), (.c (.o (.lf .b))), .d, .d]) (.c (.s (.r [(.c (.o (.ag (R 4 (.i .i64))))), (.c (.o (.ag (R 4 (.i .i64))))), .d, .d, .d]) .z) .z)) (.s (.g [((.g (.o (.ag (R 4 (.i .i64)))) (.l (.ag (R 4 (.i .i64))))), []), ((.g (.o (.ag (R 4 (.i .i64)))) (.c (.o (.ag (R 4 (.i .i64)))))), [0]), ((.g (.o (.ag (R 4 (.i .i64)))) (.l (.ag (R 4 (.i .i64))))), []), ((.g (.o (.ag (R 4 (.i .i64)))) (.c (.o (.ag (R 4 (.i .i64)))))), [2]), ((.g .z .d), [1])] [.d, .d]) .z))))
def impl.below.vc (a : Tup (R 4 (.i .i64))) (b : Tup (R 4 (.i .i64))) (less : Bool) (w : World) (K : (Tup (R 4 (.i .i64))) × (Tup (R 4 (.i .i64))) × (Bool) × Unit → World → Prop) : Prop :=
Nw (Tup.cells (R 4 (.i .i64)) a).toArray 90 w fun a_a w_ =>
Nw (Tup.cells (R 4 (.i .i64)) b).toArray 90 w_ fun a_b w__1 =>
Nw (zc P0 90) 90 w__1 fun a_t6 w__2 =>
Nw (zc P0 90) 90 w__2 fun a_t7 w__3 =>
∃ J : World → Prop,
((less = true → Ld (.i .i64) (Addr.add a_a 1) w__3 fun (t11 : Int) w__4 =>
Ld (.i .i64) (Addr.add a_b 1) w__4 fun (t13 : Int) w__5 =>
St (Addr.add a_a 1) (.int .i64 (if ((IntKind.wrap .i64 (t13 - 1)) : Int) < t11 then (IntKind.wrap .i64 (t13 - 1)) else t11)) w__5 fun w__6 =>
Ld (.i .i64) (Addr.add a_b 0) w__6 fun (t18 : Int) w__7 =>
Ld (.i .i64) (Addr.add a_a 0) w__7 fun (t20 : Int) w__8 =>
St (Addr.add a_b 0) (.int .i64 (if ((IntKind.wrap .i64 (t20 + 1)) : Int) > t18 then (IntKind.wrap .i64 (t20 + 1)) else t18)) w__8 fun w__9 =>
J w__9) ∧
(less = false → Ld (.i .i64) (Addr.add a_b 1) w__3 fun (t25 : Int) w__10 =>
Ld (.i .i64) (Addr.add a_a 1) w__10 fun (t27 : Int) w__11 =>
St (Addr.add a_b 1) (.int .i64 (if (t27 : Int) < t25 then t27 else t25)) w__11 fun w__12 =>
Ld (.i .i64) (Addr.add a_a 0) w__12 fun (t31 : Int) w__13 =>
Ld (.i .i64) (Addr.add a_b 0) w__13 fun (t33 : Int) w__14 =>
St (Addr.add a_a 0) (.int .i64 (if (t33 : Int) > t31 then t33 else t31)) w__14 fun w__15 =>
J w__15)) ∧
(∀  w__16, J w__16 → ∀ _ : Nat → Value,
LdA (R 4 (.i .i64)) a_a w__16 fun (t36 : Tup (R 4 (.i .i64))) w__17 =>
CallT (.o (.lf .b)) P0 212 [(.agg (Tup.cells (R 4 (.i .i64)) t36).toArray)] w__17 fun (t37 : Bool) w__18 =>
((!t37) = true → CallT (.o (.ag (R 4 (.i .i64)))) P0 199 [] w__18 fun (t44 : Tup (R 4 (.i .i64))) w__19 =>
CallT (.o (.ag (R 4 (.i .i64)))) P0 199 [] w__19 fun (t45 : Tup (R 4 (.i .i64))) w__20 =>
StA P0 a_t6 (Tup.cells (R 4 (.i .i64)) t44) w__20 fun w__21 =>
StA P0 a_t7 (Tup.cells (R 4 (.i .i64)) t45) w__21 fun w__22 =>
LdA (R 4 (.i .i64)) a_t6 w__22 fun r w__23 =>
LdA (R 4 (.i .i64)) a_t7 w__22 fun r_1 w__24 =>
K (r, (r_1, (false, ()))) w__22) ∧
((!t37) = false → LdA (R 4 (.i .i64)) a_b w__18 fun (t40 : Tup (R 4 (.i .i64))) w__25 =>
CallT (.o (.lf .b)) P0 212 [(.agg (Tup.cells (R 4 (.i .i64)) t40).toArray)] w__25 fun (t41 : Bool) w__26 =>
((!t41) = true → CallT (.o (.ag (R 4 (.i .i64)))) P0 199 [] w__26 fun (t44_1 : Tup (R 4 (.i .i64))) w__27 =>
CallT (.o (.ag (R 4 (.i .i64)))) P0 199 [] w__27 fun (t45_1 : Tup (R 4 (.i .i64))) w__28 =>
StA P0 a_t6 (Tup.cells (R 4 (.i .i64)) t44_1) w__28 fun w__29 =>
StA P0 a_t7 (Tup.cells (R 4 (.i .i64)) t45_1) w__29 fun w__30 =>
LdA (R 4 (.i .i64)) a_t6 w__30 fun r_2 w__31 =>
LdA (R 4 (.i .i64)) a_t7 w__30 fun r_3 w__32 =>
K (r_2, (r_3, (false, ()))) w__30) ∧
((!t41) = false → ∃ Sp : World → World → Prop, SpOk Sp w__26 ∧
∃ G_t46 : Tup (R 4 (.i .i64)) → World → Prop, Kept Sp G_t46 ∧
∃ G_t47 : Tup (R 4 (.i .i64)) → World → Prop, Kept Sp G_t47 ∧
∃ G_t48 : Tup (R 4 (.i .i64)) → World → Prop, Kept Sp G_t48 ∧
∃ G_t49 : Tup (R 4 (.i .i64)) → World → Prop, Kept Sp G_t49 ∧
∃ G_st : Unit → World → Prop, Kept Sp G_st ∧
(∀ w__33, Sp w__26 w__33 → LdA (R 4 (.i .i64)) a_a w__33 fun (t46 : Tup (R 4 (.i .i64))) w__34 =>
GK (.o (.ag (R 4 (.i .i64)))) Sp w__33 G_t46 (.agg (Tup.cells (R 4 (.i .i64)) t46).toArray) w__34) ∧
∀ (t46_1 : Tup (R 4 (.i .i64))), (∀ w__35, Sp w__26 w__35 → G_t46 t46_1 w__35 → CallT (.o (.ag (R 4 (.i .i64)))) P0 195 [(.agg (Tup.cells (R 4 (.i .i64)) t46_1).toArray)] w__35 fun (t47 : Tup (R 4 (.i .i64))) w__36 =>
GK (.o (.ag (R 4 (.i .i64)))) Sp w__35 G_t47 (.agg (Tup.cells (R 4 (.i .i64)) t47).toArray) w__36) ∧
∀ (t47_1 : Tup (R 4 (.i .i64))), (∀ w__37, Sp w__26 w__37 → LdA (R 4 (.i .i64)) a_b w__37 fun (t48 : Tup (R 4 (.i .i64))) w__38 =>
GK (.o (.ag (R 4 (.i .i64)))) Sp w__37 G_t48 (.agg (Tup.cells (R 4 (.i .i64)) t48).toArray) w__38) ∧
∀ (t48_1 : Tup (R 4 (.i .i64))), (∀ w__39, Sp w__26 w__39 → G_t48 t48_1 w__39 → CallT (.o (.ag (R 4 (.i .i64)))) P0 195 [(.agg (Tup.cells (R 4 (.i .i64)) t48_1).toArray)] w__39 fun (t49 : Tup (R 4 (.i .i64))) w__40 =>
GK (.o (.ag (R 4 (.i .i64)))) Sp w__39 G_t49 (.agg (Tup.cells (R 4 (.i .i64)) t49).toArray) w__40) ∧
∀ (t49_1 : Tup (R 4 (.i .i64))), (∀ w__41, Sp w__26 w__41 → G_t47 t47_1 w__41 → StA P0 a_t6 (Tup.cells (R 4 (.i .i64)) t47_1) w__41 fun w__42 =>
GK .z Sp w__41 G_st (.tuple #[]) w__42) ∧
∀ (st : Unit), ∀ w__43, Sp w__26 w__43 → G_t46 t46_1 w__43 → G_t47 t47_1 w__43 → G_t48 t48_1 w__43 → G_t49 t49_1 w__43 → G_st st w__43 → 
StA P0 a_t7 (Tup.cells (R 4 (.i .i64)) t49_1) w__43 fun w__44 =>
LdA (R 4 (.i .i64)) a_t6 w__44 fun r_4 w__45 =>
LdA (R 4 (.i .i64)) a_t7 w__44 fun r_5 w__46 =>
K (r_4, (r_5, (true, ()))) w__44)))
theorem impl.below.ok {a : Tup (R 4 (.i .i64))} {b : Tup (R 4 (.i .i64))} {less : Bool} {w : World} {K : (Tup (R 4 (.i .i64))) × (Tup (R 4 (.i .i64))) × (Bool) × Unit → World → Prop} (h : impl.below.vc a b less w K) : CallT (.n [(.ag (R 4 (.i .i64))), (.ag (R 4 (.i .i64))), (.lf .b)]) P0 196 [(.agg (Tup.cells (R 4 (.i .i64)) a).toArray), (.agg (Tup.cells (R 4 (.i .i64)) b).toArray), (.bool less)] w K :=
  call_of Tryz.func196 rfl rfl (pl := impl.below.pl) (show VC P0 Tryz.f196 impl.below.pl (.n [(.ag (R 4 (.i .i64))), (.ag (R 4 (.i .i64))), (.lf .b)]) [(.agg (Tup.cells (R 4 (.i .i64)) a).toArray), (.agg (Tup.cells (R 4 (.i .i64)) b).toArray), (.bool less)] w K noP from Eq.mp (by kernel_rfl) h)
/- impl.branch -/
def impl.branch.pl : Pl := (.s (.r (D 5)) (.s (.g [((.g (.o (.ag (R 4 (.i .i64)))) (.l (.ag (R 4 (.i .i64))))), []), ((.g (.o (.ag (R 4 (.i .i64)))) (.c (.o (.ag (R 4 (.i .i64)))))), [0]), ((.g (.o (.ag (R 4 (.i .i64)))) (.l (.ag (R 4 (.i .i64))))), []), ((.g (.o (.ag (R 4 (.i .i64)))) (.c (.o (.ag (R 4 (.i .i64)))))), [2]), ((.g .z .d), [1])] [.d]) (.s (.s (.r (D 1)) (.b (.s (.r (D 2)) (.c (.s (.r [(.l (.ag (R 4 (.i .i64)))), (.l (.ag (R 4 (.i .i64)))), .d, (.c (.n [(.ag (R 4 (.i .i64))), (.ag (R 4 (.i .i64))), (.lf .b)])), .d, .d, .d, .d, .d, .d]) .z) (.s (.r (D 2)) (.c (.s (.r [(.l (.ag (R 4 (.i .i64)))), (.l (.ag (R 4 (.i .i64)))), .d, (.c (.n [(.ag (R 4 (.i .i64))), (.ag (R 4 (.i .i64))), (.lf .b)])), .d, .d, .d, .d, .d, .d, .d, .d, .d]) (.s (.g [((.g (.o (.ag (R 4 (.i .i64)))) (.l (.ag (R 4 (.i .i64))))), []), ((.g (.o (.ag (R 4 (.i .i64)))) (.l (.ag (R 4 (.i .i64))))), []), (.q, []), ((.g .z .d), [0]), ((.g .z .d), [1])] [.d]) .z)) .z)))))) (.s (.s (.r (D 4)) (.c (.s (.r [(.l (.ag (R 4 (.i .i64)))), (.l (.ag (R 4 (.i .i64)))), (.c (.n [(.ag (R 4 (.i .i64))), (.lf .b)])), .d, .d, .d, .d, .d, .d]) (.s (.g [((.g (.o (.ag (R 4 (.i .i64)))) (.l (.ag (R 4 (.i .i64))))), []), ((.g (.o (.ag (R 4 (.i .i64)))) (.l (.ag (R 4 (.i .i64))))), []), (.q, []), ((.g .z .d), [0]), ((.g .z .d), [1])] [.d]) .z)) .z)) (.s (.r [(.l (.ag (R 4 (.i .i64)))), (.l (.ag (R 4 (.i .i64)))), (.c (.n [(.ag (R 4 (.i .i64))), (.lf .b)])), .d, .d, .d, .d, .d, .d]) (.s (.r [(.l (.ag (R 4 (.i .i64)))), (.l (.ag (R 4 (.i .i64)))), (.c (.n [(.ag (R 4 (.i .i64))), (.lf .b)])), .d, .d, .d, .d, .d, .d]) (.s (.s (.r [.d, .d, (.sp .d), .d, .d, .d]) (.c (.s (.r [(.c (.o (.ag (R 4 (.i .i64))))), (.c (.o (.ag (R 4 (.i .i64))))), .d, .d, .d]) .z) .z)) (.s (.g [((.g (.o (.ag (R 4 (.i .i64)))) (.l (.ag (R 4 (.i .i64))))), []), ((.g (.o (.ag (R 4 (.i .i64)))) (.l (.ag (R 4 (.i .i64))))), []), ((.g .z .d), [0])] [.d, .d]) .z))))))))
set_option maxHeartbeats 4000000 in
def impl.branch.vc (op : Int) (a : Tup (R 4 (.i .i64))) (b : Tup (R 4 (.i .i64))) (is : Bool) (w : World) (K : (Tup (R 4 (.i .i64))) × (Tup (R 4 (.i .i64))) × (Bool) × Unit → World → Prop) : Prop :=
Nw (Tup.cells (R 4 (.i .i64)) a).toArray 90 w fun a_a w_ =>
Nw (Tup.cells (R 4 (.i .i64)) b).toArray 90 w_ fun a_b w__1 =>
Nw (zc P0 90) 90 w__1 fun a_t8 w__2 =>
Nw (zc P0 90) 90 w__2 fun a_t9 w__3 =>
∃ Sp : World → World → Prop, SpOk Sp w__3 ∧
∃ G_t20 : Tup (R 4 (.i .i64)) → World → Prop, Kept Sp G_t20 ∧
∃ G_t21 : Tup (R 4 (.i .i64)) → World → Prop, Kept Sp G_t21 ∧
∃ G_t22 : Tup (R 4 (.i .i64)) → World → Prop, Kept Sp G_t22 ∧
∃ G_t23 : Tup (R 4 (.i .i64)) → World → Prop, Kept Sp G_t23 ∧
∃ G_st : Unit → World → Prop, Kept Sp G_st ∧
(∀ w__4, Sp w__3 w__4 → LdA (R 4 (.i .i64)) a_a w__4 fun (t20 : Tup (R 4 (.i .i64))) w__5 =>
GK (.o (.ag (R 4 (.i .i64)))) Sp w__4 G_t20 (.agg (Tup.cells (R 4 (.i .i64)) t20).toArray) w__5) ∧
∀ (t20_1 : Tup (R 4 (.i .i64))), (∀ w__6, Sp w__3 w__6 → G_t20 t20_1 w__6 → CallT (.o (.ag (R 4 (.i .i64)))) P0 195 [(.agg (Tup.cells (R 4 (.i .i64)) t20_1).toArray)] w__6 fun (t21 : Tup (R 4 (.i .i64))) w__7 =>
GK (.o (.ag (R 4 (.i .i64)))) Sp w__6 G_t21 (.agg (Tup.cells (R 4 (.i .i64)) t21).toArray) w__7) ∧
∀ (t21_1 : Tup (R 4 (.i .i64))), (∀ w__8, Sp w__3 w__8 → LdA (R 4 (.i .i64)) a_b w__8 fun (t22 : Tup (R 4 (.i .i64))) w__9 =>
GK (.o (.ag (R 4 (.i .i64)))) Sp w__8 G_t22 (.agg (Tup.cells (R 4 (.i .i64)) t22).toArray) w__9) ∧
∀ (t22_1 : Tup (R 4 (.i .i64))), (∀ w__10, Sp w__3 w__10 → G_t22 t22_1 w__10 → CallT (.o (.ag (R 4 (.i .i64)))) P0 195 [(.agg (Tup.cells (R 4 (.i .i64)) t22_1).toArray)] w__10 fun (t23 : Tup (R 4 (.i .i64))) w__11 =>
GK (.o (.ag (R 4 (.i .i64)))) Sp w__10 G_t23 (.agg (Tup.cells (R 4 (.i .i64)) t23).toArray) w__11) ∧
∀ (t23_1 : Tup (R 4 (.i .i64))), (∀ w__12, Sp w__3 w__12 → G_t21 t21_1 w__12 → StA P0 a_a (Tup.cells (R 4 (.i .i64)) t21_1) w__12 fun w__13 =>
GK .z Sp w__12 G_st (.tuple #[]) w__13) ∧
∀ (st : Unit), ∀ w__14, Sp w__3 w__14 → G_t20 t20_1 w__14 → G_t21 t21_1 w__14 → G_t22 t22_1 w__14 → G_t23 t23_1 w__14 → G_st st w__14 → 
StA P0 a_b (Tup.cells (R 4 (.i .i64)) t23_1) w__14 fun w__15 =>
(((op : Int) == 14) = true → LdA (R 4 (.i .i64)) a_a w__15 fun (t27 : Tup (R 4 (.i .i64))) w__16 =>
LdA (R 4 (.i .i64)) a_b w__16 fun (t28 : Tup (R 4 (.i .i64))) w__17 =>
CallT (.n [(.ag (R 4 (.i .i64))), (.ag (R 4 (.i .i64))), (.lf .b)]) P0 196 [(.agg (Tup.cells (R 4 (.i .i64)) t27).toArray), (.agg (Tup.cells (R 4 (.i .i64)) t28).toArray), (.bool is)] w__17 fun (t30 : (Tup (R 4 (.i .i64))) × (Tup (R 4 (.i .i64))) × (Bool) × Unit) w__18 =>
StA P0 a_t8 (Tup.cells (R 4 (.i .i64)) t30.1) w__18 fun w__19 =>
StA P0 a_t9 (Tup.cells (R 4 (.i .i64)) t30.2.1) w__19 fun w__20 =>
LdA (R 4 (.i .i64)) a_t8 w__20 fun r w__21 =>
LdA (R 4 (.i .i64)) a_t9 w__20 fun r_1 w__22 =>
K (r, (r_1, (t30.2.2.1, ()))) w__20) ∧
(((op : Int) == 14) = false → (((op : Int) == 15) = true → LdA (R 4 (.i .i64)) a_b w__15 fun (t37 : Tup (R 4 (.i .i64))) w__23 =>
LdA (R 4 (.i .i64)) a_a w__23 fun (t38 : Tup (R 4 (.i .i64))) w__24 =>
CallT (.n [(.ag (R 4 (.i .i64))), (.ag (R 4 (.i .i64))), (.lf .b)]) P0 196 [(.agg (Tup.cells (R 4 (.i .i64)) t37).toArray), (.agg (Tup.cells (R 4 (.i .i64)) t38).toArray), (.bool is)] w__24 fun (t40 : (Tup (R 4 (.i .i64))) × (Tup (R 4 (.i .i64))) × (Bool) × Unit) w__25 =>
Nw (zc P0 90) 90 w__25 fun a_y w__26 =>
Nw (zc P0 90) 90 w__26 fun a_x w__27 =>
StA P0 a_y (Tup.cells (R 4 (.i .i64)) t40.1) w__27 fun w__28 =>
StA P0 a_x (Tup.cells (R 4 (.i .i64)) t40.2.1) w__28 fun w__29 =>
∃ Sp_1 : World → World → Prop, SpOk Sp_1 w__29 ∧
∃ G_t44 : Tup (R 4 (.i .i64)) → World → Prop, Kept Sp_1 G_t44 ∧
∃ G_t45 : Tup (R 4 (.i .i64)) → World → Prop, Kept Sp_1 G_t45 ∧
∃ G_st_1 : Unit → World → Prop, Kept Sp_1 G_st_1 ∧
∃ G_st_2 : Unit → World → Prop, Kept Sp_1 G_st_2 ∧
(∀ w__30, Sp_1 w__29 w__30 → LdA (R 4 (.i .i64)) a_x w__30 fun (t44 : Tup (R 4 (.i .i64))) w__31 =>
GK (.o (.ag (R 4 (.i .i64)))) Sp_1 w__30 G_t44 (.agg (Tup.cells (R 4 (.i .i64)) t44).toArray) w__31) ∧
∀ (t44_1 : Tup (R 4 (.i .i64))), (∀ w__32, Sp_1 w__29 w__32 → LdA (R 4 (.i .i64)) a_y w__32 fun (t45 : Tup (R 4 (.i .i64))) w__33 =>
GK (.o (.ag (R 4 (.i .i64)))) Sp_1 w__32 G_t45 (.agg (Tup.cells (R 4 (.i .i64)) t45).toArray) w__33) ∧
∀ (t45_1 : Tup (R 4 (.i .i64))), (∀ w__34, Sp_1 w__29 w__34 → G_t44 t44_1 w__34 → StA P0 a_t8 (Tup.cells (R 4 (.i .i64)) t44_1) w__34 fun w__35 =>
GK .z Sp_1 w__34 G_st_1 (.tuple #[]) w__35) ∧
∀ (st_1 : Unit), (∀ w__36, Sp_1 w__29 w__36 → G_t45 t45_1 w__36 → StA P0 a_t9 (Tup.cells (R 4 (.i .i64)) t45_1) w__36 fun w__37 =>
GK .z Sp_1 w__36 G_st_2 (.tuple #[]) w__37) ∧
∀ (st_2 : Unit), ∀ w__38, Sp_1 w__29 w__38 → G_t44 t44_1 w__38 → G_t45 t45_1 w__38 → G_st_1 st_1 w__38 → G_st_2 st_2 w__38 → 
LdA (R 4 (.i .i64)) a_t8 w__38 fun r_2 w__39 =>
LdA (R 4 (.i .i64)) a_t9 w__38 fun r_3 w__40 =>
K (r_2, (r_3, (t40.2.2.1, ()))) w__38) ∧
(((op : Int) == 15) = false → ((is == ((op : Int) == 12)) = true → LdA (R 4 (.i .i64)) a_a w__15 fun (t52 : Tup (R 4 (.i .i64))) w__41 =>
LdA (R 4 (.i .i64)) a_b w__41 fun (t53 : Tup (R 4 (.i .i64))) w__42 =>
CallT (.n [(.ag (R 4 (.i .i64))), (.lf .b)]) P0 197 [(.agg (Tup.cells (R 4 (.i .i64)) t52).toArray), (.agg (Tup.cells (R 4 (.i .i64)) t53).toArray)] w__42 fun (t54 : (Tup (R 4 (.i .i64))) × (Bool) × Unit) w__43 =>
Nw (zc P0 90) 90 w__43 fun a_m w__44 =>
StA P0 a_m (Tup.cells (R 4 (.i .i64)) t54.1) w__44 fun w__45 =>
∃ Sp_2 : World → World → Prop, SpOk Sp_2 w__45 ∧
∃ G_t57 : Tup (R 4 (.i .i64)) → World → Prop, Kept Sp_2 G_t57 ∧
∃ G_t58 : Tup (R 4 (.i .i64)) → World → Prop, Kept Sp_2 G_t58 ∧
∃ G_st_1 : Unit → World → Prop, Kept Sp_2 G_st_1 ∧
∃ G_st_2 : Unit → World → Prop, Kept Sp_2 G_st_2 ∧
(∀ w__46, Sp_2 w__45 w__46 → LdA (R 4 (.i .i64)) a_m w__46 fun (t57 : Tup (R 4 (.i .i64))) w__47 =>
GK (.o (.ag (R 4 (.i .i64)))) Sp_2 w__46 G_t57 (.agg (Tup.cells (R 4 (.i .i64)) t57).toArray) w__47) ∧
∀ (t57_1 : Tup (R 4 (.i .i64))), (∀ w__48, Sp_2 w__45 w__48 → LdA (R 4 (.i .i64)) a_m w__48 fun (t58 : Tup (R 4 (.i .i64))) w__49 =>
GK (.o (.ag (R 4 (.i .i64)))) Sp_2 w__48 G_t58 (.agg (Tup.cells (R 4 (.i .i64)) t58).toArray) w__49) ∧
∀ (t58_1 : Tup (R 4 (.i .i64))), (∀ w__50, Sp_2 w__45 w__50 → G_t57 t57_1 w__50 → StA P0 a_t8 (Tup.cells (R 4 (.i .i64)) t57_1) w__50 fun w__51 =>
GK .z Sp_2 w__50 G_st_1 (.tuple #[]) w__51) ∧
∀ (st_3 : Unit), (∀ w__52, Sp_2 w__45 w__52 → G_t58 t58_1 w__52 → StA P0 a_t9 (Tup.cells (R 4 (.i .i64)) t58_1) w__52 fun w__53 =>
GK .z Sp_2 w__52 G_st_2 (.tuple #[]) w__53) ∧
∀ (st_4 : Unit), ∀ w__54, Sp_2 w__45 w__54 → G_t57 t57_1 w__54 → G_t58 t58_1 w__54 → G_st_1 st_3 w__54 → G_st_2 st_4 w__54 → 
LdA (R 4 (.i .i64)) a_t8 w__54 fun r_4 w__55 =>
LdA (R 4 (.i .i64)) a_t9 w__54 fun r_5 w__56 =>
K (r_4, (r_5, (t54.2.1, ()))) w__54) ∧
((is == ((op : Int) == 12)) = false → LdA (R 4 (.i .i64)) a_a w__15 fun (t61 : Tup (R 4 (.i .i64))) w__57 =>
LdA (R 4 (.i .i64)) a_b w__57 fun (t62 : Tup (R 4 (.i .i64))) w__58 =>
CallT (.n [(.ag (R 4 (.i .i64))), (.lf .b)]) P0 198 [(.agg (Tup.cells (R 4 (.i .i64)) t61).toArray), (.agg (Tup.cells (R 4 (.i .i64)) t62).toArray)] w__58 fun (t63 : (Tup (R 4 (.i .i64))) × (Bool) × Unit) w__59 =>
Nw (zc P0 90) 90 w__59 fun a_x_1 w__60 =>
StA P0 a_x_1 (Tup.cells (R 4 (.i .i64)) t63.1) w__60 fun w__61 =>
LdA (R 4 (.i .i64)) a_b w__61 fun (t67 : Tup (R 4 (.i .i64))) w__62 =>
LdA (R 4 (.i .i64)) a_a w__62 fun (t68 : Tup (R 4 (.i .i64))) w__63 =>
CallT (.n [(.ag (R 4 (.i .i64))), (.lf .b)]) P0 198 [(.agg (Tup.cells (R 4 (.i .i64)) t67).toArray), (.agg (Tup.cells (R 4 (.i .i64)) t68).toArray)] w__63 fun (t69 : (Tup (R 4 (.i .i64))) × (Bool) × Unit) w__64 =>
Nw (zc P0 90) 90 w__64 fun a_y_1 w__65 =>
StA P0 a_y_1 (Tup.cells (R 4 (.i .i64)) t69.1) w__65 fun w__66 =>
((!t63.2.1) = true → CallT (.o (.ag (R 4 (.i .i64)))) P0 199 [] w__66 fun (t78 : Tup (R 4 (.i .i64))) w__67 =>
CallT (.o (.ag (R 4 (.i .i64)))) P0 199 [] w__67 fun (t79 : Tup (R 4 (.i .i64))) w__68 =>
StA P0 a_t8 (Tup.cells (R 4 (.i .i64)) t78) w__68 fun w__69 =>
StA P0 a_t9 (Tup.cells (R 4 (.i .i64)) t79) w__69 fun w__70 =>
LdA (R 4 (.i .i64)) a_t8 w__70 fun r_6 w__71 =>
LdA (R 4 (.i .i64)) a_t9 w__70 fun r_7 w__72 =>
K (r_6, (r_7, (false, ()))) w__70) ∧
((!t63.2.1) = false → ((!t69.2.1) = true → CallT (.o (.ag (R 4 (.i .i64)))) P0 199 [] w__66 fun (t78_1 : Tup (R 4 (.i .i64))) w__73 =>
CallT (.o (.ag (R 4 (.i .i64)))) P0 199 [] w__73 fun (t79_1 : Tup (R 4 (.i .i64))) w__74 =>
StA P0 a_t8 (Tup.cells (R 4 (.i .i64)) t78_1) w__74 fun w__75 =>
StA P0 a_t9 (Tup.cells (R 4 (.i .i64)) t79_1) w__75 fun w__76 =>
LdA (R 4 (.i .i64)) a_t8 w__76 fun r_8 w__77 =>
LdA (R 4 (.i .i64)) a_t9 w__76 fun r_9 w__78 =>
K (r_8, (r_9, (false, ()))) w__76) ∧
((!t69.2.1) = false → ∃ Sp_3 : World → World → Prop, SpOk Sp_3 w__66 ∧
∃ G_t80 : Tup (R 4 (.i .i64)) → World → Prop, Kept Sp_3 G_t80 ∧
∃ G_t81 : Tup (R 4 (.i .i64)) → World → Prop, Kept Sp_3 G_t81 ∧
∃ G_st_1 : Unit → World → Prop, Kept Sp_3 G_st_1 ∧
(∀ w__79, Sp_3 w__66 w__79 → LdA (R 4 (.i .i64)) a_x_1 w__79 fun (t80 : Tup (R 4 (.i .i64))) w__80 =>
GK (.o (.ag (R 4 (.i .i64)))) Sp_3 w__79 G_t80 (.agg (Tup.cells (R 4 (.i .i64)) t80).toArray) w__80) ∧
∀ (t80_1 : Tup (R 4 (.i .i64))), (∀ w__81, Sp_3 w__66 w__81 → LdA (R 4 (.i .i64)) a_y_1 w__81 fun (t81 : Tup (R 4 (.i .i64))) w__82 =>
GK (.o (.ag (R 4 (.i .i64)))) Sp_3 w__81 G_t81 (.agg (Tup.cells (R 4 (.i .i64)) t81).toArray) w__82) ∧
∀ (t81_1 : Tup (R 4 (.i .i64))), (∀ w__83, Sp_3 w__66 w__83 → G_t80 t80_1 w__83 → StA P0 a_t8 (Tup.cells (R 4 (.i .i64)) t80_1) w__83 fun w__84 =>
GK .z Sp_3 w__83 G_st_1 (.tuple #[]) w__84) ∧
∀ (st_5 : Unit), ∀ w__85, Sp_3 w__66 w__85 → G_t80 t80_1 w__85 → G_t81 t81_1 w__85 → G_st_1 st_5 w__85 → 
StA P0 a_t9 (Tup.cells (R 4 (.i .i64)) t81_1) w__85 fun w__86 =>
LdA (R 4 (.i .i64)) a_t8 w__86 fun r_10 w__87 =>
LdA (R 4 (.i .i64)) a_t9 w__86 fun r_11 w__88 =>
K (r_10, (r_11, (true, ()))) w__86)))))
theorem impl.branch.ok {op : Int} {a : Tup (R 4 (.i .i64))} {b : Tup (R 4 (.i .i64))} {is : Bool} {w : World} {K : (Tup (R 4 (.i .i64))) × (Tup (R 4 (.i .i64))) × (Bool) × Unit → World → Prop} (h : impl.branch.vc op a b is w K) : CallT (.n [(.ag (R 4 (.i .i64))), (.ag (R 4 (.i .i64))), (.lf .b)]) P0 175 [(.int .i64 op), (.agg (Tup.cells (R 4 (.i .i64)) a).toArray), (.agg (Tup.cells (R 4 (.i .i64)) b).toArray), (.bool is)] w K :=
  call_of Tryz.func175 rfl rfl (pl := impl.branch.pl) (show VC P0 Tryz.f175 impl.branch.pl (.n [(.ag (R 4 (.i .i64))), (.ag (R 4 (.i .i64))), (.lf .b)]) [(.int .i64 op), (.agg (Tup.cells (R 4 (.i .i64)) a).toArray), (.agg (Tup.cells (R 4 (.i .i64)) b).toArray), (.bool is)] w K noP from Eq.mp (by kernel_rfl) h)
end Go.Proofs.YtihllippchgkgaaGreat.V

/- Verification conditions, printed by this session's own program (wip/vc.py) and checked by the kernel. -/
namespace Go.Proofs.YtihllippchgkgaaGreat.V
open Go Go.RowKit
set_option linter.unusedVariables false
/- spec.l20Open -/
def spec.l20Open.pl : Pl := (.s (.r (D 1)) (.s (.s (.r (D 3)) (.c (.r [.d, (.t (.o (.lf .sl))), .d]) .z)) (.s (.r (D 4)) .z)))
def spec.l20Open.vc (code : Sl) (w : World) (K : Option Addr → World → Prop) : Prop :=
((decide ((((code.n : Nat) : Int) : Int) > 2000)) = true → RunT (.o (.lf .sl)) P0 (Instr.sliceAt 22 code.v none (some (.int .i64 2000)) none) w fun (t7 : Sl) w_ =>
Nw #[t7.v, (.int .i64 0)] 103 w_ fun a_t10 w__1 =>
K (some a_t10) w__1) ∧
((decide ((((code.n : Nat) : Int) : Int) > 2000)) = false → Nw #[code.v, (.int .i64 0)] 103 w fun a_t10_1 w__2 =>
K (some a_t10_1) w__2)
theorem spec.l20Open.ok {code : Sl} {w : World} {K : Option Addr → World → Prop} (h : spec.l20Open.vc code w K) : CallT (.o (.lf .p)) P0 31 [code.v] w K :=
  call_of Tryz.func31 rfl rfl (pl := spec.l20Open.pl) (show VC P0 Tryz.f31 spec.l20Open.pl (.o (.lf .p)) [code.v] w K noP from Eq.mp (by kernel_rfl) h)
/- (spec.l20Rd).pick -/
def spec.l20Rd.pick.pl : Pl := (.s (.r (D 1)) (.s (.r [.d, .d, .n, .d, (.l (.lf (.i .i64))), .d, .n, .d, .d]) (.j [] (.s (.r [.d, .d, (.sp .d), .d, .n, .d, (.l (.lf .sl)), .d, .d, .d]) (.c (.s (.r (D 1)) .z) .z)) (.s (.r [.d, .n, .d, (.l (.lf (.i .i64))), .d, .d]) (.s (.s (.r [.d, .d, .n, .d, (.l (.lf .sl)), .d, .d]) (.c (.s (.r [.d, .n, .d, (.l (.lf .sl)), .d, .d, (.l (.lf (.i .u8))), .d, .d, .d, .d]) .z) .z)) (.s (.r [.d, .n, .d, (.l (.lf .sl)), .d, .d, .n, .d, (.l (.lf .sl)), .d, .d, .d, (.l (.lf (.i .u8))), .d, .d, .d, .n, .d, (.l (.lf .sl)), .d, .d, .d, .d, .n, .d, (.l (.lf .sl)), .d, .d, .d, (.l (.lf (.i .u8))), .d, .d, .d, .d, .d, .d, .d, .d, .n, .d, (.l (.lf .sl)), .d, .d, .d, .d, .d]) (.s (.r (D 5)) (.s (.r (D 4)) .z))))))))
def spec.l20Rd.pick.vc (r : Option Addr) (n : Int) (w : World) (K : Int → World → Prop) : Prop :=
Nc r w fun a_t9 w_ =>
Ld (.i .i64) (Addr.add a_t9 1) w_ fun (t11 : Int) w__1 =>
Nc r w__1 fun a_t13 w__2 =>
St (Addr.add a_t13 1) (.int .i64 (IntKind.wrap .i64 (t11 + 1))) w__2 fun w__3 =>
∃ J : World → Prop,
(((decide ((n : Int) < 1)) = true → K 0 w__3) ∧
((decide ((n : Int) < 1)) = false → Nc r w__3 fun a_t19 w__4 =>
Ld .sl (Addr.add a_t19 0) w__4 fun (t21 : Sl) w__5 =>
(((((t21.n : Nat) : Int) : Int) == 0) = true → K 0 w__5) ∧
(((((t21.n : Nat) : Int) : Int) == 0) = false → J w__5))) ∧
(∀  w__6, J w__6 → ∀ _ : Nat → Value,
Nc r w__6 fun a_t26 w__7 =>
Ld (.i .i64) (Addr.add a_t26 1) w__7 fun (t28 : Int) w__8 =>
Nc r w__8 fun a_t32 w__9 =>
Ld .sl (Addr.add a_t32 0) w__9 fun (t34 : Sl) w__10 =>
((decide (((IntKind.wrap .i64 (t28 - 1)) : Int) < ((t34.n : Nat) : Int))) = true → Nc r w__10 fun a_t38 w__11 =>
Ld .sl (Addr.add a_t38 0) w__11 fun (t40 : Sl) w__12 =>
Ix t40.a t40.n (IntKind.wrap .i64 (t28 - 1)) 1 w__12 fun a_t42 w__13 =>
Ld (.i .u8) a_t42 w__13 fun (t43 : Int) w__14 =>
(n : Int) ≠ 0 ∧ K (Int.tmod (IntKind.wrap .i64 t43) n) w__14) ∧
((decide (((IntKind.wrap .i64 (t28 - 1)) : Int) < ((t34.n : Nat) : Int))) = false → ∃ a_t48, r = some a_t48 ∧ QLd .sl (Addr.add a_t48 0) (fun w' => Below (World.heap w__10).size w__10 w') fun (t50 : Sl) =>
∃ a_t53, r = some a_t53 ∧ QLd .sl (Addr.add a_t53 0) (fun w' => Below (World.heap w__10).size w__10 w') fun (t55 : Sl) =>
(((t55.n : Nat) : Int) : Int) ≠ 0 ∧ QIx t50.a t50.n (Int.tmod (IntKind.wrap .i64 (t28 - 1)) ((t55.n : Nat) : Int)) 1 fun a_t58 =>
QLd (.i .u8) a_t58 (fun w' => Below (World.heap w__10).size w__10 w') fun (t59 : Int) =>
∃ a_t63, r = some a_t63 ∧ QLd .sl (Addr.add a_t63 0) (fun w' => Below (World.heap w__10).size w__10 w') fun (t65 : Sl) =>
∃ a_t70, r = some a_t70 ∧ QLd .sl (Addr.add a_t70 0) (fun w' => Below (World.heap w__10).size w__10 w') fun (t72 : Sl) =>
(((t72.n : Nat) : Int) : Int) ≠ 0 ∧ QIx t65.a t65.n (Int.tmod (IntKind.wrap .i64 ((IntKind.wrap .i64 ((IntKind.wrap .i64 (t28 - 1)) * 7)) + 3)) ((t72.n : Nat) : Int)) 1 fun a_t75 =>
QLd (.i .u8) a_t75 (fun w' => Below (World.heap w__10).size w__10 w') fun (t76 : Int) =>
∃ a_t85, r = some a_t85 ∧ QLd .sl (Addr.add a_t85 0) (fun w' => Below (World.heap w__10).size w__10 w') fun (t87 : Sl) =>
(((t87.n : Nat) : Int) : Int) ≠ 0 ∧ ∀ w__15, Below (World.heap w__10).size w__10 w__15 →
(64 : Int) ≠ 0 ∧ (n : Int) ≠ 0 ∧ K (Int.tmod (iXor .i64 (IntKind.wrap .i64 ((IntKind.wrap .i64 ((IntKind.wrap .i64 ((IntKind.wrap .i64 ((IntKind.wrap .i64 t59) * 131)) + (IntKind.wrap .i64 ((IntKind.wrap .i64 t76) * 1117)))) + (IntKind.wrap .i64 ((IntKind.wrap .i64 (t28 - 1)) * 29)))) + (IntKind.wrap .i64 ((IntKind.wrap .i64 (Int.tdiv (IntKind.wrap .i64 (t28 - 1)) ((t87.n : Nat) : Int))) * 53)))) (IntKind.wrap .i64 (Int.tdiv (IntKind.wrap .i64 ((IntKind.wrap .i64 ((IntKind.wrap .i64 ((IntKind.wrap .i64 ((IntKind.wrap .i64 t59) * 131)) + (IntKind.wrap .i64 ((IntKind.wrap .i64 t76) * 1117)))) + (IntKind.wrap .i64 ((IntKind.wrap .i64 (t28 - 1)) * 29)))) + (IntKind.wrap .i64 ((IntKind.wrap .i64 (Int.tdiv (IntKind.wrap .i64 (t28 - 1)) ((t87.n : Nat) : Int))) * 53)))) 64))) n) w__15))
theorem spec.l20Rd.pick.ok {r : Option Addr} {n : Int} {w : World} {K : Int → World → Prop} (h : spec.l20Rd.pick.vc r n w K) : CallT (.o (.lf (.i .i64))) P0 42 [(.pointer r), (.int .i64 n)] w K :=
  call_of Tryz.func42 rfl rfl (pl := spec.l20Rd.pick.pl) (show VC P0 Tryz.f42 spec.l20Rd.pick.pl (.o (.lf (.i .i64))) [(.pointer r), (.int .i64 n)] w K noP from Eq.mp (by kernel_rfl) h)
/- (spec.l20Rd).one -/
def spec.l20Rd.one.pl : Pl := (.s (.r (D 1)) (.s (.r [.d, .d, .d, .d, (.c (.o (.lf (.i .i64)))), .d, (.l (.lf (.i .i64))), .d]) .z))
def spec.l20Rd.one.vc (r : Option Addr) (list : Sl) (w : World) (K : Int → World → Prop) : Prop :=
CallT (.o (.lf (.i .i64))) P0 42 [(.pointer r), (.int .i64 ((list.n : Nat) : Int))] w fun (t9 : Int) w_ =>
Ix list.a list.n t9 1 w_ fun a_t10 w__1 =>
Ld (.i .i64) a_t10 w__1 fun (t11 : Int) w__2 =>
K t11 w__2
theorem spec.l20Rd.one.ok {r : Option Addr} {list : Sl} {w : World} {K : Int → World → Prop} (h : spec.l20Rd.one.vc r list w K) : CallT (.o (.lf (.i .i64))) P0 82 [(.pointer r), list.v] w K :=
  call_of Tryz.func82 rfl rfl (pl := spec.l20Rd.one.pl) (show VC P0 Tryz.f82 spec.l20Rd.one.pl (.o (.lf (.i .i64))) [(.pointer r), list.v] w K noP from Eq.mp (by kernel_rfl) h)
/- spec.l20Imm -/
def spec.l20Imm.pl : Pl := (.s (.r (D 1)) (.s (.r [.d, .d, (.c (.o (.lf (.i .i64)))), .d]) .z))
def spec.l20Imm.vc (r : Option Addr) (w : World) (K : Int → World → Prop) : Prop :=
Nw #[(.int .i64 0), (.int .i64 1), (.int .i64 2), (.int .i64 3), (.int .i64 7), (.int .i64 8), (.int .i64 15), (.int .i64 31), (.int .i64 100), (.int .i64 255), (.int .i64 65535), (.int .i64 2147483647), (.int .i64 2147483648), (.int .i64 4294967295)] 3 w fun a_t4 w_ =>
CallT (.o (.lf (.i .i64))) P0 82 [(.pointer r), (.slice (some a_t4) 14 14)] w_ fun (t5 : Int) w__1 =>
K t5 w__1
theorem spec.l20Imm.ok {r : Option Addr} {w : World} {K : Int → World → Prop} (h : spec.l20Imm.vc r w K) : CallT (.o (.lf (.i .i64))) P0 81 [(.pointer r)] w K :=
  call_of Tryz.func81 rfl rfl (pl := spec.l20Imm.pl) (show VC P0 Tryz.f81 spec.l20Imm.pl (.o (.lf (.i .i64))) [(.pointer r)] w K noP from Eq.mp (by kernel_rfl) h)
/- spec.l20Alu -/
def spec.l20Alu.pl : Pl := (.s (.r (D 1)) (.s (.r [.d, (.c (.o (.lf (.i .i64)))), .d, .d, .d, (.c (.o (.lf (.i .i64)))), .d, (.c (.o (.lf (.i .i64)))), .d, .d, .d]) (.s (.s (.r [.d, (.c (.o (.lf (.i .i64)))), .d]) (.c (.s (.r [.d, .d, (.c (.o (.lf (.i .i64)))), .d, .d]) (.r (D 2))) .z)) (.s (.r [(.l (.ag (R 6 (.i .i64)))), .d]) .z))))
def spec.l20Alu.vc (r : Option Addr) (w : World) (K : Tup (R 6 (.i .i64)) → World → Prop) : Prop :=
Nw (zc P0 82) 82 w fun a_t2 w_ =>
CallT (.o (.lf (.i .i64))) P0 42 [(.pointer r), (.int .i64 11)] w_ fun (t5 : Int) w__1 =>
Nw #[(.int .i64 0), (.int .i64 6), (.int .i64 7), (.int .i64 8)] 3 w__1 fun a_t8 w__2 =>
CallT (.o (.lf (.i .i64))) P0 82 [(.pointer r), (.slice (some a_t8) 4 4)] w__2 fun (t9 : Int) w__3 =>
CallT (.o (.lf (.i .i64))) P0 81 [(.pointer r)] w__3 fun (t11 : Int) w__4 =>
Nw (zc P0 82) 82 w__4 fun a_x w__5 =>
StA P0 a_x [(.int .i64 (IntKind.wrap .i64 (1 + t5))), (.int .i64 t9), (.int .i64 (-1)), (.int .i64 0), (.int .i64 t11), (.int .i64 0)] w__5 fun w__6 =>
CallT (.o (.lf (.i .i64))) P0 42 [(.pointer r), (.int .i64 2)] w__6 fun (t14 : Int) w__7 =>
(((t14 : Int) == 0) = true → Nw #[(.int .i64 0), (.int .i64 6), (.int .i64 7), (.int .i64 8)] 3 w__7 fun a_t17 w__8 =>
CallT (.o (.lf (.i .i64))) P0 82 [(.pointer r), (.slice (some a_t17) 4 4)] w__8 fun (t18 : Int) w__9 =>
St (Addr.add a_x 2) (.int .i64 t18) w__9 fun w__10 =>
St (Addr.add a_x 4) (.int .i64 0) w__10 fun w__11 =>
LdA (R 6 (.i .i64)) a_x w__11 fun (t21 : Tup (R 6 (.i .i64))) w__12 =>
StA P0 a_t2 (Tup.cells (R 6 (.i .i64)) t21) w__12 fun w__13 =>
LdA (R 6 (.i .i64)) a_t2 w__13 fun r_1 w__14 =>
K r_1 w__13) ∧
(((t14 : Int) == 0) = false → LdA (R 6 (.i .i64)) a_x w__7 fun (t21_1 : Tup (R 6 (.i .i64))) w__15 =>
StA P0 a_t2 (Tup.cells (R 6 (.i .i64)) t21_1) w__15 fun w__16 =>
LdA (R 6 (.i .i64)) a_t2 w__16 fun r_2 w__17 =>
K r_2 w__16)
theorem spec.l20Alu.ok {r : Option Addr} {w : World} {K : Tup (R 6 (.i .i64)) → World → Prop} (h : spec.l20Alu.vc r w K) : CallT (.o (.ag (R 6 (.i .i64)))) P0 83 [(.pointer r)] w K :=
  call_of Tryz.func83 rfl rfl (pl := spec.l20Alu.pl) (show VC P0 Tryz.f83 spec.l20Alu.pl (.o (.ag (R 6 (.i .i64)))) [(.pointer r)] w K noP from Eq.mp (by kernel_rfl) h)
/- spec.l20Lines -/
def spec.l20Lines.pl : Pl := (.s (.r (D 1)) (.s (.r (D 17)) .z))
set_option maxHeartbeats 4000000 in
def spec.l20Lines.vc  (w : World) (K : Sl → World → Prop) : Prop :=
Nw #[(.string ⟨#[109, 111, 118, 32, 114, 48, 32, 49]⟩), (.string ⟨#[101, 120, 105, 116]⟩)] 9 w fun a_t1 w_ =>
Nw #[(.string ⟨#[108, 111, 97, 100, 49, 32, 114, 50, 32, 114, 49, 32, 48]⟩), (.string ⟨#[109, 111, 118, 32, 114, 48, 32, 48]⟩), (.string ⟨#[108, 101, 115, 115, 32, 114, 50, 32, 49, 48, 32, 49]⟩), (.string ⟨#[109, 111, 118, 32, 114, 48, 32, 49]⟩), (.string ⟨#[101, 120, 105, 116]⟩)] 9 w_ fun a_t2 w__1 =>
Nw #[(.string ⟨#[108, 111, 97, 100, 49, 32, 114, 54, 32, 114, 49, 32, 48]⟩), (.string ⟨#[97, 110, 100, 32, 114, 54, 32, 51]⟩), (.string ⟨#[109, 111, 118, 32, 114, 49, 32, 48]⟩), (.string ⟨#[109, 111, 118, 32, 114, 50, 32, 114, 54]⟩), (.string ⟨#[99, 97, 108, 108, 32, 108, 111, 111, 107]⟩), (.string ⟨#[111, 116, 104, 101, 114, 32, 114, 48, 32, 48, 32, 50]⟩), (.string ⟨#[109, 111, 118, 32, 114, 48, 32, 48]⟩), (.string ⟨#[101, 120, 105, 116]⟩), (.string ⟨#[108, 111, 97, 100, 49, 32, 114, 51, 32, 114, 48, 32, 48]⟩), (.string ⟨#[97, 100, 100, 32, 114, 51, 32, 49]⟩), (.string ⟨#[115, 116, 111, 114, 101, 49, 32, 114, 48, 32, 48, 32, 114, 51]⟩), (.string ⟨#[109, 111, 118, 32, 114, 48, 32, 49]⟩), (.string ⟨#[101, 120, 105, 116]⟩)] 9 w__1 fun a_t3 w__2 =>
Nw #[(.string ⟨#[108, 111, 97, 100, 52, 32, 114, 50, 32, 114, 49, 32, 48]⟩), (.string ⟨#[115, 116, 111, 114, 101, 52, 32, 114, 49, 48, 32, 45, 52, 32, 114, 50]⟩), (.string ⟨#[108, 111, 97, 100, 49, 32, 114, 48, 32, 114, 49, 48, 32, 45, 51]⟩), (.string ⟨#[97, 110, 100, 32, 114, 48, 32, 49]⟩), (.string ⟨#[101, 120, 105, 116]⟩)] 9 w__2 fun a_t4 w__3 =>
Nw #[(.string ⟨#[108, 111, 97, 100, 49, 32, 114, 49, 32, 114, 49, 32, 48]⟩), (.string ⟨#[99, 97, 108, 108, 32, 102, 105, 110, 100]⟩), (.string ⟨#[115, 97, 109, 101, 32, 114, 48, 32, 48, 32, 52]⟩), (.string ⟨#[109, 111, 118, 32, 114, 49, 32, 114, 48]⟩), (.string ⟨#[99, 97, 108, 108, 32, 100, 114, 111, 112]⟩), (.string ⟨#[109, 111, 118, 32, 114, 48, 32, 49]⟩), (.string ⟨#[101, 120, 105, 116]⟩), (.string ⟨#[109, 111, 118, 32, 114, 48, 32, 48]⟩), (.string ⟨#[101, 120, 105, 116]⟩)] 9 w__3 fun a_t5 w__4 =>
Nw #[(.string ⟨#[108, 111, 97, 100, 49, 32, 114, 49, 32, 114, 49, 32, 48]⟩), (.string ⟨#[99, 97, 108, 108, 32, 115, 101, 110, 100]⟩), (.string ⟨#[109, 111, 118, 32, 114, 48, 32, 50]⟩), (.string ⟨#[101, 120, 105, 116]⟩)] 9 w__4 fun a_t6 w__5 =>
Nw #[(.string ⟨#[109, 111, 118, 32, 114, 54, 32, 48]⟩), (.string ⟨#[97, 100, 100, 32, 114, 54, 32, 49]⟩), (.string ⟨#[108, 101, 115, 115, 32, 114, 54, 32, 53, 32, 45, 50]⟩), (.string ⟨#[109, 111, 118, 32, 114, 48, 32, 114, 54]⟩), (.string ⟨#[101, 120, 105, 116]⟩)] 9 w__5 fun a_t7 w__6 =>
Nw #[(.string ⟨#[108, 111, 97, 100, 49, 32, 114, 50, 32, 114, 49, 32, 48]⟩), (.string ⟨#[97, 110, 100, 32, 114, 50, 32, 55]⟩), (.string ⟨#[109, 111, 118, 32, 114, 51, 32, 114, 49]⟩), (.string ⟨#[97, 100, 100, 32, 114, 51, 32, 114, 50]⟩), (.string ⟨#[108, 111, 97, 100, 49, 32, 114, 48, 32, 114, 51, 32, 48]⟩), (.string ⟨#[101, 120, 105, 116]⟩)] 9 w__6 fun a_t8 w__7 =>
Nw #[(.string ⟨#[99, 97, 108, 108, 32, 114, 97, 110, 100]⟩), (.string ⟨#[109, 111, 100, 32, 114, 48, 32, 51]⟩), (.string ⟨#[101, 120, 105, 116]⟩)] 9 w__7 fun a_t9 w__8 =>
Nw #[(.string ⟨#[108, 111, 97, 100, 50, 32, 114, 50, 32, 114, 49, 32, 52]⟩), (.string ⟨#[109, 111, 118, 32, 114, 48, 32, 114, 50]⟩), (.string ⟨#[115, 104, 114, 32, 114, 48, 32, 52]⟩), (.string ⟨#[120, 111, 114, 32, 114, 48, 32, 50, 53, 53]⟩), (.string ⟨#[100, 105, 118, 32, 114, 48, 32, 51]⟩), (.string ⟨#[101, 120, 105, 116]⟩)] 9 w__8 fun a_t10 w__9 =>
Nw #[(.string ⟨#[108, 111, 97, 100, 49, 32, 114, 54, 32, 114, 49, 32, 48]⟩), (.string ⟨#[109, 111, 118, 32, 114, 49, 32, 49]⟩), (.string ⟨#[109, 111, 118, 32, 114, 50, 32, 114, 54]⟩), (.string ⟨#[109, 111, 118, 32, 114, 51, 32, 55]⟩), (.string ⟨#[99, 97, 108, 108, 32, 112, 117, 116]⟩), (.string ⟨#[101, 120, 105, 116]⟩)] 9 w__9 fun a_t11 w__10 =>
Nw #[(.string ⟨#[108, 111, 97, 100, 49, 32, 114, 49, 32, 114, 49, 32, 49]⟩), (.string ⟨#[99, 97, 108, 108, 32, 102, 105, 110, 100]⟩), (.string ⟨#[109, 111, 118, 32, 114, 54, 32, 114, 48]⟩), (.string ⟨#[111, 116, 104, 101, 114, 32, 114, 54, 32, 48, 32, 50]⟩), (.string ⟨#[109, 111, 118, 32, 114, 48, 32, 48]⟩), (.string ⟨#[101, 120, 105, 116]⟩), (.string ⟨#[109, 111, 118, 32, 114, 49, 32, 114, 54]⟩), (.string ⟨#[99, 97, 108, 108, 32, 100, 114, 111, 112]⟩), (.string ⟨#[109, 111, 118, 32, 114, 48, 32, 50]⟩), (.string ⟨#[101, 120, 105, 116]⟩)] 9 w__10 fun a_t12 w__11 =>
Nw #[(.string ⟨#[108, 111, 97, 100, 49, 32, 114, 50, 32, 114, 49, 32, 48]⟩), (.string ⟨#[109, 111, 114, 101, 32, 114, 50, 32, 55, 32, 50]⟩), (.string ⟨#[115, 116, 111, 114, 101, 49, 32, 114, 49, 48, 32, 45, 49, 32, 114, 50]⟩), (.string ⟨#[103, 111, 32, 49]⟩), (.string ⟨#[115, 116, 111, 114, 101, 49, 32, 114, 49, 48, 32, 45, 49, 32, 48]⟩), (.string ⟨#[108, 111, 97, 100, 49, 32, 114, 48, 32, 114, 49, 48, 32, 45, 49]⟩), (.string ⟨#[101, 120, 105, 116]⟩)] 9 w__11 fun a_t13 w__12 =>
Nw #[(.string ⟨#[108, 111, 97, 100, 49, 32, 114, 50, 32, 114, 49, 32, 48]⟩), (.string ⟨#[108, 101, 115, 115, 32, 114, 50, 32, 57, 32, 49]⟩), (.string ⟨#[109, 111, 118, 32, 114, 50, 32, 56]⟩), (.string ⟨#[109, 111, 118, 32, 114, 51, 32, 114, 49, 48]⟩), (.string ⟨#[115, 117, 98, 32, 114, 51, 32, 49, 54]⟩), (.string ⟨#[115, 116, 111, 114, 101, 52, 32, 114, 51, 32, 48, 32, 49]⟩), (.string ⟨#[115, 116, 111, 114, 101, 52, 32, 114, 51, 32, 52, 32, 50]⟩), (.string ⟨#[115, 116, 111, 114, 101, 52, 32, 114, 51, 32, 56, 32, 51]⟩), (.string ⟨#[97, 100, 100, 32, 114, 51, 32, 114, 50]⟩), (.string ⟨#[108, 111, 97, 100, 49, 32, 114, 48, 32, 114, 51, 32, 48]⟩), (.string ⟨#[101, 120, 105, 116]⟩)] 9 w__12 fun a_t14 w__13 =>
Nw #[(.string ⟨#[108, 111, 97, 100, 49, 32, 114, 50, 32, 114, 49, 32, 48]⟩), (.string ⟨#[109, 117, 108, 32, 114, 50, 32, 49, 48, 48, 48]⟩), (.string ⟨#[109, 111, 118, 32, 114, 48, 32, 114, 50]⟩), (.string ⟨#[109, 111, 114, 101, 32, 114, 48, 32, 49, 48, 48, 48, 48, 48, 32, 49]⟩), (.string ⟨#[115, 117, 98, 32, 114, 48, 32, 49]⟩), (.string ⟨#[101, 120, 105, 116]⟩)] 9 w__13 fun a_t15 w__14 =>
Nw #[(.slice (some a_t1) 2 2), (.slice (some a_t2) 5 5), (.slice (some a_t3) 13 13), (.slice (some a_t4) 5 5), (.slice (some a_t5) 9 9), (.slice (some a_t6) 4 4), (.slice (some a_t7) 5 5), (.slice (some a_t8) 6 6), (.slice (some a_t9) 3 3), (.slice (some a_t10) 6 6), (.slice (some a_t11) 6 6), (.slice (some a_t12) 10 10), (.slice (some a_t13) 7 7), (.slice (some a_t14) 11 11), (.slice (some a_t15) 6 6)] 98 w__14 fun a_t16 w__15 =>
K ⟨(some a_t16), 15, 15⟩ w__15
theorem spec.l20Lines.ok  {w : World} {K : Sl → World → Prop} (h : spec.l20Lines.vc  w K) : CallT (.o (.lf .sl)) P0 79 [] w K :=
  call_of Tryz.func79 rfl rfl (pl := spec.l20Lines.pl) (show VC P0 Tryz.f79 spec.l20Lines.pl (.o (.lf .sl)) [] w K noP from Eq.mp (by kernel_rfl) h)
/- spec.l20Read -/
def spec.l20Read.pl : Pl := (.s (.r (D 1)) (.s (.r (D 2)) (.s (.s (.r (D 1)) (.b (.l [(3, .sl), (4, (.i .i64))] (.s (.s (.r (D 4)) (.c .z .z)) (.s (.b (.s (.r [.d, .d, .d, (.l (.lf .s)), (.c (.n [(.ag (R 6 (.i .i64))), (.lf .b)])), .d, .d, .d, .d, .d, .d]) (.r [.d, (.l (.ag (R 6 (.i .i64)))), .d, (.t (.o (.lf .sl))), .d]))) (.r (D 3))))))) (.s (.r (D 2)) .z))))
def spec.l20Read.vc (list : Sl) (w : World) (K : Sl → World → Prop) : Prop :=
Nw #[] 82 w fun a_t7 w_ =>
∃ (I : Sl → Int → World → Prop) (M : Sl → Int → World → Nat),
I ⟨(some a_t7), 0, 0⟩ 0 w_ ∧
(∀ (out : Sl) (i : Int) w__1, I out i w__1 → ∀ _ : Nat → Value,
((decide ((i : Int) < ((list.n : Nat) : Int))) = true → Ix list.a list.n i 1 w__1 fun a_t17 w__2 =>
Ld .s a_t17 w__2 fun (t18 : ByteArray) w__3 =>
CallT (.n [(.ag (R 6 (.i .i64))), (.lf .b)]) P0 127 [(.string t18)] w__3 fun (t19 : (Tup (R 6 (.i .i64))) × (Bool) × Unit) w__4 =>
Nw (zc P0 82) 82 w__4 fun a_x w__5 =>
StA P0 a_x (Tup.cells (R 6 (.i .i64)) t19.1) w__5 fun w__6 =>
LdA (R 6 (.i .i64)) a_x w__6 fun (t23 : Tup (R 6 (.i .i64))) w__7 =>
Nw (Tup.cells (R 6 (.i .i64)) t23).toArray 82 w__7 fun a_t24 w__8 =>
RunT (.o (.lf .sl)) P0 (Builtin.append_ #[23, 23] 23 #[out.v, (.slice (some a_t24) 1 1)]) w__8 fun (t25 : Sl) w__9 =>
(I t25 (IntKind.wrap .i64 (i + 1)) w__9 ∧ M t25 (IntKind.wrap .i64 (i + 1)) w__9 < M out i w__1)) ∧
((decide ((i : Int) < ((list.n : Nat) : Int))) = false → K out w__1))
theorem spec.l20Read.ok {list : Sl} {w : World} {K : Sl → World → Prop} (h : spec.l20Read.vc list w K) : CallT (.o (.lf .sl)) P0 80 [list.v] w K :=
  call_of Tryz.func80 rfl rfl (pl := spec.l20Read.pl) (show VC P0 Tryz.f80 spec.l20Read.pl (.o (.lf .sl)) [list.v] w K noP from Eq.mp (by kernel_rfl) h)
/- spec.l20Make -/
def spec.l20Make.pl : Pl := (.s (.r (D 1)) (.s (.r [.d, (.c (.o (.lf .sl))), .d]) (.s (.r [.d, (.c (.o (.lf (.i .i64)))), .d, .d]) (.s (.b (.l [(3, .sl)] (.s (.s (.r (D 5)) (.c .z .z)) (.b (.s (.r (D 6)) (.s (.r [.d, (.c (.o (.lf (.i .i64))))]) (.b (.j [(29, .b)] (.s (.r (D 2)) (.c .z (.r (D 2)))) (.c (.s (.r [.d, (.c (.o (.lf (.i .i64)))), .d, .d, .d, (.c (.o (.lf (.i .i64)))), .d, (.c (.o (.lf (.i .i64)))), .d, .d, (.c (.o (.lf (.i .i64)))), .d, .d, .d]) (.s (.s (.r [.d, (.c (.o (.lf (.i .i64)))), .d]) (.c (.s (.r [.d, .d, (.c (.o (.lf (.i .i64)))), .d, .d]) (.r (D 2))) .z)) (.r [.d, (.l (.ag (R 6 (.i .i64)))), .d, (.t (.o (.lf .sl))), .d]))) (.s (.r (D 2)) (.c (.r [.d, .d, .d, (.c (.o (.lf (.i .i64)))), .d, .d, (.c (.o (.lf (.i .i64)))), .d, .d, (.c (.o (.lf (.i .i64)))), .d, .d, (.t (.o (.lf .sl))), .d]) (.s (.r (D 2)) (.c (.r [.d, .d, .d, (.c (.o (.lf (.i .i64)))), .d, .d, (.c (.o (.lf (.i .i64)))), .d, .d, (.c (.o (.lf (.i .i64)))), .d, .d, (.c (.o (.lf (.i .i64)))), .d, .d, (.t (.o (.lf .sl))), .d]) (.r [.d, .d, (.c (.o (.ag (R 6 (.i .i64))))), .d, (.t (.o (.lf .sl))), .d])))))))))))))) (.s (.r [.d, .d, .d, (.t (.o (.lf .sl))), .d]) .z)))))
def spec.l20Make.vc (r : Option Addr) (w : World) (K : Sl → World → Prop) : Prop :=
Nw #[(.string ⟨#[109, 111, 118, 32, 114, 48, 32, 49]⟩), (.string ⟨#[108, 111, 97, 100, 49, 32, 114, 54, 32, 114, 49, 32, 48]⟩), (.string ⟨#[108, 111, 97, 100, 52, 32, 114, 55, 32, 114, 49, 32, 52]⟩), (.string ⟨#[109, 111, 118, 32, 114, 56, 32, 53]⟩)] 9 w fun a_t7 w_ =>
CallT (.o (.lf .sl)) P0 80 [(.slice (some a_t7) 4 4)] w_ fun (t8 : Sl) w__1 =>
CallT (.o (.lf (.i .i64))) P0 42 [(.pointer r), (.int .i64 14)] w__1 fun (t10 : Int) w__2 =>
∃ (I : Sl → World → Prop) (M : Sl → World → Nat),
I t8 w__2 ∧
(∀ (out : Sl) w__3, I out w__3 → ∀ _ : Nat → Value,
((decide ((((out.n : Nat) : Int) : Int) < (IntKind.wrap .i64 ((IntKind.wrap .i64 (4 + t10)) + 4)))) = true → CallT (.o (.lf (.i .i64))) P0 42 [(.pointer r), (.int .i64 7)] w__3 fun (t23 : Int) w__4 =>
∃ J : Bool → World → Prop,
((((t23 : Int) == 0) = true → J ((t23 : Int) == 0) w__4) ∧
(((t23 : Int) == 0) = false → J ((t23 : Int) == 1) w__4)) ∧
(∀ (t29 : Bool) w__5, J t29 w__5 → ∀ _ : Nat → Value,
(t29 = true → CallT (.o (.lf (.i .i64))) P0 42 [(.pointer r), (.int .i64 4)] w__5 fun (t33 : Int) w__6 =>
Nw #[(.int .i64 0), (.int .i64 6), (.int .i64 7), (.int .i64 8)] 3 w__6 fun a_t36 w__7 =>
CallT (.o (.lf (.i .i64))) P0 82 [(.pointer r), (.slice (some a_t36) 4 4)] w__7 fun (t37 : Int) w__8 =>
CallT (.o (.lf (.i .i64))) P0 81 [(.pointer r)] w__8 fun (t39 : Int) w__9 =>
CallT (.o (.lf (.i .i64))) P0 42 [(.pointer r), (.int .i64 (IntKind.wrap .i64 ((IntKind.wrap .i64 ((IntKind.wrap .i64 (4 + t10)) + 4)) - ((out.n : Nat) : Int))))] w__9 fun (t42 : Int) w__10 =>
Nw (zc P0 82) 82 w__10 fun a_x w__11 =>
StA P0 a_x [(.int .i64 (IntKind.wrap .i64 (12 + t33))), (.int .i64 t37), (.int .i64 (-1)), (.int .i64 t42), (.int .i64 t39), (.int .i64 0)] w__11 fun w__12 =>
CallT (.o (.lf (.i .i64))) P0 42 [(.pointer r), (.int .i64 3)] w__12 fun (t45 : Int) w__13 =>
(((t45 : Int) == 0) = true → Nw #[(.int .i64 0), (.int .i64 6), (.int .i64 7), (.int .i64 8)] 3 w__13 fun a_t48 w__14 =>
CallT (.o (.lf (.i .i64))) P0 82 [(.pointer r), (.slice (some a_t48) 4 4)] w__14 fun (t49 : Int) w__15 =>
St (Addr.add a_x 2) (.int .i64 t49) w__15 fun w__16 =>
St (Addr.add a_x 4) (.int .i64 0) w__16 fun w__17 =>
LdA (R 6 (.i .i64)) a_x w__17 fun (t53 : Tup (R 6 (.i .i64))) w__18 =>
Nw (Tup.cells (R 6 (.i .i64)) t53).toArray 82 w__18 fun a_t54 w__19 =>
RunT (.o (.lf .sl)) P0 (Builtin.append_ #[23, 23] 23 #[out.v, (.slice (some a_t54) 1 1)]) w__19 fun (t55 : Sl) w__20 =>
(I t55 w__20 ∧ M t55 w__20 < M out w__3)) ∧
(((t45 : Int) == 0) = false → LdA (R 6 (.i .i64)) a_x w__13 fun (t53_1 : Tup (R 6 (.i .i64))) w__21 =>
Nw (Tup.cells (R 6 (.i .i64)) t53_1).toArray 82 w__21 fun a_t54_1 w__22 =>
RunT (.o (.lf .sl)) P0 (Builtin.append_ #[23, 23] 23 #[out.v, (.slice (some a_t54_1) 1 1)]) w__22 fun (t55_1 : Sl) w__23 =>
(I t55_1 w__23 ∧ M t55_1 w__23 < M out w__3))) ∧
(t29 = false → (((t23 : Int) == 2) = true → Nw #[(.int .i64 0), (.int .i64 6), (.int .i64 7), (.int .i64 8)] 3 w__5 fun a_t60 w__24 =>
CallT (.o (.lf (.i .i64))) P0 82 [(.pointer r), (.slice (some a_t60) 4 4)] w__24 fun (t61 : Int) w__25 =>
Nw #[(.int .i64 (-4)), (.int .i64 (-8)), (.int .i64 (-2))] 3 w__25 fun a_t63 w__26 =>
CallT (.o (.lf (.i .i64))) P0 82 [(.pointer r), (.slice (some a_t63) 3 3)] w__26 fun (t64 : Int) w__27 =>
Nw #[(.int .i64 1), (.int .i64 2)] 3 w__27 fun a_t66 w__28 =>
CallT (.o (.lf (.i .i64))) P0 82 [(.pointer r), (.slice (some a_t66) 2 2)] w__28 fun (t67 : Int) w__29 =>
Nw #[(.int .i64 18), (.int .i64 10), (.int .i64 t61), (.int .i64 t64), (.int .i64 0), (.int .i64 t67)] 82 w__29 fun a_t69 w__30 =>
RunT (.o (.lf .sl)) P0 (Builtin.append_ #[23, 23] 23 #[out.v, (.slice (some a_t69) 1 1)]) w__30 fun (t70 : Sl) w__31 =>
(I t70 w__31 ∧ M t70 w__31 < M out w__3)) ∧
(((t23 : Int) == 2) = false → (((t23 : Int) == 3) = true → Nw #[(.int .i64 0), (.int .i64 6), (.int .i64 8)] 3 w__5 fun a_t75 w__32 =>
CallT (.o (.lf (.i .i64))) P0 82 [(.pointer r), (.slice (some a_t75) 3 3)] w__32 fun (t76 : Int) w__33 =>
Nw #[(.int .i64 1), (.int .i64 10), (.int .i64 1)] 3 w__33 fun a_t78 w__34 =>
CallT (.o (.lf (.i .i64))) P0 82 [(.pointer r), (.slice (some a_t78) 3 3)] w__34 fun (t79 : Int) w__35 =>
Nw #[(.int .i64 0), (.int .i64 3), (.int .i64 8)] 3 w__35 fun a_t81 w__36 =>
CallT (.o (.lf (.i .i64))) P0 82 [(.pointer r), (.slice (some a_t81) 3 3)] w__36 fun (t82 : Int) w__37 =>
Nw #[(.int .i64 1), (.int .i64 2), (.int .i64 4)] 3 w__37 fun a_t84 w__38 =>
CallT (.o (.lf (.i .i64))) P0 82 [(.pointer r), (.slice (some a_t84) 3 3)] w__38 fun (t85 : Int) w__39 =>
Nw #[(.int .i64 17), (.int .i64 t76), (.int .i64 t79), (.int .i64 t82), (.int .i64 0), (.int .i64 t85)] 82 w__39 fun a_t87 w__40 =>
RunT (.o (.lf .sl)) P0 (Builtin.append_ #[23, 23] 23 #[out.v, (.slice (some a_t87) 1 1)]) w__40 fun (t88 : Sl) w__41 =>
(I t88 w__41 ∧ M t88 w__41 < M out w__3)) ∧
(((t23 : Int) == 3) = false → CallT (.o (.ag (R 6 (.i .i64)))) P0 83 [(.pointer r)] w__5 fun (t26 : Tup (R 6 (.i .i64))) w__42 =>
Nw (Tup.cells (R 6 (.i .i64)) t26).toArray 82 w__42 fun a_t27 w__43 =>
RunT (.o (.lf .sl)) P0 (Builtin.append_ #[23, 23] 23 #[out.v, (.slice (some a_t27) 1 1)]) w__43 fun (t28 : Sl) w__44 =>
(I t28 w__44 ∧ M t28 w__44 < M out w__3)))))) ∧
((decide ((((out.n : Nat) : Int) : Int) < (IntKind.wrap .i64 ((IntKind.wrap .i64 (4 + t10)) + 4)))) = false → Nw #[(.int .i64 20), (.int .i64 0), (.int .i64 (-1)), (.int .i64 0), (.int .i64 0), (.int .i64 0)] 82 w__3 fun a_t91 w__45 =>
RunT (.o (.lf .sl)) P0 (Builtin.append_ #[23, 23] 23 #[out.v, (.slice (some a_t91) 1 1)]) w__45 fun (t92 : Sl) w__46 =>
K t92 w__46))
theorem spec.l20Make.ok {r : Option Addr} {w : World} {K : Sl → World → Prop} (h : spec.l20Make.vc r w K) : CallT (.o (.lf .sl)) P0 78 [(.pointer r)] w K :=
  call_of Tryz.func78 rfl rfl (pl := spec.l20Make.pl) (show VC P0 Tryz.f78 spec.l20Make.pl (.o (.lf .sl)) [(.pointer r)] w K noP from Eq.mp (by kernel_rfl) h)
/- spec.l20Prog -/
def spec.l20Prog.pl : Pl := (.s (.r (D 1)) (.s (.r [.d, (.c (.o (.lf .sl))), .d]) (.j [(3, .sl)] (.s (.r [.d, (.c (.o (.lf (.i .i64)))), .d]) (.c (.s (.r [(.c (.o (.lf .sl))), .d]) (.r [.d, .d, .d, .d, (.c (.o (.lf (.i .i64)))), .d, (.l (.lf .sl)), (.c (.o (.lf .sl))), .d])) .z)) (.s (.s (.r [.d, (.c (.o (.lf (.i .i64)))), .d]) (.c (.s (.r [.d, .d, .d, (.c (.o (.lf (.i .i64)))), .d]) (.s (.r [.d, (.c (.o (.lf (.i .i64))))]) (.b (.s (.r (D 2)) (.c (.r [.d, .d, .d, (.c (.o (.lf (.i .i64)))), .d, .d, .d]) (.s (.r (D 2)) (.c (.r [.d, .d, .d, .d, (.c (.o (.lf (.i .i64)))), .d, .d, .d]) (.s (.r (D 2)) (.c (.r [.d, .d, .d, (.c (.o (.lf (.i .i64)))), .d, .d, .d]) (.s (.r (D 2)) (.c (.r [.d, .d, .d, (.c (.o (.lf (.i .i64)))), .d, .d, .d]) (.s (.r (D 2)) (.c (.r [.d, .d, .d, (.c (.o (.lf (.i .i64)))), .d, .d, .d, .d]) (.s (.g [((.g (.o (.lf .sl)) .d), []), (.q, []), (.q, []), ((.g (.o (.lf .sl)) (.t (.o (.lf .sl)))), []), ((.g (.o (.lf .sl)) (.t (.o (.lf .sl)))), [0, 3]), (.q, []), ((.h (.o (.ag (R 6 (.i .i64)))) (.c (.o (.ag (R 6 (.i .i64)))))), []), ((.g (.o (.lf .sl)) .d), [6]), ((.g (.o (.lf .sl)) (.t (.o (.lf .sl)))), [4, 7]), (.q, []), (.q, []), ((.g (.o (.lf .sl)) (.t (.o (.lf .sl)))), []), ((.g (.o (.lf .sl)) (.t (.o (.lf .sl)))), [8, 11]), (.q, [12])] []) .z)))))))))))))) .z)) (.s (.r (D 2)) .z)))))
def spec.l20Prog.vc (r : Option Addr) (w : World) (K : Sl → World → Prop) : Prop :=
CallT (.o (.lf .sl)) P0 78 [(.pointer r)] w fun (t7 : Sl) w_ =>
∃ J : Sl → World → Prop,
(CallT (.o (.lf (.i .i64))) P0 42 [(.pointer r), (.int .i64 2)] w_ fun (t9 : Int) w__1 =>
(((t9 : Int) == 0) = true → CallT (.o (.lf .sl)) P0 79 [] w__1 fun (t11 : Sl) w__2 =>
CallT (.o (.lf (.i .i64))) P0 42 [(.pointer r), (.int .i64 ((t11.n : Nat) : Int))] w__2 fun (t16 : Int) w__3 =>
Ix t11.a t11.n t16 1 w__3 fun a_t17 w__4 =>
Ld .sl a_t17 w__4 fun (t18 : Sl) w__5 =>
CallT (.o (.lf .sl)) P0 80 [t18.v] w__5 fun (t19 : Sl) w__6 =>
J t19 w__6) ∧
(((t9 : Int) == 0) = false → J t7 w__1)) ∧
(∀ (out : Sl) w__7, J out w__7 → ∀ _ : Nat → Value,
CallT (.o (.lf (.i .i64))) P0 42 [(.pointer r), (.int .i64 4)] w__7 fun (t21 : Int) w__8 =>
(((t21 : Int) == 0) = true → CallT (.o (.lf (.i .i64))) P0 42 [(.pointer r), (.int .i64 ((out.n : Nat) : Int))] w__8 fun (t26 : Int) w__9 =>
CallT (.o (.lf (.i .i64))) P0 42 [(.pointer r), (.int .i64 6)] w__9 fun (t28 : Int) w__10 =>
(((t28 : Int) == 0) = true → CallT (.o (.lf (.i .i64))) P0 81 [(.pointer r)] w__10 fun (t47 : Int) w__11 =>
Ix out.a out.n t26 6 w__11 fun a_t48 w__12 =>
St (Addr.add a_t48 4) (.int .i64 t47) w__12 fun w__13 =>
K out w__13) ∧
(((t28 : Int) == 0) = false → (((t28 : Int) == 1) = true → Nw #[(.int .i64 (-1)), (.int .i64 0), (.int .i64 1), (.int .i64 2), (.int .i64 (-2)), (.int .i64 12), (.int .i64 200)] 3 w__10 fun a_t55 w__14 =>
CallT (.o (.lf (.i .i64))) P0 82 [(.pointer r), (.slice (some a_t55) 7 7)] w__14 fun (t56 : Int) w__15 =>
Ix out.a out.n t26 6 w__15 fun a_t57 w__16 =>
St (Addr.add a_t57 3) (.int .i64 t56) w__16 fun w__17 =>
K out w__17) ∧
(((t28 : Int) == 1) = false → (((t28 : Int) == 2) = true → CallT (.o (.lf (.i .i64))) P0 42 [(.pointer r), (.int .i64 12)] w__10 fun (t64 : Int) w__18 =>
Ix out.a out.n t26 6 w__18 fun a_t65 w__19 =>
St (Addr.add a_t65 1) (.int .i64 t64) w__19 fun w__20 =>
K out w__20) ∧
(((t28 : Int) == 2) = false → (((t28 : Int) == 3) = true → CallT (.o (.lf (.i .i64))) P0 42 [(.pointer r), (.int .i64 22)] w__10 fun (t72 : Int) w__21 =>
Ix out.a out.n t26 6 w__21 fun a_t73 w__22 =>
St (Addr.add a_t73 0) (.int .i64 t72) w__22 fun w__23 =>
K out w__23) ∧
(((t28 : Int) == 3) = false → (((t28 : Int) == 4) = true → CallT (.o (.lf (.i .i64))) P0 42 [(.pointer r), (.int .i64 12)] w__10 fun (t80 : Int) w__24 =>
Ix out.a out.n t26 6 w__24 fun a_t82 w__25 =>
St (Addr.add a_t82 2) (.int .i64 (IntKind.wrap .i64 (t80 - 1))) w__25 fun w__26 =>
K out w__26) ∧
(((t28 : Int) == 4) = false → ∃ Sp : World → World → Prop, SpOk Sp w__10 ∧
∃ N : World → Prop, NOk N w__10 ∧
∃ G_t29 : Sl → World → Prop, Kept Sp G_t29 ∧
∃ G_t32 : Sl → World → Prop, Kept Sp G_t32 ∧
∃ G_t33 : Sl → World → Prop, Kept Sp G_t33 ∧
∃ G_t35 : Tup (R 6 (.i .i64)) → World → Prop, Kept Sp G_t35 ∧
∃ G_t36 : Sl → World → Prop, Kept Sp G_t36 ∧
∃ G_t37 : Sl → World → Prop, Kept Sp G_t37 ∧
∃ G_t40 : Sl → World → Prop, Kept Sp G_t40 ∧
∃ G_t41 : Sl → World → Prop, Kept Sp G_t41 ∧
(∀ w__27, Sp w__10 w__27 → Nw #[] 82 w__27 fun a_t29 w__28 =>
GK (.o (.lf .sl)) (Sk Sp N) w__27 G_t29 (.slice (some a_t29) 0 0) w__28) ∧
∀ (t29 : Sl), (∀ w__29, Sp w__10 w__29 → RunT (.o (.lf .sl)) P0 (Instr.sliceAt 23 out.v none (some (.int .i64 t26)) none) w__29 fun (t32 : Sl) w__30 =>
GK (.o (.lf .sl)) (Sk Sp N) w__29 G_t32 t32.v w__30) ∧
∀ (t32_1 : Sl), (∀ w__31, Sp w__10 w__31 → G_t29 t29 w__31 → G_t32 t32_1 w__31 → RunT (.o (.lf .sl)) P0 (Builtin.append_ #[23, 23] 23 #[t29.v, t32_1.v]) w__31 fun (t33 : Sl) w__32 =>
GK (.o (.lf .sl)) (Sk Sp N) w__31 G_t33 t33.v w__32) ∧
∀ (t33_1 : Sl), (∀ w__33, Sp w__10 w__33 → N w__33 → CallT (.o (.ag (R 6 (.i .i64)))) P0 83 [(.pointer r)] w__33 fun (t35 : Tup (R 6 (.i .i64))) w__34 =>
GK (.o (.ag (R 6 (.i .i64)))) Sp w__33 G_t35 (.agg (Tup.cells (R 6 (.i .i64)) t35).toArray) w__34) ∧
∀ (t35_1 : Tup (R 6 (.i .i64))), (∀ w__35, Sp w__10 w__35 → G_t35 t35_1 w__35 → Nw (Tup.cells (R 6 (.i .i64)) t35_1).toArray 82 w__35 fun a_t36 w__36 =>
GK (.o (.lf .sl)) (Sk Sp N) w__35 G_t36 (.slice (some a_t36) 1 1) w__36) ∧
∀ (t36 : Sl), (∀ w__37, Sp w__10 w__37 → G_t33 t33_1 w__37 → G_t36 t36 w__37 → RunT (.o (.lf .sl)) P0 (Builtin.append_ #[23, 23] 23 #[t33_1.v, t36.v]) w__37 fun (t37 : Sl) w__38 =>
GK (.o (.lf .sl)) (Sk Sp N) w__37 G_t37 t37.v w__38) ∧
∀ (t37_1 : Sl), (∀ w__39, Sp w__10 w__39 → RunT (.o (.lf .sl)) P0 (Instr.sliceAt 23 out.v (some (.int .i64 t26)) none none) w__39 fun (t40 : Sl) w__40 =>
GK (.o (.lf .sl)) (Sk Sp N) w__39 G_t40 t40.v w__40) ∧
∀ (t40_1 : Sl), (∀ w__41, Sp w__10 w__41 → G_t37 t37_1 w__41 → G_t40 t40_1 w__41 → RunT (.o (.lf .sl)) P0 (Builtin.append_ #[23, 23] 23 #[t37_1.v, t40_1.v]) w__41 fun (t41 : Sl) w__42 =>
GK (.o (.lf .sl)) (Sk Sp N) w__41 G_t41 t41.v w__42) ∧
∀ (t41_1 : Sl), ∀ w__43, Sp w__10 w__43 → G_t29 t29 w__43 → G_t32 t32_1 w__43 → G_t33 t33_1 w__43 → G_t35 t35_1 w__43 → G_t36 t36 w__43 → G_t37 t37_1 w__43 → G_t40 t40_1 w__43 → G_t41 t41_1 w__43 → 
K t41_1 w__43)))))) ∧
(((t21 : Int) == 0) = false → K out w__8))
theorem spec.l20Prog.ok {r : Option Addr} {w : World} {K : Sl → World → Prop} (h : spec.l20Prog.vc r w K) : CallT (.o (.lf .sl)) P0 41 [(.pointer r)] w K :=
  call_of Tryz.func41 rfl rfl (pl := spec.l20Prog.pl) (show VC P0 Tryz.f41 spec.l20Prog.pl (.o (.lf .sl)) [(.pointer r)] w K noP from Eq.mp (by kernel_rfl) h)
/- spec.l1Num -/
def spec.l1Num.pl : Pl := (.s (.r (D 1)) (.s (.r (D 1)) (.s (.s (.r (D 1)) (.b (.l [(3, (.i .i64)), (4, (.i .i64))] (.s (.s (.r (D 4)) (.c .z .z)) (.s (.b (.j [] (.s (.r [.d, .d, .d, .d, (.sp .d), .d, .d, .d, .d, .d, (.sp .d), .d, .d, .d]) (.c (.s (.r (D 1)) .z) .z)) (.r (D 9)))) (.r (D 3))))))) (.s (.s (.r [.d, .d, .d, (.sp .d), .d, .d, .d, (.sp .d), .d, .d, .d, .d, .d]) (.c (.s (.r (D 1)) .z) .z)) (.s (.r (D 2)) .z)))))
def spec.l1Num.vc (s : ByteArray) (w : World) (K : Int → World → Prop) : Prop :=
∃ (I : Int → Int → World → Prop) (M : Int → Int → World → Nat),
I 0 0 w ∧
(∀ (n : Int) (i : Int) w_, I n i w_ → ∀ _ : Nat → Value,
((decide ((i : Int) < (((ByteArray.size s) : Nat) : Int))) = true → ∃ J : World → Prop,
(Sx s i w_ fun t13 w__1 =>
((decide ((t13 : Int) < 48)) = true → K (-1) w__1) ∧
((decide ((t13 : Int) < 48)) = false → Sx s i w__1 fun t18 w__2 =>
((decide ((t18 : Int) > 57)) = true → K (-1) w__2) ∧
((decide ((t18 : Int) > 57)) = false → ((decide ((i : Int) ≥ 10)) = true → K (-1) w__2) ∧
((decide ((i : Int) ≥ 10)) = false → J w__2)))) ∧
(∀  w__3, J w__3 → ∀ _ : Nat → Value,
Sx s i w__3 fun t29 w__4 =>
(I (IntKind.wrap .i64 ((IntKind.wrap .i64 (n * 10)) + (IntKind.wrap .i64 (IntKind.wrap .u8 (t29 - 48))))) (IntKind.wrap .i64 (i + 1)) w__4 ∧ M (IntKind.wrap .i64 ((IntKind.wrap .i64 (n * 10)) + (IntKind.wrap .i64 (IntKind.wrap .u8 (t29 - 48))))) (IntKind.wrap .i64 (i + 1)) w__4 < M n i w_))) ∧
((decide ((i : Int) < (((ByteArray.size s) : Nat) : Int))) = false → ((((((ByteArray.size s) : Nat) : Int) : Int) == 0) = true → K (-1) w_) ∧
((((((ByteArray.size s) : Nat) : Int) : Int) == 0) = false → ((decide (((((ByteArray.size s) : Nat) : Int) : Int) > 1)) = true → Sx s 0 w_ fun t42 w__5 =>
(((t42 : Int) == 48) = true → K (-1) w__5) ∧
(((t42 : Int) == 48) = false → K n w__5)) ∧
((decide (((((ByteArray.size s) : Nat) : Int) : Int) > 1)) = false → K n w_))))
theorem spec.l1Num.ok {s : ByteArray} {w : World} {K : Int → World → Prop} (h : spec.l1Num.vc s w K) : CallT (.o (.lf (.i .i64))) P0 209 [(.string s)] w K :=
  call_of Tryz.func209 rfl rfl (pl := spec.l1Num.pl) (show VC P0 Tryz.f209 spec.l1Num.pl (.o (.lf (.i .i64))) [(.string s)] w K noP from Eq.mp (by kernel_rfl) h)
/- spec.l1Cut -/
def spec.l1Cut.pl : Pl := (.s (.r (D 1)) (.s (.r (D 2)) (.s (.r (D 1)) (.s (.s (.r (D 1)) (.b (.l [(7, .sl), (8, (.i .i64)), (9, (.i .i64))] (.j [] (.s (.r [.d, .d, .d, .d, (.sp .d), .d, .d, .d, .d, .d]) (.c .z .z)) (.s (.b (.s (.r (D 5)) (.c (.s (.r [.d, .d, .d, .d, (.t (.o (.lf .s))), .d, (.t (.o (.lf .sl))), .d]) (.r (D 3))) .z))) (.r (D 3))))))) (.s (.r [.d, .d, .d, (.t (.o (.lf .s))), .d, (.t (.o (.lf .sl))), .d]) .z)))))
def spec.l1Cut.vc (s : ByteArray) (b : Int) (most : Int) (w : World) (K : Sl → World → Prop) : Prop :=
Nw #[] 9 w fun a_t10 w_ =>
∃ (I : Sl → Int → Int → World → Prop) (M : Sl → Int → Int → World → Nat),
I ⟨(some a_t10), 0, 0⟩ 0 0 w_ ∧
(∀ (out : Sl) (from_ : Int) (i : Int) w__1, I out from_ i w__1 → ∀ _ : Nat → Value,
∃ J : World → Prop,
(((decide ((i : Int) < (((ByteArray.size s) : Nat) : Int))) = true → ((decide ((((out.n : Nat) : Int) : Int) < most)) = true → J w__1) ∧
((decide ((((out.n : Nat) : Int) : Int) < most)) = false → RunT (.o (.lf .s)) P0 (Instr.sliceAt 9 (.string s) (some (.int .i64 from_)) none none) w__1 fun (t40 : ByteArray) w__2 =>
Nw #[(.string t40)] 9 w__2 fun a_t41 w__3 =>
RunT (.o (.lf .sl)) P0 (Builtin.append_ #[98, 98] 98 #[out.v, (.slice (some a_t41) 1 1)]) w__3 fun (t42 : Sl) w__4 =>
K t42 w__4)) ∧
((decide ((i : Int) < (((ByteArray.size s) : Nat) : Int))) = false → RunT (.o (.lf .s)) P0 (Instr.sliceAt 9 (.string s) (some (.int .i64 from_)) none none) w__1 fun (t40_1 : ByteArray) w__5 =>
Nw #[(.string t40_1)] 9 w__5 fun a_t41_1 w__6 =>
RunT (.o (.lf .sl)) P0 (Builtin.append_ #[98, 98] 98 #[out.v, (.slice (some a_t41_1) 1 1)]) w__6 fun (t42_1 : Sl) w__7 =>
K t42_1 w__7)) ∧
(∀  w__8, J w__8 → ∀ _ : Nat → Value,
Sx s i w__8 fun t25 w__9 =>
(((t25 : Int) == b) = true → RunT (.o (.lf .s)) P0 (Instr.sliceAt 9 (.string s) (some (.int .i64 from_)) (some (.int .i64 i)) none) w__9 fun (t32 : ByteArray) w__10 =>
Nw #[(.string t32)] 9 w__10 fun a_t33 w__11 =>
RunT (.o (.lf .sl)) P0 (Builtin.append_ #[98, 98] 98 #[out.v, (.slice (some a_t33) 1 1)]) w__11 fun (t34 : Sl) w__12 =>
(I t34 (IntKind.wrap .i64 (i + 1)) (IntKind.wrap .i64 (i + 1)) w__12 ∧ M t34 (IntKind.wrap .i64 (i + 1)) (IntKind.wrap .i64 (i + 1)) w__12 < M out from_ i w__1)) ∧
(((t25 : Int) == b) = false → (I out from_ (IntKind.wrap .i64 (i + 1)) w__9 ∧ M out from_ (IntKind.wrap .i64 (i + 1)) w__9 < M out from_ i w__1))))
theorem spec.l1Cut.ok {s : ByteArray} {b : Int} {most : Int} {w : World} {K : Sl → World → Prop} (h : spec.l1Cut.vc s b most w K) : CallT (.o (.lf .sl)) P0 164 [(.string s), (.int .u8 b), (.int .i64 most)] w K :=
  call_of Tryz.func164 rfl rfl (pl := spec.l1Cut.pl) (show VC P0 Tryz.f164 spec.l1Cut.pl (.o (.lf .sl)) [(.string s), (.int .u8 b), (.int .i64 most)] w K noP from Eq.mp (by kernel_rfl) h)
/- spec.l1Find -/
def spec.l1Find.pl : Pl := (.s (.r (D 1)) (.s (.s (.r (D 1)) (.b (.l [(5, (.i .i64))] (.s (.s (.r (D 4)) (.c .z .z)) (.s (.b (.s (.r [.d, .d, .d, (.l (.lf .s)), .d, .d]) (.c (.s (.r (D 2)) .z) .z))) (.r (D 3))))))) (.s (.r (D 1)) .z)))
def spec.l1Find.vc (list : Sl) (s : ByteArray) (w : World) (K : Int → World → Prop) : Prop :=
∃ (I : Int → World → Prop) (M : Int → World → Nat),
I 0 w ∧
(∀ (i : Int) w_, I i w_ → ∀ _ : Nat → Value,
((decide ((i : Int) < ((list.n : Nat) : Int))) = true → Ix list.a list.n i 1 w_ fun a_t14 w__1 =>
Ld .s a_t14 w__1 fun (t15 : ByteArray) w__2 =>
((ByteArray.toList t15 == ByteArray.toList s) = true → K i w__2) ∧
((ByteArray.toList t15 == ByteArray.toList s) = false → (I (IntKind.wrap .i64 (i + 1)) w__2 ∧ M (IntKind.wrap .i64 (i + 1)) w__2 < M i w_))) ∧
((decide ((i : Int) < ((list.n : Nat) : Int))) = false → K (-1) w_))
theorem spec.l1Find.ok {list : Sl} {s : ByteArray} {w : World} {K : Int → World → Prop} (h : spec.l1Find.vc list s w K) : CallT (.o (.lf (.i .i64))) P0 184 [list.v, (.string s)] w K :=
  call_of Tryz.func184 rfl rfl (pl := spec.l1Find.pl) (show VC P0 Tryz.f184 spec.l1Find.pl (.o (.lf (.i .i64))) [list.v, (.string s)] w K noP from Eq.mp (by kernel_rfl) h)
/- spec.l1Words -/
def spec.l1Words.pl : Pl := (.s (.r (D 1)) (.s (.r (D 2)) .z))
def spec.l1Words.vc  (w : World) (K : Sl → World → Prop) : Prop :=
Nw #[(.string ⟨#[]⟩), (.string ⟨#[109, 111, 118]⟩), (.string ⟨#[97, 100, 100]⟩), (.string ⟨#[115, 117, 98]⟩), (.string ⟨#[109, 117, 108]⟩), (.string ⟨#[97, 110, 100]⟩), (.string ⟨#[111, 114]⟩), (.string ⟨#[120, 111, 114]⟩), (.string ⟨#[115, 104, 108]⟩), (.string ⟨#[115, 104, 114]⟩), (.string ⟨#[100, 105, 118]⟩), (.string ⟨#[109, 111, 100]⟩), (.string ⟨#[115, 97, 109, 101]⟩), (.string ⟨#[111, 116, 104, 101, 114]⟩), (.string ⟨#[108, 101, 115, 115]⟩), (.string ⟨#[109, 111, 114, 101]⟩), (.string ⟨#[103, 111]⟩), (.string ⟨#[108, 111, 97, 100]⟩), (.string ⟨#[115, 116, 111, 114, 101]⟩), (.string ⟨#[99, 97, 108, 108]⟩), (.string ⟨#[101, 120, 105, 116]⟩)] 9 w fun a_t1 w_ =>
K ⟨(some a_t1), 21, 21⟩ w_
theorem spec.l1Words.ok  {w : World} {K : Sl → World → Prop} (h : spec.l1Words.vc  w K) : CallT (.o (.lf .sl)) P0 185 [] w K :=
  call_of Tryz.func185 rfl rfl (pl := spec.l1Words.pl) (show VC P0 Tryz.f185 spec.l1Words.pl (.o (.lf .sl)) [] w K noP from Eq.mp (by kernel_rfl) h)
/- spec.l1Calls -/
def spec.l1Calls.pl : Pl := (.s (.r (D 1)) (.s (.r (D 2)) .z))
def spec.l1Calls.vc  (w : World) (K : Sl → World → Prop) : Prop :=
Nw #[(.string ⟨#[]⟩), (.string ⟨#[108, 111, 111, 107]⟩), (.string ⟨#[112, 117, 116]⟩), (.string ⟨#[102, 105, 110, 100]⟩), (.string ⟨#[100, 114, 111, 112]⟩), (.string ⟨#[114, 97, 110, 100]⟩), (.string ⟨#[115, 101, 110, 100]⟩)] 9 w fun a_t1 w_ =>
K ⟨(some a_t1), 7, 7⟩ w_
theorem spec.l1Calls.ok  {w : World} {K : Sl → World → Prop} (h : spec.l1Calls.vc  w K) : CallT (.o (.lf .sl)) P0 189 [] w K :=
  call_of Tryz.func189 rfl rfl (pl := spec.l1Calls.pl) (show VC P0 Tryz.f189 spec.l1Calls.pl (.o (.lf .sl)) [] w K noP from Eq.mp (by kernel_rfl) h)
/- spec.l1Dec -/
def spec.l1Dec.pl : Pl := (.s (.r (D 1)) (.s (.s (.r (D 2)) (.c (.s (.r (D 1)) .z) .z)) (.s (.s (.r (D 2)) (.c (.s (.r [.d, .d, (.c (.o (.lf .s))), .d, .d]) .z) .z)) (.s (.s (.r (D 2)) (.c (.s (.r [.d, .d, .d, .d, (.t (.o (.lf .s))), .d]) .z) .z)) (.s (.g [(.q, []), (.q, []), ((.g (.o (.lf .s)) (.c (.o (.lf .s)))), []), (.q, []), (.q, []), (.q, []), (.q, []), ((.g (.o (.lf .sl)) .d), []), ((.g (.o (.lf .s)) (.t (.o (.lf .s)))), [7]), ((.g (.o (.lf .s)) .d), [2, 8]), (.q, [9])] []) .z)))))
def spec.l1Dec.vc (n : Int) (w : World) (K : ByteArray → World → Prop) : Prop :=
((decide ((n : Int) < (-9223372036854775807))) = true → K ⟨#[45, 57, 50, 50, 51, 51, 55, 50, 48, 51, 54, 56, 53, 52, 55, 55, 53, 56, 48, 56]⟩ w) ∧
((decide ((n : Int) < (-9223372036854775807))) = false → ((decide ((n : Int) < 0)) = true → CallT (.o (.lf .s)) P0 186 [(.int .i64 (IntKind.wrap .i64 (0 - n)))] w fun (t9 : ByteArray) w_ =>
(((ByteArray.size (⟨#[45]⟩ : ByteArray) + ByteArray.size t9 : Nat) : Int) ≤ IntKind.i64.max) ∧ K ((⟨#[45]⟩ : ByteArray) ++ t9) w_) ∧
((decide ((n : Int) < 0)) = false → ((decide ((n : Int) < 10)) = true → Nw #[(.int .u8 (IntKind.wrap .u8 (IntKind.wrap .i64 (48 + n))))] 5 w fun a_t16 w__1 =>
RunT (.o (.lf .s)) P0 (convert 22 9 (.slice (some a_t16) 1 1)) w__1 fun (t17 : ByteArray) w__2 =>
K t17 w__2) ∧
((decide ((n : Int) < 10)) = false → ∃ Sp : World → World → Prop, SpOk Sp w ∧
∃ G_t20 : ByteArray → World → Prop, Kept Sp G_t20 ∧
∃ G_t25 : Sl → World → Prop, Kept Sp G_t25 ∧
∃ G_t26 : ByteArray → World → Prop, Kept Sp G_t26 ∧
∃ G_t27 : ByteArray → World → Prop, Kept Sp G_t27 ∧
(10 : Int) ≠ 0 ∧ (∀ w__3, Sp w w__3 → CallT (.o (.lf .s)) P0 186 [(.int .i64 (IntKind.wrap .i64 (Int.tdiv n 10)))] w__3 fun (t20 : ByteArray) w__4 =>
GK (.o (.lf .s)) Sp w__3 G_t20 (.string t20) w__4) ∧
∀ (t20_1 : ByteArray), (10 : Int) ≠ 0 ∧ (∀ w__5, Sp w w__5 → Nw #[(.int .u8 (IntKind.wrap .u8 (IntKind.wrap .i64 (48 + (Int.tmod n 10)))))] 5 w__5 fun a_t25 w__6 =>
GK (.o (.lf .sl)) Sp w__5 G_t25 (.slice (some a_t25) 1 1) w__6) ∧
∀ (t25 : Sl), (∀ w__7, Sp w w__7 → G_t25 t25 w__7 → RunT (.o (.lf .s)) P0 (convert 22 9 t25.v) w__7 fun (t26 : ByteArray) w__8 =>
GK (.o (.lf .s)) Sp w__7 G_t26 (.string t26) w__8) ∧
∀ (t26_1 : ByteArray), (∀ w__9, Sp w w__9 → G_t20 t20_1 w__9 → G_t26 t26_1 w__9 → (((ByteArray.size t20_1 + ByteArray.size t26_1 : Nat) : Int) ≤ IntKind.i64.max) ∧ GK (.o (.lf .s)) Sp w__9 G_t27 (.string (t20_1 ++ t26_1)) w__9) ∧
∀ (t27 : ByteArray), ∀ w__10, Sp w w__10 → G_t20 t20_1 w__10 → G_t25 t25 w__10 → G_t26 t26_1 w__10 → G_t27 t27 w__10 → 
K t27 w__10)))
theorem spec.l1Dec.ok {n : Int} {w : World} {K : ByteArray → World → Prop} (h : spec.l1Dec.vc n w K) : CallT (.o (.lf .s)) P0 186 [(.int .i64 n)] w K :=
  call_of Tryz.func186 rfl rfl (pl := spec.l1Dec.pl) (show VC P0 Tryz.f186 spec.l1Dec.pl (.o (.lf .s)) [(.int .i64 n)] w K noP from Eq.mp (by kernel_rfl) h)
/- spec.l1Reg -/
def spec.l1Reg.pl : Pl := (.s (.r (D 1)) (.s (.s (.r (D 2)) (.c (.s (.r [.d, (.c (.o (.lf .s))), .d, .d]) .z) .z)) (.s (.r [.d, (.c (.o (.lf .s))), .d]) .z)))
def spec.l1Reg.vc (src : Int) (imm : Int) (w : World) (K : ByteArray → World → Prop) : Prop :=
((decide ((src : Int) ≥ 0)) = true → CallT (.o (.lf .s)) P0 186 [(.int .i64 src)] w fun (t8 : ByteArray) w_ =>
(((ByteArray.size (⟨#[114]⟩ : ByteArray) + ByteArray.size t8 : Nat) : Int) ≤ IntKind.i64.max) ∧ K ((⟨#[114]⟩ : ByteArray) ++ t8) w_) ∧
((decide ((src : Int) ≥ 0)) = false → CallT (.o (.lf .s)) P0 186 [(.int .i64 imm)] w fun (t11 : ByteArray) w__1 =>
K t11 w__1)
theorem spec.l1Reg.ok {src : Int} {imm : Int} {w : World} {K : ByteArray → World → Prop} (h : spec.l1Reg.vc src imm w K) : CallT (.o (.lf .s)) P0 190 [(.int .i64 src), (.int .i64 imm)] w K :=
  call_of Tryz.func190 rfl rfl (pl := spec.l1Reg.pl) (show VC P0 Tryz.f190 spec.l1Reg.pl (.o (.lf .s)) [(.int .i64 src), (.int .i64 imm)] w K noP from Eq.mp (by kernel_rfl) h)
/- spec.l1Line -/
def spec.l1Line.pl : Pl := (.s (.r (D 2)) (.s (.g [((.g (.o (.lf .sl)) (.c (.o (.lf .sl)))), []), (.q, []), ((.g (.o (.lf (.i .i64))) (.l (.lf (.i .i64)))), []), ((.g (.o (.lf .ad)) .d), [0, 2]), ((.g (.o (.lf .s)) (.l (.lf .s))), [3]), (.q, [4])] []) (.s (.r [.d, (.l (.lf (.i .i64))), (.c (.o (.lf .s))), .d, .d]) (.s (.b (.s (.r [.d, (.l (.lf (.i .i64))), (.c (.o (.lf .b))), .d]) (.c (.s (.r [.d, .d, .d, .d, .d, (.l (.lf (.i .i64))), .d, (.l (.lf (.i .i64))), (.c (.o (.lf .s))), .d, .d]) .z) (.s (.r [.d, (.l (.lf (.i .i64))), (.c (.o (.lf .b))), .d]) (.c (.s (.r [.d, .d, .d, .d, .d, (.l (.lf (.i .i64))), .d, (.l (.lf (.i .i64))), (.c (.o (.lf .s))), .d, .d, .d, (.l (.lf (.i .i64))), (.c (.o (.lf .s))), .d, .d]) .z) (.s (.r [.d, (.l (.lf (.i .i64))), .d, .d]) (.c (.s (.r [.d, .d, .d, (.l (.lf (.i .i64))), (.c (.o (.lf .s))), .d, .d]) .z) (.s (.r [.d, (.l (.lf (.i .i64))), .d, .d]) (.c (.s (.r [.d, .d, (.l (.lf (.i .i64))), (.c (.o (.lf .s))), .d, .d, .d, .d, .d, (.l (.lf (.i .i64))), (.c (.o (.lf .s))), .d, .d, .d, (.l (.lf (.i .i64))), (.c (.o (.lf .s))), .d, .d]) .z) (.s (.r [.d, (.l (.lf (.i .i64))), .d, .d]) (.c (.s (.r [.d, .d, (.l (.lf (.i .i64))), (.c (.o (.lf .s))), .d, .d, .d, .d, .d, (.l (.lf (.i .i64))), (.c (.o (.lf .s))), .d, .d, .d, (.l (.lf (.i .i64))), .d, (.l (.lf (.i .i64))), (.c (.o (.lf .s))), .d, .d]) .z) (.s (.r [.d, (.l (.lf (.i .i64))), .d, .d]) (.c (.s (.g [(.q, []), ((.g (.o (.lf .s)) .d), []), ((.g (.o (.lf .sl)) (.c (.o (.lf .sl)))), []), (.q, []), ((.g (.o (.lf (.i .i64))) (.l (.lf (.i .i64)))), []), ((.g (.o (.lf .ad)) .d), [2, 4]), ((.g (.o (.lf .s)) (.l (.lf .s))), [5]), ((.g (.o (.lf .s)) .d), [1, 6]), (.q, [7])] []) .z) .z))))))))))))) (.s (.r (D 2)) .z)))))
set_option maxHeartbeats 4000000 in
def spec.l1Line.vc (x : Tup (R 6 (.i .i64))) (w : World) (K : ByteArray → World → Prop) : Prop :=
Nw (Tup.cells (R 6 (.i .i64)) x).toArray 82 w fun a_x w_ =>
∃ Sp : World → World → Prop, SpOk Sp w_ ∧
∃ G_t5 : Sl → World → Prop, Kept Sp G_t5 ∧
∃ G_t7 : Int → World → Prop, Kept Sp G_t7 ∧
∃ G_t8 : Addr → World → Prop, Kept Sp G_t8 ∧
∃ G_t9 : ByteArray → World → Prop, Kept Sp G_t9 ∧
(∀ w__1, Sp w_ w__1 → CallT (.o (.lf .sl)) P0 185 [] w__1 fun (t5 : Sl) w__2 =>
GK (.o (.lf .sl)) Sp w__1 G_t5 t5.v w__2) ∧
∀ (t5_1 : Sl), (∀ w__3, Sp w_ w__3 → Ld (.i .i64) (Addr.add a_x 0) w__3 fun (t7 : Int) w__4 =>
GK (.o (.lf (.i .i64))) Sp w__3 G_t7 (.int .i64 t7) w__4) ∧
∀ (t7_1 : Int), (∀ w__5, Sp w_ w__5 → G_t5 t5_1 w__5 → G_t7 t7_1 w__5 → Ix t5_1.a t5_1.n t7_1 1 w__5 fun a_t8 w__6 =>
GK (.o (.lf .ad)) Sp w__5 G_t8 (.pointer (some a_t8)) w__6) ∧
∀ (t8 : Addr), (∀ w__7, Sp w_ w__7 → G_t8 t8 w__7 → Ld .s t8 w__7 fun (t9 : ByteArray) w__8 =>
GK (.o (.lf .s)) Sp w__7 G_t9 (.string t9) w__8) ∧
∀ (t9_1 : ByteArray), ∀ w__9, Sp w_ w__9 → G_t5 t5_1 w__9 → G_t7 t7_1 w__9 → G_t8 t8 w__9 → G_t9 t9_1 w__9 → 
Ld (.i .i64) (Addr.add a_x 1) w__9 fun (t11 : Int) w__10 =>
CallT (.o (.lf .s)) P0 186 [(.int .i64 t11)] w__10 fun (t12 : ByteArray) w__11 =>
(((ByteArray.size (⟨#[32, 114]⟩ : ByteArray) + ByteArray.size t12 : Nat) : Int) ≤ IntKind.i64.max) ∧ Ld (.i .i64) (Addr.add a_x 0) w__11 fun (t16 : Int) w__12 =>
CallT (.o (.lf .b)) P0 63 [(.int .i64 t16)] w__12 fun (t17 : Bool) w__13 =>
(t17 = true → (((ByteArray.size t9_1 + ByteArray.size ((⟨#[32, 114]⟩ : ByteArray) ++ t12) : Nat) : Int) ≤ IntKind.i64.max) ∧ (((ByteArray.size (t9_1 ++ ((⟨#[32, 114]⟩ : ByteArray) ++ t12)) + ByteArray.size (⟨#[32]⟩ : ByteArray) : Nat) : Int) ≤ IntKind.i64.max) ∧ Ld (.i .i64) (Addr.add a_x 2) w__13 fun (t23 : Int) w__14 =>
Ld (.i .i64) (Addr.add a_x 4) w__14 fun (t25 : Int) w__15 =>
CallT (.o (.lf .s)) P0 190 [(.int .i64 t23), (.int .i64 t25)] w__15 fun (t26 : ByteArray) w__16 =>
(((ByteArray.size ((t9_1 ++ ((⟨#[32, 114]⟩ : ByteArray) ++ t12)) ++ (⟨#[32]⟩ : ByteArray)) + ByteArray.size t26 : Nat) : Int) ≤ IntKind.i64.max) ∧ K (((t9_1 ++ ((⟨#[32, 114]⟩ : ByteArray) ++ t12)) ++ (⟨#[32]⟩ : ByteArray)) ++ t26) w__16) ∧
(t17 = false → Ld (.i .i64) (Addr.add a_x 0) w__13 fun (t30 : Int) w__17 =>
CallT (.o (.lf .b)) P0 65 [(.int .i64 t30)] w__17 fun (t31 : Bool) w__18 =>
(t31 = true → (((ByteArray.size t9_1 + ByteArray.size ((⟨#[32, 114]⟩ : ByteArray) ++ t12) : Nat) : Int) ≤ IntKind.i64.max) ∧ (((ByteArray.size (t9_1 ++ ((⟨#[32, 114]⟩ : ByteArray) ++ t12)) + ByteArray.size (⟨#[32]⟩ : ByteArray) : Nat) : Int) ≤ IntKind.i64.max) ∧ QLd (.i .i64) (Addr.add a_x 2) (fun w' => Below (World.heap w__18).size w__18 w') fun (t37 : Int) =>
QLd (.i .i64) (Addr.add a_x 4) (fun w' => Below (World.heap w__18).size w__18 w') fun (t39 : Int) =>
QCl (.o (.lf .s)) P0 190 [(.int .i64 t37), (.int .i64 t39)] (fun w' => Below (World.heap w__18).size w__18 w') fun (t40 : ByteArray) =>
(((ByteArray.size ((t9_1 ++ ((⟨#[32, 114]⟩ : ByteArray) ++ t12)) ++ (⟨#[32]⟩ : ByteArray)) + ByteArray.size t40 : Nat) : Int) ≤ IntKind.i64.max) ∧ (((ByteArray.size (((t9_1 ++ ((⟨#[32, 114]⟩ : ByteArray) ++ t12)) ++ (⟨#[32]⟩ : ByteArray)) ++ t40) + ByteArray.size (⟨#[32]⟩ : ByteArray) : Nat) : Int) ≤ IntKind.i64.max) ∧ QLd (.i .i64) (Addr.add a_x 3) (fun w' => Below (World.heap w__18).size w__18 w') fun (t44 : Int) =>
QCl (.o (.lf .s)) P0 186 [(.int .i64 t44)] (fun w' => Below (World.heap w__18).size w__18 w') fun (t45 : ByteArray) =>
(((ByteArray.size ((((t9_1 ++ ((⟨#[32, 114]⟩ : ByteArray) ++ t12)) ++ (⟨#[32]⟩ : ByteArray)) ++ t40) ++ (⟨#[32]⟩ : ByteArray)) + ByteArray.size t45 : Nat) : Int) ≤ IntKind.i64.max) ∧ ∀ w__19, Below (World.heap w__18).size w__18 w__19 →
K (((((t9_1 ++ ((⟨#[32, 114]⟩ : ByteArray) ++ t12)) ++ (⟨#[32]⟩ : ByteArray)) ++ t40) ++ (⟨#[32]⟩ : ByteArray)) ++ t45) w__19) ∧
(t31 = false → Ld (.i .i64) (Addr.add a_x 0) w__18 fun (t49 : Int) w__20 =>
(((t49 : Int) == 16) = true → (((ByteArray.size t9_1 + ByteArray.size (⟨#[32]⟩ : ByteArray) : Nat) : Int) ≤ IntKind.i64.max) ∧ Ld (.i .i64) (Addr.add a_x 3) w__20 fun (t54 : Int) w__21 =>
CallT (.o (.lf .s)) P0 186 [(.int .i64 t54)] w__21 fun (t55 : ByteArray) w__22 =>
(((ByteArray.size (t9_1 ++ (⟨#[32]⟩ : ByteArray)) + ByteArray.size t55 : Nat) : Int) ≤ IntKind.i64.max) ∧ K ((t9_1 ++ (⟨#[32]⟩ : ByteArray)) ++ t55) w__22) ∧
(((t49 : Int) == 16) = false → Ld (.i .i64) (Addr.add a_x 0) w__20 fun (t59 : Int) w__23 =>
(((t59 : Int) == 17) = true → QLd (.i .i64) (Addr.add a_x 5) (fun w' => Below (World.heap w__23).size w__23 w') fun (t63 : Int) =>
QCl (.o (.lf .s)) P0 186 [(.int .i64 t63)] (fun w' => Below (World.heap w__23).size w__23 w') fun (t64 : ByteArray) =>
(((ByteArray.size t9_1 + ByteArray.size t64 : Nat) : Int) ≤ IntKind.i64.max) ∧ (((ByteArray.size (t9_1 ++ t64) + ByteArray.size ((⟨#[32, 114]⟩ : ByteArray) ++ t12) : Nat) : Int) ≤ IntKind.i64.max) ∧ (((ByteArray.size ((t9_1 ++ t64) ++ ((⟨#[32, 114]⟩ : ByteArray) ++ t12)) + ByteArray.size (⟨#[32, 114]⟩ : ByteArray) : Nat) : Int) ≤ IntKind.i64.max) ∧ QLd (.i .i64) (Addr.add a_x 2) (fun w' => Below (World.heap w__23).size w__23 w') fun (t70 : Int) =>
QCl (.o (.lf .s)) P0 186 [(.int .i64 t70)] (fun w' => Below (World.heap w__23).size w__23 w') fun (t71 : ByteArray) =>
(((ByteArray.size (((t9_1 ++ t64) ++ ((⟨#[32, 114]⟩ : ByteArray) ++ t12)) ++ (⟨#[32, 114]⟩ : ByteArray)) + ByteArray.size t71 : Nat) : Int) ≤ IntKind.i64.max) ∧ (((ByteArray.size ((((t9_1 ++ t64) ++ ((⟨#[32, 114]⟩ : ByteArray) ++ t12)) ++ (⟨#[32, 114]⟩ : ByteArray)) ++ t71) + ByteArray.size (⟨#[32]⟩ : ByteArray) : Nat) : Int) ≤ IntKind.i64.max) ∧ QLd (.i .i64) (Addr.add a_x 3) (fun w' => Below (World.heap w__23).size w__23 w') fun (t75 : Int) =>
QCl (.o (.lf .s)) P0 186 [(.int .i64 t75)] (fun w' => Below (World.heap w__23).size w__23 w') fun (t76 : ByteArray) =>
(((ByteArray.size (((((t9_1 ++ t64) ++ ((⟨#[32, 114]⟩ : ByteArray) ++ t12)) ++ (⟨#[32, 114]⟩ : ByteArray)) ++ t71) ++ (⟨#[32]⟩ : ByteArray)) + ByteArray.size t76 : Nat) : Int) ≤ IntKind.i64.max) ∧ ∀ w__24, Below (World.heap w__23).size w__23 w__24 →
K ((((((t9_1 ++ t64) ++ ((⟨#[32, 114]⟩ : ByteArray) ++ t12)) ++ (⟨#[32, 114]⟩ : ByteArray)) ++ t71) ++ (⟨#[32]⟩ : ByteArray)) ++ t76) w__24) ∧
(((t59 : Int) == 17) = false → Ld (.i .i64) (Addr.add a_x 0) w__23 fun (t80 : Int) w__25 =>
(((t80 : Int) == 18) = true → QLd (.i .i64) (Addr.add a_x 5) (fun w' => Below (World.heap w__25).size w__25 w') fun (t84 : Int) =>
QCl (.o (.lf .s)) P0 186 [(.int .i64 t84)] (fun w' => Below (World.heap w__25).size w__25 w') fun (t85 : ByteArray) =>
(((ByteArray.size t9_1 + ByteArray.size t85 : Nat) : Int) ≤ IntKind.i64.max) ∧ (((ByteArray.size (t9_1 ++ t85) + ByteArray.size ((⟨#[32, 114]⟩ : ByteArray) ++ t12) : Nat) : Int) ≤ IntKind.i64.max) ∧ (((ByteArray.size ((t9_1 ++ t85) ++ ((⟨#[32, 114]⟩ : ByteArray) ++ t12)) + ByteArray.size (⟨#[32]⟩ : ByteArray) : Nat) : Int) ≤ IntKind.i64.max) ∧ QLd (.i .i64) (Addr.add a_x 3) (fun w' => Below (World.heap w__25).size w__25 w') fun (t91 : Int) =>
QCl (.o (.lf .s)) P0 186 [(.int .i64 t91)] (fun w' => Below (World.heap w__25).size w__25 w') fun (t92 : ByteArray) =>
(((ByteArray.size (((t9_1 ++ t85) ++ ((⟨#[32, 114]⟩ : ByteArray) ++ t12)) ++ (⟨#[32]⟩ : ByteArray)) + ByteArray.size t92 : Nat) : Int) ≤ IntKind.i64.max) ∧ (((ByteArray.size ((((t9_1 ++ t85) ++ ((⟨#[32, 114]⟩ : ByteArray) ++ t12)) ++ (⟨#[32]⟩ : ByteArray)) ++ t92) + ByteArray.size (⟨#[32]⟩ : ByteArray) : Nat) : Int) ≤ IntKind.i64.max) ∧ QLd (.i .i64) (Addr.add a_x 2) (fun w' => Below (World.heap w__25).size w__25 w') fun (t96 : Int) =>
QLd (.i .i64) (Addr.add a_x 4) (fun w' => Below (World.heap w__25).size w__25 w') fun (t98 : Int) =>
QCl (.o (.lf .s)) P0 190 [(.int .i64 t96), (.int .i64 t98)] (fun w' => Below (World.heap w__25).size w__25 w') fun (t99 : ByteArray) =>
(((ByteArray.size (((((t9_1 ++ t85) ++ ((⟨#[32, 114]⟩ : ByteArray) ++ t12)) ++ (⟨#[32]⟩ : ByteArray)) ++ t92) ++ (⟨#[32]⟩ : ByteArray)) + ByteArray.size t99 : Nat) : Int) ≤ IntKind.i64.max) ∧ ∀ w__26, Below (World.heap w__25).size w__25 w__26 →
K ((((((t9_1 ++ t85) ++ ((⟨#[32, 114]⟩ : ByteArray) ++ t12)) ++ (⟨#[32]⟩ : ByteArray)) ++ t92) ++ (⟨#[32]⟩ : ByteArray)) ++ t99) w__26) ∧
(((t80 : Int) == 18) = false → Ld (.i .i64) (Addr.add a_x 0) w__25 fun (t103 : Int) w__27 =>
(((t103 : Int) == 19) = true → ∃ Sp_1 : World → World → Prop, SpOk Sp_1 w__27 ∧
∃ G_t106 : ByteArray → World → Prop, Kept Sp_1 G_t106 ∧
∃ G_t107 : Sl → World → Prop, Kept Sp_1 G_t107 ∧
∃ G_t109 : Int → World → Prop, Kept Sp_1 G_t109 ∧
∃ G_t110 : Addr → World → Prop, Kept Sp_1 G_t110 ∧
∃ G_t111 : ByteArray → World → Prop, Kept Sp_1 G_t111 ∧
∃ G_t112 : ByteArray → World → Prop, Kept Sp_1 G_t112 ∧
(∀ w__28, Sp_1 w__27 w__28 → (((ByteArray.size t9_1 + ByteArray.size (⟨#[32]⟩ : ByteArray) : Nat) : Int) ≤ IntKind.i64.max) ∧ GK (.o (.lf .s)) Sp_1 w__28 G_t106 (.string (t9_1 ++ (⟨#[32]⟩ : ByteArray))) w__28) ∧
∀ (t106 : ByteArray), (∀ w__29, Sp_1 w__27 w__29 → CallT (.o (.lf .sl)) P0 189 [] w__29 fun (t107 : Sl) w__30 =>
GK (.o (.lf .sl)) Sp_1 w__29 G_t107 t107.v w__30) ∧
∀ (t107_1 : Sl), (∀ w__31, Sp_1 w__27 w__31 → Ld (.i .i64) (Addr.add a_x 4) w__31 fun (t109 : Int) w__32 =>
GK (.o (.lf (.i .i64))) Sp_1 w__31 G_t109 (.int .i64 t109) w__32) ∧
∀ (t109_1 : Int), (∀ w__33, Sp_1 w__27 w__33 → G_t107 t107_1 w__33 → G_t109 t109_1 w__33 → Ix t107_1.a t107_1.n t109_1 1 w__33 fun a_t110 w__34 =>
GK (.o (.lf .ad)) Sp_1 w__33 G_t110 (.pointer (some a_t110)) w__34) ∧
∀ (t110 : Addr), (∀ w__35, Sp_1 w__27 w__35 → G_t110 t110 w__35 → Ld .s t110 w__35 fun (t111 : ByteArray) w__36 =>
GK (.o (.lf .s)) Sp_1 w__35 G_t111 (.string t111) w__36) ∧
∀ (t111_1 : ByteArray), (∀ w__37, Sp_1 w__27 w__37 → G_t106 t106 w__37 → G_t111 t111_1 w__37 → (((ByteArray.size t106 + ByteArray.size t111_1 : Nat) : Int) ≤ IntKind.i64.max) ∧ GK (.o (.lf .s)) Sp_1 w__37 G_t112 (.string (t106 ++ t111_1)) w__37) ∧
∀ (t112 : ByteArray), ∀ w__38, Sp_1 w__27 w__38 → G_t106 t106 w__38 → G_t107 t107_1 w__38 → G_t109 t109_1 w__38 → G_t110 t110 w__38 → G_t111 t111_1 w__38 → G_t112 t112 w__38 → 
K t112 w__38) ∧
(((t103 : Int) == 19) = false → K t9_1 w__27))))))
theorem spec.l1Line.ok {x : Tup (R 6 (.i .i64))} {w : World} {K : ByteArray → World → Prop} (h : spec.l1Line.vc x w K) : CallT (.o (.lf .s)) P0 165 [(.agg (Tup.cells (R 6 (.i .i64)) x).toArray)] w K :=
  call_of Tryz.func165 rfl rfl (pl := spec.l1Line.pl) (show VC P0 Tryz.f165 spec.l1Line.pl (.o (.lf .s)) [(.agg (Tup.cells (R 6 (.i .i64)) x).toArray)] w K noP from Eq.mp (by kernel_rfl) h)
/- spec.l1Signed -/
def spec.l1Signed.pl : Pl := (.s (.r (D 1)) (.s (.s (.r [.d, .d, .d, (.sp .d), .d, .d, .d, .d]) (.c (.s (.r [.d, (.t (.o (.lf .s))), (.c (.o (.lf (.i .i64)))), .d]) (.s (.s (.r (D 2)) (.c (.s (.r (D 1)) .z) .z)) (.s (.r (D 3)) .z))) .z)) (.s (.r [.d, (.c (.o (.lf (.i .i64)))), .d]) (.s (.s (.r (D 2)) (.c (.s (.r (D 1)) .z) .z)) (.s (.r (D 2)) .z)))))
def spec.l1Signed.vc (s : ByteArray) (w : World) (K : Int → World → Prop) : Prop :=
((decide (((((ByteArray.size s) : Nat) : Int) : Int) > 1)) = true → Sx s 0 w fun t10 w_ =>
(((t10 : Int) == 45) = true → RunT (.o (.lf .s)) P0 (Instr.sliceAt 9 (.string s) (some (.int .i64 1)) none none) w_ fun (t14 : ByteArray) w__1 =>
CallT (.o (.lf (.i .i64))) P0 209 [(.string t14)] w__1 fun (t15 : Int) w__2 =>
((decide ((t15 : Int) < 1)) = true → K 1000 w__2) ∧
((decide ((t15 : Int) < 1)) = false → K (IntKind.wrap .i64 (0 - t15)) w__2)) ∧
(((t10 : Int) == 45) = false → CallT (.o (.lf (.i .i64))) P0 209 [(.string s)] w_ fun (t21 : Int) w__3 =>
((decide ((t21 : Int) < 0)) = true → K 1000 w__3) ∧
((decide ((t21 : Int) < 0)) = false → K t21 w__3))) ∧
((decide (((((ByteArray.size s) : Nat) : Int) : Int) > 1)) = false → CallT (.o (.lf (.i .i64))) P0 209 [(.string s)] w fun (t21_1 : Int) w__4 =>
((decide ((t21_1 : Int) < 0)) = true → K 1000 w__4) ∧
((decide ((t21_1 : Int) < 0)) = false → K t21_1 w__4))
theorem spec.l1Signed.ok {s : ByteArray} {w : World} {K : Int → World → Prop} (h : spec.l1Signed.vc s w K) : CallT (.o (.lf (.i .i64))) P0 188 [(.string s)] w K :=
  call_of Tryz.func188 rfl rfl (pl := spec.l1Signed.pl) (show VC P0 Tryz.f188 spec.l1Signed.pl (.o (.lf (.i .i64))) [(.string s)] w K noP from Eq.mp (by kernel_rfl) h)
/- spec.l1ReadReg -/
def spec.l1ReadReg.pl : Pl := (.s (.r (D 2)) (.s (.s (.r [.d, .d, .d, (.sp .d), .d, .d, .d, .d]) (.c (.s (.r [.d, (.t (.o (.lf .s))), (.c (.o (.lf (.i .i64)))), .d]) (.s (.s (.r (D 2)) (.c (.r (D 1)) .z)) (.s (.r (D 3)) .z))) .z)) (.s (.r [.d, (.c (.o (.lf (.i .i64)))), .d, .d]) .z)))
def spec.l1ReadReg.vc (s : ByteArray) (w : World) (K : (Int) × (Int) × Unit → World → Prop) : Prop :=
((decide (((((ByteArray.size s) : Nat) : Int) : Int) > 1)) = true → Sx s 0 w fun t10 w_ =>
(((t10 : Int) == 114) = true → RunT (.o (.lf .s)) P0 (Instr.sliceAt 9 (.string s) (some (.int .i64 1)) none none) w_ fun (t14 : ByteArray) w__1 =>
CallT (.o (.lf (.i .i64))) P0 209 [(.string t14)] w__1 fun (t15 : Int) w__2 =>
((decide ((t15 : Int) < 0)) = true → K (99, (0, ())) w__2) ∧
((decide ((t15 : Int) < 0)) = false → K (t15, (0, ())) w__2)) ∧
(((t10 : Int) == 114) = false → CallT (.o (.lf (.i .i64))) P0 209 [(.string s)] w_ fun (t20 : Int) w__3 =>
K ((-1), (t20, ())) w__3)) ∧
((decide (((((ByteArray.size s) : Nat) : Int) : Int) > 1)) = false → CallT (.o (.lf (.i .i64))) P0 209 [(.string s)] w fun (t20_1 : Int) w__4 =>
K ((-1), (t20_1, ())) w__4)
theorem spec.l1ReadReg.ok {s : ByteArray} {w : World} {K : (Int) × (Int) × Unit → World → Prop} (h : spec.l1ReadReg.vc s w K) : CallT (.n [(.lf (.i .i64)), (.lf (.i .i64))]) P0 187 [(.string s)] w K :=
  call_of Tryz.func187 rfl rfl (pl := spec.l1ReadReg.pl) (show VC P0 Tryz.f187 spec.l1ReadReg.pl (.n [(.lf (.i .i64)), (.lf (.i .i64))]) [(.string s)] w K noP from Eq.mp (by kernel_rfl) h)
/- spec.l1Read -/
def spec.l1Read.pl : Pl := (.s (.r (D 1)) (.s (.g [((.g (.o (.lf .sl)) (.c (.o (.lf .sl)))), []), (.q, []), ((.g (.o (.lf .ad)) .d), []), ((.g (.o (.lf .s)) (.l (.lf .s))), [2]), ((.g (.o (.lf (.i .i64))) (.c (.o (.lf (.i .i64))))), [0, 3]), ((.g (.o (.ag (R 6 (.i .i64)))) .d), [4]), ((.g (.o (.lf .ad)) .d), [])] [.d]) (.s (.s (.r (D 1)) (.b (.l [(4, (.i .i64))] (.s (.s (.r (D 2)) (.c .z .z)) (.s (.b (.j [(43, .b)] (.r [.d, .d, (.l (.lf .s)), .d, (.c (.o (.lf .s))), .d, .d, (.sp .d), .d, .d, (.l (.lf .s)), .d, (.c (.o (.lf .s))), .d, .d, .d]) (.c (.s (.g [((.g (.o (.lf .sl)) (.c (.o (.lf .sl)))), []), (.q, []), ((.g (.o (.lf .ad)) .d), []), ((.g (.o (.lf .s)) (.l (.lf .s))), [2]), (.q, []), ((.g (.o (.lf .ad)) .d), []), ((.g (.o (.lf .s)) (.l (.lf .s))), [5]), (.q, [6]), (.q, [6]), ((.g (.o (.lf .s)) (.t (.o (.lf .s)))), [3, 6]), ((.g (.o (.lf (.i .i64))) (.c (.o (.lf (.i .i64))))), [0, 9]), (.q, [])] [.d]) (.r (D 3))) .z))) (.r (D 3))))))) (.s (.r (D 3)) (.j [] (.b (.j [(60, .b)] (.r [.d, (.l (.lf (.i .i64))), (.c (.o (.lf .b))), (.sp .d), .d, .d, .d, (.sp .d), .d, (.l (.lf (.i .i64))), (.c (.o (.lf .b))), (.sp .d), .d, .d, .d, .d, .d]) (.c (.s (.r [.d, .d, (.l (.lf .s)), (.c (.n [(.lf (.i .i64)), (.lf (.i .i64))])), .d, .d, .d, .d, .d]) (.s (.r [.d, .d, (.l (.lf .s)), (.c (.n [(.lf (.i .i64)), (.lf (.i .i64))])), .d, .d, .d, .d, .d]) (.s (.r (D 3)) (.s (.r (D 3)) (.s (.r (D 3)) (.s (.r (D 2)) (.c (.r [.d, .d, (.l (.lf .s)), (.c (.o (.lf (.i .i64)))), .d, .d]) .z))))))) (.j [(104, .b)] (.r [.d, (.l (.lf (.i .i64))), .d, (.sp .d), .d, .d, .d, .d]) (.c (.r [.d, .d, (.l (.lf .s)), (.c (.o (.lf (.i .i64)))), .d, .d]) (.j [(117, .b)] (.r [.d, (.l (.lf (.i .i64))), .d, (.sp .d), .d, .d, .d, .d]) (.c (.s (.r [.d, .d, (.l (.lf .s)), (.c (.n [(.lf (.i .i64)), (.lf (.i .i64))])), .d, .d, .d, .d, .d]) (.s (.r [.d, .d, (.l (.lf .s)), (.c (.n [(.lf (.i .i64)), (.lf (.i .i64))])), .d, .d, .d, .d, .d]) (.s (.r (D 3)) (.s (.r (D 3)) (.r [.d, .d, (.l (.lf .s)), (.c (.o (.lf (.i .i64)))), .d, .d]))))) (.j [(148, .b)] (.r [.d, (.l (.lf (.i .i64))), .d, (.sp .d), .d, .d, .d, .d]) (.c (.s (.r [.d, .d, (.l (.lf .s)), (.c (.n [(.lf (.i .i64)), (.lf (.i .i64))])), .d, .d, .d, .d, .d]) (.s (.r [.d, .d, (.l (.lf .s)), (.c (.n [(.lf (.i .i64)), (.lf (.i .i64))])), .d, .d, .d, .d, .d]) (.s (.r (D 3)) (.s (.r [.d, .d, (.l (.lf .s)), (.c (.o (.lf (.i .i64)))), .d, .d]) (.s (.r (D 3)) (.r (D 3))))))) (.s (.r [.d, (.l (.lf (.i .i64))), .d, (.sp .d), .d, .d, .d, .d]) (.c (.g [((.g (.o (.lf .sl)) (.c (.o (.lf .sl)))), []), (.q, []), ((.g (.o (.lf .ad)) .d), []), ((.g (.o (.lf .s)) (.l (.lf .s))), [2]), ((.g (.o (.lf (.i .i64))) (.c (.o (.lf (.i .i64))))), [0, 3]), (.q, [])] [.d]) .z))))))))))) (.s (.r [(.l (.ag (R 6 (.i .i64)))), .d]) .z))))))
set_option maxHeartbeats 4000000 in
def spec.l1Read.vc (w_ : Sl) (w : World) (K : Tup (R 6 (.i .i64)) → World → Prop) : Prop :=
Nw (zc P0 82) 82 w fun a_t2 w__1 =>
∃ Sp : World → World → Prop, SpOk Sp w__1 ∧
∃ G_t18 : Sl → World → Prop, Kept Sp G_t18 ∧
∃ G_t20 : Addr → World → Prop, Kept Sp G_t20 ∧
∃ G_t21 : ByteArray → World → Prop, Kept Sp G_t21 ∧
∃ G_t22 : Int → World → Prop, Kept Sp G_t22 ∧
∃ G_t23 : Tup (R 6 (.i .i64)) → World → Prop, Kept Sp G_t23 ∧
∃ G_x : Addr → World → Prop, Kept Sp G_x ∧
(∀ w__2, Sp w__1 w__2 → CallT (.o (.lf .sl)) P0 185 [] w__2 fun (t18 : Sl) w__3 =>
GK (.o (.lf .sl)) Sp w__2 G_t18 t18.v w__3) ∧
∀ (t18_1 : Sl), (∀ w__4, Sp w__1 w__4 → Ix w_.a w_.n 0 1 w__4 fun a_t20 w__5 =>
GK (.o (.lf .ad)) Sp w__4 G_t20 (.pointer (some a_t20)) w__5) ∧
∀ (t20 : Addr), (∀ w__6, Sp w__1 w__6 → G_t20 t20 w__6 → Ld .s t20 w__6 fun (t21 : ByteArray) w__7 =>
GK (.o (.lf .s)) Sp w__6 G_t21 (.string t21) w__7) ∧
∀ (t21_1 : ByteArray), (∀ w__8, Sp w__1 w__8 → G_t18 t18_1 w__8 → G_t21 t21_1 w__8 → CallT (.o (.lf (.i .i64))) P0 184 [t18_1.v, (.string t21_1)] w__8 fun (t22 : Int) w__9 =>
GK (.o (.lf (.i .i64))) Sp w__8 G_t22 (.int .i64 t22) w__9) ∧
∀ (t22_1 : Int), (∀ w__10, Sp w__1 w__10 → G_t22 t22_1 w__10 → GK (.o (.ag (R 6 (.i .i64)))) Sp w__10 G_t23 (.agg #[(.int .i64 t22_1), (.int .i64 0), (.int .i64 (-1)), (.int .i64 0), (.int .i64 0), (.int .i64 0)]) w__10) ∧
∀ (t23 : Tup (R 6 (.i .i64))), (∀ w__11, Sp w__1 w__11 → Nw (zc P0 82) 82 w__11 fun a_x w__12 =>
GK (.o (.lf .ad)) Sp w__11 G_x (.pointer (some a_x)) w__12) ∧
∀ (x : Addr), ∀ w__13, Sp w__1 w__13 → G_t18 t18_1 w__13 → G_t20 t20 w__13 → G_t21 t21_1 w__13 → G_t22 t22_1 w__13 → G_t23 t23 w__13 → G_x x w__13 → 
StA P0 x (Tup.cells (R 6 (.i .i64)) t23) w__13 fun w__14 =>
∃ (I : Int → World → Prop) (M : Int → World → Nat),
I 1 w__14 ∧
(∀ (size : Int) w__15, I size w__15 → ∀ _ : Nat → Value,
((decide ((size : Int) ≤ 4)) = true → ∃ J : Bool → World → Prop,
(QIx w_.a w_.n 0 1 fun a_t29 =>
QLd .s a_t29 (fun w' => Below (World.heap w__15).size w__15 w') fun (t30 : ByteArray) =>
QCl (.o (.lf .s)) P0 186 [(.int .i64 size)] (fun w' => Below (World.heap w__15).size w__15 w') fun (t32 : ByteArray) =>
(((ByteArray.size (⟨#[108, 111, 97, 100]⟩ : ByteArray) + ByteArray.size t32 : Nat) : Int) ≤ IntKind.i64.max) ∧ ((ByteArray.toList t30 == ByteArray.toList ((⟨#[108, 111, 97, 100]⟩ : ByteArray) ++ t32)) = true → ∀ w__16, Below (World.heap w__15).size w__15 w__16 →
J true w__16) ∧
((ByteArray.toList t30 == ByteArray.toList ((⟨#[108, 111, 97, 100]⟩ : ByteArray) ++ t32)) = false → QIx w_.a w_.n 0 1 fun a_t37 =>
QLd .s a_t37 (fun w' => Below (World.heap w__15).size w__15 w') fun (t38 : ByteArray) =>
QCl (.o (.lf .s)) P0 186 [(.int .i64 size)] (fun w' => Below (World.heap w__15).size w__15 w') fun (t40 : ByteArray) =>
(((ByteArray.size (⟨#[115, 116, 111, 114, 101]⟩ : ByteArray) + ByteArray.size t40 : Nat) : Int) ≤ IntKind.i64.max) ∧ ∀ w__16, Below (World.heap w__15).size w__15 w__16 →
J (ByteArray.toList t38 == ByteArray.toList ((⟨#[115, 116, 111, 114, 101]⟩ : ByteArray) ++ t40)) w__16)) ∧
(∀ (t43 : Bool) w__17, J t43 w__17 → ∀ _ : Nat → Value,
(t43 = true → ∃ Sp_1 : World → World → Prop, SpOk Sp_1 w__17 ∧
∃ G_t44 : Sl → World → Prop, Kept Sp_1 G_t44 ∧
∃ G_t46 : Addr → World → Prop, Kept Sp_1 G_t46 ∧
∃ G_t47 : ByteArray → World → Prop, Kept Sp_1 G_t47 ∧
∃ G_t49 : Addr → World → Prop, Kept Sp_1 G_t49 ∧
∃ G_t50 : ByteArray → World → Prop, Kept Sp_1 G_t50 ∧
∃ G_t53 : ByteArray → World → Prop, Kept Sp_1 G_t53 ∧
∃ G_t54 : Int → World → Prop, Kept Sp_1 G_t54 ∧
(∀ w__18, Sp_1 w__17 w__18 → CallT (.o (.lf .sl)) P0 185 [] w__18 fun (t44 : Sl) w__19 =>
GK (.o (.lf .sl)) Sp_1 w__18 G_t44 t44.v w__19) ∧
∀ (t44_1 : Sl), (∀ w__20, Sp_1 w__17 w__20 → Ix w_.a w_.n 0 1 w__20 fun a_t46 w__21 =>
GK (.o (.lf .ad)) Sp_1 w__20 G_t46 (.pointer (some a_t46)) w__21) ∧
∀ (t46 : Addr), (∀ w__22, Sp_1 w__17 w__22 → G_t46 t46 w__22 → Ld .s t46 w__22 fun (t47 : ByteArray) w__23 =>
GK (.o (.lf .s)) Sp_1 w__22 G_t47 (.string t47) w__23) ∧
∀ (t47_1 : ByteArray), (∀ w__24, Sp_1 w__17 w__24 → Ix w_.a w_.n 0 1 w__24 fun a_t49 w__25 =>
GK (.o (.lf .ad)) Sp_1 w__24 G_t49 (.pointer (some a_t49)) w__25) ∧
∀ (t49 : Addr), (∀ w__26, Sp_1 w__17 w__26 → G_t49 t49 w__26 → Ld .s t49 w__26 fun (t50 : ByteArray) w__27 =>
GK (.o (.lf .s)) Sp_1 w__26 G_t50 (.string t50) w__27) ∧
∀ (t50_1 : ByteArray), (∀ w__28, Sp_1 w__17 w__28 → G_t47 t47_1 w__28 → G_t50 t50_1 w__28 → RunT (.o (.lf .s)) P0 (Instr.sliceAt 9 (.string t47_1) none (some (.int .i64 (IntKind.wrap .i64 ((((ByteArray.size t50_1) : Nat) : Int) - 1)))) none) w__28 fun (t53 : ByteArray) w__29 =>
GK (.o (.lf .s)) Sp_1 w__28 G_t53 (.string t53) w__29) ∧
∀ (t53_1 : ByteArray), (∀ w__30, Sp_1 w__17 w__30 → G_t44 t44_1 w__30 → G_t53 t53_1 w__30 → CallT (.o (.lf (.i .i64))) P0 184 [t44_1.v, (.string t53_1)] w__30 fun (t54 : Int) w__31 =>
GK (.o (.lf (.i .i64))) Sp_1 w__30 G_t54 (.int .i64 t54) w__31) ∧
∀ (t54_1 : Int), ∀ w__32, Sp_1 w__17 w__32 → G_t44 t44_1 w__32 → G_t46 t46 w__32 → G_t47 t47_1 w__32 → G_t49 t49 w__32 → G_t50 t50_1 w__32 → G_t53 t53_1 w__32 → G_t54 t54_1 w__32 → 
St (Addr.add x 0) (.int .i64 t54_1) w__32 fun w__33 =>
St (Addr.add x 5) (.int .i64 size) w__33 fun w__34 =>
(I (IntKind.wrap .i64 (size * 2)) w__34 ∧ M (IntKind.wrap .i64 (size * 2)) w__34 < M size w__15)) ∧
(t43 = false → (I (IntKind.wrap .i64 (size * 2)) w__17 ∧ M (IntKind.wrap .i64 (size * 2)) w__17 < M size w__15)))) ∧
((decide ((size : Int) ≤ 4)) = false → ∃ J_1 : World → Prop,
(∃ J_2 : Bool → World → Prop,
(Ld (.i .i64) (Addr.add x 0) w__15 fun (t62 : Int) w__35 =>
CallT (.o (.lf .b)) P0 63 [(.int .i64 t62)] w__35 fun (t63 : Bool) w__36 =>
(t63 = true → (((((w_.n : Nat) : Int) : Int) == 3) = true → J_2 true w__36) ∧
(((((w_.n : Nat) : Int) : Int) == 3) = false → Ld (.i .i64) (Addr.add x 0) w__36 fun (t70 : Int) w__37 =>
CallT (.o (.lf .b)) P0 65 [(.int .i64 t70)] w__37 fun (t71 : Bool) w__38 =>
(t71 = true → J_2 ((((w_.n : Nat) : Int) : Int) == 4) w__38) ∧
(t71 = false → J_2 false w__38))) ∧
(t63 = false → Ld (.i .i64) (Addr.add x 0) w__36 fun (t70_1 : Int) w__39 =>
CallT (.o (.lf .b)) P0 65 [(.int .i64 t70_1)] w__39 fun (t71_1 : Bool) w__40 =>
(t71_1 = true → J_2 ((((w_.n : Nat) : Int) : Int) == 4) w__40) ∧
(t71_1 = false → J_2 false w__40))) ∧
(∀ (t60 : Bool) w__41, J_2 t60 w__41 → ∀ _ : Nat → Value,
(t60 = true → Ix w_.a w_.n 1 1 w__41 fun a_t79 w__42 =>
Ld .s a_t79 w__42 fun (t80 : ByteArray) w__43 =>
CallT (.n [(.lf (.i .i64)), (.lf (.i .i64))]) P0 187 [(.string t80)] w__43 fun (t81 : (Int) × (Int) × Unit) w__44 =>
Ix w_.a w_.n 2 1 w__44 fun a_t86 w__45 =>
Ld .s a_t86 w__45 fun (t87 : ByteArray) w__46 =>
CallT (.n [(.lf (.i .i64)), (.lf (.i .i64))]) P0 187 [(.string t87)] w__46 fun (t88 : (Int) × (Int) × Unit) w__47 =>
St (Addr.add x 1) (.int .i64 t81.1) w__47 fun w__48 =>
St (Addr.add x 2) (.int .i64 t88.1) w__48 fun w__49 =>
St (Addr.add x 4) (.int .i64 t88.2.1) w__49 fun w__50 =>
(((((w_.n : Nat) : Int) : Int) == 4) = true → Ix w_.a w_.n 3 1 w__50 fun a_t100 w__51 =>
Ld .s a_t100 w__51 fun (t101 : ByteArray) w__52 =>
CallT (.o (.lf (.i .i64))) P0 188 [(.string t101)] w__52 fun (t102 : Int) w__53 =>
St (Addr.add x 3) (.int .i64 t102) w__53 fun w__54 =>
J_1 w__54) ∧
(((((w_.n : Nat) : Int) : Int) == 4) = false → J_1 w__50)) ∧
(t60 = false → ∃ J_3 : Bool → World → Prop,
(Ld (.i .i64) (Addr.add x 0) w__41 fun (t106 : Int) w__55 =>
(((t106 : Int) == 16) = true → J_3 ((((w_.n : Nat) : Int) : Int) == 2) w__55) ∧
(((t106 : Int) == 16) = false → J_3 false w__55)) ∧
(∀ (t104 : Bool) w__56, J_3 t104 w__56 → ∀ _ : Nat → Value,
(t104 = true → Ix w_.a w_.n 1 1 w__56 fun a_t113 w__57 =>
Ld .s a_t113 w__57 fun (t114 : ByteArray) w__58 =>
CallT (.o (.lf (.i .i64))) P0 188 [(.string t114)] w__58 fun (t115 : Int) w__59 =>
St (Addr.add x 3) (.int .i64 t115) w__59 fun w__60 =>
J_1 w__60) ∧
(t104 = false → ∃ J_4 : Bool → World → Prop,
(Ld (.i .i64) (Addr.add x 0) w__56 fun (t119 : Int) w__61 =>
(((t119 : Int) == 17) = true → J_4 ((((w_.n : Nat) : Int) : Int) == 4) w__61) ∧
(((t119 : Int) == 17) = false → J_4 false w__61)) ∧
(∀ (t117 : Bool) w__62, J_4 t117 w__62 → ∀ _ : Nat → Value,
(t117 = true → Ix w_.a w_.n 1 1 w__62 fun a_t127 w__63 =>
Ld .s a_t127 w__63 fun (t128 : ByteArray) w__64 =>
CallT (.n [(.lf (.i .i64)), (.lf (.i .i64))]) P0 187 [(.string t128)] w__64 fun (t129 : (Int) × (Int) × Unit) w__65 =>
Ix w_.a w_.n 2 1 w__65 fun a_t134 w__66 =>
Ld .s a_t134 w__66 fun (t135 : ByteArray) w__67 =>
CallT (.n [(.lf (.i .i64)), (.lf (.i .i64))]) P0 187 [(.string t135)] w__67 fun (t136 : (Int) × (Int) × Unit) w__68 =>
St (Addr.add x 1) (.int .i64 t129.1) w__68 fun w__69 =>
St (Addr.add x 2) (.int .i64 t136.1) w__69 fun w__70 =>
Ix w_.a w_.n 3 1 w__70 fun a_t144 w__71 =>
Ld .s a_t144 w__71 fun (t145 : ByteArray) w__72 =>
CallT (.o (.lf (.i .i64))) P0 188 [(.string t145)] w__72 fun (t146 : Int) w__73 =>
St (Addr.add x 3) (.int .i64 t146) w__73 fun w__74 =>
J_1 w__74) ∧
(t117 = false → ∃ J_5 : Bool → World → Prop,
(Ld (.i .i64) (Addr.add x 0) w__62 fun (t150 : Int) w__75 =>
(((t150 : Int) == 18) = true → J_5 ((((w_.n : Nat) : Int) : Int) == 4) w__75) ∧
(((t150 : Int) == 18) = false → J_5 false w__75)) ∧
(∀ (t148 : Bool) w__76, J_5 t148 w__76 → ∀ _ : Nat → Value,
(t148 = true → Ix w_.a w_.n 1 1 w__76 fun a_t158 w__77 =>
Ld .s a_t158 w__77 fun (t159 : ByteArray) w__78 =>
CallT (.n [(.lf (.i .i64)), (.lf (.i .i64))]) P0 187 [(.string t159)] w__78 fun (t160 : (Int) × (Int) × Unit) w__79 =>
Ix w_.a w_.n 3 1 w__79 fun a_t165 w__80 =>
Ld .s a_t165 w__80 fun (t166 : ByteArray) w__81 =>
CallT (.n [(.lf (.i .i64)), (.lf (.i .i64))]) P0 187 [(.string t166)] w__81 fun (t167 : (Int) × (Int) × Unit) w__82 =>
St (Addr.add x 1) (.int .i64 t160.1) w__82 fun w__83 =>
Ix w_.a w_.n 2 1 w__83 fun a_t173 w__84 =>
Ld .s a_t173 w__84 fun (t174 : ByteArray) w__85 =>
CallT (.o (.lf (.i .i64))) P0 188 [(.string t174)] w__85 fun (t175 : Int) w__86 =>
St (Addr.add x 3) (.int .i64 t175) w__86 fun w__87 =>
St (Addr.add x 2) (.int .i64 t167.1) w__87 fun w__88 =>
St (Addr.add x 4) (.int .i64 t167.2.1) w__88 fun w__89 =>
J_1 w__89) ∧
(t148 = false → Ld (.i .i64) (Addr.add x 0) w__76 fun (t183 : Int) w__90 =>
(((t183 : Int) == 19) = true → (((((w_.n : Nat) : Int) : Int) == 2) = true → ∃ Sp_2 : World → World → Prop, SpOk Sp_2 w__90 ∧
∃ G_t189 : Sl → World → Prop, Kept Sp_2 G_t189 ∧
∃ G_t191 : Addr → World → Prop, Kept Sp_2 G_t191 ∧
∃ G_t192 : ByteArray → World → Prop, Kept Sp_2 G_t192 ∧
∃ G_t193 : Int → World → Prop, Kept Sp_2 G_t193 ∧
(∀ w__91, Sp_2 w__90 w__91 → CallT (.o (.lf .sl)) P0 189 [] w__91 fun (t189 : Sl) w__92 =>
GK (.o (.lf .sl)) Sp_2 w__91 G_t189 t189.v w__92) ∧
∀ (t189_1 : Sl), (∀ w__93, Sp_2 w__90 w__93 → Ix w_.a w_.n 1 1 w__93 fun a_t191 w__94 =>
GK (.o (.lf .ad)) Sp_2 w__93 G_t191 (.pointer (some a_t191)) w__94) ∧
∀ (t191 : Addr), (∀ w__95, Sp_2 w__90 w__95 → G_t191 t191 w__95 → Ld .s t191 w__95 fun (t192 : ByteArray) w__96 =>
GK (.o (.lf .s)) Sp_2 w__95 G_t192 (.string t192) w__96) ∧
∀ (t192_1 : ByteArray), (∀ w__97, Sp_2 w__90 w__97 → G_t189 t189_1 w__97 → G_t192 t192_1 w__97 → CallT (.o (.lf (.i .i64))) P0 184 [t189_1.v, (.string t192_1)] w__97 fun (t193 : Int) w__98 =>
GK (.o (.lf (.i .i64))) Sp_2 w__97 G_t193 (.int .i64 t193) w__98) ∧
∀ (t193_1 : Int), ∀ w__99, Sp_2 w__90 w__99 → G_t189 t189_1 w__99 → G_t191 t191 w__99 → G_t192 t192_1 w__99 → G_t193 t193_1 w__99 → 
St (Addr.add x 4) (.int .i64 t193_1) w__99 fun w__100 =>
J_1 w__100) ∧
(((((w_.n : Nat) : Int) : Int) == 2) = false → J_1 w__90)) ∧
(((t183 : Int) == 19) = false → J_1 w__90)))))))))) ∧
(∀  w__101, J_1 w__101 → ∀ _ : Nat → Value,
LdA (R 6 (.i .i64)) x w__101 fun (t195 : Tup (R 6 (.i .i64))) w__102 =>
StA P0 a_t2 (Tup.cells (R 6 (.i .i64)) t195) w__102 fun w__103 =>
LdA (R 6 (.i .i64)) a_t2 w__103 fun r w__104 =>
K r w__103)))
theorem spec.l1Read.ok {w_ : Sl} {w : World} {K : Tup (R 6 (.i .i64)) → World → Prop} (h : spec.l1Read.vc w_ w K) : CallT (.o (.ag (R 6 (.i .i64)))) P0 163 [w_.v] w K :=
  call_of Tryz.func163 rfl rfl (pl := spec.l1Read.pl) (show VC P0 Tryz.f163 spec.l1Read.pl (.o (.ag (R 6 (.i .i64)))) [w_.v] w K noP from Eq.mp (by kernel_rfl) h)
/- spec.LineGet -/
def spec.LineGet.pl : Pl := (.s (.r (D 2)) (.s (.r [.d, (.c (.o (.lf .sl))), (.c (.o (.ag (R 6 (.i .i64))))), .d, .d]) (.s (.s (.r [(.l (.ag (R 6 (.i .i64)))), (.c (.o (.lf .b))), .d, (.sp .d), (.l (.ag (R 6 (.i .i64)))), (.c (.o (.lf .s))), .d, .d, .d]) (.c (.s (.r (D 3)) .z) .z)) (.s (.r [(.l (.ag (R 6 (.i .i64)))), .d, .d]) .z))))
def spec.LineGet.vc (s : ByteArray) (w : World) (K : (Tup (R 6 (.i .i64))) × (Bool) × Unit → World → Prop) : Prop :=
Nw (zc P0 82) 82 w fun a_t2 w_ =>
CallT (.o (.lf .sl)) P0 164 [(.string s), (.int .u8 32), (.int .i64 5)] w_ fun (t6 : Sl) w__1 =>
CallT (.o (.ag (R 6 (.i .i64)))) P0 163 [t6.v] w__1 fun (t7 : Tup (R 6 (.i .i64))) w__2 =>
Nw (zc P0 82) 82 w__2 fun a_x w__3 =>
StA P0 a_x (Tup.cells (R 6 (.i .i64)) t7) w__3 fun w__4 =>
LdA (R 6 (.i .i64)) a_x w__4 fun (t8 : Tup (R 6 (.i .i64))) w__5 =>
CallT (.o (.lf .b)) P0 90 [(.agg (Tup.cells (R 6 (.i .i64)) t8).toArray)] w__5 fun (t9 : Bool) w__6 =>
((!t9) = true → StA P0 a_t2 [(.int .i64 0), (.int .i64 0), (.int .i64 0), (.int .i64 0), (.int .i64 0), (.int .i64 0)] w__6 fun w__7 =>
LdA (R 6 (.i .i64)) a_t2 w__7 fun r w__8 =>
K (r, (false, ())) w__7) ∧
((!t9) = false → LdA (R 6 (.i .i64)) a_x w__6 fun (t12 : Tup (R 6 (.i .i64))) w__9 =>
CallT (.o (.lf .s)) P0 165 [(.agg (Tup.cells (R 6 (.i .i64)) t12).toArray)] w__9 fun (t13 : ByteArray) w__10 =>
((!(ByteArray.toList t13 == ByteArray.toList s)) = true → StA P0 a_t2 [(.int .i64 0), (.int .i64 0), (.int .i64 0), (.int .i64 0), (.int .i64 0), (.int .i64 0)] w__10 fun w__11 =>
LdA (R 6 (.i .i64)) a_t2 w__11 fun r_1 w__12 =>
K (r_1, (false, ())) w__11) ∧
((!(ByteArray.toList t13 == ByteArray.toList s)) = false → LdA (R 6 (.i .i64)) a_x w__10 fun (t18 : Tup (R 6 (.i .i64))) w__13 =>
StA P0 a_t2 (Tup.cells (R 6 (.i .i64)) t18) w__13 fun w__14 =>
LdA (R 6 (.i .i64)) a_t2 w__14 fun r_2 w__15 =>
K (r_2, (true, ())) w__14))
theorem spec.LineGet.ok {s : ByteArray} {w : World} {K : (Tup (R 6 (.i .i64))) × (Bool) × Unit → World → Prop} (h : spec.LineGet.vc s w K) : CallT (.n [(.ag (R 6 (.i .i64))), (.lf .b)]) P0 127 [(.string s)] w K :=
  call_of Tryz.func127 rfl rfl (pl := spec.LineGet.pl) (show VC P0 Tryz.f127 spec.LineGet.pl (.n [(.ag (R 6 (.i .i64))), (.lf .b)]) [(.string s)] w K noP from Eq.mp (by kernel_rfl) h)
/- spec.DrawProgForm -/
def spec.DrawProgForm.pl : Pl := (.s (.r (D 1)) (.s (.r [.d, (.c (.o (.lf .p))), .d]) (.s (.r [.d, (.c (.o (.lf .sl))), .d]) (.s (.s (.r [.d, (.c (.o (.lf (.i .i64))))]) (.b (.s (.r (D 2)) (.c (.s (.r [.d, .d, .d, .d, (.t (.o (.lf .sl))), .d]) .z) (.s (.r (D 2)) (.c (.b (.l [(4, .sl)] (.s (.s (.r [.d, .d, .d, (.c (.o (.lf (.i .i64)))), .d, .d]) (.c .z .z)) (.b (.r [.d, .d, .d, (.t (.o (.lf .sl))), .d]))))) (.s (.r (D 2)) (.c (.s (.r (D 1)) .z) .z)))))))) (.s (.r (D 2)) .z)))))
def spec.DrawProgForm.vc (code : Sl) (w : World) (K : Sl → World → Prop) : Prop :=
CallT (.o (.lf .p)) P0 31 [code.v] w fun (t6 : Option Addr) w_ =>
CallT (.o (.lf .sl)) P0 41 [(.pointer t6)] w_ fun (t8 : Sl) w__1 =>
CallT (.o (.lf (.i .i64))) P0 42 [(.pointer t6), (.int .i64 8)] w__1 fun (t10 : Int) w__2 =>
(((t10 : Int) == 0) = true → RunT (.o (.lf .sl)) P0 (Instr.sliceAt 23 t8.v none (some (.int .i64 (IntKind.wrap .i64 (((t8.n : Nat) : Int) - 1)))) none) w__2 fun (t17 : Sl) w__3 =>
K t17 w__3) ∧
(((t10 : Int) == 0) = false → (((t10 : Int) == 1) = true → ∃ (I : Sl → World → Prop) (M : Sl → World → Nat),
I t8 w__2 ∧
(∀ (list : Sl) w__4, I list w__4 → ∀ _ : Nat → Value,
CallT (.o (.lf (.i .i64))) P0 42 [(.pointer t6), (.int .i64 2)] w__4 fun (t23 : Int) w__5 =>
((decide ((((list.n : Nat) : Int) : Int) < (IntKind.wrap .i64 (48 + t23)))) = true → Nw #[(.int .i64 20), (.int .i64 0), (.int .i64 (-1)), (.int .i64 0), (.int .i64 0), (.int .i64 0)] 82 w__5 fun a_t28 w__6 =>
RunT (.o (.lf .sl)) P0 (Builtin.append_ #[23, 23] 23 #[list.v, (.slice (some a_t28) 1 1)]) w__6 fun (t29 : Sl) w__7 =>
(I t29 w__7 ∧ M t29 w__7 < M list w__4)) ∧
((decide ((((list.n : Nat) : Int) : Int) < (IntKind.wrap .i64 (48 + t23)))) = false → K list w__5))) ∧
(((t10 : Int) == 1) = false → (((t10 : Int) == 2) = true → K ⟨none, 0, 0⟩ w__2) ∧
(((t10 : Int) == 2) = false → K t8 w__2)))
theorem spec.DrawProgForm.ok {code : Sl} {w : World} {K : Sl → World → Prop} (h : spec.DrawProgForm.vc code w K) : CallT (.o (.lf .sl)) P0 20 [code.v] w K :=
  call_of Tryz.func20 rfl rfl (pl := spec.DrawProgForm.pl) (show VC P0 Tryz.f20 spec.DrawProgForm.pl (.o (.lf .sl)) [code.v] w K noP from Eq.mp (by kernel_rfl) h)
/- laws.sgInts -/
def laws.sgInts.pl : Pl := (.s (.r (D 1)) (.s (.s (.r (D 5)) (.c (.s (.r (D 1)) .z) .z)) (.s (.s (.r (D 1)) (.b (.l [(5, (.i .i64))] (.s (.s (.r (D 4)) (.c .z .z)) (.s (.b (.s (.r [.d, .d, .d, (.l (.lf (.i .i64))), .d, .d, .d, (.l (.lf (.i .i64))), .d]) (.c (.s (.r (D 1)) .z) .z))) (.r (D 3))))))) (.s (.r (D 1)) .z))))
def laws.sgInts.vc (a : Sl) (b : Sl) (w : World) (K : Bool → World → Prop) : Prop :=
(((((a.n : Nat) : Int) : Int) != ((b.n : Nat) : Int)) = true → K false w) ∧
(((((a.n : Nat) : Int) : Int) != ((b.n : Nat) : Int)) = false → ∃ (I : Int → World → Prop) (M : Int → World → Nat),
I 0 w ∧
(∀ (i : Int) w_, I i w_ → ∀ _ : Nat → Value,
((decide ((i : Int) < ((a.n : Nat) : Int))) = true → QIx a.a a.n i 1 fun a_t19 =>
QLd (.i .i64) a_t19 (fun w' => Below (World.heap w_).size w_ w') fun (t20 : Int) =>
QIx b.a b.n i 1 fun a_t23 =>
QLd (.i .i64) a_t23 (fun w' => Below (World.heap w_).size w_ w') fun (t24 : Int) =>
∀ w__1, Below (World.heap w_).size w_ w__1 →
(((t20 : Int) != t24) = true → K false w__1) ∧
(((t20 : Int) != t24) = false → (I (IntKind.wrap .i64 (i + 1)) w__1 ∧ M (IntKind.wrap .i64 (i + 1)) w__1 < M i w_))) ∧
((decide ((i : Int) < ((a.n : Nat) : Int))) = false → K true w_)))
theorem laws.sgInts.ok {a : Sl} {b : Sl} {w : World} {K : Bool → World → Prop} (h : laws.sgInts.vc a b w K) : CallT (.o (.lf .b)) P0 9 [a.v, b.v] w K :=
  call_of Tryz.func9 rfl rfl (pl := laws.sgInts.pl) (show VC P0 Tryz.f9 laws.sgInts.pl (.o (.lf .b)) [a.v, b.v] w K noP from Eq.mp (by kernel_rfl) h)
/- laws.sgIn -/
def laws.sgIn.pl : Pl := (.s (.r (D 1)) (.s (.s (.r (D 1)) (.b (.l [(5, (.i .i64))] (.s (.s (.r (D 4)) (.c .z .z)) (.s (.b (.s (.r [.d, .d, .d, (.l (.lf (.i .i64))), .d, .d]) (.c (.s (.r (D 1)) .z) .z))) (.r (D 3))))))) (.s (.r (D 1)) .z)))
def laws.sgIn.vc (list : Sl) (n : Int) (w : World) (K : Bool → World → Prop) : Prop :=
∃ (I : Int → World → Prop) (M : Int → World → Nat),
I 0 w ∧
(∀ (i : Int) w_, I i w_ → ∀ _ : Nat → Value,
((decide ((i : Int) < ((list.n : Nat) : Int))) = true → Ix list.a list.n i 1 w_ fun a_t14 w__1 =>
Ld (.i .i64) a_t14 w__1 fun (t15 : Int) w__2 =>
(((t15 : Int) == n) = true → K true w__2) ∧
(((t15 : Int) == n) = false → (I (IntKind.wrap .i64 (i + 1)) w__2 ∧ M (IntKind.wrap .i64 (i + 1)) w__2 < M i w_))) ∧
((decide ((i : Int) < ((list.n : Nat) : Int))) = false → K false w_))
theorem laws.sgIn.ok {list : Sl} {n : Int} {w : World} {K : Bool → World → Prop} (h : laws.sgIn.vc list n w K) : CallT (.o (.lf .b)) P0 12 [list.v, (.int .i64 n)] w K :=
  call_of Tryz.func12 rfl rfl (pl := laws.sgIn.pl) (show VC P0 Tryz.f12 laws.sgIn.pl (.o (.lf .b)) [list.v, (.int .i64 n)] w K noP from Eq.mp (by kernel_rfl) h)
end Go.Proofs.YtihllippchgkgaaGreat.V

/- Verification conditions, printed by this session's own program (wip/vc.py) and checked by the kernel. -/
namespace Go.Proofs.YtihllippchgkgaaGreat.V
open Go Go.RowKit
set_option linter.unusedVariables false
/- (impl.places).sorted -/
def impl.places.sorted.pl : Pl := (.s (.r (D 1)) (.s (.r [.d, (.t (.o (.lf (.i .i64)))), (.t (.o (.lf .sl))), .d]) (.s (.s (.r [.d, (.t (.o (.lf .ad)))]) (.b (.l [(3, .sl)] (.s (.r (D 2)) (.s (.c .z .z) (.b (.s (.r [(.t (.n [(.lf (.i .i64)), (.lf .b)])), .d, .d]) (.r [.d, .d, .d, (.t (.o (.lf .sl))), .d])))))))) (.s (.r [.d, (.c .z)]) (.s (.r (D 2)) .z)))))
def impl.places.sorted.vc (p : Option Nat) (w : World) (K : Sl → World → Prop) : Prop :=
RunT (.o (.lf (.i .i64))) P0 (Builtin.len_ #[42] 3 #[(.map p)]) w fun (t6 : Int) w_ =>
RunT (.o (.lf .sl)) P0 (Instr.makeSlice 25 (.int .i64 0) (.int .i64 t6)) w_ fun (t7 : Sl) w__1 =>
RunT (.o (.lf .ad)) P0 (Instr.range 42 (.map p)) w__1 fun (t9 : Addr) w__2 =>
∃ (I : Sl → World → Prop) (M : Sl → World → Nat),
I t7 w__2 ∧
(∀ (out : Sl) w__3, I out w__3 → ∀ _ : Nat → Value,
Nx P0 (.pointer (some t9)) false 0 w__3 fun more rest w__4 =>
(more = true → RunT (.n [(.lf (.i .i64)), (.lf .b)]) P0 (Instr.entry (.pointer (some t9))) w__4 fun (t12 : (Int) × (Bool) × Unit) w__5 =>
Nw #[(.int .i64 t12.1)] 3 w__5 fun a_t16 w__6 =>
RunT (.o (.lf .sl)) P0 (Builtin.append_ #[25, 25] 25 #[out.v, (.slice (some a_t16) 1 1)]) w__6 fun (t17 : Sl) w__7 =>
(I t17 w__7 ∧ M t17 w__7 < M out w__3)) ∧
(more = false → CallT .z P0 46 [out.v] w__4 fun (u : Unit) w__8 =>
K out w__8))
theorem impl.places.sorted.ok {p : Option Nat} {w : World} {K : Sl → World → Prop} (h : impl.places.sorted.vc p w K) : CallT (.o (.lf .sl)) P0 23 [(.map p)] w K :=
  call_of Tryz.func23 rfl rfl (pl := impl.places.sorted.pl) (show VC P0 Tryz.f23 impl.places.sorted.pl (.o (.lf .sl)) [(.map p)] w K noP from Eq.mp (by kernel_rfl) h)
/- (impl.places).spread -/
def impl.places.spread.pl : Pl := (.s (.r [.d, .d, (.c (.o (.lf .sl))), .d, .d]) (.b (.l [(14, (.i .i64))] (.s (.r (D 1)) (.s (.c .z .z) (.s (.b (.s (.r [.d, (.l (.lf (.i .i64))), .d]) (.s (.r [.d, .d, .d, (.sp .d), .d, .d, (.t (.o (.lf .b))), .d, .d]) (.c (.s (.r [.d, .d, .u]) (.r [.d, .d, .d, .d, (.c .z)])) .z)))) (.r (D 2))))))))
def impl.places.spread.vc (p : Option Nat) (list : Sl) (from_ : Int) (without : Int) (w : World) (K : Unit → World → Prop) : Prop :=
CallT (.o (.lf .sl)) P0 27 [list.v, (.int .i64 from_)] w fun (t12 : Sl) w_ =>
∃ (I : Int → World → Prop) (M : Int → World → Nat),
I 0 w_ ∧
(∀ (t14 : Int) w__1, I t14 w__1 → ∀ _ : Nat → Value,
((decide ((t14 : Int) < ((t12.n : Nat) : Int))) = true → Ix t12.a t12.n t14 1 w__1 fun a_t16 w__2 =>
Ld (.i .i64) a_t16 w__2 fun (t17 : Int) w__3 =>
(((t17 : Int) != without) = true → RunT (.o (.lf .b)) P0 (Instr.lookup 42 (.map p) (.int .i64 t17) false) w__3 fun (t24 : Bool) w__4 =>
((!t24) = true → RunU P0 (Instr.mapUpdate 42 (.map p) (.int .i64 t17) (.bool true)) w__4 fun w__5 =>
CallT .z P0 38 [(.map p), list.v, (.int .i64 t17), (.int .i64 without)] w__5 fun (u : Unit) w__6 =>
(I (IntKind.wrap .i64 (t14 + 1)) w__6 ∧ M (IntKind.wrap .i64 (t14 + 1)) w__6 < M t14 w__1)) ∧
((!t24) = false → (I (IntKind.wrap .i64 (t14 + 1)) w__4 ∧ M (IntKind.wrap .i64 (t14 + 1)) w__4 < M t14 w__1))) ∧
(((t17 : Int) != without) = false → (I (IntKind.wrap .i64 (t14 + 1)) w__3 ∧ M (IntKind.wrap .i64 (t14 + 1)) w__3 < M t14 w__1))) ∧
((decide ((t14 : Int) < ((t12.n : Nat) : Int))) = false → K () w__1))
theorem impl.places.spread.ok {p : Option Nat} {list : Sl} {from_ : Int} {without : Int} {w : World} {K : Unit → World → Prop} (h : impl.places.spread.vc p list from_ without w K) : CallT .z P0 38 [(.map p), list.v, (.int .i64 from_), (.int .i64 without)] w K :=
  call_of Tryz.func38 rfl rfl (pl := impl.places.spread.pl) (show VC P0 Tryz.f38 impl.places.spread.pl .z [(.map p), list.v, (.int .i64 from_), (.int .i64 without)] w K noP from Eq.mp (by kernel_rfl) h)
/- impl.reached -/
def impl.reached.pl : Pl := (.s (.r (D 1)) (.s (.r [(.t (.o (.lf .m))), .u, .d, .d]) (.s (.r [.d, .d, (.c .z)]) (.s (.r (D 2)) .z))))
def impl.reached.vc (list : Sl) (w : World) (K : Option Nat → World → Prop) : Prop :=
RunT (.o (.lf .m)) P0 (Instr.makeMap 42 none) w fun (t4 : Option Nat) w_ =>
RunU P0 (Instr.mapUpdate 42 (.map t4) (.int .i64 0) (.bool true)) w_ fun w__1 =>
CallT .z P0 38 [(.map t4), list.v, (.int .i64 0), (.int .i64 (-1))] w__1 fun (u : Unit) w__2 =>
K t4 w__2
theorem impl.reached.ok {list : Sl} {w : World} {K : Option Nat → World → Prop} (h : impl.reached.vc list w K) : CallT (.o (.lf .m)) P0 22 [list.v] w K :=
  call_of Tryz.func22 rfl rfl (pl := impl.reached.pl) (show VC P0 Tryz.f22 impl.reached.pl (.o (.lf .m)) [list.v] w K noP from Eq.mp (by kernel_rfl) h)
/- impl.FlowAhead -/
def impl.FlowAhead.pl : Pl := (.s (.r (D 1)) (.j [] (.s (.r [.d, (.c (.o (.lf (.i .i64)))), .d, (.sp .d), .d, (.c (.o (.lf .m))), .d, (.t (.o (.lf .b))), .d, .d, (.sp .d), .d, (.c (.o (.lf .m))), .d, (.t (.o (.lf .b))), .d, .d]) (.c (.s (.r (D 1)) .z) .z)) (.j [] (.s (.r [.d, .d, .d, (.sp .d), .d, .d, .d]) (.c (.s (.r (D 1)) .z) .z)) (.s (.r [(.t (.o (.lf .m))), .u, .d, .d]) (.s (.r [.d, .d, .d, (.c .z)]) (.s (.r [.d, .d, (.t (.o (.lf .b))), .d, .d]) .z))))))
def impl.FlowAhead.vc (list : Sl) (a : Int) (b : Int) (w : World) (K : Bool → World → Prop) : Prop :=
∃ J : World → Prop,
(CallT (.o (.lf (.i .i64))) P0 21 [list.v] w fun (t9 : Int) w_ =>
(((t9 : Int) != 0) = true → K false w_) ∧
(((t9 : Int) != 0) = false → CallT (.o (.lf .m)) P0 22 [list.v] w_ fun (t13 : Option Nat) w__1 =>
RunT (.o (.lf .b)) P0 (Instr.lookup 42 (.map t13) (.int .i64 a) false) w__1 fun (t15 : Bool) w__2 =>
((!t15) = true → K false w__2) ∧
((!t15) = false → CallT (.o (.lf .m)) P0 22 [list.v] w__2 fun (t20 : Option Nat) w__3 =>
RunT (.o (.lf .b)) P0 (Instr.lookup 42 (.map t20) (.int .i64 b) false) w__3 fun (t22 : Bool) w__4 =>
((!t22) = true → K false w__4) ∧
((!t22) = false → J w__4)))) ∧
(∀  w__5, J w__5 → ∀ _ : Nat → Value,
∃ J_1 : World → Prop,
((((a : Int) == b) = true → K true w__5) ∧
(((a : Int) == b) = false → (((a : Int) == 0) = true → K true w__5) ∧
(((a : Int) == 0) = false → J_1 w__5))) ∧
(∀  w__6, J_1 w__6 → ∀ _ : Nat → Value,
RunT (.o (.lf .m)) P0 (Instr.makeMap 42 none) w__6 fun (t32 : Option Nat) w__7 =>
RunU P0 (Instr.mapUpdate 42 (.map t32) (.int .i64 0) (.bool true)) w__7 fun w__8 =>
CallT .z P0 38 [(.map t32), list.v, (.int .i64 0), (.int .i64 a)] w__8 fun (u : Unit) w__9 =>
RunT (.o (.lf .b)) P0 (Instr.lookup 42 (.map t32) (.int .i64 b) false) w__9 fun (t40 : Bool) w__10 =>
K (!t40) w__10))
theorem impl.FlowAhead.ok {list : Sl} {a : Int} {b : Int} {w : World} {K : Bool → World → Prop} (h : impl.FlowAhead.vc list a b w K) : CallT (.o (.lf .b)) P0 17 [list.v, (.int .i64 a), (.int .i64 b)] w K :=
  call_of Tryz.func17 rfl rfl (pl := impl.FlowAhead.pl) (show VC P0 Tryz.f17 impl.FlowAhead.pl (.o (.lf .b)) [list.v, (.int .i64 a), (.int .i64 b)] w K noP from Eq.mp (by kernel_rfl) h)
/- spec.l12Reach -/
def spec.l12Reach.pl : Pl := (.s (.r (D 1)) (.s (.r [.d, .d, (.t (.o (.lf .sl))), .d]) (.s (.s (.r (D 3)) (.c (.s (.r (D 2)) .z) .z)) (.s (.r (D 3)) (.s (.r (D 4)) (.s (.s (.r (D 1)) (.b (.l [(8, .sl), (9, (.i .i64))] (.s (.s (.r (D 4)) (.c .z .z)) (.s (.b (.s (.r [.d, .d, .d, .d, (.l (.lf (.i .i64))), (.c (.o (.lf .sl))), .d]) (.s (.r (D 1)) (.b (.l [(8, .sl), (11, (.i .i64))] (.s (.s (.r (D 4)) (.c .z .z)) (.s (.b (.j [(57, .b)] (.r [.d, .d, .d, (.l (.lf (.i .i64))), .d, .d, (.sp .d), .d, .d, .d, .d, (.l (.lf (.i .i64))), .d, (.l (.lf .b)), .d, .d]) (.c (.s (.r [.d, .d, .d, .d, (.l (.lf (.i .i64))), .d, .d]) (.r [.d, .d, .d, .d, (.l (.lf (.i .i64))), .d, (.t (.o (.lf .sl))), .d])) .z))) (.r (D 3))))))))) (.r (D 3))))))) (.s (.r (D 2)) .z)))))))
def spec.l12Reach.vc (list : Sl) (from_ : Int) (but : Int) (w : World) (K : Sl → World → Prop) : Prop :=
RunT (.o (.lf .sl)) P0 (Instr.makeSlice 46 (.int .i64 ((list.n : Nat) : Int)) (.int .i64 ((list.n : Nat) : Int))) w fun (t14 : Sl) w_ =>
(((from_ : Int) == but) = true → K t14 w_) ∧
(((from_ : Int) == but) = false → Nw #[(.int .i64 from_)] 3 w_ fun a_t20 w__1 =>
Ix t14.a t14.n from_ 1 w__1 fun a_t23 w__2 =>
St a_t23 (.bool true) w__2 fun w__3 =>
∃ (I : Sl → Int → World → Prop) (M : Sl → Int → World → Nat),
I ⟨(some a_t20), 1, 1⟩ 0 w__3 ∧
(∀ (todo : Sl) (i : Int) w__4, I todo i w__4 → ∀ _ : Nat → Value,
((decide ((i : Int) < ((todo.n : Nat) : Int))) = true → Ix todo.a todo.n i 1 w__4 fun a_t33 w__5 =>
Ld (.i .i64) a_t33 w__5 fun (t34 : Int) w__6 =>
CallT (.o (.lf .sl)) P0 48 [list.v, (.int .i64 t34)] w__6 fun (t35 : Sl) w__7 =>
∃ (I_1 : Sl → Int → World → Prop) (M_1 : Sl → Int → World → Nat),
I_1 todo 0 w__7 ∧
(∀ (todo_1 : Sl) (k : Int) w__8, I_1 todo_1 k w__8 → ∀ _ : Nat → Value,
((decide ((k : Int) < ((t35.n : Nat) : Int))) = true → ∃ J : Bool → World → Prop,
(Ix t35.a t35.n k 1 w__8 fun a_t44 w__9 =>
Ld (.i .i64) a_t44 w__9 fun (t45 : Int) w__10 =>
(((t45 : Int) != but) = true → Ix t35.a t35.n k 1 w__10 fun a_t52 w__11 =>
Ld (.i .i64) a_t52 w__11 fun (t53 : Int) w__12 =>
Ix t14.a t14.n t53 1 w__12 fun a_t54 w__13 =>
Ld .b a_t54 w__13 fun (t55 : Bool) w__14 =>
J (!t55) w__14) ∧
(((t45 : Int) != but) = false → J false w__10)) ∧
(∀ (t57 : Bool) w__15, J t57 w__15 → ∀ _ : Nat → Value,
(t57 = true → Ix t35.a t35.n k 1 w__15 fun a_t61 w__16 =>
Ld (.i .i64) a_t61 w__16 fun (t62 : Int) w__17 =>
Ix t14.a t14.n t62 1 w__17 fun a_t63 w__18 =>
St a_t63 (.bool true) w__18 fun w__19 =>
Ix t35.a t35.n k 1 w__19 fun a_t67 w__20 =>
Ld (.i .i64) a_t67 w__20 fun (t68 : Int) w__21 =>
Nw #[(.int .i64 t68)] 3 w__21 fun a_t69 w__22 =>
RunT (.o (.lf .sl)) P0 (Builtin.append_ #[25, 25] 25 #[todo_1.v, (.slice (some a_t69) 1 1)]) w__22 fun (t70 : Sl) w__23 =>
(I_1 t70 (IntKind.wrap .i64 (k + 1)) w__23 ∧ M_1 t70 (IntKind.wrap .i64 (k + 1)) w__23 < M_1 todo_1 k w__8)) ∧
(t57 = false → (I_1 todo_1 (IntKind.wrap .i64 (k + 1)) w__15 ∧ M_1 todo_1 (IntKind.wrap .i64 (k + 1)) w__15 < M_1 todo_1 k w__8)))) ∧
((decide ((k : Int) < ((t35.n : Nat) : Int))) = false → (I todo_1 (IntKind.wrap .i64 (i + 1)) w__8 ∧ M todo_1 (IntKind.wrap .i64 (i + 1)) w__8 < M todo i w__4)))) ∧
((decide ((i : Int) < ((todo.n : Nat) : Int))) = false → K t14 w__4)))
theorem spec.l12Reach.ok {list : Sl} {from_ : Int} {but : Int} {w : World} {K : Sl → World → Prop} (h : spec.l12Reach.vc list from_ but w K) : CallT (.o (.lf .sl)) P0 25 [list.v, (.int .i64 from_), (.int .i64 but)] w K :=
  call_of Tryz.func25 rfl rfl (pl := spec.l12Reach.pl) (show VC P0 Tryz.f25 spec.l12Reach.pl (.o (.lf .sl)) [list.v, (.int .i64 from_), (.int .i64 but)] w K noP from Eq.mp (by kernel_rfl) h)
/- impl.FlowReach -/
def impl.FlowReach.pl : Pl := (.s (.r (D 1)) (.s (.s (.r [.d, (.c (.o (.lf (.i .i64)))), .d]) (.c (.s (.r (D 1)) .z) .z)) (.s (.r [.d, (.c (.o (.lf .m))), (.c (.o (.lf .sl))), .d]) .z)))
def impl.FlowReach.vc (list : Sl) (w : World) (K : Sl → World → Prop) : Prop :=
CallT (.o (.lf (.i .i64))) P0 21 [list.v] w fun (t4 : Int) w_ =>
(((t4 : Int) != 0) = true → K ⟨none, 0, 0⟩ w_) ∧
(((t4 : Int) != 0) = false → CallT (.o (.lf .m)) P0 22 [list.v] w_ fun (t7 : Option Nat) w__1 =>
CallT (.o (.lf .sl)) P0 23 [(.map t7)] w__1 fun (t8 : Sl) w__2 =>
K t8 w__2)
theorem impl.FlowReach.ok {list : Sl} {w : World} {K : Sl → World → Prop} (h : impl.FlowReach.vc list w K) : CallT (.o (.lf .sl)) P0 8 [list.v] w K :=
  call_of Tryz.func8 rfl rfl (pl := impl.FlowReach.pl) (show VC P0 Tryz.f8 impl.FlowReach.pl (.o (.lf .sl)) [list.v] w K noP from Eq.mp (by kernel_rfl) h)
/- spec.FlowReach -/
def spec.FlowReach.pl : Pl := (.s (.r (D 1)) (.s (.r (D 2)) (.s (.s (.r [.d, (.c (.o (.lf .b))), .d]) (.c (.s (.r (D 2)) .z) .z)) (.s (.r [.d, (.c (.o (.lf .sl))), .d]) (.s (.s (.r (D 1)) (.b (.l [(3, .sl), (5, (.i .i64))] (.s (.s (.r (D 4)) (.c .z .z)) (.s (.b (.s (.r [.d, .d, .d, (.l (.lf .b))]) (.c (.r [.d, .d, .d, (.t (.o (.lf .sl))), .d]) .z))) (.r (D 3))))))) (.s (.r (D 2)) .z))))))
def spec.FlowReach.vc (list : Sl) (w : World) (K : Sl → World → Prop) : Prop :=
Nw #[] 3 w fun a_t6 w_ =>
CallT (.o (.lf .b)) P0 24 [list.v] w_ fun (t8 : Bool) w__1 =>
((!t8) = true → K ⟨(some a_t6), 0, 0⟩ w__1) ∧
((!t8) = false → CallT (.o (.lf .sl)) P0 25 [list.v, (.int .i64 0), (.int .i64 (-1))] w__1 fun (t12 : Sl) w__2 =>
∃ (I : Sl → Int → World → Prop) (M : Sl → Int → World → Nat),
I ⟨(some a_t6), 0, 0⟩ 0 w__2 ∧
(∀ (out : Sl) (i : Int) w__3, I out i w__3 → ∀ _ : Nat → Value,
((decide ((i : Int) < ((t12.n : Nat) : Int))) = true → Ix t12.a t12.n i 1 w__3 fun a_t21 w__4 =>
Ld .b a_t21 w__4 fun (t22 : Bool) w__5 =>
(t22 = true → Nw #[(.int .i64 i)] 3 w__5 fun a_t25 w__6 =>
RunT (.o (.lf .sl)) P0 (Builtin.append_ #[25, 25] 25 #[out.v, (.slice (some a_t25) 1 1)]) w__6 fun (t26 : Sl) w__7 =>
(I t26 (IntKind.wrap .i64 (i + 1)) w__7 ∧ M t26 (IntKind.wrap .i64 (i + 1)) w__7 < M out i w__3)) ∧
(t22 = false → (I out (IntKind.wrap .i64 (i + 1)) w__5 ∧ M out (IntKind.wrap .i64 (i + 1)) w__5 < M out i w__3))) ∧
((decide ((i : Int) < ((t12.n : Nat) : Int))) = false → K out w__3)))
theorem spec.FlowReach.ok {list : Sl} {w : World} {K : Sl → World → Prop} (h : spec.FlowReach.vc list w K) : CallT (.o (.lf .sl)) P0 10 [list.v] w K :=
  call_of Tryz.func10 rfl rfl (pl := spec.FlowReach.pl) (show VC P0 Tryz.f10 spec.FlowReach.pl (.o (.lf .sl)) [list.v] w K noP from Eq.mp (by kernel_rfl) h)
/- impl.FlowRound -/
def impl.FlowRound.pl : Pl := (.s (.r (D 1)) (.s (.s (.r [.d, (.c (.o (.lf (.i .i64)))), .d]) (.c (.s (.r (D 1)) .z) .z)) (.s (.r [(.t (.o (.lf .m))), .d]) (.s (.s (.r [.d, (.c (.o (.lf .m))), (.t (.o (.lf .ad)))]) (.b (.l [] (.s (.r (D 2)) (.s (.c .z .z) (.b (.s (.r [(.t (.n [(.lf (.i .i64)), (.lf .b)])), .d, .d]) (.s (.r [(.t (.o (.lf .m))), .d]) (.s (.r [.d, .d, .d, (.c .z)]) (.s (.r [.d, .d, (.t (.o (.lf .b)))]) (.c (.r [.d, .d, .u]) .z))))))))))) (.s (.r [.d, (.c (.o (.lf .sl))), .d]) .z)))))
def impl.FlowRound.vc (list : Sl) (w : World) (K : Sl → World → Prop) : Prop :=
CallT (.o (.lf (.i .i64))) P0 21 [list.v] w fun (t7 : Int) w_ =>
(((t7 : Int) != 0) = true → K ⟨none, 0, 0⟩ w_) ∧
(((t7 : Int) != 0) = false → RunT (.o (.lf .m)) P0 (Instr.makeMap 42 none) w_ fun (t9 : Option Nat) w__1 =>
CallT (.o (.lf .m)) P0 22 [list.v] w__1 fun (t11 : Option Nat) w__2 =>
RunT (.o (.lf .ad)) P0 (Instr.range 42 (.map t11)) w__2 fun (t12 : Addr) w__3 =>
∃ (I : World → Prop) (M : World → Nat),
I w__3 ∧
(∀  w__4, I w__4 → ∀ _ : Nat → Value,
Nx P0 (.pointer (some t12)) false 0 w__4 fun more rest w__5 =>
(more = true → RunT (.n [(.lf (.i .i64)), (.lf .b)]) P0 (Instr.entry (.pointer (some t12))) w__5 fun (t15 : (Int) × (Bool) × Unit) w__6 =>
RunT (.o (.lf .m)) P0 (Instr.makeMap 42 none) w__6 fun (t17 : Option Nat) w__7 =>
CallT .z P0 38 [(.map t17), list.v, (.int .i64 t15.1), (.int .i64 (-1))] w__7 fun (u : Unit) w__8 =>
RunT (.o (.lf .b)) P0 (Instr.lookup 42 (.map t17) (.int .i64 t15.1) false) w__8 fun (t24 : Bool) w__9 =>
(t24 = true → RunU P0 (Instr.mapUpdate 42 (.map t9) (.int .i64 t15.1) (.bool true)) w__9 fun w__10 =>
(I w__10 ∧ M w__10 < M w__4)) ∧
(t24 = false → (I w__9 ∧ M w__9 < M w__4))) ∧
(more = false → CallT (.o (.lf .sl)) P0 23 [(.map t9)] w__5 fun (t28 : Sl) w__11 =>
K t28 w__11)))
theorem impl.FlowRound.ok {list : Sl} {w : World} {K : Sl → World → Prop} (h : impl.FlowRound.vc list w K) : CallT (.o (.lf .sl)) P0 19 [list.v] w K :=
  call_of Tryz.func19 rfl rfl (pl := impl.FlowRound.pl) (show VC P0 Tryz.f19 impl.FlowRound.pl (.o (.lf .sl)) [list.v] w K noP from Eq.mp (by kernel_rfl) h)
end Go.Proofs.YtihllippchgkgaaGreat.V

/- Contracts: the places to which an op may lead. -/
namespace Go.Proofs.YtihllippchgkgaaGreat.V
open Go Go.RowKit
set_option linter.unusedVariables false
set_option linter.unusedSimpArgs false

/-- The places to which an op may lead, ascending. -/
def nextX (i : Int) (x : Ins) : List Int :=
  if x.op = 20 then [] else if x.op = 16 then [tgt i x] else if 12 ≤ x.op ∧ x.op ≤ 15 then (if x.off = 0 then [i + 1] else if x.off < 0 then [tgt i x, i + 1] else [i + 1, tgt i x]) else [i + 1]
theorem sorted2 (a b : Int) : sorted [a, b] = if a ≤ b then [a, b] else [b, a] := by
  unfold sorted
  by_cases h : a ≤ b <;> simp [List.mergeSort, List.MergeSort.Internal.splitInTwo, h, List.merge]
theorem compact2 (a b : Int) : Lib.compact [a, b] = if a = b then [a] else [a, b] := by
  by_cases h : a = b
  · subst h; simp [Lib.compact, Lib.compactUpTo, Lib.keeps, List.range_succ, List.filter]
  · have h' : b ≠ a := fun e => h e.symm
    simp [Lib.compact, Lib.compactUpTo, Lib.keeps, List.range_succ, List.filter, h, h']
section
variable {w : World} {s : Sl} {l : List Ins}
theorem spec.l12Next.c {i : Int} {x : Ins} {K : Sl → World → Prop} (h : SlR kIns w s l) (h0 : 0 ≤ i) (hx : l[i.toNat]? = some x) (hl : l.length ≤ 1048576) (ho : -128 ≤ x.off ∧ x.off ≤ 127)
    (hk : ∀ r w', Below w.heap.size w w' → WrS kI 3 w.heap.size w' r (nextX i x) → K r w') :
    CallT (.o (.lf .sl)) P0 48 [s.v, .int .i64 i] w K := by
  have hi : i.toNat < l.length := by
    rcases Nat.lt_or_ge i.toNat l.length with h1 | h1
    · exact h1
    · simp [List.getElem?_eq_none h1] at hx
  have fin : ∀ (w1 w2 : World) (cs : List Int) (n : Nat), Below w.heap.size w w1 → Below w1.heap.size w1 w2 → w2.heap[w1.heap.size]? = some (.cells (cs.map (.int .i64)).toArray 3 (0, 0)) → n = cs.length → n ≤ 2 → cs = nextX i x → K ⟨some ⟨w1.heap.size, 0, none⟩, n, n⟩ w2 := by
    intro w1 w2 cs n hb hb2 hc hn hn2 he
    refine hk _ _ (hb.trans (hb2.mono hb.size)) ?_
    rw [← he]
    exact (OwnS.lit (k := kI) hb.size hc hn (by rw [kI_flat]) (by simp only [maxLen]; omega)).wr
  refine spec.l12Next.ok (ixA h h0 hx rfl ?_)
  refine nwStIns (x := x) fun w2 hb2 hs2 hc2 => ?_
  refine ldB hc2 (x := x.op) rfl ?_
  simp (disch := omega) only [i64_of]
  refine And.intro (fun h20 => ?_) (fun h20 => ?_)
  · exact nw fun w3 hb3 hs3 hc3 => fin w2 w3 [] 0 hb2 hb3 hc3 rfl (by omega) (by simp at h20; simp [nextX, h20])
  · refine ldB hc2 (x := x.op) rfl ?_
    refine And.intro (fun h16 => ?_) (fun h16 => ?_)
    · refine ldB hc2 (x := x.off) rfl ?_
      simp (disch := omega) only [i64_of]
      exact nw fun w3 hb3 hs3 hc3 => fin w2 w3 [i + 1 + x.off] 1 hb2 hb3 hc3 rfl (by omega) (by simp at h20 h16; simp [nextX, h16, tgt])
    · refine ⟨fun b w3 => b = decide (¬ (12 ≤ x.op ∧ x.op ≤ 15) ∨ x.off = 0) ∧ w3 = w2, ?_, ?_⟩
      · refine ldB hc2 (x := x.op) rfl ?_
        refine spec.l1Jump.c ?_
        refine And.intro (fun hj => ?_) (fun hj => ?_)
        · exact ⟨by simp only [Bool.not_eq_true', decide_eq_false_iff_not] at hj; simp [hj], rfl⟩
        · refine ldB hc2 (x := x.off) rfl ?_
          exact ⟨by simp only [Bool.not_eq_false', decide_eq_true_eq] at hj; rw [Bool.eq_iff_iff]; simp [hj.1, hj.2], rfl⟩
      · rintro b w3 ⟨rfl, rfl⟩ _
        refine And.intro (fun hg => ?_) (fun hg => ?_)
        · simp only [decide_eq_true_eq] at hg
          exact nw fun w4 hb4 hs4 hc4 => fin w3 w4 [i + 1] 1 hb2 hb4 hc4 rfl (by omega) (by clear hk fin h; simp at h20 h16; grind [nextX])
        · simp only [decide_eq_false_iff_not, not_or, Decidable.not_not] at hg
          refine ldB hc2 (x := x.off) rfl ?_
          refine And.intro (fun hn => ?_) (fun hn => ?_)
          · refine ldB hc2 (x := x.off) rfl ?_
            simp (disch := omega) only [i64_of]
            exact nw fun w4 hb4 hs4 hc4 => fin w3 w4 [i + 1 + x.off, i + 1] 2 hb2 hb4 hc4 rfl (by omega) (by clear hk fin h; simp at h20 h16 hn; grind [nextX, tgt])
          · refine ldB hc2 (x := x.off) rfl ?_
            simp (disch := omega) only [i64_of]
            exact nw fun w4 hb4 hs4 hc4 => fin w3 w4 [i + 1, i + 1 + x.off] 2 hb2 hb4 hc4 rfl (by omega) (by clear hk fin h; simp at h20 h16 hn; grind [nextX, tgt])
theorem impl.ahead.c {i : Int} {x : Ins} {K : Sl → World → Prop} (h : SlR kIns w s l) (h0 : 0 ≤ i) (hx : l[i.toNat]? = some x) (hl : l.length ≤ 1048576) (ho : -128 ≤ x.off ∧ x.off ≤ 127)
    (hk : ∀ r w', Below w.heap.size w w' → WrS kI 3 w.heap.size w' r (nextX i x) → K r w') :
    CallT (.o (.lf .sl)) P0 27 [s.v, .int .i64 i] w K := by
  have hi : i.toNat < l.length := by
    rcases Nat.lt_or_ge i.toNat l.length with h1 | h1
    · exact h1
    · simp [List.getElem?_eq_none h1] at hx
  have fin : ∀ (w1 w2 : World) (cs : List Int) (n : Nat), Below w.heap.size w w1 → Below w1.heap.size w1 w2 → w2.heap[w1.heap.size]? = some (.cells (cs.map (.int .i64)).toArray 3 (0, 0)) → n = cs.length → n ≤ 2 → cs = nextX i x → K ⟨some ⟨w1.heap.size, 0, none⟩, n, n⟩ w2 := by
    intro w1 w2 cs n hb hb2 hc hn hn2 he
    refine hk _ _ (hb.trans (hb2.mono hb.size)) ?_
    rw [← he]
    exact (OwnS.lit (k := kI) hb.size hc hn (by rw [kI_flat]) (by simp only [maxLen]; omega)).wr
  refine impl.ahead.ok (ixA h h0 hx rfl ?_)
  refine nwStIns (x := x) fun w2 hb2 hs2 hc2 => ?_
  have h2 := h.below hb2
  refine ldB hc2 (x := x.op) rfl ?_
  simp (disch := omega) only [i64_of]
  refine And.intro (fun h20 => ?_) (fun h20 => ?_)
  · simp at h20
    exact hk _ _ hb2 (by simp only [nextX, h20, if_true]; exact WrS.nil _ _ _ _)
  · refine ldB hc2 (x := x.op) rfl ?_
    refine And.intro (fun h16 => ?_) (fun h16 => ?_)
    · refine impl.target.c h2 h0 hx hl ho ?_
      exact nw fun w3 hb3 hs3 hc3 => fin w2 w3 [tgt i x] 1 hb2 hb3 hc3 rfl (by omega) (by simp at h20 h16; simp [nextX, h16])
    · refine ldB hc2 (x := x.op) rfl ?_
      refine impl.kind.asks.c ?_
      refine And.intro (fun hj => ?_) (fun hj => ?_)
      · refine impl.target.c h2 h0 hx hl ho ?_
        refine nw fun w3 hb3 hs3 hc3 => ?_
        have ho3 : OwnS kI 3 w2.heap.size w3 ⟨some ⟨w2.heap.size, 0, none⟩, 2, 2⟩ [i + 1, tgt i x] := OwnS.lit (k := kI) (Nat.le_refl _) hc3 rfl rfl (by simp [maxLen])
        refine sort_own ho3 (by simp) fun w4 ho4 hg4 => ?_
        refine compact_own ho4 fun s5 w5 ho5 hg5 => ?_
        have hb3' : Below w.heap.size w w3 := hb2.trans (hb3.mono hb2.size)
        have hw4 : Below w.heap.size w w4 := hb3'.grown hg4 hb3'.size (fun b hb => by have := (ho3.blk hb).1; have := hb2.size; omega)
        have hw5 : Below w.heap.size w w5 := hw4.grown hg5 hw4.size (fun b hb => by have := (ho4.blk hb).1; have := hb2.size; omega)
        refine slices.Clip.c ho5.cap.1 ?_
        refine hk _ _ hw5 ?_
        have he : Lib.compact (sorted [i + 1, tgt i x]) = nextX i x := by
          clear hk fin h h2
          simp at h20 h16 hj
          rw [sorted2]
          split
          · rw [compact2]; grind [nextX, tgt]
          · rw [compact2]; grind [nextX, tgt]
        rw [← he]
        exact (ho5.wr.low hb2.size).clip
      · simp only [decide_eq_false_iff_not] at hj
        exact nw fun w3 hb3 hs3 hc3 => fin w2 w3 [i + 1] 1 hb2 hb3 hc3 rfl (by omega) (by clear hk fin h h2; simp at h20 h16; grind [nextX])
end
end Go.Proofs.YtihllippchgkgaaGreat.V

/- Contracts: the laws' own helpers (sizes, copies, comparisons, marks). -/
namespace Go.Proofs.YtihllippchgkgaaGreat.V
open Go Go.RowKit
set_option linter.unusedVariables false
set_option linter.unusedSimpArgs false
theorem bk_ge {t : TypeId} {B : Nat} {α : Type} {k : Kd α} {w : World} {s : Sl} {xs : List α} (h : WrS k t B w s xs) : ∀ b, s.bk = some b → B ≤ b := fun b hb => (h.blk hb).1
theorem elI1 : Mk P0 25 3 kI 8 0 := ⟨by kernel_rfl, ⟨_, _, Option.eq_some_of_isSome (by kernel_rfl), Option.eq_some_of_isSome (by kernel_rfl), by kernel_rfl, by kernel_rfl, by kernel_rfl⟩⟩
theorem mkIns : Mk P0 23 82 kIns 48 ⟨0, 0, 0, 0, 0, 0⟩ := ⟨by kernel_rfl, ⟨_, _, Option.eq_some_of_isSome (by kernel_rfl), Option.eq_some_of_isSome (by kernel_rfl), by kernel_rfl, by kernel_rfl, by kernel_rfl⟩⟩
theorem noAny6 : ∀ l ∈ kIns.ls, l ≠ Lf.any := by intro l hl; simp [kIns, List.mem_replicate] at hl; simp [hl]
theorem kIns6 : kIns.ls.length = 6 := rfl
def marks (k : Int) (n : Nat) : List Int := (List.range n).map fun (i : Nat) => k + (i : Int)
theorem marks_get (k : Int) {n i : Nat} (h : i < n) : (marks k n)[i]? = some (k + (i : Int)) := by simp [marks, h]
theorem marks_length (k : Int) (n : Nat) : (marks k n).length = n := by simp [marks]
theorem marks_succ (k : Int) (n : Nat) : marks k (n + 1) = marks k n ++ [k + (n : Int)] := by simp [marks, List.range_succ]
section
variable {w : World} {s : Sl} {l : List Ins}
end
theorem bne_len {a b : Nat} : (((a : Nat) : Int) != (b : Int)) = true ↔ a ≠ b := by simp; omega
theorem take_ext {α : Type} {xs ys : List α} (hl : xs.length = ys.length) (h : ∀ (i : Nat) x, xs[i]? = some x → ys[i]? = some x) : xs = ys := by
  refine List.ext_getElem? fun i => ?_
  rcases Nat.lt_or_ge i xs.length with hi | hi
  · rw [List.getElem?_eq_getElem hi, h i _ (List.getElem?_eq_getElem hi)]
  · rw [List.getElem?_eq_none hi, List.getElem?_eq_none (by omega)]
section
variable {w : World} {a b : Sl} {xs ys : List Int}
end
section
variable {w : World} {a b : Sl} {xs ys : List Ins}
end
end Go.Proofs.YtihllippchgkgaaGreat.V

/- Contracts: spec.FlowNext and impl.FlowNext, and the law ExactFlowNext. -/
namespace Go.Proofs.YtihllippchgkgaaGreat.V
open Go Go.RowKit
set_option linter.unusedVariables false
set_option linter.unusedSimpArgs false
theorem formGo_ins {all : List Ins} : ∀ {m : Nat} {l : List Ins}, formGo all m l = 0 → ∀ x ∈ l, InsP x
  | _, [], _, x, hx => by simp at hx
  | m, y :: l, h, x, hx => by
    simp only [formGo] at h
    split at h
    · simp at h
    · rename_i hy
      split at h
      · simp at h
      · rcases List.mem_cons.1 hx with rfl | hx
        · exact Classical.not_not.1 hy
        · exact formGo_ins h x hx
theorem formP_ins {l : List Ins} (h : formP l = 0) {x : Ins} (hx : x ∈ l) : InsP x := formGo_ins h x hx
/-- What both sides answer. -/
def flowNext (l : List Ins) (i : Int) : List Int :=
  if formP l ≠ 0 ∨ ¬ (0 ≤ i ∧ i ≤ (l.length : Int) - 1) then [] else match l[i.toNat]? with | some x => nextX i x | none => []
section
variable {w : World} {s : Sl} {l : List Ins}
theorem impl.FlowNext.c {i : Int} {K : Sl → World → Prop} (h : SlR kIns w s l) (hl : l.length ≤ 1048576)
    (hk : ∀ r w', Below w.heap.size w w' → WrS kI 3 w.heap.size w' r (flowNext l i) → K r w') : CallT (.o (.lf .sl)) P0 11 [s.v, .int .i64 i] w K := by
  have hn := h.len
  refine impl.FlowNext.ok (impl.ProgForm.c h hl fun w1 hb1 => ?_)
  refine And.intro (fun hq => ?_) (fun hq => ?_)
  · simp at hq
    exact hk _ _ hb1 (by unfold flowNext; rw [if_pos (.inl hq)]; exact WrS.nil _ _ _ _)
  · simp at hq
    simp (disch := omega) only [i64_of]
    refine impl.within.c ?_
    refine And.intro (fun hr => ?_) (fun hr => ?_)
    · simp only [Bool.not_eq_true', decide_eq_false_iff_not] at hr
      exact hk _ _ hb1 (by unfold flowNext; rw [if_pos (.inr (by omega))]; exact WrS.nil _ _ _ _)
    · simp only [Bool.not_eq_false', decide_eq_true_eq] at hr
      obtain ⟨x, hx⟩ := get_some (l := l) (k := i.toNat) (by omega)
      have hp := formP_ins hq (List.mem_of_getElem? hx)
      refine impl.ahead.c (h.below hb1) hr.1 hx hl hp.2.2.1 fun r w2 hb2 hr2 => ?_
      refine hk _ _ (hb1.trans (hb2.mono hb1.size)) ?_
      unfold flowNext
      rw [if_neg (by simp [hq]; omega), hx]
      exact hr2.low hb1.size
theorem nextX_length (i : Int) (x : Ins) : (nextX i x).length ≤ 2 := by unfold nextX; split <;> (try split) <;> (try split) <;> (try split) <;> (try split) <;> simp
theorem flowNext_length (l : List Ins) (i : Int) : (flowNext l i).length ≤ 2 := by
  unfold flowNext
  split
  · simp
  · split
    · exact nextX_length _ _
    · simp
end
end Go.Proofs.YtihllippchgkgaaGreat.V

/- Sets of whole numbers: maps from int to bool, all of whose values are true. -/
namespace Go.Proofs.YtihllippchgkgaaGreat.V
open Go Go.RowKit Go.Maps
set_option linter.unusedSimpArgs false
set_option linter.unusedVariables false

theorem keyI : Keyed P0 3 := int_keyed (q := .i64) (by kernel_rfl)
theorem zeroB (w : World) : (zeroValue 4).run P0 w = .ok (.bool false) w := by kernel_rfl
theorem plainElem_bool_inv {H : Type} {P : Program} {e : TypeId} (he : P.underlying e = some .bool) {v : Value} {z : DataW H × List MemPlace} (h : plainElem P e v = some z) : ∃ t, v = .bool t ∧ z = (.lit (.bool t), []) := by
  unfold plainElem at h
  rw [he] at h
  cases v <;> simp at h
  exact ⟨_, rfl, h.symm⟩
abbrev uM : P0.underlying 42 = some (.map 3 4) := by kernel_rfl
abbrev uB : P0.underlying 4 = some .bool := by kernel_rfl
abbrev uI : P0.underlying 3 = some (.int .i64) := by kernel_rfl
/-- The map's keys are the list's members. -/
def Keys (D : DataW Unit) (S : List Int) : Prop := S.Nodup ∧ (∀ x, x ∈ S ↔ has D (.int .i64 x) = true) ∧ ∀ x, D.atKey (.int .i64 x) (.lit (.bool false)) = .lit (.bool (decide (x ∈ S)))
theorem renorm {w : World} {b n : Nat} {D : DataW Unit} {S : List Int} (h : w.ownsMap P0 3 (plainElem P0 4) b n D) (hS : Keys D S) : w.ownsMap P0 3 (plainElem P0 4) b S.length D := by
  obtain ⟨es, hD, hpw, _⟩ := h.entries keyI
  obtain ⟨es', hD', hko⟩ := h.keysOf
  obtain rfl : es = es' := by rw [hD] at hD'; simpa using hD'
  subst hD
  have hp := perm_intKeys (H := Unit) hpw (fun p hp => by obtain ⟨v, hv⟩ := hko p hp; obtain ⟨x, _, hx, _⟩ := keyOf_i64 uI hv; exact ⟨x, hx⟩) hS.1 hS.2.1
  have hl : S.length = es.length := by rw [hp.length_eq]; simp [intKeys]
  obtain ⟨ens, clock, hb, F, hs, hE⟩ := h
  refine ⟨ens, clock, hb, F, ?_, hE⟩
  rw [hl]
  simp only [DataW.map.injEq] at hE
  rw [hE, length_sorted]; simp
def SetM (B : Nat) (w : World) (m : Option Nat) (S : List Int) : Prop :=
  ∃ b D, m = some b ∧ B ≤ b ∧ w.ownsMap (H := Unit) P0 3 (plainElem P0 4) b S.length D ∧ Keys D S
theorem SetM.kept {B : Nat} {w w' : World} {m row : Option Nat} {S : List Int} (h : SetM B w m S) (hg : w.grownBy w' row) (hne : m ≠ row) : SetM B w' m S := by
  obtain ⟨b, D, rfl, hB, ho, hk⟩ := h
  exact ⟨b, D, rfl, hB, ho.kept hg hne, hk⟩
theorem SetM.below {B : Nat} {w w' : World} {m : Option Nat} {S : List Int} (h : SetM B w m S) (hb : Below w.heap.size w w') : SetM B w' m S := h.kept (grown_of_below hb) (by obtain ⟨b, D, rfl, _⟩ := h; simp)
theorem SetM.low {B B' : Nat} {w : World} {m : Option Nat} {S : List Int} (h : SetM B w m S) (hB : B' ≤ B) : SetM B' w m S := by
  obtain ⟨b, D, rfl, hB', r⟩ := h
  exact ⟨b, D, rfl, Nat.le_trans hB hB', r⟩
theorem SetM.blk {B : Nat} {w : World} {m : Option Nat} {S : List Int} (h : SetM B w m S) {b : Nat} (hb : m = some b) : B ≤ b ∧ b < w.heap.size := by
  obtain ⟨b', D, rfl, hB', ho, _⟩ := h
  simp only [Option.some.injEq] at hb; subst hb
  exact ⟨hB', ho.lt⟩
theorem SetM.nodup {B : Nat} {w : World} {m : Option Nat} {S : List Int} (h : SetM B w m S) : S.Nodup := by
  obtain ⟨b, D, rfl, hB', ho, hk⟩ := h
  exact hk.1
/-- Put into a set. -/
def ins (x : Int) (S : List Int) : List Int := if x ∈ S then S else S ++ [x]
theorem mem_ins {x y : Int} {S : List Int} : y ∈ ins x S ↔ y = x ∨ y ∈ S := by
  unfold ins
  split
  · rename_i h
    constructor
    · exact .inr
    · rintro (rfl | h')
      · exact h
      · exact h'
  · simp [or_comm]
theorem nodup_ins {x : Int} {S : List Int} (h : S.Nodup) : (ins x S).Nodup := by
  unfold ins
  split
  · exact h
  · rename_i hx
    exact List.nodup_append.2 ⟨h, by simp, fun a ha b hb => by simp at hb; subst hb; exact fun e => hx (e ▸ ha)⟩
theorem mapNew {w : World} {K : Option Nat → World → Prop} (hk : ∀ m w', SetM w.heap.size w' m [] → Below w.heap.size w w' → w'.heap.size = w.heap.size + 1 → K m w') : RunT (.o (.lf .m)) P0 (Instr.makeMap 42 none) w K :=
  ⟨some w.heap.size, _, run_makeMap _ w, hk _ _ ⟨_, .map [], rfl, Nat.le_refl _, World.ownsMap_made w P0 _ _, by simp [Keys, has, DataW.atKey]⟩ ((Below.refl _ _).alloc (Nat.le_refl _) _) (by simp)⟩
section
variable {B : Nat} {w : World} {m : Option Nat} {S : List Int}
theorem mapPut {x : Int} (h : SetM B w m S) (hx : (Lit.int .i64 x).wf = true) (hS : S.length < maxLen) {K : World → Prop} (hk : ∀ w', SetM B w' m (ins x S) → w.grownBy w' m → K w') :
    RunU P0 (Instr.mapUpdate 42 (.map m) (.int .i64 x) (.bool true)) w K := by
  obtain ⟨b, D, rfl, hB, ho, hK⟩ := h
  obtain ⟨w', hr, ho', hg⟩ := ho.update keyI uM hS (keyOf_int_mk uI hx) (plainElem_bool uB true)
  have hkey : WideAt.IsKeyLit (.int .i64 x) := keyI.key (keyOf_int_mk uI hx)
  have hK' : Keys (D.put (.int .i64 x) (.lit (.bool true))) (ins x S) := by
    refine ⟨nodup_ins hK.1, fun y => ?_, fun y => ?_⟩
    · rw [mem_ins]
      by_cases hy : y = x
      · subst hy; simp [has_put_same ho.isMap hkey]
      · rw [has_put_other (by simpa using hy), ← hK.2.1 y]; simp [hy]
    · by_cases hy : y = x
      · subst hy; rw [atKey_put_same ho.isMap hkey]; simp [mem_ins]
      · rw [atKey_put_other (by simpa using hy), hK.2.2 y]; simp [mem_ins, hy]
  exact ⟨w', hr, hk _ ⟨b, _, rfl, hB, renorm ho' hK', hK'⟩ hg⟩
theorem mapGet {x : Int} (h : SetM B w m S) (hx : (Lit.int .i64 x).wf = true) {K : Bool → World → Prop} (hk : K (decide (x ∈ S)) w) :
    RunT (.o (.lf .b)) P0 (Instr.lookup 42 (.map m) (.int .i64 x) false) w K := by
  obtain ⟨b, D, rfl, hB, ho, hK⟩ := h
  obtain ⟨v, ps, hr, hv⟩ := ho.lookup keyI uM (zeroB w) (plainElem_bool uB false) (keyOf_int_mk uI hx)
  rw [hK.2.2 x] at hv
  obtain ⟨t, rfl, ht⟩ := plainElem_bool_inv uB hv
  simp only [Prod.mk.injEq, DataW.lit.injEq, Lit.bool.injEq] at ht
  obtain ⟨rfl, _⟩ := ht
  exact ⟨_, _, hr, hk⟩
theorem mapLen (h : SetM B w m S) {t : TypeId} {K : Int → World → Prop} (hk : K (S.length : Int) w) : RunT (.o (.lf (.i .i64))) P0 (Builtin.len_ #[42] t #[.map m]) w K := by
  obtain ⟨b, D, rfl, hB, ho, hK⟩ := h
  have hsz : size D = S.length := by
    obtain ⟨es, hD, hpw, _⟩ := ho.entries keyI
    obtain ⟨es', hD', hko⟩ := ho.keysOf
    obtain rfl : es = es' := by rw [hD] at hD'; simpa using hD'
    subst hD
    have hp := perm_intKeys (H := Unit) hpw (fun p hp => by obtain ⟨v, hv⟩ := hko p hp; obtain ⟨x, _, hx, _⟩ := keyOf_i64 uI hv; exact ⟨x, hx⟩) hK.1 hK.2.1
    rw [hp.length_eq]; simp [intKeys, size]
  have := ho.len uM t
  rw [hsz] at this
  exact ⟨_, _, this, hk⟩
/-- A loop over a set: the members that have come. -/
def RgM (B Br : Nat) (w : World) (m : Option Nat) (a : Addr) (S ss : List Int) : Prop :=
  ∃ b r D left cnt, m = some b ∧ B ≤ b ∧ a = ⟨r, 0, none⟩ ∧ Br ≤ r ∧ w.ranges (H := Unit) P0 3 (plainElem P0 4) b r S.length D left cnt ∧ Keys D S ∧ CollectedI D left ss
def rgl (w : World) (m : Option Nat) (a : Addr) : Nat := w.rangeLeft (m.getD 0) a.block
theorem RgM.set {Br : Nat} {a : Addr} {ss : List Int} (h : RgM B Br w m a S ss) : SetM B w m S := by
  obtain ⟨b, r, D, left, cnt, rfl, hB, rfl, hBr, hr, hK, hc⟩ := h
  exact ⟨b, D, rfl, hB, hr.owns, hK⟩
theorem RgM.kept {Br : Nat} {a : Addr} {ss : List Int} {w' : World} {row : Option Nat} (h : RgM B Br w m a S ss) (hg : w.grownBy w' row) (h1 : m ≠ row) (h2 : some a.block ≠ row) : RgM B Br w' m a S ss ∧ rgl w' m a = rgl w m a := by
  obtain ⟨b, r, D, left, cnt, rfl, hB, rfl, hBr, hr, hK, hc⟩ := h
  have hr' := hr.kept hg h1 h2
  exact ⟨⟨b, r, D, left, cnt, rfl, hB, rfl, hBr, hr', hK, hc⟩, by show w'.rangeLeft b r = w.rangeLeft b r; rw [hr.left_eq, hr'.left_eq]⟩
theorem RgM.blk {Br : Nat} {a : Addr} {ss : List Int} (h : RgM B Br w m a S ss) : Br ≤ a.block ∧ a.block < w.heap.size := by
  obtain ⟨b, r, D, left, cnt, rfl, hB, rfl, hBr, hr, hK, hc⟩ := h
  exact ⟨hBr, hr.lt⟩
theorem RgM.nodup {Br : Nat} {a : Addr} {ss : List Int} (h : RgM B Br w m a S ss) : ss.Nodup ∧ ∀ x ∈ ss, x ∈ S := by
  obtain ⟨b, r, D, left, cnt, rfl, hB, rfl, hBr, hr, hK, hc⟩ := h
  exact ⟨hc.1, fun x hx => (hK.2.1 x).2 ((hc.2 x).1 hx).1⟩
theorem mapRange (h : SetM B w m S) {K : Addr → World → Prop} (hk : ∀ a w', RgM B w.heap.size w' m a S [] → Below w.heap.size w w' → K a w') : RunT (.o (.lf .ad)) P0 (Instr.range 42 (.map m)) w K := by
  obtain ⟨b, D, rfl, hB, ho, hK⟩ := h
  obtain ⟨w', hr, hrg, hg, hs⟩ := ho.range keyI uM
  exact ⟨_, w', hr, hk _ _ ⟨b, _, D, _, _, rfl, hB, rfl, Nat.le_refl _, hrg, hK, CollectedI.start D⟩ ((Below.refl _ _).grown hg (Nat.le_refl _) (by simp))⟩
theorem mapNext {Br : Nat} {a : Addr} {ss : List Int} (h : RgM B Br w m a S ss) {t : TypeId} {Kt : (Int × Bool × Unit) → World → Prop} {Kf : World → Prop}
    (ht : ∀ x u w', x ∈ S → x ∉ ss → (Lit.int .i64 x).wf = true → RgM B Br w' m a S (ss ++ [x]) → w.grownBy w' (some a.block) → rgl w' m a < rgl w m a → Kt (x, u, ()) w') (hf : ss.Perm S → Kf w) :
    Nx P0 (.pointer (some a)) false t w (fun more rest w' => (more = true → RunT (.n [(.lf (.i .i64)), (.lf .b)]) P0 (Instr.entry (.pointer (some a))) w' Kt) ∧ (more = false → Kf w')) := by
  obtain ⟨b, r, D, left, cnt, rfl, hB, rfl, hBr, hr, hK, hc⟩ := h
  rcases hr.next keyI t with ⟨_, hl, hrun⟩ | ⟨key, v, kl, y, w', cnt', hkey, hlk, hv, hat, hrun, hr', hlt, hg, hs, hent⟩
  · refine ⟨false, [], w, hrun, by simp, fun _ => hf ?_⟩
    refine (List.perm_ext_iff_of_nodup hc.1 hK.1).2 fun x => ?_
    rw [hc.2 x, hl, ← hK.2.1 x]; simp
  · obtain ⟨x, rfl, rfl, hw⟩ := keyOf_i64 uI hkey
    obtain ⟨u, rfl, _⟩ := plainElem_bool_inv uB hv
    refine ⟨true, [.int .i64 x, .bool u], w', hrun, fun _ => ⟨(x, u, ()), w', hent, ht x u w' ?_ ?_ hw ⟨b, r, D, _, cnt', rfl, hB, rfl, hBr, hr', hK, hc.step hlk hat⟩ hg ?_⟩, by simp⟩
    · exact (hK.2.1 x).2 (has_true_of_atKey hat)
    · intro hx
      have := ((hc.2 x).1 hx).2
      rw [hlk] at this; simp at this
    · show w'.rangeLeft b r < w.rangeLeft b r
      rw [hr.left_eq, hr'.left_eq]; exact hlt
end
/-- make of no element, with room. -/
theorem mkO {w : World} {n : Nat} (hm : n ≤ 17592186044416) {K : Sl → World → Prop} (hk : ∀ s w', OwnS kI 3 w.heap.size w' s [] → Below w.heap.size w w' → K s w') :
    RunT (.o (.lf .sl)) P0 (Instr.makeSlice 25 (.int .i64 0) (.int .i64 (n : Int))) w K := by
  obtain ⟨i, z, hi, hz, hsz, hby, hzs⟩ := elI.info
  obtain ⟨w', hr, ho, hg⟩ := run_make_own (P := P0) w w.heap.size 25 3 i z kI.ls.length elI.elem hi hz hsz .i64 .i64 n (by rw [hby]; omega) (by simp only [maxLen]; omega) (Nat.le_refl _)
  exact ⟨⟨_, 0, n⟩, w', hr, hk _ _ ⟨rfl, ho⟩ ((Below.refl _ _).grown hg (Nat.le_refl _) (by simp))⟩
end Go.Proofs.YtihllippchgkgaaGreat.V

/- Rows of bits, what is collected from them, and sorted sets. -/
namespace Go.Proofs.YtihllippchgkgaaGreat.V
open Go Go.RowKit Go.Maps
set_option linter.unusedSimpArgs false
set_option linter.unusedVariables false

def bits (n : Nat) (f : Nat → Bool) : List Bool := (List.range n).map f
theorem bits_get {n i : Nat} {f : Nat → Bool} (h : i < n) : (bits n f)[i]? = some (f i) := by simp [bits, h]
theorem bits_length (n : Nat) (f : Nat → Bool) : (bits n f).length = n := by simp [bits]
theorem bits_set {n j : Nat} {f : Nat → Bool} : (bits n f).set j true = bits n (fun i => f i || decide (i = j)) := by
  refine List.ext_getElem? fun i => ?_
  rcases Nat.lt_or_ge i n with hi | hi
  · by_cases hj : j = i
    · subst hj
      rw [List.getElem?_set_self (by simpa [bits_length] using hi), bits_get hi]; simp
    · rw [List.getElem?_set_ne hj, bits_get hi, bits_get hi]; simp; intro e; exact absurd e.symm hj
  · rw [List.getElem?_eq_none (by simp [bits_length, hi]), List.getElem?_eq_none (by simp [bits_length, hi])]
theorem bits_rep (n : Nat) : List.replicate n false = bits n (fun _ => false) := by
  refine List.ext_getElem? fun i => ?_
  rcases Nat.lt_or_ge i n with hi | hi
  · rw [bits_get hi, List.getElem?_replicate_of_lt hi]
  · rw [List.getElem?_eq_none (by simp [hi]), List.getElem?_eq_none (by simp [bits_length, hi])]
/-- The places at which a bit is set, ascending. -/
def picks (n : Nat) (f : Nat → Bool) : List Int := ((List.range n).filter f).map fun i : Nat => (i : Int)
theorem picks_succ (n : Nat) (f : Nat → Bool) : picks (n + 1) f = if f n = true then picks n f ++ [(n : Int)] else picks n f := by
  unfold picks
  rw [List.range_succ, List.filter_append, List.map_append]
  split
  · rename_i h; simp [h]
  · rename_i h; simp [h]
theorem picks_le (n : Nat) (f : Nat → Bool) : (picks n f).length ≤ n := by
  unfold picks
  rw [List.length_map]
  exact Nat.le_trans (List.length_filter_le _ _) (by simp)
theorem mem_picks {n : Nat} {f : Nat → Bool} {x : Int} : x ∈ picks n f ↔ ∃ i : Nat, x = i ∧ i < n ∧ f i = true := by
  unfold picks
  simp only [List.mem_map, List.mem_filter, List.mem_range]
  constructor
  · rintro ⟨i, ⟨h1, h2⟩, rfl⟩; exact ⟨i, rfl, h1, h2⟩
  · rintro ⟨i, rfl, h1, h2⟩; exact ⟨i, ⟨h1, h2⟩, rfl⟩
theorem picks_asc (n : Nat) (f : Nat → Bool) : (picks n f).Pairwise (· < ·) := by
  induction n with
  | zero => exact List.Pairwise.nil
  | succ n ih =>
    rw [picks_succ]
    split
    · refine List.pairwise_append.2 ⟨ih, by simp, fun a ha b hb => ?_⟩
      obtain ⟨i, rfl, hi, _⟩ := mem_picks.1 ha
      simp at hb; omega
    · exact ih
theorem picks_nodup (n : Nat) (f : Nat → Bool) : (picks n f).Nodup := (picks_asc n f).imp fun h => by omega
theorem picks_congr {n : Nat} {f g : Nat → Bool} (h : ∀ i, i < n → f i = g i) : picks n f = picks n g := by
  unfold picks
  rw [List.filter_congr fun x hx => h x (List.mem_range.1 hx)]
theorem sorted_id {xs : List Int} (h : xs.Pairwise (· < ·)) : sorted xs = xs := by
  unfold sorted
  exact List.mergeSort_of_pairwise (h.imp fun h => by simp; omega)
theorem sorted_perm' {xs ys : List Int} (h : xs.Perm ys) : sorted xs = sorted ys := mergeSort_of_perm_i h
theorem sorted_length (xs : List Int) : (sorted xs).length = xs.length := by simp [sorted]
theorem sorted_eq {S : List Int} {n : Nat} {f : Nat → Bool} (h : S.Nodup) (hS : ∀ x, x ∈ S ↔ ∃ i : Nat, x = i ∧ i < n ∧ f i = true) : sorted S = picks n f := by
  rw [← sorted_id (picks_asc n f)]
  exact sorted_perm' ((List.perm_ext_iff_of_nodup h (picks_nodup n f)).2 fun x => by rw [hS, mem_picks])
theorem mkB : Mk P0 46 4 kB 1 false := ⟨by kernel_rfl, ⟨_, _, Option.eq_some_of_isSome (by kernel_rfl), Option.eq_some_of_isSome (by kernel_rfl), by kernel_rfl, by kernel_rfl, by kernel_rfl⟩⟩
theorem nodup_nat : ∀ (n : Nat) (l : List Nat), l.Nodup → (∀ x ∈ l, x < n) → l.length ≤ n
  | 0, l, _, h => by
    cases l with
    | nil => simp
    | cons x l => exact absurd (h x List.mem_cons_self) (by omega)
  | n + 1, l, hl, h => by
    by_cases hm : n ∈ l
    · have := nodup_nat n (l.erase n) (hl.erase n) (fun x hx => by have h1 := (List.Nodup.mem_erase_iff hl).1 hx; have := h x h1.2; have := h1.1; omega)
      rw [List.length_erase_of_mem hm] at this
      omega
    · have := nodup_nat n l hl (fun x hx => by have := h x hx; have : x ≠ n := fun e => hm (e ▸ hx); omega)
      omega
/-- A nodup list of places below n is no longer than n. -/
theorem nodup_le {S : List Int} {n : Nat} (h : S.Nodup) (hS : ∀ x ∈ S, 0 ≤ x ∧ x < (n : Int)) : S.length ≤ n := by
  have h1 : (S.map Int.toNat).Nodup := by
    refine List.pairwise_map.2 (List.Pairwise.imp_of_mem (fun {a b} ha hb hne e => hne ?_) h)
    have := hS a ha; have := hS b hb; omega
  have := nodup_nat n _ h1 (fun x hx => by obtain ⟨y, hy, rfl⟩ := List.mem_map.1 hx; have := hS y hy; omega)
  simpa using this
/-- The loop that collects places. -/
theorem collect {isS out0 : Sl} {n m : Nat} {f : Nat → Bool} {w : World} {B : Nat} {K : Sl → World → Prop} (h : SlR kB w isS (bits m f)) (hn : n ≤ m) (hm : n ≤ 1048600) (ho : OwnS kI 3 B w out0 []) (hB : B ≤ w.heap.size)
    (hsep : ∀ b o, isS.a = some ⟨b, o, none⟩ → b < w.heap.size ∧ ∀ b', out0.bk = some b' → b ≠ b')
    (hk : ∀ out w', OwnS kI 3 B w' out (picks n f) → (∀ B', B' ≤ B → Below B' w w') → K out w') :
    ∃ (I : Sl → Int → World → Prop) (M : Sl → Int → World → Nat), I out0 0 w ∧ (∀ (out : Sl) (i : Int) w1, I out i w1 → ∀ _ : Nat → Value,
      ((decide ((i : Int) < (n : Int))) = true → Ix isS.a isS.n i 1 w1 fun a w2 => Ld .b a w2 fun (t : Bool) w3 =>
        (t = true → Nw #[(.int .i64 i)] 3 w3 fun a w4 => RunT (.o (.lf .sl)) P0 (Builtin.append_ #[25, 25] 25 #[out.v, (.slice (some a) 1 1)]) w4 fun (t75 : Sl) w5 =>
          (I t75 (IntKind.wrap .i64 (i + 1)) w5 ∧ M t75 (IntKind.wrap .i64 (i + 1)) w5 < M out i w1)) ∧
        (t = false → (I out (IntKind.wrap .i64 (i + 1)) w3 ∧ M out (IntKind.wrap .i64 (i + 1)) w3 < M out i w1))) ∧
      ((decide ((i : Int) < (n : Int))) = false → K out w1)) := by
  refine ⟨fun out i w' => ∃ j : Nat, i = j ∧ j ≤ n ∧ OwnS kI 3 B w' out (picks j f) ∧ SlR kB w' isS (bits m f) ∧ w.heap.size ≤ w'.heap.size ∧ (∀ B', B' ≤ B → Below B' w w') ∧
      (∀ b o, isS.a = some ⟨b, o, none⟩ → ∀ b', out.bk = some b' → b ≠ b'), fun _ i _ => n - i.toNat,
    ⟨0, rfl, by omega, by simpa [picks] using ho, h, Nat.le_refl _, fun B' hB' => (Below.refl _ _), fun b o hb => (hsep b o hb).2⟩, ?_⟩
  rintro out i w1 ⟨j, rfl, hj, ho1, h1, hs1, hb1, hsep1⟩ _
  refine And.intro (fun hlt => ?_) (fun hge => ?_)
  · simp only [decide_eq_true_eq] at hlt
    refine ixL h1 (i := j) (by omega) (x := f j) (by rw [Int.toNat_natCast]; exact bits_get (by omega)) rfl (l := .b) (v := f j) rfl ?_
    have hp := picks_le j f
    refine And.intro (fun hf => ?_) (fun hf => ?_)
    · refine ap1 elI ho1 (j : Int) rfl (by omega) (by omega) (by omega) fun s' w' ho' hg' hbk => ?_
      rw [i64_in (by omega) (by omega)]
      refine ⟨⟨j + 1, by omega, by omega, by rw [picks_succ, if_pos hf]; exact ho', h1.kept2 hg' (fun b o hb e => hsep1 b o hb b ((ob_bk out).symm.trans e) rfl), Nat.le_trans hs1 hg'.size, ?_, ?_⟩, by simp only; omega⟩
      · intro B' hB'
        exact (hb1 B' hB').grown hg' (by omega) (fun b hb => by have := (ho1.blk hb).1; omega)
      · intro b o hb b' hb' e
        rcases hbk b' ((ob_bk s').trans hb') with h2 | h2
        · exact hsep1 b o hb b' ((ob_bk out).symm.trans h2) e
        · have := (hsep b o hb).1; omega
    · rw [i64_in (by omega) (by omega)]
      exact ⟨⟨j + 1, by omega, by omega, by rw [picks_succ, if_neg (by simp [hf])]; exact ho1, h1, hs1, hb1, hsep1⟩, by simp only; omega⟩
  · simp only [decide_eq_false_iff_not] at hge
    obtain rfl : j = n := by omega
    exact hk _ _ ho1 hb1
end Go.Proofs.YtihllippchgkgaaGreat.V

/- Contracts: sorted sets, and where blocks begin. -/
namespace Go.Proofs.YtihllippchgkgaaGreat.V
open Go Go.RowKit
set_option linter.unusedVariables false
set_option linter.unusedSimpArgs false
theorem wf_i64 {x : Int} (h0 : -9223372036854775808 ≤ x) (h1 : x ≤ 9223372036854775807) : (Lit.int .i64 x).wf = true := WalkArith.wf_i64 ⟨h0, h1⟩
theorem ins_le {x : Int} {S : List Int} {n : Nat} (h : S.length ≤ n) : (ins x S).length ≤ n + 1 := by
  unfold ins
  split
  · omega
  · rw [List.length_append]; simp; exact h
section
variable {w : World} {s : Sl} {l : List Ins}
theorem impl.places.sorted.c {B : Nat} {m : Option Nat} {S : List Int} {K : Sl → World → Prop} (h : SetM B w m S) (hS : S.length ≤ 1048600)
    (hk : ∀ r w', Below w.heap.size w w' → OwnS kI 3 w.heap.size w' r (sorted S) → K r w') : CallT (.o (.lf .sl)) P0 23 [.map m] w K := by
  refine impl.places.sorted.ok (mapLen h ?_)
  refine mkO (by omega) fun o w1 ho1 hb1 => ?_
  have h1 := h.below hb1
  refine mapRange h1 fun a w2 hr2 hb2 => ?_
  have hsz := hb1.size
  refine ⟨fun out w' => ∃ ss, OwnS kI 3 w.heap.size w' out ss ∧ RgM B w1.heap.size w' m a S ss ∧ Below w.heap.size w w' ∧ out.bk ≠ some a.block ∧ w1.heap.size ≤ w'.heap.size, fun out w' => rgl w' m a,
    ⟨[], ho1.below hb2, hr2, hb1.trans (hb2.mono hsz), fun e => by have := (ho1.blk ((ob_bk o).trans e)).2; have := hr2.blk.1; omega, hb2.size⟩, ?_⟩
  rintro out w3 ⟨ss, ho3, hr3, hb3, hne, hs3⟩ _
  refine mapNext hr3 (fun x u w4 hx hnx hw hr4 hg4 hlt => ?_) (fun hp => ?_)
  · have ho4 := ho3.kept hg4 (fun b hb e => hne (by rw [← ob_bk, e]; exact hb.symm))
    have hnd := hr4.nodup
    have hlen : (ss ++ [x]).length ≤ S.length := by
      have h1 := hnd.1
      exact (List.Nodup.length_le_of_subset h1 hnd.2)
    simp only [List.length_append, List.length_cons, List.length_nil] at hlen
    have hs4 := hg4.size
    refine ap1 elI ho4 x rfl (by omega) (by omega) (by have := hb3.size; omega) fun s' w5 ho5 hg5 hbk => ?_
    have hm : m ≠ out.bk := fun e => by
      have h2 := hr4.set
      cases m with
      | none => obtain ⟨b, D, hb, _⟩ := h2; simp at hb
      | some b =>
        have h3 := (h.blk rfl).2
        have h4 := (ho4.blk ((ob_bk out).trans e.symm)).1
        omega
    have hg5' := hg5
    rw [ob_bk] at hg5'
    obtain ⟨hr5, hl5⟩ := hr4.kept hg5' hm (Ne.symm hne)
    refine ⟨⟨_, ho5, hr5, ?_, ?_, Nat.le_trans hs3 (Nat.le_trans hs4 hg5.size)⟩, by show rgl w5 m a < rgl w3 m a; omega⟩
    · refine ((hb3.grown hg4 hb3.size (fun b hb => ?_))).grown hg5 (by have := hb3.size; omega) (fun b hb => (ho4.blk hb).1)
      simp only [Option.some.injEq] at hb
      have := hr3.blk.1; omega
    · intro e
      rcases hbk _ ((ob_bk s').trans e) with h2 | h2
      · exact hne ((ob_bk out).symm.trans h2)
      · have := hr4.blk.2; omega
  · have hlen := hp.length_eq
    refine sort_own ho3 (by omega) fun w4 ho4 hg4 => ?_
    rw [sorted_perm' hp] at ho4
    exact hk _ _ (hb3.grown hg4 hb3.size (fun b hb => (ho3.blk hb).1)) ho4
/-- A block begins here, so far as the first n ops say. -/
def begins (l : List Ins) (n : Nat) (i : Int) : Prop := i = 0 ∨ ∃ j x, j < n ∧ l[j]? = some x ∧ ((goesP x ∧ (tgt j x = i ∨ (j : Int) + 1 = i)) ∨ (x.op = 20 ∧ (j : Int) + 1 = i))
theorem begins_zero (l : List Ins) (i : Int) : begins l 0 i ↔ i = 0 := by
  unfold begins
  constructor
  · rintro (h | ⟨j, x, h, _⟩)
    · exact h
    · omega
  · exact .inl
theorem begins_succ {l : List Ins} {n : Nat} {x : Ins} (hx : l[n]? = some x) (i : Int) : begins l (n + 1) i ↔ begins l n i ∨ (goesP x ∧ (tgt n x = i ∨ (n : Int) + 1 = i)) ∨ (x.op = 20 ∧ (n : Int) + 1 = i) := by
  unfold begins
  constructor
  · rintro (h | ⟨j, y, hj, hy, h⟩)
    · exact .inl (.inl h)
    · by_cases e : j = n
      · subst e; rw [hx] at hy; simp only [Option.some.injEq] at hy; subst hy; exact .inr h
      · exact .inl (.inr ⟨j, y, by omega, hy, h⟩)
  · rintro ((h | ⟨j, y, hj, hy, h⟩) | h)
    · exact .inl h
    · exact .inr ⟨j, y, by omega, hy, h⟩
    · exact .inr ⟨n, x, by omega, hx, h⟩
open Classical in
noncomputable def flowBlocks (l : List Ins) : List Int := if formP l ≠ 0 then [] else picks l.length fun i => decide (begins l l.length i)
theorem formGo_tgt {all : List Ins} : ∀ {m : Nat} {l : List Ins}, formGo all m l = 0 → ∀ j x, l[j]? = some x → goesP x → 0 ≤ tgt (m + j : Nat) x ∧ tgt (m + j : Nat) x ≤ (all.length : Int) - 1
  | _, [], _, j, x, hx, _ => by simp at hx
  | m, y :: l, h, j, x, hx, hg => by
    simp only [formGo] at h
    split at h
    · simp at h
    · split at h
      · simp at h
      · rename_i hn
        cases j with
        | zero =>
          simp only [List.getElem?_cons_zero, Option.some.injEq] at hx
          subst hx
          simp only [hg, true_and] at hn
          simpa using Classical.not_not.1 (fun e => hn (by simpa using e))
        | succ j =>
          have := formGo_tgt h j x (by simpa using hx) hg
          rw [show m + (j + 1) = m + 1 + j by omega]; exact this
theorem formP_tgt {l : List Ins} (h : formP l = 0) {j : Nat} {x : Ins} (hx : l[j]? = some x) (hg : goesP x) : 0 ≤ tgt j x ∧ tgt j x ≤ (l.length : Int) - 1 := by
  have := formGo_tgt h j x hx hg; rwa [Nat.zero_add] at this
theorem formGo_end {all : List Ins} : ∀ {m : Nat} {l : List Ins}, formGo all m l = 0 → endP all = 0
  | _, [], h => by simpa [formGo] using h
  | m, y :: l, h => by
    simp only [formGo] at h
    split at h
    · simp at h
    · split at h
      · simp at h
      · exact formGo_end h
theorem formP_size {l : List Ins} (h : formP l = 0) : 0 < l.length ∧ l.length ≤ 48 := by
  have h1 := formGo_end (all := l) h
  constructor
  · cases l with
    | nil => simp [endP_nil rfl] at h1
    | cons => simp
  · rcases Nat.lt_or_ge 48 l.length with h2 | h2
    · rw [endP_many h2] at h1; simp at h1
    · exact h2
/-- Set a bit of a row. -/
theorem stBit {B : Nat} {w : World} {r : Sl} {n : Nat} {f : Nat → Bool} {i : Int} (h : WrS kB 4 B w r (bits n f)) (h0 : 0 ≤ i) (h1 : i < n) {K : World → Prop}
    (hk : ∀ w', WrS kB 4 B w' r (bits n fun j => f j || decide (j = i.toNat)) → w.grownBy w' r.bk → K w') : Ix r.a r.n i 1 w fun a w1 => St a (.bool true) w1 K :=
  ixStL h h0 (x := f i.toNat) (bits_get (by omega)) rfl rfl rfl true rfl fun w' hw hg _ => hk w' (by rw [bits_set] at hw; exact hw) hg
theorem flowBlocks_length (l : List Ins) : (flowBlocks l).length ≤ 48 := by
  unfold flowBlocks
  split
  · simp
  · rename_i h
    have h1 := formP_size (l := l) (Classical.not_not.1 h)
    exact Nat.le_trans (picks_le _ _) h1.2
end
end Go.Proofs.YtihllippchgkgaaGreat.V

/- Contracts: places that are led to, on both sides. -/
namespace Go.Proofs.YtihllippchgkgaaGreat.V
open Go Go.RowKit
set_option linter.unusedVariables false
set_option linter.unusedSimpArgs false
/-- An op leads from one place to another that is not left out. -/
def Step (l : List Ins) (but x y : Int) : Prop := ∃ i, 0 ≤ x ∧ l[x.toNat]? = some i ∧ y ∈ nextX x i ∧ y ≠ but
inductive Pth (l : List Ins) (but a : Int) : Int → Prop
  | one {y : Int} : Step l but a y → Pth l but a y
  | more {x y : Int} : Pth l but a x → Step l but x y → Pth l but a y
theorem Pth.head {l : List Ins} {but a c : Int} (h : Pth l but a c) : ∃ y, Step l but a y ∧ (c = y ∨ Pth l but y c) := by
  induction h with
  | one h => exact ⟨_, h, .inl rfl⟩
  | more h1 h2 ih =>
    obtain ⟨y, hy, h | h⟩ := ih
    · subst h; exact ⟨_, hy, .inr (.one h2)⟩
    · exact ⟨y, hy, .inr (.more h h2)⟩
theorem Pth.cons {l : List Ins} {but a y c : Int} (h : Step l but a y) (h2 : Pth l but y c) : Pth l but a c := by
  induction h2 with
  | one h' => exact .more (.one h) h'
  | more _ h' ih => exact .more ih h'
theorem formP_last {l : List Ins} (h : formP l = 0) {x : Ins} (hx : l[l.length - 1]? = some x) : x.op = 20 ∨ x.op = 16 := by
  have h1 := formGo_end (all := l) h
  have h2 := formP_size h
  rw [endP_last (by omega) hx] at h1
  split at h1
  · simp at h1
  · omega
theorem nextX_in {l : List Ins} (h : formP l = 0) {i : Nat} {x : Ins} (hx : l[i]? = some x) {y : Int} (hy : y ∈ nextX i x) : 0 ≤ y ∧ y < l.length := by
  have hi := lt_of_get hx
  have hn : x.op ≠ 20 → x.op ≠ 16 → i + 1 < l.length := fun h20 h16 => by
    rcases Nat.lt_or_ge (i + 1) l.length with h1 | h1
    · exact h1
    · have : i = l.length - 1 := by omega
      have := formP_last h (this ▸ hx)
      omega
  have ht : goesP x → 0 ≤ tgt i x ∧ tgt i x ≤ (l.length : Int) - 1 := fun hg => formP_tgt h hx hg
  unfold nextX at hy
  split at hy
  · simp at hy
  · rename_i h20
    split at hy
    · rename_i h16
      simp at hy; have := ht (by unfold goesP; omega); omega
    · rename_i h16
      have := hn h20 h16
      split at hy
      · rename_i hj
        have := ht (by unfold goesP; omega)
        split at hy
        · simp at hy; omega
        · split at hy <;> (simp at hy; omega)
      · simp at hy; omega
theorem Step.rng {l : List Ins} (h : formP l = 0) {but x y : Int} (hs : Step l but x y) : 0 ≤ y ∧ y < l.length := by
  obtain ⟨i, h0, hi, hy, _⟩ := hs
  have := nextX_in h hi (y := y)
  rw [show ((x.toNat : Nat) : Int) = x by omega] at this
  exact this hy
theorem Pth.rng {l : List Ins} (h : formP l = 0) {but x y : Int} (hs : Pth l but x y) : 0 ≤ y ∧ y < l.length := by
  cases hs with
  | one h1 => exact h1.rng h
  | more _ h1 => exact h1.rng h
/-- What a spreading does to a set. -/
structure Spr (l : List Ins) (but a : Int) (S S' : List Int) : Prop where
  sub : ∀ x ∈ S, x ∈ S'
  sound : ∀ x ∈ S', x ∈ S ∨ Pth l but a x
  clos : ∀ x, (x = a ∨ (x ∈ S' ∧ x ∉ S)) → ∀ y, Step l but x y → y ∈ S'
theorem Spr.all {l : List Ins} {but a : Int} {S S' : List Int} (h : Spr l but a S S') (hS : ∀ x ∈ S, x = a) (x : Int) : x ∈ S' ↔ x ∈ S ∨ Pth l but a x := by
  refine ⟨h.sound x, ?_⟩
  rintro (hx | hx)
  · exact h.sub x hx
  · induction hx with
    | one h1 => exact h.clos a (.inl rfl) _ h1
    | more _ h2 ih =>
      rename_i z y _
      by_cases hz : z ∈ S
      · exact h.clos z (.inl (hS z hz)) _ h2
      · exact h.clos z (.inr ⟨ih, hz⟩) _ h2
theorem ins_all {p : Int → Prop} {y : Int} {S : List Int} (h : ∀ z ∈ S, p z) (hy : p y) : ∀ z ∈ ins y S, p z := fun z hz => by
  rcases mem_ins.1 hz with h1 | h1
  · subst h1; exact hy
  · exact h z h1
theorem SetM.cells {B : Nat} {w : World} {m : Option Nat} {S : List Int} (h : SetM B w m S) {b : Nat} (hb : m = some b) {o : Nat} {v : Value} (hc : w.cell? ⟨b, o, none⟩ = some v) : False := by
  obtain ⟨b', D, hb', _, ⟨es, clock, hh, _⟩, _⟩ := h
  rw [hb] at hb'
  simp only [Option.some.injEq] at hb'; subst hb'
  simp [World.cell?, hh] at hc
section
variable {α : Type} {k : Kd α} {w w' : World} {s : Sl} {xs : List α} {B : Nat} {m : Option Nat} {S : List Int}
theorem SlR.keptM (h : SlR k w s xs) (hm : SetM B w m S) (hg : w.grownBy w' m) (hp : 0 < k.ls.length) : SlR k w' s xs := by
  by_cases hne : xs = []
  · exact ⟨h.1, h.2.1, h.2.2.1, .inl hne⟩
  · refine h.kept2 hg fun b o hb e => ?_
    obtain ⟨x, hx⟩ := get_some (l := xs) (k := 0) (List.length_pos_iff.2 hne)
    obtain ⟨b', o', ha, hA⟩ := h.at hx
    rw [ha] at hb
    simp only [Option.some.injEq, Addr.mk.injEq, and_true] at hb
    have hl := k.cells_length x
    have := hA 0 _ (List.getElem?_eq_getElem (by omega))
    exact hm.cells (by rw [e, ← hb.1]) this
theorem WrS.keptM {t : TypeId} {B' : Nat} (h : WrS k t B' w s xs) (hm : SetM B w m S) (hg : w.grownBy w' m) : WrS k t B' w' s xs := by
  refine h.kept hg fun b hb e => ?_
  rcases h.2.2.2 with h0 | ⟨b', o, cur, ha, _, hh, _⟩
  · simp [Sl.bk, h0.1] at e
  · simp only [Sl.bk, ha, Option.map_some, Option.some.injEq] at e
    subst e
    obtain ⟨b2, D, hb', _, ⟨es, clock, hh', _⟩, _⟩ := hm
    rw [hb] at hb'
    simp only [Option.some.injEq] at hb'; subst hb'
    rw [hh] at hh'; simp at hh'
end
section
variable {w : World} {s : Sl} {l : List Ins}
theorem impl.places.spread.c (hq : formP l = 0) (hl : l.length ≤ 1048576) (but : Int) (n : Nat) : ∀ {w : World} {B : Nat} {m : Option Nat} {S : List Int} {a : Int} {K : Unit → World → Prop}, SlR kIns w s l → SetM B w m S → (∀ x ∈ S, 0 ≤ x ∧ x < l.length) → l.length ≤ n + S.length → 0 ≤ a → a < l.length →
    (∀ w' S', SetM B w' m S' → Spr l but a S S' → (∀ x ∈ S', 0 ≤ x ∧ x < l.length) → w.grownBy w' m → K () w') → CallT .z P0 38 [.map m, s.v, .int .i64 a, .int .i64 but] w K := by
  induction n using Nat.strongRecOn with
  | _ n ih =>
    intro w B m S a K h hm hS hn ha0 ha1 hk
    have hz := formP_size hq
    obtain ⟨x, hx⟩ := get_some (l := l) (k := a.toNat) (by omega)
    have hix := formP_ins hq (List.mem_of_getElem? hx)
    refine impl.places.spread.ok (impl.ahead.c h ha0 hx hl hix.2.2.1 fun r w1 hb1 hr1 => ?_)
    have hm1 := hm.below hb1
    have hrn := hr1.len
    have hx2 := nextX_length a x
    have hgr : w.grownBy w1 m := by have := grown_of_below hb1; exact ⟨this.os, this.tape, this.output, this.size, fun k hk _ => this.block k hk (by simp)⟩
    refine ⟨fun i w' => ∃ (j : Nat) (S' : List Int), i = j ∧ j ≤ (nextX a x).length ∧ SetM B w' m S' ∧ WrS kI 3 w.heap.size w' r (nextX a x) ∧ SlR kIns w' s l ∧ (∀ x ∈ S, x ∈ S') ∧ (∀ x ∈ S', x ∈ S ∨ Pth l but a x) ∧
        (∀ x, x ∈ S' → x ∉ S → ∀ y, Step l but x y → y ∈ S') ∧ (∀ i y, i < j → (nextX a x)[i]? = some y → y ≠ but → y ∈ S') ∧ (∀ x ∈ S', 0 ≤ x ∧ x < l.length) ∧ w.grownBy w' m, fun i _ => (nextX a x).length - i.toNat,
      ⟨0, S, rfl, by omega, hm1, hr1, h.below hb1, fun x hx => hx, fun x hx => .inl hx, fun x h1 h2 => absurd h1 h2, fun i y hi => by omega, hS, hgr⟩, ?_⟩
    rintro i w2 ⟨j, S2, rfl, hj, hm2, hr2, h2, hsub, hsnd, hcl, hpr, hrg, hg2⟩ _
    refine And.intro (fun hlt => ?_) (fun hge => ?_)
    · simp only [decide_eq_true_eq] at hlt
      obtain ⟨y, hy⟩ := get_some (l := nextX a x) (k := j) (by omega)
      have hyr : 0 ≤ y ∧ y < l.length := by
        have := nextX_in hq hx (y := y)
        rw [show ((a.toNat : Nat) : Int) = a by omega] at this
        exact this (List.mem_of_getElem? hy)
      have hwr : IntKind.wrap .i64 ((j : Int) + 1) = (j : Int) + 1 := i64_of (by omega) (by omega)
      have stp : y ≠ but → Step l but a y := fun hne => ⟨x, ha0, hx, List.mem_of_getElem? hy, hne⟩
      refine ixL hr2.read (i := j) (by omega) (x := y) (by simpa using hy) rfl (l := .i .i64) (v := y) rfl ?_
      refine And.intro (fun hb => ?_) (fun hb => ?_)
      · simp only [bne_iff_ne, ne_eq] at hb
        refine mapGet hm2 (wf_i64 (by omega) (by omega)) ?_
        refine And.intro (fun hin => ?_) (fun hin => ?_)
        · simp only [Bool.not_eq_true', decide_eq_false_iff_not] at hin
          have hlen2 : S2.length + 1 ≤ l.length := by
            have := nodup_le (n := l.length) (nodup_ins (x := y) hm2.nodup) (ins_all hrg hyr)
            unfold ins at this; rw [if_neg hin] at this; simpa using this
          have hSS2 : S.length ≤ S2.length := List.Nodup.length_le_of_subset hm.nodup hsub
          refine mapPut hm2 (wf_i64 (by omega) (by omega)) (by simp only [maxLen]; omega) fun w3 hm3 hg3 => ?_
          have hr3 := hr2.keptM hm2 hg3
          have h3 := h2.keptM hm2 hg3 (by decide)
          have hl3 : (ins y S2).length = S2.length + 1 := by unfold ins; rw [if_neg hin]; simp
          refine ih (l.length - (S2.length + 1)) (by omega) h3 hm3 (ins_all hrg hyr) (by omega) hyr.1 hyr.2 fun w4 S4 hm4 hsp hrg4 hg4 => ?_
          rw [hwr]
          refine ⟨⟨j + 1, S4, by omega, by omega, hm4, hr3.keptM hm3 hg4, h3.keptM hm3 hg4 (by decide), fun z hz => hsp.sub z (mem_ins.2 (.inr (hsub z hz))), fun z hz => ?_, fun z hz hnz u hu => ?_, fun i u hi hu hub => ?_, hrg4, grown_trans (grown_trans hg2 hg3) hg4⟩, by simp only; omega⟩
          · rcases hsp.sound z hz with h | h
            · rcases mem_ins.1 h with rfl | h
              · exact .inr (.one (stp hb))
              · exact hsnd z h
            · exact .inr (Pth.cons (stp hb) h)
          · by_cases hz2 : z ∈ S2
            · exact hsp.sub _ (mem_ins.2 (.inr (hcl z hz2 hnz u hu)))
            · by_cases hzy : z = y
              · exact hsp.clos z (.inl hzy) u hu
              · exact hsp.clos z (.inr ⟨hz, fun e => by rcases mem_ins.1 e with h | h <;> contradiction⟩) u hu
          · rcases Nat.lt_or_ge i j with h1 | h1
            · exact hsp.sub _ (mem_ins.2 (.inr (hpr i u h1 hu hub)))
            · obtain rfl : i = j := by omega
              rw [hy] at hu; simp only [Option.some.injEq] at hu; subst hu
              exact hsp.sub _ (mem_ins.2 (.inl rfl))
        · simp only [Bool.not_eq_false', decide_eq_true_eq] at hin
          rw [hwr]
          refine ⟨⟨j + 1, S2, by omega, by omega, hm2, hr2, h2, hsub, hsnd, hcl, fun i u hi hu hub => ?_, hrg, hg2⟩, by simp only; omega⟩
          rcases Nat.lt_or_ge i j with h1 | h1
          · exact hpr i u h1 hu hub
          · obtain rfl : i = j := by omega
            rw [hy] at hu; simp only [Option.some.injEq] at hu; subst hu; exact hin
      · simp only [bne_eq_false_iff_eq] at hb
        rw [hwr]
        refine ⟨⟨j + 1, S2, by omega, by omega, hm2, hr2, h2, hsub, hsnd, hcl, fun i u hi hu hub => ?_, hrg, hg2⟩, by simp only; omega⟩
        rcases Nat.lt_or_ge i j with h1 | h1
        · exact hpr i u h1 hu hub
        · obtain rfl : i = j := by omega
          rw [hy] at hu; simp only [Option.some.injEq] at hu; subst hu; exact absurd hb hub
    · simp only [decide_eq_false_iff_not] at hge
      obtain rfl : j = (nextX a x).length := by omega
      refine hk w2 S2 hm2 ⟨hsub, hsnd, fun z hz y hs => ?_⟩ hrg hg2
      by_cases hza : z = a
      · subst hza
        obtain ⟨i', _, hi', hy', hne⟩ := hs
        rw [hx] at hi'; simp only [Option.some.injEq] at hi'; subst hi'
        obtain ⟨i, hi⟩ := List.getElem?_of_mem hy'
        exact hpr i y (lt_of_get hi) hi hne
      · rcases hz with h | ⟨h1, h2⟩
        · exact absurd h hza
        · exact hcl z h1 h2 y hs
/-- Op 0 leads here. -/
def Rch (l : List Ins) (x : Int) : Prop := x = 0 ∨ Pth l (-1) 0 x
theorem Rch.rng (hq : formP l = 0) {x : Int} (h : Rch l x) : 0 ≤ x ∧ x < l.length := by
  rcases h with rfl | h
  · have := (formP_size hq).1; omega
  · exact h.rng hq
theorem impl.reached.c {K : Option Nat → World → Prop} (hq : formP l = 0) (hl : l.length ≤ 1048576) (h : SlR kIns w s l)
    (hk : ∀ m w' S, SetM w.heap.size w' m S → (∀ x, x ∈ S ↔ Rch l x) → Below w.heap.size w w' → K m w') : CallT (.o (.lf .m)) P0 22 [s.v] w K := by
  have hz := formP_size hq
  refine impl.reached.ok (mapNew fun m w1 hm1 hb1 hs1 => ?_)
  refine mapPut hm1 (x := 0) (by decide) (by simp [maxLen]) fun w2 hm2 hg2 => ?_
  have hb2 := hb1.grown hg2 hb1.size (fun b hb => (hm1.blk hb).1)
  refine impl.places.spread.c hq hl (-1) l.length (h.below hb2) hm2 (ins_all (by simp) (by omega)) (by omega) (Int.le_refl _) (by omega) fun w3 S' hm3 hsp hrg hg3 => ?_
  refine hk m w3 S' hm3 (fun x => ?_) (hb2.grown hg3 hb2.size (fun b hb => (hm1.blk hb).1))
  rw [hsp.all (fun x hx => by simpa [mem_ins] using hx)]
  simp [mem_ins, Rch]
open Classical in
noncomputable def flowReach (l : List Ins) : List Int := if formP l ≠ 0 then [] else picks l.length fun i => decide (Rch l i)
theorem flowReach_length (l : List Ins) : (flowReach l).length ≤ 48 := by
  unfold flowReach
  split
  · simp
  · rename_i h
    have h1 := formP_size (l := l) (Classical.not_not.1 h)
    exact Nat.le_trans (picks_le _ _) h1.2
theorem impl.FlowReach.c {K : Sl → World → Prop} (h : SlR kIns w s l) (hl : l.length ≤ 1048576)
    (hk : ∀ r w', Below w.heap.size w w' → WrS kI 3 w.heap.size w' r (flowReach l) → K r w') : CallT (.o (.lf .sl)) P0 8 [s.v] w K := by
  refine impl.FlowReach.ok (impl.ProgForm.c h hl fun w1 hb1 => ?_)
  refine And.intro (fun hq => ?_) (fun hq => ?_)
  · simp at hq
    exact hk _ _ hb1 (by unfold flowReach; rw [if_pos hq]; exact WrS.nil _ _ _ _)
  · simp at hq
    have hz := formP_size hq
    refine impl.reached.c hq hl (h.below hb1) fun m w2 S hm2 hS hb2 => ?_
    have hb12 := hb1.trans (hb2.mono hb1.size)
    have hle := nodup_le (n := l.length) hm2.nodup fun x hx => ((hS x).1 hx).rng hq
    refine impl.places.sorted.c hm2 (by omega) fun r w3 hb3 ho3 => ?_
    refine hk _ _ (hb12.trans (hb3.mono hb12.size)) ?_
    have : sorted S = flowReach l := by
      unfold flowReach
      rw [if_neg (by simp [hq])]
      refine sorted_eq hm2.nodup fun x => ?_
      rw [hS]
      simp only [decide_eq_true_eq]
      constructor
      · intro h1
        have h0 := h1.rng hq
        exact ⟨x.toNat, by omega, by omega, by rw [show ((x.toNat : Nat) : Int) = x by omega]; exact h1⟩
      · rintro ⟨i, rfl, _, hb⟩; exact hb
    rw [← this]
    exact (ho3.wr).low hb12.size
/-- What spec.l12Reach marks. -/
def RchF (l : List Ins) (a but x : Int) : Prop := a ≠ but ∧ (x = a ∨ Pth l but a x)
theorem spec.l12Reach.c {K : Sl → World → Prop} (hq : formP l = 0) (hl : l.length ≤ 1048576) (h : SlR kIns w s l) {a but : Int} (ha0 : 0 ≤ a) (ha1 : a < l.length)
    (hk : ∀ r w' f, WrS kB 4 w.heap.size w' r (bits l.length f) → (∀ j : Nat, j < l.length → (f j = true ↔ RchF l a but j)) → Below w.heap.size w w' → K r w') : CallT (.o (.lf .sl)) P0 25 [s.v, .int .i64 a, .int .i64 but] w K := by
  have hn := h.len
  have hz := formP_size hq
  refine spec.l12Reach.ok ?_
  unfold spec.l12Reach.vc
  rw [hn]
  refine mkS mkB (by omega) (by simp only [maxLen]; omega) fun r w1 hb1 hr1 => ?_
  rw [bits_rep] at hr1
  refine And.intro (fun hab => ?_) (fun hab => ?_)
  · simp only [beq_iff_eq] at hab
    exact hk r w1 _ hr1 (fun j hj => by simp [RchF, hab]) hb1
  · simp only [beq_eq_false_iff_ne, ne_eq] at hab
    have hb1s := hb1.size
    refine nw fun w2 hb2 hs2 hc2 => ?_
    have ho2 : OwnS kI 3 w1.heap.size w2 ⟨some ⟨w1.heap.size, 0, none⟩, 1, 1⟩ [a] := OwnS.lit (k := kI) (Nat.le_refl _) hc2 rfl rfl (by simp [maxLen])
    have hb12 := hb1.trans (hb2.mono hb1.size)
    have bk : ∀ b, r.bk = some b → w.heap.size ≤ b := fun b hb => (hr1.blk hb).1
    -- rows of bits and rows of numbers lie apart
    have apart : ∀ {w' : World} {f : Nat → Bool} {t : Sl} {T : List Int} {B B' : Nat}, WrS kB 4 B w' r (bits l.length f) → WrS kI 3 B' w' t T → ∀ b, r.bk = some b → t.bk ≠ some b := by
      intro w' f t T B B' h1 h2 b hb e
      rcases h1.2.2.2 with h0 | ⟨b1, o1, c1, ha1, _, hh1, _⟩
      · simp [Sl.bk, h0.1] at hb
      · rcases h2.2.2.2 with h0 | ⟨b2, o2, c2, ha2, _, hh2, _⟩
        · simp [Sl.bk, h0.1] at e
        · simp only [Sl.bk, ha1, ha2, Option.map_some, Option.some.injEq] at hb e
          subst hb; subst e
          rw [hh1] at hh2
          simp at hh2
    refine stBit (hr1.below hb2) ha0 ha1 fun w3 hr3 hg3 => ?_
    have ho3 := ho2.kept hg3 (fun b hb e => apart (hr1.below hb2) ho2.wr b hb ((ob_bk _).symm.trans e))
    have hb3 := hb12.grown hg3 hb12.size bk
    have stp : ∀ {x : Int} {i : Ins} {y : Int}, 0 ≤ x → l[x.toNat]? = some i → y ∈ nextX x i → 0 ≤ y ∧ y < l.length := by
      intro x i y h0 hi hy
      have := nextX_in hq hi (y := y)
      rw [show ((x.toNat : Nat) : Int) = x by omega] at this
      exact this hy
    refine ⟨fun todo i w' => ∃ (n : Nat) (T : List Int) (f : Nat → Bool), i = n ∧ n ≤ T.length ∧ OwnS kI 3 w.heap.size w' todo T ∧ WrS kB 4 w.heap.size w' r (bits l.length f) ∧ Below w.heap.size w w' ∧ T.Nodup ∧
        (∀ j : Nat, j < l.length → (f j = true ↔ (j : Int) ∈ T)) ∧ (∀ x ∈ T, (0 ≤ x ∧ x < l.length) ∧ (x = a ∨ Pth l but a x)) ∧ a ∈ T ∧ (∀ k x, k < n → T[k]? = some x → ∀ y, Step l but x y → y ∈ T), fun _ i _ => l.length + 1 - i.toNat,
      ⟨0, [a], _, rfl, by simp, ho3.low hb1s, hr3, hb3, by simp, fun j hj => by simp; omega, fun x hx => by simp at hx; subst hx; exact ⟨⟨ha0, ha1⟩, .inl rfl⟩, by simp, fun k x hk => by omega⟩, ?_⟩
    rintro todo i w4 ⟨n, T, f, rfl, hnT, ho4, hr4, hb4, hnd, hf, hT, haT, hcl⟩ _
    have hol := ho4.len
    have hTl : T.length ≤ l.length := nodup_le hnd fun x hx => (hT x hx).1
    refine And.intro (fun hlt => ?_) (fun hge => ?_)
    · simp only [decide_eq_true_eq] at hlt
      obtain ⟨x, hx⟩ := get_some (l := T) (k := n) (by omega)
      have hxT := hT x (List.mem_of_getElem? hx)
      obtain ⟨e, he⟩ := get_some (l := l) (k := x.toNat) (by omega)
      have hie := formP_ins hq (List.mem_of_getElem? he)
      refine ixL ho4.read (i := n) (by omega) (x := x) (by simpa using hx) rfl (l := .i .i64) (v := x) rfl ?_
      refine spec.l12Next.c (h.below hb4) hxT.1.1 he hl hie.2.2.1 fun nx w5 hb5 hn5 => ?_
      have hb45 := hb4.trans (hb5.mono hb4.size)
      have hnl := hn5.len
      have hn2 := nextX_length x e
      have hs4 := hb4.size
      refine ⟨fun todo' k w' => ∃ (j : Nat) (T' : List Int) (g : Nat → Bool), k = j ∧ j ≤ (nextX x e).length ∧ OwnS kI 3 w.heap.size w' todo' T' ∧ WrS kB 4 w.heap.size w' r (bits l.length g) ∧ WrS kI 3 w4.heap.size w' nx (nextX x e) ∧ Below w.heap.size w w' ∧ T'.Nodup ∧
          (∀ j : Nat, j < l.length → (g j = true ↔ (j : Int) ∈ T')) ∧ (∀ x ∈ T', (0 ≤ x ∧ x < l.length) ∧ (x = a ∨ Pth l but a x)) ∧ T <+: T' ∧ (∀ i y, i < j → (nextX x e)[i]? = some y → y ≠ but → y ∈ T') ∧ (∀ b, todo'.bk = some b → nx.bk ≠ some b), fun _ k _ => (nextX x e).length - k.toNat,
        ⟨0, T, f, rfl, by omega, ho4.below hb5, hr4.below hb5, hn5, hb45, hnd, hf, hT, List.prefix_refl _, fun i y hi => by omega, fun b hb e => by have := (ho4.blk ((ob_bk _).trans hb)).2; have := (hn5.blk e).1; omega⟩, ?_⟩
      rintro todo' k w6 ⟨j, T', g, rfl, hj, ho6, hr6, hn6, hb6, hnd', hg, hT', hpre, hpr, hsep⟩ _
      have hol6 := ho6.len
      have hTl' : T'.length ≤ l.length := nodup_le hnd' fun x hx => (hT' x hx).1
      refine And.intro (fun hlt6 => ?_) (fun hge6 => ?_)
      · simp only [decide_eq_true_eq] at hlt6
        obtain ⟨y, hy⟩ := get_some (l := nextX x e) (k := j) (by omega)
        have hyr := stp hxT.1.1 he (List.mem_of_getElem? hy)
        have hwr : IntKind.wrap .i64 ((j : Int) + 1) = (j : Int) + 1 := i64_of (by omega) (by omega)
        have hy' : (nextX x e)[((j : Nat) : Int).toNat]? = some y := by simpa using hy
        have hgy : (bits l.length g)[y.toNat]? = some (g y.toNat) := bits_get (by omega)
        have hgm : g y.toNat = true ↔ y ∈ T' := by rw [hg y.toNat (by omega), show ((y.toNat : Nat) : Int) = y by omega]
        refine ⟨fun b w' => b = decide (y ≠ but ∧ y ∉ T') ∧ w' = w6, ?_, ?_⟩
        · refine ixL hn6.read (i := j) (by omega) hy' rfl (l := .i .i64) (v := y) rfl ?_
          refine And.intro (fun hb => ?_) (fun hb => ?_)
          · simp only [bne_iff_ne, ne_eq] at hb
            refine ixL hn6.read (i := j) (by omega) hy' rfl (l := .i .i64) (v := y) rfl ?_
            refine ixL hr6.read hyr.1 hgy rfl (l := .b) (v := g y.toNat) rfl ?_
            exact ⟨by rw [Bool.eq_iff_iff]; simp [hb, ← hgm], rfl⟩
          · simp only [bne_eq_false_iff_eq] at hb
            exact ⟨by simp [hb], rfl⟩
        · rintro b w7 ⟨rfl, rfl⟩ _
          refine And.intro (fun hb => ?_) (fun hb => ?_)
          · simp only [decide_eq_true_eq] at hb
            have hns : Step l but x y := ⟨e, hxT.1.1, he, List.mem_of_getElem? hy, hb.1⟩
            refine ixL hn6.read (i := j) (by omega) hy' rfl (l := .i .i64) (v := y) rfl ?_
            refine stBit hr6 hyr.1 (by omega) fun w8 hr8 hg8 => ?_
            have ho8 := ho6.kept hg8 (fun b hb' e => apart hr6 ho6.wr b hb' ((ob_bk _).symm.trans e))
            have hn8 := hn6.kept hg8 (fun b hb' => apart hr6 hn6 b hb')
            have hb8 := hb6.grown hg8 hb6.size bk
            refine ixL hn8.read (i := j) (by omega) hy' rfl (l := .i .i64) (v := y) rfl ?_
            refine ap1 elI ho8 y rfl (by omega) (by omega) hb8.size fun todo2 w9 ho9 hg9 hbk9 => ?_
            rw [ob_bk] at hg9
            rw [hwr]
            have hTy : (T' ++ [y]).Nodup := List.nodup_append.2 ⟨hnd', by simp, fun u hu v hv => by simp at hv; subst hv; exact fun e => hb.2 (e ▸ hu)⟩
            refine ⟨⟨j + 1, T' ++ [y], _, by omega, by omega, ho9, hr8.kept hg9 (fun b hb' e => apart hr8 ho8.wr b e hb'), hn8.kept hg9 hsep, hb8.grown hg9 hb8.size (fun b hb' => (ho8.blk ((ob_bk _).trans hb')).1), hTy,
              fun i hi => ?_, fun z hz => ?_, hpre.trans (List.prefix_append _ _), fun i u hi hu hub => ?_, fun b hb' => ?_⟩, by simp only; omega⟩
            · rw [Bool.or_eq_true, hg i hi]
              simp only [List.mem_append, List.mem_singleton, decide_eq_true_eq]
              constructor
              · rintro (h | h)
                · exact .inl h
                · exact .inr (by omega)
              · rintro (h | h)
                · exact .inl h
                · exact .inr (by omega)
            · rcases List.mem_append.1 hz with h | h
              · exact hT' z h
              · simp at h; subst h
                refine ⟨hyr, .inr ?_⟩
                rcases hxT.2 with rfl | h
                · exact .one hns
                · exact .more h hns
            · rcases Nat.lt_or_ge i j with h1 | h1
              · exact List.mem_append.2 (.inl (hpr i u h1 hu hub))
              · obtain rfl : i = j := by omega
                rw [hy] at hu; simp only [Option.some.injEq] at hu; subst hu
                simp
            · rcases hbk9 b ((ob_bk _).trans hb') with h1 | h1
              · exact hsep b ((ob_bk _).symm.trans h1)
              · intro e; have := (hn8.blk e).2; omega
          · simp only [decide_eq_false_iff_not] at hb
            rw [hwr]
            refine ⟨⟨j + 1, T', g, by omega, by omega, ho6, hr6, hn6, hb6, hnd', hg, hT', hpre, fun i u hi hu hub => ?_, hsep⟩, by simp only; omega⟩
            rcases Nat.lt_or_ge i j with h1 | h1
            · exact hpr i u h1 hu hub
            · obtain rfl : i = j := by omega
              rw [hy] at hu; simp only [Option.some.injEq] at hu; subst hu
              exact Classical.not_not.1 fun h => hb ⟨hub, h⟩
      · simp only [decide_eq_false_iff_not] at hge6
        obtain rfl : j = (nextX x e).length := by omega
        have hpl := hpre.length_le
        rw [i64_of (by omega) (by omega)]
        refine ⟨⟨n + 1, T', g, by omega, by omega, ho6, hr6, hb6, hnd', hg, hT', hpre.subset haT, fun k z hk hz y hs => ?_⟩, by simp only; omega⟩
        have hz' : T[k]? = some z := by
          obtain ⟨t, rfl⟩ := hpre
          rwa [List.getElem?_append_left (by omega)] at hz
        rcases Nat.lt_or_ge k n with h1 | h1
        · exact hpre.subset (hcl k z h1 hz' y hs)
        · obtain rfl : k = n := by omega
          rw [hx] at hz'; simp only [Option.some.injEq] at hz'; subst hz'
          obtain ⟨i', _, hi', hy', hne⟩ := hs
          rw [he] at hi'; simp only [Option.some.injEq] at hi'; subst hi'
          obtain ⟨i, hi⟩ := List.getElem?_of_mem hy'
          exact hpr i y (lt_of_get hi) hi hne
    · simp only [decide_eq_false_iff_not] at hge
      obtain rfl : n = T.length := by omega
      refine hk r w4 f hr4 (fun j hj => ?_) hb4
      rw [hf j hj]
      constructor
      · intro hm
        exact ⟨hab, (hT _ hm).2⟩
      · rintro ⟨_, h | h⟩
        · rw [h]; exact haT
        · have : ∀ z, Pth l but a z → z ∈ T := by
            intro z hz
            induction hz with
            | one h1 =>
              obtain ⟨k, hk⟩ := List.getElem?_of_mem haT
              exact hcl k a (lt_of_get hk) hk _ h1
            | more _ h2 ih =>
              obtain ⟨k, hk⟩ := List.getElem?_of_mem ih
              exact hcl k _ (lt_of_get hk) hk _ h2
          exact this _ h
end
end Go.Proofs.YtihllippchgkgaaGreat.V

/- Contracts: FlowReach, FlowAhead, FlowRound on both sides. -/
namespace Go.Proofs.YtihllippchgkgaaGreat.V
open Go Go.RowKit
set_option linter.unusedVariables false
set_option linter.unusedSimpArgs false
section
variable {w : World} {s : Sl} {l : List Ins}
open Classical in
theorem spec.FlowReach.c {K : Sl → World → Prop} (h : SlR kIns w s l) (hl : l.length ≤ 1048576)
    (hk : ∀ r w', Below w.heap.size w w' → OwnS kI 3 w.heap.size w' r (flowReach l) → K r w') : CallT (.o (.lf .sl)) P0 10 [s.v] w K := by
  have hn := h.len
  refine spec.FlowReach.ok (nw fun w0 hb0 hs0 hc0 => ?_)
  have ho0 : OwnS kI 3 w.heap.size w0 ⟨some ⟨w.heap.size, 0, none⟩, 0, 0⟩ [] := OwnS.lit (Nat.le_refl _) hc0 rfl rfl (by simp)
  refine spec.l12Fine.c (h.below hb0) hl fun w1 hb1' => ?_
  have hb1 := hb0.trans (hb1'.mono hb0.size)
  have ho1 := ho0.below hb1'
  refine And.intro (fun hq => ?_) (fun hq => ?_)
  · simp at hq
    exact hk _ _ hb1 (by unfold flowReach; rw [if_pos hq]; exact ho1)
  · simp at hq
    have hz := formP_size hq
    refine spec.l12Reach.c hq hl (h.below hb1) (Int.le_refl 0) (by omega) fun r w2 f hr2 hf hb2 => ?_
    have hb02 := hb1.trans (hb2.mono hb1.size)
    have hrn := hr2.len
    rw [bits_length] at hrn
    have := collect (n := l.length) (K := K) hr2.read (Nat.le_refl _) (by omega) (ho1.below hb2) hb02.size ?_ ?_
    · rw [← hrn] at this; exact this
    · intro b o hb
      have hbk : r.bk = some b := by simp [Sl.bk, hb]
      have h1 := hr2.blk hbk
      refine ⟨h1.2, fun b' hb' e => ?_⟩
      simp only [Sl.bk, Option.map_some, Option.some.injEq] at hb'
      have := hb0.size; have := hb1'.size; omega
    · intro out w5 ho5 hb5
      refine hk _ _ (hb02.trans (hb5 _ (Nat.le_refl _))) ?_
      have : flowReach l = picks l.length f := by
        unfold flowReach
        rw [if_neg (by simp [hq])]
        exact picks_congr fun i hi => by rw [Bool.eq_iff_iff, hf i hi, decide_eq_true_eq]; simp [Rch, RchF]
      rw [this]; exact ho5
/-- Each way to b goes over a. -/
def Ahead (l : List Ins) (a b : Int) : Prop := formP l = 0 ∧ Rch l a ∧ Rch l b ∧ (a = b ∨ a = 0 ∨ ¬ (b = 0 ∨ Pth l a 0 b))
open Classical in
theorem impl.FlowAhead.c {a b : Int} {K : Bool → World → Prop} (h : SlR kIns w s l) (hl : l.length ≤ 1048576) (ha : (Lit.int .i64 a).wf = true) (hbw : (Lit.int .i64 b).wf = true)
    (hk : ∀ w', Below w.heap.size w w' → K (decide (Ahead l a b)) w') : CallT (.o (.lf .b)) P0 17 [s.v, .int .i64 a, .int .i64 b] w K := by
  refine impl.FlowAhead.ok ⟨fun w' => Below w.heap.size w w' ∧ formP l = 0 ∧ Rch l a ∧ Rch l b, ?_, ?_⟩
  · refine impl.ProgForm.c h hl fun w1 hb1 => ?_
    refine And.intro (fun hq => ?_) (fun hq => ?_)
    · simp at hq
      exact kof (hk _ hb1) (by simp [Ahead, hq])
    · simp at hq
      refine impl.reached.c hq hl (h.below hb1) fun m w2 S hm2 hS hb2 => ?_
      have hb12 := hb1.trans (hb2.mono hb1.size)
      refine mapGet hm2 ha ?_
      refine And.intro (fun hi => ?_) (fun hi => ?_)
      · simp only [Bool.not_eq_true', decide_eq_false_iff_not, hS] at hi
        exact kof (hk _ hb12) (by simp [Ahead, hi])
      · simp only [Bool.not_eq_false', decide_eq_true_eq, hS] at hi
        refine impl.reached.c hq hl (h.below hb12) fun m' w3 S' hm3 hS' hb3 => ?_
        have hb13 := hb12.trans (hb3.mono hb12.size)
        refine mapGet hm3 hbw ?_
        refine And.intro (fun hj => ?_) (fun hj => ?_)
        · simp only [Bool.not_eq_true', decide_eq_false_iff_not, hS'] at hj
          exact kof (hk _ hb13) (by simp [Ahead, hj])
        · simp only [Bool.not_eq_false', decide_eq_true_eq, hS'] at hj
          exact ⟨hb13, hq, hi, hj⟩
  · rintro w1 ⟨hb1, hq, hra, hrb⟩ _
    have hz := formP_size hq
    have hk1 := hk _ hb1
    refine ⟨fun w' => w' = w1 ∧ a ≠ b ∧ a ≠ 0, ?_, ?_⟩
    · refine And.intro (fun he => ?_) (fun he => ?_)
      · simp only [beq_iff_eq] at he
        exact kof hk1 (by simp only [decide_eq_true_eq]; exact ⟨hq, hra, hrb, .inl he⟩)
      · simp only [beq_eq_false_iff_ne, ne_eq] at he
        refine And.intro (fun h0 => ?_) (fun h0 => ?_)
        · simp only [beq_iff_eq] at h0
          exact kof hk1 (by simp only [decide_eq_true_eq]; exact ⟨hq, hra, hrb, .inr (.inl h0)⟩)
        · simp only [beq_eq_false_iff_ne, ne_eq] at h0
          exact ⟨rfl, he, h0⟩
    · rintro w2 ⟨rfl, hab, ha0⟩ _
      refine mapNew fun m w3 hm3 hb3 hs3 => ?_
      refine mapPut hm3 (x := 0) (by decide) (by simp [maxLen]) fun w4 hm4 hg4 => ?_
      have hb4 := hb3.grown hg4 hb3.size (fun b hb => (hm3.blk hb).1)
      have hb14 := hb1.trans (hb4.mono hb1.size)
      refine impl.places.spread.c hq hl a l.length (h.below hb14) hm4 (ins_all (by simp) (by omega)) (by omega) (Int.le_refl _) (by omega) fun w5 S' hm5 hsp hrg hg5 => ?_
      have hb5 := hb14.grown hg5 hb14.size (fun b hb => by have := (hm3.blk hb).1; have := hb1.size; omega)
      refine mapGet hm5 hbw (kof (hk _ hb5) ?_)
      have := hsp.all (fun x hx => by simpa [mem_ins] using hx) b
      simp only [mem_ins, List.not_mem_nil, or_false] at this
      rw [Bool.eq_iff_iff]
      simp only [decide_eq_true_eq, Bool.not_eq_true', decide_eq_false_iff_not, this]
      constructor
      · rintro ⟨_, _, _, h | h | h⟩
        · exact absurd h hab
        · exact absurd h ha0
        · exact h
      · intro h
        exact ⟨hq, hra, hrb, .inr (.inr h)⟩
open Classical in
noncomputable def flowRound (l : List Ins) : List Int := if formP l ≠ 0 then [] else picks l.length fun i => decide (Rch l i ∧ Pth l (-1) i i)
theorem flowRound_length (l : List Ins) : (flowRound l).length ≤ 48 := by
  unfold flowRound
  split
  · simp
  · rename_i h
    have h1 := formP_size (l := l) (Classical.not_not.1 h)
    exact Nat.le_trans (picks_le _ _) h1.2
theorem getElem_flowReach {k : Nat} {x : Int} (h : (flowReach l)[k]? = some x) : formP l = 0 ∧ Rch l x := by
  have := List.mem_of_getElem? h
  unfold flowReach at this
  split at this
  · simp at this
  · rename_i hq
    obtain ⟨i, rfl, _, hi⟩ := mem_picks.1 this
    exact ⟨Classical.not_not.1 hq, by simpa using hi⟩
theorem impl.FlowRound.c {K : Sl → World → Prop} (h : SlR kIns w s l) (hl : l.length ≤ 1048576)
    (hk : ∀ r w', Below w.heap.size w w' → WrS kI 3 w.heap.size w' r (flowRound l) → K r w') : CallT (.o (.lf .sl)) P0 19 [s.v] w K := by
  refine impl.FlowRound.ok (impl.ProgForm.c h hl fun w1 hb1 => ?_)
  refine And.intro (fun hq => ?_) (fun hq => ?_)
  · simp at hq
    exact hk _ _ hb1 (by unfold flowRound; rw [if_pos hq]; exact WrS.nil _ _ _ _)
  · simp at hq
    have hz := formP_size hq
    refine mapNew fun o w2 ho2 hb2 hs2 => ?_
    have hb12 := hb1.trans (hb2.mono hb1.size)
    refine impl.reached.c hq hl (h.below hb12) fun m w3 S hm3 hS hb3 => ?_
    have hb13 := hb12.trans (hb3.mono hb12.size)
    have hle := nodup_le (n := l.length) hm3.nodup fun x hx => ((hS x).1 hx).rng hq
    have ho3 := ho2.below hb3
    refine mapRange hm3 fun a w4 hr4 hb4 => ?_
    have hb14 := hb13.trans (hb4.mono hb13.size)
    have hs1 := hb1.size; have hs3 := hb3.size; have hs4 := hb4.size; have hs2' := hb2.size
    refine ⟨fun w' => ∃ ss R, SetM w1.heap.size w' o R ∧ RgM w2.heap.size w3.heap.size w' m a S ss ∧ (∀ x, x ∈ R ↔ x ∈ ss ∧ Pth l (-1) x x) ∧ Below w.heap.size w w' ∧ w3.heap.size ≤ w'.heap.size, fun w' => rgl w' m a,
      ⟨[], [], ho3.below hb4, hr4, by simp, hb14, hs4⟩, ?_⟩
    rintro w5 ⟨ss, R, ho5, hr5, hR, hb5, hs5⟩ _
    have om : o ≠ m := fun e => by
      cases o with
      | none => obtain ⟨b, D, hb, _⟩ := ho2; simp at hb
      | some b => have := (ho2.blk rfl).2; have := (hm3.blk e.symm).1; omega
    have oa : o ≠ some a.block := fun e => by have := (ho2.blk e).2; have := hr5.blk.1; omega
    refine mapNext hr5 (fun x u w6 hx hnx hw hr6 hg6 hlt => ?_) (fun hp => ?_)
    · have hrx := (hS x).1 hx
      have hxr := hrx.rng hq
      have ho6 := ho5.kept hg6 oa
      have hb6 := hb5.grown hg6 hb5.size (fun b hb => by simp only [Option.some.injEq] at hb; have := hr5.blk.1; omega)
      have hs6 := hg6.size
      refine mapNew fun p w7 hp7 hb7 hs7 => ?_
      have hb67 := hb6.trans (hb7.mono hb6.size)
      refine impl.places.spread.c hq hl (-1) l.length (h.below hb67) hp7 (by simp) (by simp) hxr.1 hxr.2 fun w8 S' hp8 hsp hrg hg8 => ?_
      have hpb : ∀ b, p = some b → w6.heap.size ≤ b := fun b hb => (hp7.blk hb).1
      have hb8 := hb67.grown hg8 hb67.size (fun b hb => by have := hpb b hb; have := hb6.size; omega)
      have pne : p ≠ none := fun e => by obtain ⟨b, D, hb, _⟩ := hp7; rw [e] at hb; simp at hb
      have ho8 := (ho6.below hb7).kept hg8 (fun e => by
        cases o with
        | none => exact pne e.symm
        | some b => have := (ho6.blk rfl).2; have := hpb b e.symm; omega)
      have hr67 := hr6.kept (grown_of_below hb7) (fun e => by have := hr6.set; obtain ⟨b, D, hb, _⟩ := this; rw [e] at hb; simp at hb) (by simp)
      have hr8 := hr67.1.kept hg8 (fun e => by
        cases m with
        | none => exact pne e.symm
        | some b => have := (hr6.set.blk rfl).2; have := hpb b e.symm; omega) (fun e => by have := hpb _ e.symm; have := hr6.blk.2; omega)
      have hlt8 : rgl w8 m a < rgl w5 m a := by rw [hr8.2, hr67.2]; exact hlt
      have hs8 : w6.heap.size ≤ w8.heap.size := Nat.le_trans hb7.size hg8.size
      have hall := hsp.all (by simp) x
      simp only [List.not_mem_nil, false_or] at hall
      refine mapGet hp8 hw ?_
      refine And.intro (fun ht => ?_) (fun ht => ?_)
      · simp only [decide_eq_true_eq, hall] at ht
        have hRl : R.length ≤ l.length := nodup_le ho5.nodup fun y hy => by have := (hR y).1 hy; exact ((hS y).1 (hr5.nodup.2 y this.1)).rng hq
        refine mapPut ho8 hw (by simp only [maxLen]; omega) fun w9 ho9 hg9 => ?_
        have hr9 := hr8.1.kept hg9 om.symm (fun e => oa e.symm)
        refine ⟨⟨_, _, ho9, hr9.1, fun y => ?_, hb8.grown hg9 hb8.size (fun b hb => by have := (ho2.blk hb).1; omega), by have := hg9.size; omega⟩, by show rgl w9 m a < rgl w5 m a; rw [hr9.2]; exact hlt8⟩
        rw [mem_ins, hR, List.mem_append, List.mem_singleton]
        constructor
        · rintro (rfl | ⟨h1, h2⟩)
          · exact ⟨.inr rfl, ht⟩
          · exact ⟨.inl h1, h2⟩
        · rintro ⟨h1 | h1, h2⟩
          · exact .inr ⟨h1, h2⟩
          · exact .inl h1
      · simp only [decide_eq_false_iff_not, hall] at ht
        refine ⟨⟨_, R, ho8, hr8.1, fun y => ?_, hb8, by omega⟩, hlt8⟩
        rw [hR, List.mem_append, List.mem_singleton]
        constructor
        · rintro ⟨h1, h2⟩; exact ⟨.inl h1, h2⟩
        · rintro ⟨h1 | h1, h2⟩
          · exact ⟨h1, h2⟩
          · subst h1; exact absurd h2 ht
    · have hRl : R.length ≤ l.length := nodup_le ho5.nodup fun y hy => by have := (hR y).1 hy; exact ((hS y).1 (hr5.nodup.2 y this.1)).rng hq
      refine impl.places.sorted.c ho5 (by omega) fun r w6 hb6 ho6 => ?_
      refine hk _ _ (hb5.trans (hb6.mono hb5.size)) ?_
      have : sorted R = flowRound l := by
        unfold flowRound
        rw [if_neg (by simp [hq])]
        refine sorted_eq ho5.nodup fun x => ?_
        rw [hR, hp.mem_iff, hS]
        simp only [decide_eq_true_eq]
        constructor
        · rintro ⟨h1, h2⟩
          have h0 := h1.rng hq
          exact ⟨x.toNat, by omega, by omega, by rw [show ((x.toNat : Nat) : Int) = x by omega]; exact ⟨h1, h2⟩⟩
        · rintro ⟨i, rfl, _, hb⟩; exact hb
      rw [← this]
      exact (ho6.wr).low hb5.size
end
end Go.Proofs.YtihllippchgkgaaGreat.V

/- Contracts: texts of ops, as far as the draws ask: each comes to its end, and what it hands back is well formed. -/
namespace Go.Proofs.YtihllippchgkgaaGreat.V
open Go Go.RowKit
set_option linter.unusedVariables false
set_option linter.unusedSimpArgs false
theorem sxAny {s : ByteArray} {i : Int} {w : World} {K : Int → World → Prop} (h0 : 0 ≤ i) (h1 : i < s.size) (hk : ∀ b : Int, 0 ≤ b → b ≤ 255 → K b w) : Sx s i w K := by
  have hi : i.toNat < s.size := by omega
  refine ⟨h0, s[i.toNat], by rw [getElem?_pos s i.toNat hi], hk _ (by omega) ?_⟩
  have := (s[i.toNat]).toNat_lt
  omega
theorem elS : El P0 98 9 kS 16 := ⟨by kernel_rfl, ⟨_, _, Option.eq_some_of_isSome (by kernel_rfl), Option.eq_some_of_isSome (by kernel_rfl), by kernel_rfl, by kernel_rfl, by kernel_rfl⟩, by decide, by intro l hl; simp [kS] at hl; simp [hl]⟩
theorem uStr : P0.underlying 9 = some .string := by kernel_rfl
/-- A string of one byte. -/
def b1 (x : Int) : ByteArray := strOfNums [x]
theorem b1_size (x : Int) : (b1 x).size = 1 := rfl
theorem conv1 {w : World} {b : Nat} {x : Int} {t : TypeId} {K : ByteArray → World → Prop} (h : w.heap[b]? = some (.cells #[.int .u8 x] t (0, 0))) (hk : K (b1 x) w) :
    RunT (.o (.lf .s)) P0 (convert 22 9 (.slice (some ⟨b, 0, none⟩) 1 1)) w K := by
  have hr := run_convert_bytes_arg (P := P0) w 22 5 (by kernel_rfl) (by kernel_rfl) b 0 1 1 [x] rfl (fun i hi => by
    obtain rfl : i = 0 := by omega
    rw [cell_of h]; rfl) 9 uStr
  exact ⟨_, w, hr, hk⟩
/-- A number's figures. -/
def decN (n : Nat) : ByteArray := if n < 10 then b1 (48 + (n : Int)) else decN (n / 10) ++ b1 (48 + ((n % 10 : Nat) : Int))
termination_by n
decreasing_by omega
theorem decN_size : ∀ (k n : Nat), n < 10 ^ (k + 1) → (decN n).size ≤ k + 1
  | 0, n, h => by rw [decN, if_pos (by simpa using h)]; rw [b1_size]; omega
  | k + 1, n, h => by
    rw [decN]
    split
    · rw [b1_size]; omega
    · rw [ByteArray.size_append, b1_size]
      have := decN_size k (n / 10) (by rw [Nat.pow_succ] at h; omega)
      omega
/-- A number as it is written. -/
def dec (n : Int) : ByteArray := if n < 0 then (⟨#[45]⟩ : ByteArray) ++ decN (-n).toNat else decN n.toNat
theorem dec_size {n : Int} (h : -1000000000000000000 < n ∧ n < 1000000000000000000) : (dec n).size ≤ 19 := by
  unfold dec
  split
  · rw [ByteArray.size_append]
    have := decN_size 17 (-n).toNat (by have : (10 : Nat) ^ (17 + 1) = 1000000000000000000 := by decide
                                        omega)
    show 1 + _ ≤ 19
    omega
  · have := decN_size 17 n.toNat (by have : (10 : Nat) ^ (17 + 1) = 1000000000000000000 := by decide
                                     omega)
    omega
theorem u8_of {x : Int} (h0 : 0 ≤ x) (h1 : x ≤ 255) : IntKind.wrap .u8 x = x := by
  rw [IntKind.wrap_u8]; omega
section
variable {w : World} {s : ByteArray}
theorem spec.l1Num.c {K : Int → World → Prop} (hs : s.size < 4611686018427387904) (hk : ∀ n, K n w) : CallT (.o (.lf (.i .i64))) P0 209 [.string s] w K := by
  refine spec.l1Num.ok ⟨fun n i w' => ∃ k : Nat, i = k ∧ k ≤ s.size ∧ w' = w, fun _ i _ => s.size - i.toNat, ⟨0, rfl, by omega, rfl⟩, ?_⟩
  rintro n i w1 ⟨k, rfl, hk1, rfl⟩ _
  refine And.intro (fun hlt => ?_) (fun hge => ?_)
  · simp only [decide_eq_true_eq] at hlt
    refine ⟨fun w' => w' = w1, ?_, ?_⟩
    · refine sxAny (by omega) (by omega) fun b hb0 hb1 => ?_
      refine And.intro (fun _ => hk _) (fun _ => ?_)
      refine sxAny (by omega) (by omega) fun b hb0 hb1 => ?_
      exact And.intro (fun _ => hk _) (fun _ => And.intro (fun _ => hk _) (fun _ => rfl))
    · rintro w2 rfl _
      refine sxAny (by omega) (by omega) fun b hb0 hb1 => ?_
      rw [i64_of (n := (k : Int) + 1) (by omega) (by omega)]
      exact ⟨⟨k + 1, by omega, by omega, rfl⟩, by simp only; omega⟩
  · refine And.intro (fun _ => hk _) (fun h0 => ?_)
    refine And.intro (fun h1 => ?_) (fun _ => hk _)
    simp only [decide_eq_true_eq] at h1
    refine sxAny (by omega) (by omega) fun b hb0 hb1 => ?_
    exact And.intro (fun _ => hk _) (fun _ => hk _)
theorem spec.l1Find.c {l : Sl} {xs : List ByteArray} {K : Int → World → Prop} (h : SlR kS w l xs) (hk : ∀ n, K n w) : CallT (.o (.lf (.i .i64))) P0 184 [l.v, .string s] w K := by
  have hn := h.len; have hm := h.max
  refine spec.l1Find.ok ⟨fun i w' => ∃ k : Nat, i = k ∧ k ≤ xs.length ∧ w' = w, fun i _ => xs.length - i.toNat, ⟨0, rfl, by omega, rfl⟩, ?_⟩
  rintro i w1 ⟨k, rfl, hk1, rfl⟩ _
  refine And.intro (fun hlt => ?_) (fun hge => hk _)
  simp only [decide_eq_true_eq] at hlt
  obtain ⟨x, hx⟩ := get_some (l := xs) (k := k) (by omega)
  refine ixL h (i := k) (by omega) (x := x) (by simpa using hx) rfl (l := .s) (v := x) rfl ?_
  refine And.intro (fun _ => hk _) (fun _ => ?_)
  rw [i64_of (n := (k : Int) + 1) (by omega) (by omega)]
  exact ⟨⟨k + 1, by omega, by omega, rfl⟩, by simp only; omega⟩
theorem spec.l1Words.c {K : Sl → World → Prop} (hk : ∀ r w' xs, Below w.heap.size w w' → SlR kS w' r xs → xs.length = 21 → (∀ y ∈ xs, y.size ≤ 8) → K r w') : CallT (.o (.lf .sl)) P0 185 [] w K := by
  refine spec.l1Words.ok (nw fun w1 hb hs hc => ?_)
  refine hk _ _ _ hb (OwnS.lit (k := kS) (B := 0) (xs := [_, _, _, _, _, _, _, _, _, _, _, _, _, _, _, _, _, _, _, _, _]) (Nat.zero_le _) hc rfl rfl (by simp [maxLen])).read rfl ?_
  decide
theorem spec.l1Calls.c {K : Sl → World → Prop} (hk : ∀ r w' xs, Below w.heap.size w w' → SlR kS w' r xs → xs.length = 7 → (∀ y ∈ xs, y.size ≤ 8) → K r w') : CallT (.o (.lf .sl)) P0 189 [] w K := by
  refine spec.l1Calls.ok (nw fun w1 hb hs hc => ?_)
  refine hk _ _ _ hb (OwnS.lit (k := kS) (B := 0) (xs := [_, _, _, _, _, _, _]) (Nat.zero_le _) hc rfl rfl (by simp [maxLen])).read rfl ?_
  decide
end
theorem spBelow (w : World) : SpOk (fun a b : World => Below a.heap.size a b) w := ⟨fun a => Below.refl _ _, fun a b c h1 h2 => h1.trans (h2.mono h1.size), Below.drew (Below.refl _ _)⟩
theorem keptT {Sp : World → World → Prop} {α : Type} {p : α → Prop} : Kept Sp (fun x _ => p x) := fun _ _ _ h _ => h
theorem gk {r : Rs} {Sp : World → World → Prop} {w1 : World} {G : r.T → World → Prop} {w' : World} (x : r.T) (h : Sp w1 w') (hG : G x w') : GK r Sp w1 G (r.emb x) w' := ⟨x, rfl, h, hG⟩
theorem spec.l1Dec.c' : ∀ (m : Nat) {n : Int} {w : World} {K : ByteArray → World → Prop}, n.toNat = m → 0 ≤ n → n ≤ 1000000000000000000 → (∀ w', Below w.heap.size w w' → K (decN m) w') → CallT (.o (.lf .s)) P0 186 [.int .i64 n] w K := by
  intro m
  induction m using Nat.strongRecOn with
  | _ m ih =>
    intro n w K hm h0 h1 hk
    refine spec.l1Dec.ok (And.intro (fun h => by simp only [decide_eq_true_eq] at h; omega) (fun _ => And.intro (fun h => by simp only [decide_eq_true_eq] at h; omega) (fun _ => And.intro (fun h => ?_) (fun h => ?_))))
    · simp only [decide_eq_true_eq] at h
      rw [i64_of (by omega) (by omega), u8_of (by omega) (by omega)]
      refine nw fun w1 hb hs hc => conv1 hc (kof (hk w1 hb) ?_)
      rw [decN, if_pos (by omega), show ((m : Nat) : Int) = n by omega]
    · simp only [decide_eq_false_iff_not] at h
      have hd : decN m = decN (m / 10) ++ b1 (48 + ((m % 10 : Nat) : Int)) := by rw [decN, if_neg (by omega)]
      have hsz := decN_size 19 (m / 10) (by have : (10 : Nat) ^ (19 + 1) = 100000000000000000000 := by decide
                                            omega)
      have hmod : 48 + Int.tmod n 10 = 48 + ((m % 10 : Nat) : Int) := by rw [Int.tmod_eq_emod_of_nonneg h0]; omega
      refine ⟨fun a b => Below a.heap.size a b, spBelow w, fun r _ => r = decN (m / 10), keptT, fun t w' => ∃ b, t = ⟨some ⟨b, 0, none⟩, 1, 1⟩ ∧ w'.heap[b]? = some (.cells #[.int .u8 (48 + ((m % 10 : Nat) : Int))] 5 (0, 0)), ?_, fun r _ => r = b1 (48 + ((m % 10 : Nat) : Int)), keptT, fun r _ => r = decN m, keptT, by decide, fun w1 hb1 => ?_, ?_⟩
      · rintro t a b ⟨bb, rfl, hh⟩ hab
        exact ⟨bb, rfl, (hab.block _ (Array.getElem?_eq_some_iff.1 hh).1).trans hh⟩
      · have hq : IntKind.wrap .i64 (Int.tdiv n 10) = n / 10 := by
          rw [Int.tdiv_eq_ediv_of_nonneg h0]; exact i64_of (by omega) (by omega)
        rw [hq]
        exact ih (m / 10) (by omega) (by omega) (by omega) (by omega) fun w' hb => ⟨_, rfl, hb, rfl⟩
      · intro t20
        refine ⟨by decide, fun w1 hb1 => ?_, ?_⟩
        · rw [hmod, i64_of (by omega) (by omega), u8_of (by omega) (by omega)]
          exact nw fun w2 hb hs hc => ⟨⟨some ⟨w1.heap.size, 0, none⟩, 1, 1⟩, rfl, hb, _, rfl, hc⟩
        · intro t25
          refine ⟨fun w1 hb1 hG => ?_, ?_⟩
          · obtain ⟨b, rfl, hc⟩ := hG
            exact conv1 hc ⟨_, rfl, Below.refl _ _, rfl⟩
          · intro t26
            refine ⟨fun w1 hb1 h20 h26 => ?_, ?_⟩
            · rw [h20, h26]
              refine ⟨?_, _, rfl, Below.refl _ _, hd.symm⟩
              have : IntKind.i64.max = 9223372036854775807 := rfl
              rw [b1_size]; omega
            · intro t27 w' hb' _ _ _ h27
              exact kof (hk _ hb') h27.symm
theorem spec.l1Dec.c {n : Int} {w : World} {K : ByteArray → World → Prop} (h : -1000000000000000000 < n ∧ n < 1000000000000000000) (hk : ∀ w', Below w.heap.size w w' → K (dec n) w') : CallT (.o (.lf .s)) P0 186 [.int .i64 n] w K := by
  rcases Int.lt_or_le n 0 with h0 | h0
  · have hsz := decN_size 17 (-n).toNat (by have : (10 : Nat) ^ (17 + 1) = 1000000000000000000 := by decide
                                            omega)
    refine spec.l1Dec.ok (And.intro (fun h => by simp only [decide_eq_true_eq] at h; omega) (fun _ => And.intro (fun _ => ?_) (fun h => by simp only [decide_eq_false_iff_not] at h; omega)))
    rw [i64_of (by omega) (by omega)]
    refine spec.l1Dec.c' _ rfl (by omega) (by omega) fun w1 hb => ⟨?_, kof (hk w1 hb) ?_⟩
    · have : IntKind.i64.max = 9223372036854775807 := rfl
      rw [show (0 - n).toNat = (-n).toNat by omega]
      show ((1 + _ : Nat) : Int) ≤ _
      omega
    · unfold dec; rw [if_pos h0, show (0 - n).toNat = (-n).toNat by omega]
  · exact spec.l1Dec.c' _ rfl h0 (by omega) fun w1 hb => kof (hk w1 hb) (by unfold dec; rw [if_neg (by omega)])
theorem imax : IntKind.i64.max = 9223372036854775807 := rfl
/-- A register, or a number, as it is written. -/
def regS (src imm : Int) : ByteArray := if 0 ≤ src then (⟨#[114]⟩ : ByteArray) ++ dec src else dec imm
theorem regS_size {src imm : Int} (h1 : -1 ≤ src ∧ src ≤ 1000) (h2 : 0 ≤ imm ∧ imm ≤ 4294967295) : (regS src imm).size ≤ 20 := by
  unfold regS
  split
  · rw [ByteArray.size_append]
    have := dec_size (n := src) (by omega)
    show 1 + _ ≤ 20
    omega
  · have := dec_size (n := imm) (by omega); omega
theorem spec.l1Reg.c {src imm : Int} {w : World} {K : ByteArray → World → Prop} (h1 : -1 ≤ src ∧ src ≤ 1000) (h2 : 0 ≤ imm ∧ imm ≤ 4294967295) (hk : ∀ w', Below w.heap.size w w' → K (regS src imm) w') : CallT (.o (.lf .s)) P0 190 [.int .i64 src, .int .i64 imm] w K := by
  refine spec.l1Reg.ok (And.intro (fun h => ?_) (fun h => ?_))
  · simp only [decide_eq_true_eq] at h
    have := dec_size (n := src) (by omega)
    refine spec.l1Dec.c (by omega) fun w1 hb => ⟨?_, kof (hk w1 hb) (by unfold regS; rw [if_pos (by omega)])⟩
    rw [imax]; show ((1 + _ : Nat) : Int) ≤ _; omega
  · simp only [decide_eq_false_iff_not] at h
    exact spec.l1Dec.c (by omega) fun w1 hb => kof (hk w1 hb) (by unfold regS; rw [if_neg (by omega)])
theorem szS (a b : ByteArray) (n : Nat) (h : a.size + b.size ≤ n) (hn : n ≤ 1000) : ((a.size + b.size : Nat) : Int) ≤ IntKind.i64.max := by rw [imax]; omega
set_option maxHeartbeats 2000000 in
theorem spec.l1Line.c {x : Ins} {w : World} {K : ByteArray → World → Prop} (hp : InsP x) (hk : ∀ r w', Below w.heap.size w w' → K r w') : CallT (.o (.lf .s)) P0 165 [.agg (Tup.cells (R 6 (.i .i64)) x.t).toArray] w K := by
  have hop : 1 ≤ x.op ∧ x.op ≤ 20 := by have := hp.2.2.2.2; grind [BareP, szP]
  have hdst := hp.1
  have hsrc := hp.2.1
  have hoff := hp.2.2.1
  have himm := hp.2.2.2.1
  have hsize : (x.op = 17 ∨ x.op = 18) → 0 ≤ x.size ∧ x.size ≤ 4 := by have := hp.2.2.2.2; grind [BareP, szP]
  have hcall : x.op = 19 → 1 ≤ x.imm ∧ x.imm ≤ 6 := by have := hp.2.2.2.2; grind [BareP, szP]
  refine spec.l1Line.ok (nwIns fun w1 hb1 hs1 hc1 => ?_)
  have at1 : ∀ {w' : World}, Below w1.heap.size w1 w' → w'.heap[w.heap.size]? = some (.cells x.cs 82 (0, 0)) := fun hb => (hb.block _ (by omega)).trans hc1
  refine ⟨fun a b => Below a.heap.size a b, spBelow w1, fun r w' => ∃ xs, SlR kS w' r xs ∧ xs.length = 21 ∧ ∀ y ∈ xs, y.size ≤ 8, ?_, fun v _ => v = x.op, keptT, fun a w' => ∃ y : ByteArray, w'.cell? a = some (.string y) ∧ y.size ≤ 8, ?_, fun y _ => y.size ≤ 8, keptT, fun w2 hb2 => ?_, fun t5 => ⟨fun w2 hb2 => ?_, fun t7 => ⟨fun w2 hb2 h5 h7 => ?_, fun t8 => ⟨fun w2 hb2 h8 => ?_, fun t9 w2 hb2 _ _ _ h9 => ?_⟩⟩⟩⟩
  · rintro r a b ⟨xs, h, hr⟩ hab; exact ⟨xs, h.below hab, hr⟩
  · rintro r a b ⟨y, h, hr⟩ hab; exact ⟨y, by rw [hab.cell (World.block_lt_of_cell? a _ h)]; exact h, hr⟩
  · exact spec.l1Words.c fun r w3 xs hb3 hr hl hy => ⟨r, rfl, hb3, xs, hr, hl, hy⟩
  · exact ldB (at1 hb2) (x := x.op) rfl ⟨x.op, rfl, Below.refl _ _, rfl⟩
  · obtain ⟨xs, hr, hl, hy⟩ := h5
    subst h7
    obtain ⟨y, hyx⟩ := get_some (l := xs) (k := x.op.toNat) (by omega)
    refine ixR hr (by omega) hyx rfl fun b o hA => ⟨⟨b, o, none⟩, rfl, Below.refl _ _, y, ?_, hy y (List.mem_of_getElem? hyx)⟩
    exact hA 0 (.string y) rfl
  · obtain ⟨y, hc, hy⟩ := h8
    exact ⟨y, hc, y, rfl, Below.refl _ _, hy⟩
  · have bb2 : Below w.heap.size w w2 := hb1.trans (hb2.mono hb1.size)
    have hs12 := hb2.size
    have ddst := dec_size (n := x.dst) (by omega)
    have dsrc := dec_size (n := x.src) (by omega)
    have doff := dec_size (n := x.off) (by omega)
    have dimm := dec_size (n := x.imm) (by omega)
    have dreg := regS_size (src := x.src) (imm := x.imm) (by omega) himm
    have kk : ∀ {w' : World} (r : ByteArray), Below w2.heap.size w2 w' → K r w' := fun r hb => hk _ _ (bb2.trans (hb.mono bb2.size))
    have c2 : ∀ {w' : World}, Below w2.heap.size w2 w' → w'.heap[w.heap.size]? = some (.cells x.cs 82 (0, 0)) := fun hb => at1 (hb2.trans (hb.mono hb2.size))
    have s1 : (⟨#[32]⟩ : ByteArray).size = 1 := rfl
    have s2 : (⟨#[32, 114]⟩ : ByteArray).size = 2 := rfl
    have qdec : ∀ (n : Int) {C : World → Prop} {K : ByteArray → Prop}, (-1000000000000000000 < n ∧ n < 1000000000000000000) → (∀ w4 w5, C w4 → Below w4.heap.size w4 w5 → C w5) → K (dec n) → QCl (.o (.lf .s)) P0 186 [.int .i64 n] C K :=
      fun n C K hn hC hK => qcl _ (fun w4 hb4 => spec.l1Dec.c hn fun w5 hb5 => ⟨rfl, hC _ _ hb4 hb5⟩) hK
    have qreg : ∀ {C : World → Prop} {K : ByteArray → Prop}, (∀ w4 w5, C w4 → Below w4.heap.size w4 w5 → C w5) → K (regS x.src x.imm) → QCl (.o (.lf .s)) P0 190 [.int .i64 x.src, .int .i64 x.imm] C K :=
      fun {C K} hC hK => qcl _ (fun w4 hb4 => spec.l1Reg.c (by omega) himm fun w5 hb5 => ⟨rfl, hC _ _ hb4 hb5⟩) hK
    have cl : ∀ {w3 : World} (w4 w5 : World), Below w3.heap.size w3 w4 → Below w4.heap.size w4 w5 → Below w3.heap.size w3 w5 := fun w4 w5 h1 h2 => h1.trans (h2.mono h1.size)
    refine ldB (c2 (Below.refl _ _)) (x := x.dst) rfl ?_
    refine spec.l1Dec.c (by omega) fun w3 hb3 => ⟨szS _ _ 30 (by rw [s2]; omega) (by omega), ?_⟩
    refine ldB (c2 hb3) (x := x.op) rfl (spec.l1Alu.c ?_)
    refine And.intro (fun _ => ?_) (fun _ => ?_)
    · refine ⟨szS _ _ 50 (by (try simp only [ByteArray.size_append, s1, s2]); omega) (by omega), szS _ _ 60 (by (try simp only [ByteArray.size_append, s1, s2]); omega) (by omega), ?_⟩
      refine ldB (c2 hb3) (x := x.src) rfl (ldB (c2 hb3) (x := x.imm) rfl ?_)
      refine spec.l1Reg.c (by omega) himm fun w4 hb4 => ⟨szS _ _ 100 (by (try simp only [ByteArray.size_append, s1, s2]); omega) (by omega), kk _ (hb3.trans (hb4.mono hb3.size))⟩
    · refine ldB (c2 hb3) (x := x.op) rfl (spec.l1Jump.c ?_)
      refine And.intro (fun _ => ?_) (fun _ => ?_)
      · refine ⟨szS _ _ 50 (by (try simp only [ByteArray.size_append, s1, s2]); omega) (by omega), szS _ _ 60 (by (try simp only [ByteArray.size_append, s1, s2]); omega) (by omega), ?_⟩
        refine qldB (c2 hb3) (x := x.src) rfl ?_
        refine qldB (c2 hb3) (x := x.imm) rfl ?_
        refine qreg cl ?_
        refine ⟨szS _ _ 100 (by (try simp only [ByteArray.size_append, s1, s2]); omega) (by omega), szS _ _ 100 (by (try simp only [ByteArray.size_append, s1, s2]); omega) (by omega), ?_⟩
        refine qldB (c2 hb3) (x := x.off) rfl ?_
        refine qdec x.off (by omega) cl ⟨szS _ _ 200 (by (try simp only [ByteArray.size_append, s1, s2]); omega) (by omega), fun w4 hb4 => kk _ (hb3.trans (hb4.mono hb3.size))⟩
      · refine ldB (c2 hb3) (x := x.op) rfl ?_
        refine And.intro (fun _ => ?_) (fun _ => ?_)
        · refine ⟨szS _ _ 50 (by (try simp only [ByteArray.size_append, s1, s2]); omega) (by omega), ldB (c2 hb3) (x := x.off) rfl ?_⟩
          exact spec.l1Dec.c (by omega) fun w4 hb4 => ⟨szS _ _ 100 (by (try simp only [ByteArray.size_append, s1, s2]); omega) (by omega), kk _ (hb3.trans (hb4.mono hb3.size))⟩
        · refine ldB (c2 hb3) (x := x.op) rfl ?_
          refine And.intro (fun h17 => ?_) (fun _ => ?_)
          · simp only [beq_iff_eq] at h17
            have hz := hsize (.inl h17)
            have dsz := dec_size (n := x.size) (by omega)
            refine qldB (c2 hb3) (x := x.size) rfl ?_
            refine qdec x.size (by omega) cl ?_
            refine ⟨szS _ _ 50 (by (try simp only [ByteArray.size_append, s1, s2]); omega) (by omega), szS _ _ 100 (by (try simp only [ByteArray.size_append, s1, s2]); omega) (by omega), szS _ _ 100 (by (try simp only [ByteArray.size_append, s1, s2]); omega) (by omega), ?_⟩
            refine qldB (c2 hb3) (x := x.src) rfl ?_
            refine qdec x.src (by omega) cl ?_
            refine ⟨szS _ _ 200 (by (try simp only [ByteArray.size_append, s1, s2]); omega) (by omega), szS _ _ 200 (by (try simp only [ByteArray.size_append, s1, s2]); omega) (by omega), ?_⟩
            refine qldB (c2 hb3) (x := x.off) rfl ?_
            refine qdec x.off (by omega) cl ⟨szS _ _ 200 (by (try simp only [ByteArray.size_append, s1, s2]); omega) (by omega), fun w4 hb4 => kk _ (hb3.trans (hb4.mono hb3.size))⟩
          · refine ldB (c2 hb3) (x := x.op) rfl ?_
            refine And.intro (fun h18 => ?_) (fun _ => ?_)
            · simp only [beq_iff_eq] at h18
              have hz := hsize (.inr h18)
              have dsz := dec_size (n := x.size) (by omega)
              refine qldB (c2 hb3) (x := x.size) rfl ?_
              refine qdec x.size (by omega) cl ?_
              refine ⟨szS _ _ 50 (by (try simp only [ByteArray.size_append, s1, s2]); omega) (by omega), szS _ _ 100 (by (try simp only [ByteArray.size_append, s1, s2]); omega) (by omega), szS _ _ 100 (by (try simp only [ByteArray.size_append, s1, s2]); omega) (by omega), ?_⟩
              refine qldB (c2 hb3) (x := x.off) rfl ?_
              refine qdec x.off (by omega) cl ?_
              refine ⟨szS _ _ 200 (by (try simp only [ByteArray.size_append, s1, s2]); omega) (by omega), szS _ _ 200 (by (try simp only [ByteArray.size_append, s1, s2]); omega) (by omega), ?_⟩
              refine qldB (c2 hb3) (x := x.src) rfl ?_
              refine qldB (c2 hb3) (x := x.imm) rfl ?_
              refine qreg cl ⟨szS _ _ 200 (by (try simp only [ByteArray.size_append, s1, s2]); omega) (by omega), fun w4 hb4 => kk _ (hb3.trans (hb4.mono hb3.size))⟩
            · refine ldB (c2 hb3) (x := x.op) rfl ?_
              refine And.intro (fun h19 => ?_) (fun _ => kk _ hb3)
              simp only [beq_iff_eq] at h19
              have hci := hcall h19
              refine ⟨fun a b => Below a.heap.size a b, spBelow w3, fun r _ => r.size ≤ 20, keptT, fun r w' => ∃ xs, SlR kS w' r xs ∧ xs.length = 7 ∧ ∀ y ∈ xs, y.size ≤ 8, ?_, fun v _ => v = x.imm, keptT, fun a w' => ∃ y : ByteArray, w'.cell? a = some (.string y) ∧ y.size ≤ 8, ?_, fun y _ => y.size ≤ 8, keptT, fun y _ => True, keptT,
                fun w4 hb4 => ⟨szS _ _ 50 (by simp only [s1]; omega) (by omega), _, rfl, Below.refl _ _, by simp only [ByteArray.size_append, s1]; omega⟩, fun t106 => ⟨fun w4 hb4 => ?_, fun t107 => ⟨fun w4 hb4 => ?_, fun t109 => ⟨fun w4 hb4 h107 h109 => ?_, fun t110 => ⟨fun w4 hb4 h110 => ?_, fun t111 => ⟨fun w4 hb4 h106 h111 => ?_, fun t112 w4 hb4 _ _ _ _ _ _ => kk _ (hb3.trans (hb4.mono hb3.size))⟩⟩⟩⟩⟩⟩
              · rintro r a b ⟨xs, h, hr⟩ hab; exact ⟨xs, h.below hab, hr⟩
              · rintro r a b ⟨y, h, hr⟩ hab; exact ⟨y, by rw [hab.cell (World.block_lt_of_cell? a _ h)]; exact h, hr⟩
              · exact spec.l1Calls.c fun r w5 xs hb5 hr hl hy => ⟨r, rfl, hb5, xs, hr, hl, hy⟩
              · exact ldB (c2 (hb3.trans (hb4.mono hb3.size))) (x := x.imm) rfl ⟨x.imm, rfl, Below.refl _ _, rfl⟩
              · obtain ⟨xs, hr, hl, hy⟩ := h107
                subst h109
                obtain ⟨y, hyx⟩ := get_some (l := xs) (k := x.imm.toNat) (by omega)
                refine ixR hr (by omega) hyx rfl fun b o hA => ⟨⟨b, o, none⟩, rfl, Below.refl _ _, y, ?_, hy y (List.mem_of_getElem? hyx)⟩
                exact hA 0 (.string y) rfl
              · obtain ⟨y, hc, hy⟩ := h110
                exact ⟨y, hc, y, rfl, Below.refl _ _, hy⟩
              · exact ⟨szS _ _ 50 (by omega) (by omega), _, rfl, Below.refl _ _, trivial⟩
end Go.Proofs.YtihllippchgkgaaGreat.V

/- Words for variables that hold ranges: what a function's boxes hold, as one list. -/
namespace Go.Proofs.YtihllippchgkgaaGreat.V
open Go Go.RowKit
set_option linter.unusedVariables false
set_option linter.unusedSimpArgs false
/-- The boxes of a function: its own, and what they hold. -/
structure M (w0 w : World) (l : List (Nat × T4)) : Prop where
  low : Below w0.heap.size w0 w
  box : ∀ b x, (b, x) ∈ l → w0.heap.size ≤ b ∧ b < w.heap.size ∧ w.heap[b]? = some (.cells (Tup.cells (R 4 (.i .i64)) x).toArray 90 (0, 0))
  one : (l.map (·.1)).Nodup
/-- One box holds something else. -/
inductive Up : List (Nat × T4) → Nat → T4 → T4 → List (Nat × T4) → Prop
  | head (l : List (Nat × T4)) (b : Nat) (x y : T4) : Up ((b, x) :: l) b x y ((b, y) :: l)
  | tail (p : Nat × T4) (l l' : List (Nat × T4)) (b : Nat) (x y : T4) : Up l b x y l' → Up (p :: l) b x y (p :: l')
theorem Up.keys {l l' : List (Nat × T4)} {b : Nat} {x y : T4} (h : Up l b x y l') : l'.map (·.1) = l.map (·.1) := by
  induction h with
  | head => rfl
  | tail p l l' b x y _ ih => simp [ih]
theorem Up.mem {l l' : List (Nat × T4)} {b : Nat} {x y : T4} (h : Up l b x y l') : (b, x) ∈ l := by
  induction h with
  | head => exact List.mem_cons_self
  | tail p l l' b x y _ ih => exact List.mem_cons_of_mem _ ih
theorem Up.out {l l' : List (Nat × T4)} {b : Nat} {x y : T4} (h : Up l b x y l') (hn : (l.map (·.1)).Nodup) {c : Nat} {z : T4} (hc : (c, z) ∈ l') : (c = b ∧ z = y) ∨ (c ≠ b ∧ (c, z) ∈ l) := by
  induction h with
  | head l b x y =>
    rcases List.mem_cons.1 hc with e | e
    · simp only [Prod.mk.injEq] at e; exact .inl e
    · refine .inr ⟨fun e2 => ?_, List.mem_cons_of_mem _ e⟩
      subst e2
      simp only [List.map_cons, List.nodup_cons] at hn
      exact hn.1 (List.mem_map.2 ⟨_, e, rfl⟩)
  | tail p l l' b x y hu ih =>
    simp only [List.map_cons, List.nodup_cons] at hn
    rcases List.mem_cons.1 hc with e | e
    · subst e
      refine .inr ⟨fun e2 => ?_, List.mem_cons_self⟩
      subst e2
      exact hn.1 (List.mem_map.2 ⟨_, hu.mem, rfl⟩)
    · rcases ih hn.2 e with h | h
      · exact .inl h
      · exact .inr ⟨h.1, List.mem_cons_of_mem _ h.2⟩
section
variable {w0 w w' : World} {l l' : List (Nat × T4)} {b : Nat} {x y : T4}
theorem M.start (w : World) : M w w [] := ⟨Below.refl _ _, fun _ _ h => by simp at h, by simp⟩
theorem M.below (h : M w0 w l) (hb : Below w.heap.size w w') : M w0 w' l :=
  ⟨h.low.trans (hb.mono h.low.size), fun b x hx => by obtain ⟨h1, h2, h3⟩ := h.box b x hx; exact ⟨h1, by have := hb.size; omega, (hb.block b h2).trans h3⟩, h.one⟩
theorem nwM {cs : Array Value} (hm : M w0 w l) (hcs : cs = (Tup.cells (R 4 (.i .i64)) x).toArray) {K : Addr → World → Prop} (hk : ∀ w' b, M w0 w' ((b, x) :: l) → K ⟨b, 0, none⟩ w') : Nw cs 90 w K := by
  refine nw fun w' hb hs hc => hk w' _ ?_
  have hm' := hm.below hb
  refine ⟨hm'.low, fun c z hz => ?_, ?_⟩
  · rcases List.mem_cons.1 hz with e | e
    · simp only [Prod.mk.injEq] at e
      obtain ⟨rfl, rfl⟩ := e
      exact ⟨hm.low.size, by omega, by rw [hc, hcs]⟩
    · exact hm'.box c z e
  · simp only [List.map_cons, List.nodup_cons]
    refine ⟨fun h => ?_, hm.one⟩
    obtain ⟨p, hp, hpe⟩ := List.mem_map.1 h
    have := (hm.box p.1 p.2 hp).2.1
    omega
theorem nwM' (hm : M w0 w l) {K : Addr → World → Prop} (hk : ∀ w' b, M w0 w' ((b, x) :: l) → K ⟨b, 0, none⟩ w') : Nw (Tup.cells (R 4 (.i .i64)) x).toArray 90 w K := nwM hm rfl hk
theorem zcRange : zc P0 90 = (Tup.cells (R 4 (.i .i64)) ((0, 0, 0, 0, ()) : T4)).toArray := by kernel_rfl
theorem nwZ (hm : M w0 w l) {K : Addr → World → Prop} (hk : ∀ w' b, M w0 w' ((b, ((0, 0, 0, 0, ()) : T4)) :: l) → K ⟨b, 0, none⟩ w') : Nw (zc P0 90) 90 w K := nwM hm zcRange hk
theorem ldM {j : Nat} {v : Int} {K : Int → World → Prop} (hm : M w0 w l) (hb : (b, x) ∈ l) (hv : (Tup.cells (R 4 (.i .i64)) x).toArray[j]? = some (.int .i64 v)) (hk : K v w) : Ld (.i .i64) (Addr.add ⟨b, 0, none⟩ j) w K :=
  ldB (hm.box b x hb).2.2 hv hk
theorem ldAM {K : T4 → World → Prop} (hm : M w0 w l) (hb : (b, x) ∈ l) (hk : K x w) : LdA (R 4 (.i .i64)) ⟨b, 0, none⟩ w K :=
  ldAB (hm.box b x hb).2.2 (by simp) hk
theorem qldM {j : Nat} {v : Int} {K : Int → Prop} (hm : M w0 w l) (hb : (b, x) ∈ l) (hv : (Tup.cells (R 4 (.i .i64)) x).toArray[j]? = some (.int .i64 v)) (hk : K v) : QLd (.i .i64) (Addr.add ⟨b, 0, none⟩ j) (fun w' => Below w.heap.size w w') K :=
  qldB (hm.box b x hb).2.2 hv hk
theorem M.write (hm : M w0 w l) (hu : Up l b x y l') (hg : w.grownBy w' (some b)) (hs : w'.heap.size = w.heap.size) (hc : w'.heap[b]? = some (.cells (Tup.cells (R 4 (.i .i64)) y).toArray 90 (0, 0))) : M w0 w' l' := by
  have hb := hm.box b x hu.mem
  refine ⟨hm.low.grown hg hm.low.size (fun k hk => by simp only [Option.some.injEq] at hk; omega), fun c z hz => ?_, by rw [hu.keys]; exact hm.one⟩
  rcases hu.out hm.one hz with ⟨rfl, rfl⟩ | ⟨hne, hin⟩
  · exact ⟨hb.1, by omega, hc⟩
  · obtain ⟨h1, h2, h3⟩ := hm.box c z hin
    exact ⟨h1, by omega, (hg.block c h2 (by simpa using hne)).trans h3⟩
theorem stM {j : Nat} {v : Int} {K : World → Prop} (hm : M w0 w l) (hu : Up l b x y l') (hj : j < 4) (hy : (Tup.cells (R 4 (.i .i64)) x).toArray.setIfInBounds j (.int .i64 v) = (Tup.cells (R 4 (.i .i64)) y).toArray) (hk : ∀ w', M w0 w' l' → K w') : St (Addr.add ⟨b, 0, none⟩ j) (.int .i64 v) w K := by
  refine stB (hm.box b x hu.mem).2.2 rfl (by rw [List.size_toArray, V.cells_length]; exact hj) fun w' hg hs hc => hk w' (hm.write hu hg hs ?_)
  rw [hc, hy]
theorem stM0 {v : Int} {K : World → Prop} (hm : M w0 w l) (hu : Up l b x (v, x.2) l') (hk : ∀ w', M w0 w' l' → K w') : St (Addr.add ⟨b, 0, none⟩ 0) (.int .i64 v) w K := stM hm hu (by omega) rfl hk
theorem stM1 {v : Int} {K : World → Prop} (hm : M w0 w l) (hu : Up l b x (x.1, v, x.2.2) l') (hk : ∀ w', M w0 w' l' → K w') : St (Addr.add ⟨b, 0, none⟩ 1) (.int .i64 v) w K := stM hm hu (by omega) rfl hk
theorem stM2 {v : Int} {K : World → Prop} (hm : M w0 w l) (hu : Up l b x (x.1, x.2.1, v, x.2.2.2) l') (hk : ∀ w', M w0 w' l' → K w') : St (Addr.add ⟨b, 0, none⟩ 2) (.int .i64 v) w K := stM hm hu (by omega) rfl hk
theorem stM3 {v : Int} {K : World → Prop} (hm : M w0 w l) (hu : Up l b x (x.1, x.2.1, x.2.2.1, v, ()) l') (hk : ∀ w', M w0 w' l' → K w') : St (Addr.add ⟨b, 0, none⟩ 3) (.int .i64 v) w K := stM hm hu (by omega) rfl hk
theorem oneCell4 (y : T4) : ∀ v ∈ Tup.cells (R 4 (.i .i64)) y, v.oneCell' = true := by
  obtain ⟨y0, y1, y2, y3, _⟩ := y
  intro v hv
  simp [R, Tup.cells] at hv
  rcases hv with rfl | rfl | rfl | rfl <;> rfl
theorem stAM {vs : List Value} {K : World → Prop} (hm : M w0 w l) (hvs : vs = Tup.cells (R 4 (.i .i64)) y) (hu : Up l b x y l') (hk : ∀ w', M w0 w' l' → K w') : StA P0 ⟨b, 0, none⟩ vs w K := by
  subst hvs
  obtain ⟨w', hr, hg, hsz, hh⟩ := run_storeCells_at' P0 (b := b) (t := 90) (Tup.cells (R 4 (.i .i64)) y) 0 [] (Tup.cells (R 4 (.i .i64)) x) w (oneCell4 y) rfl (by simp [V.cells_length]) (by simpa using (hm.box b x hu.mem).2.2)
  exact ⟨w', hr, hk w' (hm.write hu hg hsz (by simpa using hh))⟩
theorem stAM' {K : World → Prop} (hm : M w0 w l) (hu : Up l b x y l') (hk : ∀ w', M w0 w' l' → K w') : StA P0 ⟨b, 0, none⟩ (Tup.cells (R 4 (.i .i64)) y) w K := stAM hm rfl hu hk
theorem stAL {K : World → Prop} {p q s t : Int} (hm : M w0 w l) (hu : Up l b x (p, q, s, t, ()) l') (hk : ∀ w', M w0 w' l' → K w') : StA P0 ⟨b, 0, none⟩ [.int .i64 p, .int .i64 q, .int .i64 s, .int .i64 t] w K := stAM hm rfl hu hk
end
/-- One box is taken out. -/
inductive Del : List (Nat × T4) → Nat → T4 → List (Nat × T4) → Prop
  | head (l : List (Nat × T4)) (b : Nat) (x : T4) : Del ((b, x) :: l) b x l
  | tail (p : Nat × T4) (l r : List (Nat × T4)) (b : Nat) (x : T4) : Del l b x r → Del (p :: l) b x (p :: r)
theorem Del.mem {l r : List (Nat × T4)} {b : Nat} {x : T4} (h : Del l b x r) : (b, x) ∈ l := by
  induction h with
  | head => exact List.mem_cons_self
  | tail p l r b x _ ih => exact List.mem_cons_of_mem _ ih
theorem Del.sub {l r : List (Nat × T4)} {b : Nat} {x : T4} (h : Del l b x r) : r.Sublist l := by
  induction h with
  | head => exact List.sublist_cons_self _ _
  | tail p l r b x _ ih => exact ih.cons_cons p
theorem Del.ne {l r : List (Nat × T4)} {b : Nat} {x : T4} (h : Del l b x r) (hn : (l.map (·.1)).Nodup) : b ∉ r.map (·.1) := by
  induction h with
  | head l b x => simp only [List.map_cons, List.nodup_cons] at hn; exact hn.1
  | tail p l r b x hd ih =>
    simp only [List.map_cons, List.nodup_cons] at hn
    simp only [List.map_cons, List.mem_cons, not_or]
    refine ⟨fun e => ?_, ih hn.2⟩
    subst e
    exact hn.1 (List.mem_map.2 ⟨_, hd.mem, rfl⟩)
def bx (y : T4) : Obj := .cells (Tup.cells (R 4 (.i .i64)) y).toArray 90 (0, 0)
/-- What may become of the world while a box gets its value. -/
structure SpS (n b : Nat) (y : T4) (a c : World) : Prop where
  os : c.os = a.os
  tape : c.tape = a.tape
  output : c.output = a.output
  size : a.heap.size ≤ c.heap.size
  low : ∀ k, k < n → k ≠ b → c.heap[k]? = a.heap[k]?
  box : c.heap[b]? = a.heap[b]? ∨ c.heap[b]? = some (bx y)
theorem SpS.refl (n b : Nat) (y : T4) (a : World) : SpS n b y a a := ⟨rfl, rfl, rfl, Nat.le_refl _, fun _ _ _ => rfl, .inl rfl⟩
theorem SpS.trans {n b : Nat} {y : T4} {a c d : World} (h1 : SpS n b y a c) (h2 : SpS n b y c d) : SpS n b y a d :=
  ⟨h2.os.trans h1.os, h2.tape.trans h1.tape, h2.output.trans h1.output, Nat.le_trans h1.size h2.size, fun k hk hne => (h2.low k hk hne).trans (h1.low k hk hne), by
    rcases h2.box with h | h
    · rcases h1.box with h' | h'
      · exact .inl (h.trans h')
      · exact .inr (h.trans h')
    · exact .inr h⟩
theorem SpS.of_below {n b : Nat} {y : T4} {a c : World} (h : Below n a c) (hb : b < n) : SpS n b y a c := ⟨h.os, h.tape, h.output, h.size, fun k hk _ => h.block k hk, .inl (h.block b hb)⟩
theorem spsOk (b : Nat) (y : T4) (w : World) : SpOk (SpS w.heap.size b y) w :=
  ⟨fun a => SpS.refl _ _ _ a, fun a b c h1 h2 => h1.trans h2, by
    have hb : Below w.heap.size w w.drew := (Below.refl _ _).drew
    exact ⟨hb.os, hb.tape, hb.output, hb.size, fun k hk _ => hb.block k hk, .inl rfl⟩⟩
theorem keptBx {n b : Nat} {y : T4} : Kept (SpS n b y) (fun (_ : Unit) w => w.heap[b]? = some (bx y)) := by
  intro _ a c h hac
  rcases hac.box with e | e
  · exact e.trans h
  · exact e
section
variable {w0 w w1 : World} {l r : List (Nat × T4)} {b : Nat} {x y : T4}
theorem M.sps (hm : M w0 w l) (hd : Del l b x r) (hs : SpS w.heap.size b y w w1) : M w0 w1 r := by
  have hb := hm.box b x hd.mem
  refine ⟨⟨hs.os.trans hm.low.os, hs.tape.trans hm.low.tape, hs.output.trans hm.low.output, Nat.le_trans hm.low.size hs.size, fun k hk => (hs.low k (by have := hm.low.size; omega) (by omega)).trans (hm.low.block k hk)⟩, fun c z hz => ?_, hm.one.sublist (hd.sub.map _)⟩
  obtain ⟨h1, h2, h3⟩ := hm.box c z (hd.sub.subset hz)
  have hne : c ≠ b := fun e => hd.ne hm.one (e ▸ List.mem_map.2 ⟨_, hz, rfl⟩)
  exact ⟨h1, by have := hs.size; omega, (hs.low c h2 hne).trans h3⟩
theorem M.spsB (hm : M w0 w l) (hd : Del l b x r) (hs : SpS w.heap.size b y w w1) (hy : w1.heap[b]? = some (bx y)) : M w0 w1 ((b, y) :: r) := by
  have h := hm.sps hd hs
  have hb := hm.box b x hd.mem
  refine ⟨h.low, fun c z hz => ?_, ?_⟩
  · rcases List.mem_cons.1 hz with e | e
    · simp only [Prod.mk.injEq] at e
      obtain ⟨rfl, rfl⟩ := e
      exact ⟨hb.1, by have := hs.size; omega, hy⟩
    · exact h.box c z e
  · simp only [List.map_cons, List.nodup_cons]
    exact ⟨hd.ne hm.one, h.one⟩
theorem sps_of_grown {c : World} (hg : w1.grownBy c (some b)) (hn : w.heap.size ≤ w1.heap.size) (hc : c.heap[b]? = some (bx y)) : SpS w.heap.size b y w1 c :=
  ⟨hg.os, hg.tape, hg.output, hg.size, fun k hk hne => hg.block k (by omega) (by simpa using hne), .inr hc⟩
/-- A box gets its value while other things are done. -/
theorem stSps (hm : M w0 w l) (hd : Del l b x r) (hs : SpS w.heap.size b y w w1) {vs : List Value} (hvs : vs = Tup.cells (R 4 (.i .i64)) y) :
    StA P0 ⟨b, 0, none⟩ vs w1 fun w2 => GK .z (SpS w.heap.size b y) w1 (fun _ w => w.heap[b]? = some (bx y)) (.tuple #[]) w2 := by
  subst hvs
  have hb := hm.box b x hd.mem
  obtain ⟨z, hz⟩ : ∃ z : T4, w1.heap[b]? = some (bx z) := by
    rcases hs.box with e | e
    · exact ⟨x, e.trans hb.2.2⟩
    · exact ⟨y, e⟩
  obtain ⟨w', hr, hg, hsz, hh⟩ := run_storeCells_at' P0 (b := b) (t := 90) (Tup.cells (R 4 (.i .i64)) y) 0 [] (Tup.cells (R 4 (.i .i64)) z) w1 (oneCell4 y) rfl (by simp [V.cells_length]) (by simpa [bx] using hz)
  have hh' : w'.heap[b]? = some (bx y) := by simpa [bx] using hh
  exact ⟨w', hr, (), rfl, sps_of_grown hg hs.size hh', hh'⟩
theorem stSps0 {v : Int} (hm : M w0 w l) (hd : Del l b x r) (hs : SpS w.heap.size b (v, x.2) w w1) :
    St (Addr.add ⟨b, 0, none⟩ 0) (.int .i64 v) w1 fun w2 => GK .z (SpS w.heap.size b (v, x.2)) w1 (fun _ w => w.heap[b]? = some (bx (v, x.2))) (.tuple #[]) w2 := by
  have hb := hm.box b x hd.mem
  have key : ∀ z : T4, z.2 = x.2 → w1.heap[b]? = some (bx z) → St (Addr.add ⟨b, 0, none⟩ 0) (.int .i64 v) w1 fun w2 => GK .z (SpS w.heap.size b (v, x.2)) w1 (fun _ w => w.heap[b]? = some (bx (v, x.2))) (.tuple #[]) w2 := by
    intro z hz1 hz
    refine stB hz rfl (by rw [List.size_toArray, V.cells_length]; decide) fun w' hg hsz hc => ?_
    have hh' : w'.heap[b]? = some (bx (v, x.2)) := by rw [hc, ← hz1]; rfl
    exact ⟨(), rfl, sps_of_grown hg hs.size hh', hh'⟩
  rcases hs.box with e | e
  · exact key x rfl (e.trans hb.2.2)
  · exact key (v, x.2) rfl e
end
section
variable {w : World}
theorem impl.noRange.c {K : T4 → World → Prop} (hk : ∀ w', Below w.heap.size w w' → K (1, 0, 0, 0, ()) w') : CallT (.o (.ag (R 4 (.i .i64)))) P0 199 [] w K := by
  refine impl.noRange.ok ?_
  unfold impl.noRange.vc
  have hm := M.start w
  repeat' (first | (with_reducible refine ldM (by assumption) (by with_unfolding_all (repeat (first | exact List.mem_cons_self | refine List.mem_cons_of_mem _ ?_))) (by with_unfolding_all rfl) ?_) | (with_reducible refine ldAM (by assumption) (by with_unfolding_all (repeat (first | exact List.mem_cons_self | refine List.mem_cons_of_mem _ ?_))) ?_) | (with_reducible refine nwZ (by assumption) fun _ _ _ => ?_) | (with_reducible refine nwM' (by assumption) fun _ _ _ => ?_) | (with_reducible refine stM0 (by assumption) (by with_unfolding_all (repeat (first | exact Up.head _ _ _ _ | apply Up.tail))) fun _ _ => ?_) | (with_reducible refine stM1 (by assumption) (by with_unfolding_all (repeat (first | exact Up.head _ _ _ _ | apply Up.tail))) fun _ _ => ?_) | (with_reducible refine stM2 (by assumption) (by with_unfolding_all (repeat (first | exact Up.head _ _ _ _ | apply Up.tail))) fun _ _ => ?_) | (with_reducible refine stM3 (by assumption) (by with_unfolding_all (repeat (first | exact Up.head _ _ _ _ | apply Up.tail))) fun _ _ => ?_) | (with_reducible refine stAM' (by assumption) (by with_unfolding_all (repeat (first | exact Up.head _ _ _ _ | apply Up.tail))) fun _ _ => ?_) | (with_reducible refine stAL (by assumption) (by with_unfolding_all (repeat (first | exact Up.head _ _ _ _ | apply Up.tail))) fun _ _ => ?_) | (with_reducible refine And.intro (fun _ => ?_) (fun _ => ?_)) | (refine stAM' (by assumption) (by with_unfolding_all (repeat (first | exact Up.head _ _ _ _ | apply Up.tail))) fun _ _ => ?_))
  exact hk _ (by assumption : M w _ _).low
theorem impl.RangeOne.c {n : Int} {K : T4 → World → Prop} (h0 : 0 ≤ n) (h1 : n ≤ 4294967295) (hk : ∀ w', Below w.heap.size w w' → K (n, n, n, 0, ()) w') : CallT (.o (.ag (R 4 (.i .i64)))) P0 193 [.int .i64 n] w K := by
  refine impl.RangeOne.ok ?_
  unfold impl.RangeOne.vc
  have hm := M.start w
  repeat' (first | (with_reducible refine ldM (by assumption) (by with_unfolding_all (repeat (first | exact List.mem_cons_self | refine List.mem_cons_of_mem _ ?_))) (by with_unfolding_all rfl) ?_) | (with_reducible refine ldAM (by assumption) (by with_unfolding_all (repeat (first | exact List.mem_cons_self | refine List.mem_cons_of_mem _ ?_))) ?_) | (with_reducible refine nwZ (by assumption) fun _ _ _ => ?_) | (with_reducible refine nwM' (by assumption) fun _ _ _ => ?_) | (with_reducible refine stM0 (by assumption) (by with_unfolding_all (repeat (first | exact Up.head _ _ _ _ | apply Up.tail))) fun _ _ => ?_) | (with_reducible refine stM1 (by assumption) (by with_unfolding_all (repeat (first | exact Up.head _ _ _ _ | apply Up.tail))) fun _ _ => ?_) | (with_reducible refine stM2 (by assumption) (by with_unfolding_all (repeat (first | exact Up.head _ _ _ _ | apply Up.tail))) fun _ _ => ?_) | (with_reducible refine stM3 (by assumption) (by with_unfolding_all (repeat (first | exact Up.head _ _ _ _ | apply Up.tail))) fun _ _ => ?_) | (with_reducible refine stAM' (by assumption) (by with_unfolding_all (repeat (first | exact Up.head _ _ _ _ | apply Up.tail))) fun _ _ => ?_) | (with_reducible refine stAL (by assumption) (by with_unfolding_all (repeat (first | exact Up.head _ _ _ _ | apply Up.tail))) fun _ _ => ?_) | (with_reducible refine And.intro (fun _ => ?_) (fun _ => ?_)) | (refine stAM' (by assumption) (by with_unfolding_all (repeat (first | exact Up.head _ _ _ _ | apply Up.tail))) fun _ _ => ?_))
  refine impl.numOk.c ?_
  repeat' (first | (with_reducible refine ldM (by assumption) (by with_unfolding_all (repeat (first | exact List.mem_cons_self | refine List.mem_cons_of_mem _ ?_))) (by with_unfolding_all rfl) ?_) | (with_reducible refine ldAM (by assumption) (by with_unfolding_all (repeat (first | exact List.mem_cons_self | refine List.mem_cons_of_mem _ ?_))) ?_) | (with_reducible refine nwZ (by assumption) fun _ _ _ => ?_) | (with_reducible refine nwM' (by assumption) fun _ _ _ => ?_) | (with_reducible refine stM0 (by assumption) (by with_unfolding_all (repeat (first | exact Up.head _ _ _ _ | apply Up.tail))) fun _ _ => ?_) | (with_reducible refine stM1 (by assumption) (by with_unfolding_all (repeat (first | exact Up.head _ _ _ _ | apply Up.tail))) fun _ _ => ?_) | (with_reducible refine stM2 (by assumption) (by with_unfolding_all (repeat (first | exact Up.head _ _ _ _ | apply Up.tail))) fun _ _ => ?_) | (with_reducible refine stM3 (by assumption) (by with_unfolding_all (repeat (first | exact Up.head _ _ _ _ | apply Up.tail))) fun _ _ => ?_) | (with_reducible refine stAM' (by assumption) (by with_unfolding_all (repeat (first | exact Up.head _ _ _ _ | apply Up.tail))) fun _ _ => ?_) | (with_reducible refine stAL (by assumption) (by with_unfolding_all (repeat (first | exact Up.head _ _ _ _ | apply Up.tail))) fun _ _ => ?_) | (with_reducible refine And.intro (fun _ => ?_) (fun _ => ?_)) | (refine stAM' (by assumption) (by with_unfolding_all (repeat (first | exact Up.head _ _ _ _ | apply Up.tail))) fun _ _ => ?_))
  · rename_i h; simp at h; omega
  · exact hk _ (by assumption : M w _ _).low
end
end Go.Proofs.YtihllippchgkgaaGreat.V
