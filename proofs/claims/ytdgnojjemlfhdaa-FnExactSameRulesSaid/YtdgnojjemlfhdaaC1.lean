/- Verification conditions, printed by this session's own program (wip/vc.py) and checked by the kernel. -/
import Derived.Test.YtdgnojjemlfhdaaVP
namespace Go.Proofs.Ytdgnojjemlfhdaa.V
open Go Go.RowKit
set_option linter.unusedVariables false
/- impl.within -/
def impl.within.pl : Pl := (.s (.r (D 1)) (.s (.r [.d, .d, .d, (.sp .d), .d, .d, .d, .d, .d]) .z))
def impl.within.vc (n : Int) (low : Int) (high : Int) (w : World) (K : Bool → World → Prop) : Prop :=
((decide ((n : Int) ≥ low)) = true → K (decide ((n : Int) ≤ high)) w) ∧
((decide ((n : Int) ≥ low)) = false → K false w)
theorem impl.within.ok {n : Int} {low : Int} {high : Int} {w : World} {K : Bool → World → Prop} (h : impl.within.vc n low high w K) : CallT (.o (.lf .b)) P0 66 [(.int .i64 n), (.int .i64 low), (.int .i64 high)] w K :=
  call_of Try.func66 rfl rfl (pl := impl.within.pl) (show VC P0 Try.f66 impl.within.pl (.o (.lf .b)) [(.int .i64 n), (.int .i64 low), (.int .i64 high)] w K noP from Eq.mp (by kernel_rfl) h)
/- impl.numOk -/
def impl.numOk.pl : Pl := (.s (.r (D 1)) (.s (.r [.d, (.c (.o (.lf .b))), .d]) .z))
def impl.numOk.vc (n : Int) (w : World) (K : Bool → World → Prop) : Prop :=
CallT (.o (.lf .b)) P0 66 [(.int .i64 n), (.int .i64 0), (.int .i64 4294967295)] w fun (t4 : Bool) w_ =>
K t4 w_
theorem impl.numOk.ok {n : Int} {w : World} {K : Bool → World → Prop} (h : impl.numOk.vc n w K) : CallT (.o (.lf .b)) P0 103 [(.int .i64 n)] w K :=
  call_of Try.func103 rfl rfl (pl := impl.numOk.pl) (show VC P0 Try.f103 impl.numOk.pl (.o (.lf .b)) [(.int .i64 n)] w K noP from Eq.mp (by kernel_rfl) h)
/- impl.regOk -/
def impl.regOk.pl : Pl := (.s (.r (D 1)) (.s (.r [.d, (.c (.o (.lf .b))), .d]) .z))
def impl.regOk.vc (n : Int) (w : World) (K : Bool → World → Prop) : Prop :=
CallT (.o (.lf .b)) P0 66 [(.int .i64 n), (.int .i64 0), (.int .i64 10)] w fun (t4 : Bool) w_ =>
K t4 w_
theorem impl.regOk.ok {n : Int} {w : World} {K : Bool → World → Prop} (h : impl.regOk.vc n w K) : CallT (.o (.lf .b)) P0 98 [(.int .i64 n)] w K :=
  call_of Try.func98 rfl rfl (pl := impl.regOk.pl) (show VC P0 Try.f98 impl.regOk.pl (.o (.lf .b)) [(.int .i64 n)] w K noP from Eq.mp (by kernel_rfl) h)
/- impl.sizeOk -/
def impl.sizeOk.pl : Pl := (.s (.r (D 1)) (.s (.r [.d, .d, (.sp .d), .d, .d, .d, (.sp .d), .d, .d, .d, .d]) .z))
def impl.sizeOk.vc (n : Int) (w : World) (K : Bool → World → Prop) : Prop :=
(((n : Int) == 1) = true → K true w) ∧
(((n : Int) == 1) = false → (((n : Int) == 2) = true → K true w) ∧
(((n : Int) == 2) = false → K ((n : Int) == 4) w))
theorem impl.sizeOk.ok {n : Int} {w : World} {K : Bool → World → Prop} (h : impl.sizeOk.vc n w K) : CallT (.o (.lf .b)) P0 100 [(.int .i64 n)] w K :=
  call_of Try.func100 rfl rfl (pl := impl.sizeOk.pl) (show VC P0 Try.f100 impl.sizeOk.pl (.o (.lf .b)) [(.int .i64 n)] w K noP from Eq.mp (by kernel_rfl) h)
/- (impl.Ins).either -/
def impl.Ins.either.pl : Pl := (.s (.r (D 2)) (.s (.r [.d, (.l (.lf (.i .i64))), (.c (.o (.lf .b))), (.sp .d), .d, (.l (.lf (.i .i64))), .d, .d, (.sp .d), .d, (.l (.lf (.i .i64))), .d, (.sp .d), .d, (.l (.lf (.i .i64))), (.c (.o (.lf .b))), .d, .d, .d]) .z))
def impl.Ins.either.vc (x : Tup (R 6 (.i .i64))) (w : World) (K : Bool → World → Prop) : Prop :=
Nw (Tup.cells (R 6 (.i .i64)) x).toArray 51 w fun a_x w_ =>
Ld (.i .i64) (Addr.add a_x 2) w_ fun (t4 : Int) w__1 =>
CallT (.o (.lf .b)) P0 98 [(.int .i64 t4)] w__1 fun (t5 : Bool) w__2 =>
(t5 = true → Ld (.i .i64) (Addr.add a_x 4) w__2 fun (t8 : Int) w__3 =>
(((t8 : Int) == 0) = true → K true w__3) ∧
(((t8 : Int) == 0) = false → Ld (.i .i64) (Addr.add a_x 2) w__3 fun (t13 : Int) w__4 =>
(((t13 : Int) == (-1)) = true → Ld (.i .i64) (Addr.add a_x 4) w__4 fun (t17 : Int) w__5 =>
CallT (.o (.lf .b)) P0 103 [(.int .i64 t17)] w__5 fun (t18 : Bool) w__6 =>
K t18 w__6) ∧
(((t13 : Int) == (-1)) = false → K false w__4))) ∧
(t5 = false → Ld (.i .i64) (Addr.add a_x 2) w__2 fun (t13_1 : Int) w__7 =>
(((t13_1 : Int) == (-1)) = true → Ld (.i .i64) (Addr.add a_x 4) w__7 fun (t17_1 : Int) w__8 =>
CallT (.o (.lf .b)) P0 103 [(.int .i64 t17_1)] w__8 fun (t18_1 : Bool) w__9 =>
K t18_1 w__9) ∧
(((t13_1 : Int) == (-1)) = false → K false w__7))
theorem impl.Ins.either.ok {x : Tup (R 6 (.i .i64))} {w : World} {K : Bool → World → Prop} (h : impl.Ins.either.vc x w K) : CallT (.o (.lf .b)) P0 99 [(.agg (Tup.cells (R 6 (.i .i64)) x).toArray)] w K :=
  call_of Try.func99 rfl rfl (pl := impl.Ins.either.pl) (show VC P0 Try.f99 impl.Ins.either.pl (.o (.lf .b)) [(.agg (Tup.cells (R 6 (.i .i64)) x).toArray)] w K noP from Eq.mp (by kernel_rfl) h)
/- (impl.kind).reckons -/
def impl.kind.reckons.pl : Pl := (.s (.r (D 1)) (.s (.r [.d, (.c (.o (.lf .b))), .d]) .z))
def impl.kind.reckons.vc (k : Int) (w : World) (K : Bool → World → Prop) : Prop :=
CallT (.o (.lf .b)) P0 66 [(.int .i64 k), (.int .i64 1), (.int .i64 11)] w fun (t4 : Bool) w_ =>
K t4 w_
theorem impl.kind.reckons.ok {k : Int} {w : World} {K : Bool → World → Prop} (h : impl.kind.reckons.vc k w K) : CallT (.o (.lf .b)) P0 97 [(.int .i64 k)] w K :=
  call_of Try.func97 rfl rfl (pl := impl.kind.reckons.pl) (show VC P0 Try.f97 impl.kind.reckons.pl (.o (.lf .b)) [(.int .i64 k)] w K noP from Eq.mp (by kernel_rfl) h)
/- (impl.kind).asks -/
def impl.kind.asks.pl : Pl := (.s (.r (D 1)) (.s (.r [.d, (.c (.o (.lf .b))), .d]) .z))
def impl.kind.asks.vc (k : Int) (w : World) (K : Bool → World → Prop) : Prop :=
CallT (.o (.lf .b)) P0 66 [(.int .i64 k), (.int .i64 12), (.int .i64 15)] w fun (t4 : Bool) w_ =>
K t4 w_
theorem impl.kind.asks.ok {k : Int} {w : World} {K : Bool → World → Prop} (h : impl.kind.asks.vc k w K) : CallT (.o (.lf .b)) P0 85 [(.int .i64 k)] w K :=
  call_of Try.func85 rfl rfl (pl := impl.kind.asks.pl) (show VC P0 Try.f85 impl.kind.asks.pl (.o (.lf .b)) [(.int .i64 k)] w K noP from Eq.mp (by kernel_rfl) h)
/- (impl.kind).goes -/
def impl.kind.goes.pl : Pl := (.s (.r (D 1)) (.s (.r [.d, (.c (.o (.lf .b))), .d]) .z))
def impl.kind.goes.vc (k : Int) (w : World) (K : Bool → World → Prop) : Prop :=
CallT (.o (.lf .b)) P0 66 [(.int .i64 k), (.int .i64 12), (.int .i64 16)] w fun (t4 : Bool) w_ =>
K t4 w_
theorem impl.kind.goes.ok {k : Int} {w : World} {K : Bool → World → Prop} (h : impl.kind.goes.vc k w K) : CallT (.o (.lf .b)) P0 57 [(.int .i64 k)] w K :=
  call_of Try.func57 rfl rfl (pl := impl.kind.goes.pl) (show VC P0 Try.f57 impl.kind.goes.pl (.o (.lf .b)) [(.int .i64 k)] w K noP from Eq.mp (by kernel_rfl) h)
/- impl.InsOk -/
def impl.InsOk.pl : Pl := (.s (.r (D 2)) (.s (.r [.d, (.l (.lf (.i .i64))), (.c (.o (.lf .b))), .d]) (.s (.r [.d, (.l (.lf (.i .i64))), .d]) (.s (.b (.s (.r [.d, (.c (.o (.lf .b))), .d]) (.c (.s (.r [.d, (.l (.lf (.i .i64))), (.c (.o (.lf .b))), (.sp .d), (.l (.ag (R 6 (.i .i64)))), (.c (.o (.lf .b))), .d, (.sp .d), .d, (.l (.lf (.i .i64))), .d, .d, (.sp .d), .d, (.l (.lf (.i .i64))), .d, .d, .d]) .z) (.s (.r [.d, (.c (.o (.lf .b))), .d]) (.c (.s (.r [.d, (.l (.lf (.i .i64))), (.c (.o (.lf .b))), (.sp .d), (.l (.ag (R 6 (.i .i64)))), (.c (.o (.lf .b))), .d, (.sp .d), .d, .d, (.sp .d), .d, (.l (.lf (.i .i64))), .d, .d, .d]) .z) (.s (.r [.d, (.l (.lf (.i .i64))), .d, .d]) (.c (.s (.r [.d, (.sp .d), (.l (.ag (R 6 (.i .i64)))), .d, (.l (.lf (.i .i64))), .d, (.t (.o (.lf .b))), .d, .d]) .z) (.s (.r [.d, (.l (.lf (.i .i64))), .d, .d]) (.c (.s (.r [.d, (.l (.lf (.i .i64))), (.c (.o (.lf .b))), (.sp .d), .d, (.l (.lf (.i .i64))), (.c (.o (.lf .b))), .d, (.sp .d), .d, (.l (.lf (.i .i64))), .d, .d, (.sp .d), .d, .d, (.sp .d), .d, (.l (.lf (.i .i64))), (.c (.o (.lf .b))), .d, .d]) .z) (.s (.r [.d, (.l (.lf (.i .i64))), .d, .d]) (.c (.s (.r [.d, (.l (.lf (.i .i64))), (.c (.o (.lf .b))), (.sp .d), (.l (.ag (R 6 (.i .i64)))), (.c (.o (.lf .b))), .d, (.sp .d), .d, .d, (.sp .d), .d, (.l (.lf (.i .i64))), (.c (.o (.lf .b))), .d, .d]) .z) (.s (.r [.d, (.l (.lf (.i .i64))), .d, .d]) (.c (.s (.r [.d, (.l (.lf (.i .i64))), (.c (.o (.lf .b))), (.sp .d), (.l (.ag (R 6 (.i .i64)))), .d, (.l (.lf (.i .i64))), .d, (.t (.o (.lf .b))), .d, .d]) .z) .z))))))))))))) (.s (.r [(.l (.ag (R 6 (.i .i64)))), .d, (.t (.o (.lf .b))), .d]) .z)))))
def impl.InsOk.vc (x : Tup (R 6 (.i .i64))) (w : World) (K : Bool → World → Prop) : Prop :=
Nw (Tup.cells (R 6 (.i .i64)) x).toArray 51 w fun a_x w_ =>
Ld (.i .i64) (Addr.add a_x 3) w_ fun (t6 : Int) w__1 =>
CallT (.o (.lf .b)) P0 66 [(.int .i64 t6), (.int .i64 (-128)), (.int .i64 127)] w__1 fun (t7 : Bool) w__2 =>
Ld (.i .i64) (Addr.add a_x 0) w__2 fun (t9 : Int) w__3 =>
CallT (.o (.lf .b)) P0 97 [(.int .i64 t9)] w__3 fun (t12 : Bool) w__4 =>
(t12 = true → Ld (.i .i64) (Addr.add a_x 1) w__4 fun (t14 : Int) w__5 =>
CallT (.o (.lf .b)) P0 98 [(.int .i64 t14)] w__5 fun (t15 : Bool) w__6 =>
(t15 = true → LdA (R 6 (.i .i64)) a_x w__6 fun (t17 : Tup (R 6 (.i .i64))) w__7 =>
CallT (.o (.lf .b)) P0 99 [(.agg (Tup.cells (R 6 (.i .i64)) t17).toArray)] w__7 fun (t18 : Bool) w__8 =>
(t18 = true → Ld (.i .i64) (Addr.add a_x 3) w__8 fun (t22 : Int) w__9 =>
(((t22 : Int) == 0) = true → Ld (.i .i64) (Addr.add a_x 5) w__9 fun (t27 : Int) w__10 =>
K ((t27 : Int) == 0) w__10) ∧
(((t22 : Int) == 0) = false → K false w__9)) ∧
(t18 = false → K false w__8)) ∧
(t15 = false → K false w__6)) ∧
(t12 = false → CallT (.o (.lf .b)) P0 85 [(.int .i64 t9)] w__4 fun (t32 : Bool) w__11 =>
(t32 = true → Ld (.i .i64) (Addr.add a_x 1) w__11 fun (t34 : Int) w__12 =>
CallT (.o (.lf .b)) P0 98 [(.int .i64 t34)] w__12 fun (t35 : Bool) w__13 =>
(t35 = true → LdA (R 6 (.i .i64)) a_x w__13 fun (t37 : Tup (R 6 (.i .i64))) w__14 =>
CallT (.o (.lf .b)) P0 99 [(.agg (Tup.cells (R 6 (.i .i64)) t37).toArray)] w__14 fun (t38 : Bool) w__15 =>
(t38 = true → (t7 = true → Ld (.i .i64) (Addr.add a_x 5) w__15 fun (t45 : Int) w__16 =>
K ((t45 : Int) == 0) w__16) ∧
(t7 = false → K false w__15)) ∧
(t38 = false → K false w__15)) ∧
(t35 = false → K false w__13)) ∧
(t32 = false → Ld (.i .i64) (Addr.add a_x 0) w__11 fun (t50 : Int) w__17 =>
(((t50 : Int) == 16) = true → (t7 = true → LdA (R 6 (.i .i64)) a_x w__17 fun (t54 : Tup (R 6 (.i .i64))) w__18 =>
Ld (.i .i64) (Addr.add a_x 3) w__18 fun (t56 : Int) w__19 =>
RunT (.o (.lf .b)) P0 (do eqGuard .eql 51 (.tmp 54) (.tmp 57) (.agg (Tup.cells (R 6 (.i .i64)) t54).toArray) (.agg #[(.int .i64 16), (.int .i64 0), (.int .i64 (-1)), (.int .i64 t56), (.int .i64 0), (.int .i64 0)]); binOp .eql 51 (.agg (Tup.cells (R 6 (.i .i64)) t54).toArray) (.agg #[(.int .i64 16), (.int .i64 0), (.int .i64 (-1)), (.int .i64 t56), (.int .i64 0), (.int .i64 0)])) w__19 fun (t58 : Bool) w__20 =>
K t58 w__20) ∧
(t7 = false → K false w__17)) ∧
(((t50 : Int) == 16) = false → Ld (.i .i64) (Addr.add a_x 0) w__17 fun (t62 : Int) w__21 =>
(((t62 : Int) == 17) = true → Ld (.i .i64) (Addr.add a_x 1) w__21 fun (t65 : Int) w__22 =>
CallT (.o (.lf .b)) P0 98 [(.int .i64 t65)] w__22 fun (t66 : Bool) w__23 =>
(t66 = true → Ld (.i .i64) (Addr.add a_x 2) w__23 fun (t69 : Int) w__24 =>
CallT (.o (.lf .b)) P0 98 [(.int .i64 t69)] w__24 fun (t70 : Bool) w__25 =>
(t70 = true → Ld (.i .i64) (Addr.add a_x 4) w__25 fun (t74 : Int) w__26 =>
(((t74 : Int) == 0) = true → (t7 = true → Ld (.i .i64) (Addr.add a_x 5) w__26 fun (t82 : Int) w__27 =>
CallT (.o (.lf .b)) P0 100 [(.int .i64 t82)] w__27 fun (t83 : Bool) w__28 =>
K t83 w__28) ∧
(t7 = false → K false w__26)) ∧
(((t74 : Int) == 0) = false → K false w__26)) ∧
(t70 = false → K false w__25)) ∧
(t66 = false → K false w__23)) ∧
(((t62 : Int) == 17) = false → Ld (.i .i64) (Addr.add a_x 0) w__21 fun (t87 : Int) w__29 =>
(((t87 : Int) == 18) = true → Ld (.i .i64) (Addr.add a_x 1) w__29 fun (t90 : Int) w__30 =>
CallT (.o (.lf .b)) P0 98 [(.int .i64 t90)] w__30 fun (t91 : Bool) w__31 =>
(t91 = true → LdA (R 6 (.i .i64)) a_x w__31 fun (t93 : Tup (R 6 (.i .i64))) w__32 =>
CallT (.o (.lf .b)) P0 99 [(.agg (Tup.cells (R 6 (.i .i64)) t93).toArray)] w__32 fun (t94 : Bool) w__33 =>
(t94 = true → (t7 = true → Ld (.i .i64) (Addr.add a_x 5) w__33 fun (t101 : Int) w__34 =>
CallT (.o (.lf .b)) P0 100 [(.int .i64 t101)] w__34 fun (t102 : Bool) w__35 =>
K t102 w__35) ∧
(t7 = false → K false w__33)) ∧
(t94 = false → K false w__33)) ∧
(t91 = false → K false w__31)) ∧
(((t87 : Int) == 18) = false → Ld (.i .i64) (Addr.add a_x 0) w__29 fun (t106 : Int) w__36 =>
(((t106 : Int) == 19) = true → Ld (.i .i64) (Addr.add a_x 4) w__36 fun (t109 : Int) w__37 =>
CallT (.o (.lf .b)) P0 66 [(.int .i64 t109), (.int .i64 1), (.int .i64 6)] w__37 fun (t110 : Bool) w__38 =>
(t110 = true → LdA (R 6 (.i .i64)) a_x w__38 fun (t112 : Tup (R 6 (.i .i64))) w__39 =>
Ld (.i .i64) (Addr.add a_x 4) w__39 fun (t114 : Int) w__40 =>
RunT (.o (.lf .b)) P0 (do eqGuard .eql 51 (.tmp 112) (.tmp 115) (.agg (Tup.cells (R 6 (.i .i64)) t112).toArray) (.agg #[(.int .i64 19), (.int .i64 0), (.int .i64 (-1)), (.int .i64 0), (.int .i64 t114), (.int .i64 0)]); binOp .eql 51 (.agg (Tup.cells (R 6 (.i .i64)) t112).toArray) (.agg #[(.int .i64 19), (.int .i64 0), (.int .i64 (-1)), (.int .i64 0), (.int .i64 t114), (.int .i64 0)])) w__40 fun (t116 : Bool) w__41 =>
K t116 w__41) ∧
(t110 = false → K false w__38)) ∧
(((t106 : Int) == 19) = false → LdA (R 6 (.i .i64)) a_x w__36 fun (t118 : Tup (R 6 (.i .i64))) w__42 =>
RunT (.o (.lf .b)) P0 (do eqGuard .eql 51 (.tmp 118) (.tmp 119) (.agg (Tup.cells (R 6 (.i .i64)) t118).toArray) (.agg #[(.int .i64 20), (.int .i64 0), (.int .i64 (-1)), (.int .i64 0), (.int .i64 0), (.int .i64 0)]); binOp .eql 51 (.agg (Tup.cells (R 6 (.i .i64)) t118).toArray) (.agg #[(.int .i64 20), (.int .i64 0), (.int .i64 (-1)), (.int .i64 0), (.int .i64 0), (.int .i64 0)])) w__42 fun (t120 : Bool) w__43 =>
K t120 w__43))))))
theorem impl.InsOk.ok {x : Tup (R 6 (.i .i64))} {w : World} {K : Bool → World → Prop} (h : impl.InsOk.vc x w K) : CallT (.o (.lf .b)) P0 75 [(.agg (Tup.cells (R 6 (.i .i64)) x).toArray)] w K :=
  call_of Try.func75 rfl rfl (pl := impl.InsOk.pl) (show VC P0 Try.f75 impl.InsOk.pl (.o (.lf .b)) [(.agg (Tup.cells (R 6 (.i .i64)) x).toArray)] w K noP from Eq.mp (by kernel_rfl) h)
/- impl.target -/
def impl.target.pl : Pl := (.s (.r (D 1)) (.s (.r [.d, .d, .d, .d, .d, .d, (.l (.lf (.i .i64))), .d, .d]) .z))
def impl.target.vc (list : Sl) (i : Int) (w : World) (K : Int → World → Prop) : Prop :=
Ix list.a list.n i 6 w fun a_t9 w_ =>
Ld (.i .i64) (Addr.add a_t9 3) w_ fun (t11 : Int) w__1 =>
K (IntKind.wrap .i64 ((IntKind.wrap .i64 (i + 1)) + t11)) w__1
theorem impl.target.ok {list : Sl} {i : Int} {w : World} {K : Int → World → Prop} (h : impl.target.vc list i w K) : CallT (.o (.lf (.i .i64))) P0 58 [list.v, (.int .i64 i)] w K :=
  call_of Try.func58 rfl rfl (pl := impl.target.pl) (show VC P0 Try.f58 impl.target.pl (.o (.lf (.i .i64))) [list.v, (.int .i64 i)] w K noP from Eq.mp (by kernel_rfl) h)
/- impl.ProgForm -/
def impl.ProgForm.pl : Pl := (.s (.r (D 1)) (.s (.s (.r (D 3)) (.b (.l [(7, (.i .i64))] (.s (.r (D 1)) (.s (.c .z .z) (.s (.b (.s (.r [.d, .d, (.l (.ag (R 6 (.i .i64)))), .d, .d, .d]) (.s (.s (.r [(.l (.ag (R 6 (.i .i64)))), (.c (.o (.lf .b))), .d]) (.c (.s (.r (D 1)) .z) .z)) (.s (.r [.d, (.l (.lf (.i .i64))), (.c (.o (.lf .b))), (.sp .d), .d, .d, (.c (.o (.lf (.i .i64)))), .d, .d, .d, (.c (.o (.lf .b))), .d, .d]) (.c (.s (.r (D 1)) .z) .z))))) (.r (D 2)))))))) (.s (.b (.s (.r (D 4)) (.c (.s (.r (D 1)) .z) (.s (.s (.r (D 4)) (.c .z (.r [.d, .d, .d, .d, .d, .d, (.l (.lf (.i .i64))), .d, (.sp .d), .d, .d, .d, .d, .d, .d, (.l (.lf (.i .i64))), .d, .d, .d]))) (.c (.s (.r (D 1)) .z) .z))))) (.s (.r (D 1)) .z))))
def impl.ProgForm.vc (list : Sl) (w : World) (K : Int → World → Prop) : Prop :=
∃ (I : Int → World → Prop) (M : Int → World → Nat),
I 0 w ∧
(∀ (t7 : Int) w_, I t7 w_ → ∀ _ : Nat → Value,
((decide ((t7 : Int) < ((list.n : Nat) : Int))) = true → Ix list.a list.n t7 6 w_ fun a_t10 w__1 =>
LdA (R 6 (.i .i64)) a_t10 w__1 fun (t11 : Tup (R 6 (.i .i64))) w__2 =>
Nw (zc P0 51) 51 w__2 fun a_x w__3 =>
StA P0 a_x (Tup.cells (R 6 (.i .i64)) t11) w__3 fun w__4 =>
LdA (R 6 (.i .i64)) a_x w__4 fun (t12 : Tup (R 6 (.i .i64))) w__5 =>
CallT (.o (.lf .b)) P0 75 [(.agg (Tup.cells (R 6 (.i .i64)) t12).toArray)] w__5 fun (t13 : Bool) w__6 =>
((!t13) = true → K 1 w__6) ∧
((!t13) = false → Ld (.i .i64) (Addr.add a_x 0) w__6 fun (t16 : Int) w__7 =>
CallT (.o (.lf .b)) P0 57 [(.int .i64 t16)] w__7 fun (t17 : Bool) w__8 =>
(t17 = true → CallT (.o (.lf (.i .i64))) P0 58 [list.v, (.int .i64 t7)] w__8 fun (t21 : Int) w__9 =>
CallT (.o (.lf .b)) P0 66 [(.int .i64 t21), (.int .i64 0), (.int .i64 (IntKind.wrap .i64 (((list.n : Nat) : Int) - 1)))] w__9 fun (t25 : Bool) w__10 =>
((!t25) = true → K 2 w__10) ∧
((!t25) = false → (I (IntKind.wrap .i64 (t7 + 1)) w__10 ∧ M (IntKind.wrap .i64 (t7 + 1)) w__10 < M t7 w_))) ∧
(t17 = false → (I (IntKind.wrap .i64 (t7 + 1)) w__8 ∧ M (IntKind.wrap .i64 (t7 + 1)) w__8 < M t7 w_)))) ∧
((decide ((t7 : Int) < ((list.n : Nat) : Int))) = false → ((decide ((((list.n : Nat) : Int) : Int) > 48)) = true → K 3 w_) ∧
((decide ((((list.n : Nat) : Int) : Int) > 48)) = false → (((((list.n : Nat) : Int) : Int) == 0) = true → (((((list.n : Nat) : Int) : Int) == 0) = true → K 4 w_) ∧
(((((list.n : Nat) : Int) : Int) == 0) = false → K 0 w_)) ∧
(((((list.n : Nat) : Int) : Int) == 0) = false → Ix list.a list.n (IntKind.wrap .i64 (((list.n : Nat) : Int) - 1)) 6 w_ fun a_t41 w__11 =>
Ld (.i .i64) (Addr.add a_t41 0) w__11 fun (t43 : Int) w__12 =>
(((t43 : Int) != 20) = true → Ix list.a list.n (IntKind.wrap .i64 (((list.n : Nat) : Int) - 1)) 6 w__12 fun a_t50 w__13 =>
Ld (.i .i64) (Addr.add a_t50 0) w__13 fun (t52 : Int) w__14 =>
(((t52 : Int) != 16) = true → K 4 w__14) ∧
(((t52 : Int) != 16) = false → K 0 w__14)) ∧
(((t43 : Int) != 20) = false → K 0 w__12)))))
theorem impl.ProgForm.ok {list : Sl} {w : World} {K : Int → World → Prop} (h : impl.ProgForm.vc list w K) : CallT (.o (.lf (.i .i64))) P0 43 [list.v] w K :=
  call_of Try.func43 rfl rfl (pl := impl.ProgForm.pl) (show VC P0 Try.f43 impl.ProgForm.pl (.o (.lf (.i .i64))) [list.v] w K noP from Eq.mp (by kernel_rfl) h)
/- spec.l1In -/
def spec.l1In.pl : Pl := (.s (.r (D 1)) (.s (.r [.d, .d, .d, (.sp .d), .d, .d, .d, .d, .d]) .z))
def spec.l1In.vc (n : Int) (low : Int) (high : Int) (w : World) (K : Bool → World → Prop) : Prop :=
((decide ((n : Int) ≥ low)) = true → K (decide ((n : Int) ≤ high)) w) ∧
((decide ((n : Int) ≥ low)) = false → K false w)
theorem spec.l1In.ok {n : Int} {low : Int} {high : Int} {w : World} {K : Bool → World → Prop} (h : spec.l1In.vc n low high w K) : CallT (.o (.lf .b)) P0 61 [(.int .i64 n), (.int .i64 low), (.int .i64 high)] w K :=
  call_of Try.func61 rfl rfl (pl := spec.l1In.pl) (show VC P0 Try.f61 spec.l1In.pl (.o (.lf .b)) [(.int .i64 n), (.int .i64 low), (.int .i64 high)] w K noP from Eq.mp (by kernel_rfl) h)
/- spec.l1Alu -/
def spec.l1Alu.pl : Pl := (.s (.r (D 1)) (.s (.r [.d, (.c (.o (.lf .b))), .d]) .z))
def spec.l1Alu.vc (op : Int) (w : World) (K : Bool → World → Prop) : Prop :=
CallT (.o (.lf .b)) P0 61 [(.int .i64 op), (.int .i64 1), (.int .i64 11)] w fun (t4 : Bool) w_ =>
K t4 w_
theorem spec.l1Alu.ok {op : Int} {w : World} {K : Bool → World → Prop} (h : spec.l1Alu.vc op w K) : CallT (.o (.lf .b)) P0 129 [(.int .i64 op)] w K :=
  call_of Try.func129 rfl rfl (pl := spec.l1Alu.pl) (show VC P0 Try.f129 spec.l1Alu.pl (.o (.lf .b)) [(.int .i64 op)] w K noP from Eq.mp (by kernel_rfl) h)
/- spec.l1Jump -/
def spec.l1Jump.pl : Pl := (.s (.r (D 1)) (.s (.r [.d, (.c (.o (.lf .b))), .d]) .z))
def spec.l1Jump.vc (op : Int) (w : World) (K : Bool → World → Prop) : Prop :=
CallT (.o (.lf .b)) P0 61 [(.int .i64 op), (.int .i64 12), (.int .i64 15)] w fun (t4 : Bool) w_ =>
K t4 w_
theorem spec.l1Jump.ok {op : Int} {w : World} {K : Bool → World → Prop} (h : spec.l1Jump.vc op w K) : CallT (.o (.lf .b)) P0 55 [(.int .i64 op)] w K :=
  call_of Try.func55 rfl rfl (pl := spec.l1Jump.pl) (show VC P0 Try.f55 spec.l1Jump.pl (.o (.lf .b)) [(.int .i64 op)] w K noP from Eq.mp (by kernel_rfl) h)
/- spec.l1Bare -/
def spec.l1Bare.pl : Pl := (.s (.r (D 2)) (.s (.b (.s (.r [.d, (.l (.lf (.i .i64))), (.c (.o (.lf .b))), .d]) (.c (.s (.r [.d, (.l (.lf (.i .i64))), .d, (.sp .d), .d, (.l (.lf (.i .i64))), .d, .d, (.sp .d), .d, (.l (.lf (.i .i64))), .d, (.sp .d), .d, (.l (.lf (.i .i64))), .d, .d, .d, .d]) .z) (.s (.r [.d, (.l (.lf (.i .i64))), (.c (.o (.lf .b))), .d]) (.c (.s (.r [.d, (.l (.lf (.i .i64))), .d, (.sp .d), .d, (.l (.lf (.i .i64))), .d, (.sp .d), .d, (.l (.lf (.i .i64))), .d, .d, .d, .d]) .z) (.s (.r [.d, (.l (.lf (.i .i64))), .d, .d]) (.c (.s (.r [.d, (.l (.lf (.i .i64))), .d, (.sp .d), .d, (.l (.lf (.i .i64))), .d, .d, (.sp .d), .d, (.l (.lf (.i .i64))), .d, .d, (.sp .d), .d, (.l (.lf (.i .i64))), .d, .d, .d]) .z) (.s (.r [.d, (.l (.lf (.i .i64))), .d, .d]) (.c (.s (.r [.d, (.l (.lf (.i .i64))), .d, (.sp .d), .d, (.l (.lf (.i .i64))), .d, .d, (.sp .d), .d, (.l (.lf (.i .i64))), .d, (.sp .d), .d, (.l (.lf (.i .i64))), .d, .d, (.sp .d), .d, (.l (.lf (.i .i64))), .d, .d, .d, .d]) .z) (.s (.r [.d, (.l (.lf (.i .i64))), .d, .d]) (.c (.s (.r [.d, (.l (.lf (.i .i64))), .d, (.sp .d), .d, (.l (.lf (.i .i64))), .d, .d, (.sp .d), .d, (.l (.lf (.i .i64))), .d, (.sp .d), .d, (.l (.lf (.i .i64))), .d, .d, (.sp .d), .d, (.l (.lf (.i .i64))), .d, .d, .d, .d]) .z) (.s (.r [.d, (.l (.lf (.i .i64))), .d, .d]) (.c (.s (.r [.d, (.l (.lf (.i .i64))), .d, (.sp .d), .d, (.l (.lf (.i .i64))), .d, .d, (.sp .d), .d, (.l (.lf (.i .i64))), .d, .d, (.sp .d), .d, (.l (.lf (.i .i64))), .d, .d, (.sp .d), .d, (.l (.lf (.i .i64))), (.c (.o (.lf .b))), .d, .d]) .z) (.s (.r [.d, (.l (.lf (.i .i64))), .d, .d]) (.c (.s (.r [(.l (.ag (R 6 (.i .i64)))), .d, (.t (.o (.lf .b))), .d]) .z) .z))))))))))))))) (.s (.r (D 1)) .z)))
def spec.l1Bare.vc (x : Tup (R 6 (.i .i64))) (w : World) (K : Bool → World → Prop) : Prop :=
Nw (Tup.cells (R 6 (.i .i64)) x).toArray 51 w fun a_x w_ =>
Ld (.i .i64) (Addr.add a_x 0) w_ fun (t5 : Int) w__1 =>
CallT (.o (.lf .b)) P0 129 [(.int .i64 t5)] w__1 fun (t6 : Bool) w__2 =>
(t6 = true → Ld (.i .i64) (Addr.add a_x 3) w__2 fun (t8 : Int) w__3 =>
(((t8 : Int) == 0) = true → Ld (.i .i64) (Addr.add a_x 5) w__3 fun (t12 : Int) w__4 =>
(((t12 : Int) == 0) = true → Ld (.i .i64) (Addr.add a_x 2) w__4 fun (t17 : Int) w__5 =>
((decide ((t17 : Int) < 0)) = true → K true w__5) ∧
((decide ((t17 : Int) < 0)) = false → Ld (.i .i64) (Addr.add a_x 4) w__5 fun (t21 : Int) w__6 =>
K ((t21 : Int) == 0) w__6)) ∧
(((t12 : Int) == 0) = false → K false w__4)) ∧
(((t8 : Int) == 0) = false → K false w__3)) ∧
(t6 = false → Ld (.i .i64) (Addr.add a_x 0) w__2 fun (t27 : Int) w__7 =>
CallT (.o (.lf .b)) P0 55 [(.int .i64 t27)] w__7 fun (t28 : Bool) w__8 =>
(t28 = true → Ld (.i .i64) (Addr.add a_x 5) w__8 fun (t30 : Int) w__9 =>
(((t30 : Int) == 0) = true → Ld (.i .i64) (Addr.add a_x 2) w__9 fun (t34 : Int) w__10 =>
((decide ((t34 : Int) < 0)) = true → K true w__10) ∧
((decide ((t34 : Int) < 0)) = false → Ld (.i .i64) (Addr.add a_x 4) w__10 fun (t38 : Int) w__11 =>
K ((t38 : Int) == 0) w__11)) ∧
(((t30 : Int) == 0) = false → K false w__9)) ∧
(t28 = false → Ld (.i .i64) (Addr.add a_x 0) w__8 fun (t44 : Int) w__12 =>
(((t44 : Int) == 16) = true → Ld (.i .i64) (Addr.add a_x 1) w__12 fun (t47 : Int) w__13 =>
(((t47 : Int) == 0) = true → Ld (.i .i64) (Addr.add a_x 2) w__13 fun (t51 : Int) w__14 =>
(((t51 : Int) == (-1)) = true → Ld (.i .i64) (Addr.add a_x 4) w__14 fun (t56 : Int) w__15 =>
(((t56 : Int) == 0) = true → Ld (.i .i64) (Addr.add a_x 5) w__15 fun (t61 : Int) w__16 =>
K ((t61 : Int) == 0) w__16) ∧
(((t56 : Int) == 0) = false → K false w__15)) ∧
(((t51 : Int) == (-1)) = false → K false w__14)) ∧
(((t47 : Int) == 0) = false → K false w__13)) ∧
(((t44 : Int) == 16) = false → Ld (.i .i64) (Addr.add a_x 0) w__12 fun (t66 : Int) w__17 =>
(((t66 : Int) == 17) = true → Ld (.i .i64) (Addr.add a_x 2) w__17 fun (t69 : Int) w__18 =>
((decide ((t69 : Int) ≥ 0)) = true → Ld (.i .i64) (Addr.add a_x 4) w__18 fun (t73 : Int) w__19 =>
(((t73 : Int) == 0) = true → Ld (.i .i64) (Addr.add a_x 5) w__19 fun (t78 : Int) w__20 =>
(((t78 : Int) == 1) = true → K true w__20) ∧
(((t78 : Int) == 1) = false → Ld (.i .i64) (Addr.add a_x 5) w__20 fun (t82 : Int) w__21 =>
(((t82 : Int) == 2) = true → K true w__21) ∧
(((t82 : Int) == 2) = false → Ld (.i .i64) (Addr.add a_x 5) w__21 fun (t87 : Int) w__22 =>
K ((t87 : Int) == 4) w__22))) ∧
(((t73 : Int) == 0) = false → K false w__19)) ∧
((decide ((t69 : Int) ≥ 0)) = false → K false w__18)) ∧
(((t66 : Int) == 17) = false → Ld (.i .i64) (Addr.add a_x 0) w__17 fun (t93 : Int) w__23 =>
(((t93 : Int) == 18) = true → Ld (.i .i64) (Addr.add a_x 2) w__23 fun (t96 : Int) w__24 =>
((decide ((t96 : Int) < 0)) = true → Ld (.i .i64) (Addr.add a_x 5) w__24 fun (t105 : Int) w__25 =>
(((t105 : Int) == 1) = true → K true w__25) ∧
(((t105 : Int) == 1) = false → Ld (.i .i64) (Addr.add a_x 5) w__25 fun (t109 : Int) w__26 =>
(((t109 : Int) == 2) = true → K true w__26) ∧
(((t109 : Int) == 2) = false → Ld (.i .i64) (Addr.add a_x 5) w__26 fun (t114 : Int) w__27 =>
K ((t114 : Int) == 4) w__27))) ∧
((decide ((t96 : Int) < 0)) = false → Ld (.i .i64) (Addr.add a_x 4) w__24 fun (t100 : Int) w__28 =>
(((t100 : Int) == 0) = true → Ld (.i .i64) (Addr.add a_x 5) w__28 fun (t105_1 : Int) w__29 =>
(((t105_1 : Int) == 1) = true → K true w__29) ∧
(((t105_1 : Int) == 1) = false → Ld (.i .i64) (Addr.add a_x 5) w__29 fun (t109_1 : Int) w__30 =>
(((t109_1 : Int) == 2) = true → K true w__30) ∧
(((t109_1 : Int) == 2) = false → Ld (.i .i64) (Addr.add a_x 5) w__30 fun (t114_1 : Int) w__31 =>
K ((t114_1 : Int) == 4) w__31))) ∧
(((t100 : Int) == 0) = false → K false w__28))) ∧
(((t93 : Int) == 18) = false → Ld (.i .i64) (Addr.add a_x 0) w__23 fun (t120 : Int) w__32 =>
(((t120 : Int) == 19) = true → Ld (.i .i64) (Addr.add a_x 1) w__32 fun (t123 : Int) w__33 =>
(((t123 : Int) == 0) = true → Ld (.i .i64) (Addr.add a_x 2) w__33 fun (t127 : Int) w__34 =>
(((t127 : Int) == (-1)) = true → Ld (.i .i64) (Addr.add a_x 3) w__34 fun (t132 : Int) w__35 =>
(((t132 : Int) == 0) = true → Ld (.i .i64) (Addr.add a_x 5) w__35 fun (t137 : Int) w__36 =>
(((t137 : Int) == 0) = true → Ld (.i .i64) (Addr.add a_x 4) w__36 fun (t142 : Int) w__37 =>
CallT (.o (.lf .b)) P0 61 [(.int .i64 t142), (.int .i64 1), (.int .i64 6)] w__37 fun (t143 : Bool) w__38 =>
K t143 w__38) ∧
(((t137 : Int) == 0) = false → K false w__36)) ∧
(((t132 : Int) == 0) = false → K false w__35)) ∧
(((t127 : Int) == (-1)) = false → K false w__34)) ∧
(((t123 : Int) == 0) = false → K false w__33)) ∧
(((t120 : Int) == 19) = false → Ld (.i .i64) (Addr.add a_x 0) w__32 fun (t147 : Int) w__39 =>
(((t147 : Int) == 20) = true → LdA (R 6 (.i .i64)) a_x w__39 fun (t149 : Tup (R 6 (.i .i64))) w__40 =>
RunT (.o (.lf .b)) P0 (do eqGuard .eql 51 (.tmp 149) (.tmp 150) (.agg (Tup.cells (R 6 (.i .i64)) t149).toArray) (.agg #[(.int .i64 20), (.int .i64 0), (.int .i64 (-1)), (.int .i64 0), (.int .i64 0), (.int .i64 0)]); binOp .eql 51 (.agg (Tup.cells (R 6 (.i .i64)) t149).toArray) (.agg #[(.int .i64 20), (.int .i64 0), (.int .i64 (-1)), (.int .i64 0), (.int .i64 0), (.int .i64 0)])) w__40 fun (t151 : Bool) w__41 =>
K t151 w__41) ∧
(((t147 : Int) == 20) = false → K false w__39)))))))
theorem spec.l1Bare.ok {x : Tup (R 6 (.i .i64))} {w : World} {K : Bool → World → Prop} (h : spec.l1Bare.vc x w K) : CallT (.o (.lf .b)) P0 114 [(.agg (Tup.cells (R 6 (.i .i64)) x).toArray)] w K :=
  call_of Try.func114 rfl rfl (pl := spec.l1Bare.pl) (show VC P0 Try.f114 spec.l1Bare.pl (.o (.lf .b)) [(.agg (Tup.cells (R 6 (.i .i64)) x).toArray)] w K noP from Eq.mp (by kernel_rfl) h)
/- spec.l1InsOk -/
def spec.l1InsOk.pl : Pl := (.s (.r (D 2)) (.s (.r [.d, (.l (.lf (.i .i64))), (.c (.o (.lf .b))), (.sp .d), .d, (.l (.lf (.i .i64))), (.c (.o (.lf .b))), .d, (.sp .d), .d, (.l (.lf (.i .i64))), (.c (.o (.lf .b))), .d, (.sp .d), .d, (.l (.lf (.i .i64))), (.c (.o (.lf .b))), .d, (.sp .d), (.l (.ag (R 6 (.i .i64)))), (.c (.o (.lf .b))), .d, .d]) .z))
def spec.l1InsOk.vc (x : Tup (R 6 (.i .i64))) (w : World) (K : Bool → World → Prop) : Prop :=
Nw (Tup.cells (R 6 (.i .i64)) x).toArray 51 w fun a_x w_ =>
Ld (.i .i64) (Addr.add a_x 1) w_ fun (t4 : Int) w__1 =>
CallT (.o (.lf .b)) P0 61 [(.int .i64 t4), (.int .i64 0), (.int .i64 10)] w__1 fun (t5 : Bool) w__2 =>
(t5 = true → Ld (.i .i64) (Addr.add a_x 2) w__2 fun (t8 : Int) w__3 =>
CallT (.o (.lf .b)) P0 61 [(.int .i64 t8), (.int .i64 (-1)), (.int .i64 10)] w__3 fun (t9 : Bool) w__4 =>
(t9 = true → Ld (.i .i64) (Addr.add a_x 3) w__4 fun (t13 : Int) w__5 =>
CallT (.o (.lf .b)) P0 61 [(.int .i64 t13), (.int .i64 (-128)), (.int .i64 127)] w__5 fun (t14 : Bool) w__6 =>
(t14 = true → Ld (.i .i64) (Addr.add a_x 4) w__6 fun (t18 : Int) w__7 =>
CallT (.o (.lf .b)) P0 61 [(.int .i64 t18), (.int .i64 0), (.int .i64 4294967295)] w__7 fun (t19 : Bool) w__8 =>
(t19 = true → LdA (R 6 (.i .i64)) a_x w__8 fun (t22 : Tup (R 6 (.i .i64))) w__9 =>
CallT (.o (.lf .b)) P0 114 [(.agg (Tup.cells (R 6 (.i .i64)) t22).toArray)] w__9 fun (t23 : Bool) w__10 =>
K t23 w__10) ∧
(t19 = false → K false w__8)) ∧
(t14 = false → K false w__6)) ∧
(t9 = false → K false w__4)) ∧
(t5 = false → K false w__2)
theorem spec.l1InsOk.ok {x : Tup (R 6 (.i .i64))} {w : World} {K : Bool → World → Prop} (h : spec.l1InsOk.vc x w K) : CallT (.o (.lf .b)) P0 105 [(.agg (Tup.cells (R 6 (.i .i64)) x).toArray)] w K :=
  call_of Try.func105 rfl rfl (pl := spec.l1InsOk.pl) (show VC P0 Try.f105 spec.l1InsOk.pl (.o (.lf .b)) [(.agg (Tup.cells (R 6 (.i .i64)) x).toArray)] w K noP from Eq.mp (by kernel_rfl) h)
/- spec.l1Form -/
def spec.l1Form.pl : Pl := (.s (.r (D 1)) (.s (.s (.r (D 1)) (.b (.l [(3, (.i .i64))] (.s (.s (.r (D 4)) (.c .z .z)) (.s (.b (.s (.s (.r [.d, .d, .d, (.l (.ag (R 6 (.i .i64)))), (.c (.o (.lf .b))), .d]) (.c (.s (.r (D 1)) .z) .z)) (.j [(30, .b)] (.r [.d, .d, .d, .d, (.l (.lf (.i .i64))), (.c (.o (.lf .b))), (.sp .d), .d, .d, .d, .d, (.l (.lf (.i .i64))), .d, .d]) (.c (.s (.r [.d, .d, .d, .d, .d, .d, (.l (.lf (.i .i64))), .d, .d, .d, .d, (.c (.o (.lf .b))), .d]) (.c (.s (.r (D 1)) .z) .z)) .z)))) (.r (D 3))))))) (.s (.r (D 3)) (.s (.s (.r (D 2)) (.c (.s (.r (D 1)) .z) .z)) (.s (.s (.r [.d, .d, (.sp .d), .d, .d, .d, .d, .d, (.l (.lf (.i .i64))), .d, (.sp .d), .d, .d, .d, .d, .d, (.l (.lf (.i .i64))), .d, .d, .d]) (.c (.s (.r (D 1)) .z) .z)) (.s (.r (D 1)) .z))))))
def spec.l1Form.vc (list : Sl) (w : World) (K : Int → World → Prop) : Prop :=
∃ (I : Int → World → Prop) (M : Int → World → Nat),
I 0 w ∧
(∀ (i : Int) w_, I i w_ → ∀ _ : Nat → Value,
((decide ((i : Int) < ((list.n : Nat) : Int))) = true → Ix list.a list.n i 6 w_ fun a_t13 w__1 =>
LdA (R 6 (.i .i64)) a_t13 w__1 fun (t14 : Tup (R 6 (.i .i64))) w__2 =>
CallT (.o (.lf .b)) P0 105 [(.agg (Tup.cells (R 6 (.i .i64)) t14).toArray)] w__2 fun (t15 : Bool) w__3 =>
((!t15) = true → K 1 w__3) ∧
((!t15) = false → ∃ J : Bool → World → Prop,
(Ix list.a list.n i 6 w__3 fun a_t19 w__4 =>
Ld (.i .i64) (Addr.add a_t19 0) w__4 fun (t21 : Int) w__5 =>
CallT (.o (.lf .b)) P0 55 [(.int .i64 t21)] w__5 fun (t22 : Bool) w__6 =>
(t22 = true → J true w__6) ∧
(t22 = false → Ix list.a list.n i 6 w__6 fun a_t26 w__7 =>
Ld (.i .i64) (Addr.add a_t26 0) w__7 fun (t28 : Int) w__8 =>
J ((t28 : Int) == 16) w__8)) ∧
(∀ (t30 : Bool) w__9, J t30 w__9 → ∀ _ : Nat → Value,
(t30 = true → Ix list.a list.n i 6 w__9 fun a_t35 w__10 =>
Ld (.i .i64) (Addr.add a_t35 3) w__10 fun (t37 : Int) w__11 =>
CallT (.o (.lf .b)) P0 61 [(.int .i64 (IntKind.wrap .i64 ((IntKind.wrap .i64 (i + 1)) + t37))), (.int .i64 0), (.int .i64 (IntKind.wrap .i64 (((list.n : Nat) : Int) - 1)))] w__11 fun (t42 : Bool) w__12 =>
((!t42) = true → K 2 w__12) ∧
((!t42) = false → (I (IntKind.wrap .i64 (i + 1)) w__12 ∧ M (IntKind.wrap .i64 (i + 1)) w__12 < M i w_))) ∧
(t30 = false → (I (IntKind.wrap .i64 (i + 1)) w__9 ∧ M (IntKind.wrap .i64 (i + 1)) w__9 < M i w_))))) ∧
((decide ((i : Int) < ((list.n : Nat) : Int))) = false → ((decide ((((list.n : Nat) : Int) : Int) > 48)) = true → K 3 w_) ∧
((decide ((((list.n : Nat) : Int) : Int) > 48)) = false → (((((list.n : Nat) : Int) : Int) == 0) = true → K 4 w_) ∧
(((((list.n : Nat) : Int) : Int) == 0) = false → Ix list.a list.n (IntKind.wrap .i64 (((list.n : Nat) : Int) - 1)) 6 w_ fun a_t54 w__13 =>
Ld (.i .i64) (Addr.add a_t54 0) w__13 fun (t56 : Int) w__14 =>
(((t56 : Int) != 20) = true → Ix list.a list.n (IntKind.wrap .i64 (((list.n : Nat) : Int) - 1)) 6 w__14 fun a_t62 w__15 =>
Ld (.i .i64) (Addr.add a_t62 0) w__15 fun (t64 : Int) w__16 =>
(((t64 : Int) != 16) = true → K 4 w__16) ∧
(((t64 : Int) != 16) = false → K 0 w__16)) ∧
(((t56 : Int) != 20) = false → K 0 w__14)))))
theorem spec.l1Form.ok {list : Sl} {w : World} {K : Int → World → Prop} (h : spec.l1Form.vc list w K) : CallT (.o (.lf (.i .i64))) P0 83 [list.v] w K :=
  call_of Try.func83 rfl rfl (pl := spec.l1Form.pl) (show VC P0 Try.f83 spec.l1Form.pl (.o (.lf (.i .i64))) [list.v] w K noP from Eq.mp (by kernel_rfl) h)
/- spec.l12Fine -/
def spec.l12Fine.pl : Pl := (.s (.r (D 1)) (.s (.r [.d, (.c (.o (.lf (.i .i64)))), .d, .d]) .z))
def spec.l12Fine.vc (list : Sl) (w : World) (K : Bool → World → Prop) : Prop :=
CallT (.o (.lf (.i .i64))) P0 83 [list.v] w fun (t4 : Int) w_ =>
K ((t4 : Int) == 0) w_
theorem spec.l12Fine.ok {list : Sl} {w : World} {K : Bool → World → Prop} (h : spec.l12Fine.vc list w K) : CallT (.o (.lf .b)) P0 54 [list.v] w K :=
  call_of Try.func54 rfl rfl (pl := spec.l12Fine.pl) (show VC P0 Try.f54 spec.l12Fine.pl (.o (.lf .b)) [list.v] w K noP from Eq.mp (by kernel_rfl) h)
/- spec.l12Next -/
def spec.l12Next.pl : Pl := (.s (.r (D 1)) (.s (.r [.d, .d, .d, (.l (.ag (R 6 (.i .i64)))), .d, .d]) (.s (.b (.s (.r [.d, (.l (.lf (.i .i64))), .d, .d]) (.c (.s (.r (D 2)) .z) (.s (.r [.d, (.l (.lf (.i .i64))), .d, .d]) (.c (.s (.r [.d, .d, .d, (.l (.lf (.i .i64))), .d, .d, .d]) .z) (.j [(25, .b)] (.r [.d, (.l (.lf (.i .i64))), (.c (.o (.lf .b))), .d, (.sp .d), .d, (.l (.lf (.i .i64))), .d, .d, .d]) (.c (.s (.r (D 4)) .z) (.s (.r [.d, (.l (.lf (.i .i64))), .d, .d]) (.c (.s (.r [.d, .d, .d, (.l (.lf (.i .i64))), .d, .d, .d, .d, .d]) .z) .z))))))))) (.s (.r [.d, .d, .d, .d, .d, (.l (.lf (.i .i64))), .d, .d, .d]) .z))))
def spec.l12Next.vc (list : Sl) (at_ : Int) (w : World) (K : Sl → World → Prop) : Prop :=
Ix list.a list.n at_ 6 w fun a_t8 w_ =>
LdA (R 6 (.i .i64)) a_t8 w_ fun (t9 : Tup (R 6 (.i .i64))) w__1 =>
Nw (zc P0 51) 51 w__1 fun a_x w__2 =>
StA P0 a_x (Tup.cells (R 6 (.i .i64)) t9) w__2 fun w__3 =>
Ld (.i .i64) (Addr.add a_x 0) w__3 fun (t12 : Int) w__4 =>
(((t12 : Int) == 20) = true → Nw #[] 3 w__4 fun a_t14 w__5 =>
K ⟨(some a_t14), 0, 0⟩ w__5) ∧
(((t12 : Int) == 20) = false → Ld (.i .i64) (Addr.add a_x 0) w__4 fun (t17 : Int) w__6 =>
(((t17 : Int) == 16) = true → Ld (.i .i64) (Addr.add a_x 3) w__6 fun (t22 : Int) w__7 =>
Nw #[(.int .i64 (IntKind.wrap .i64 ((IntKind.wrap .i64 (at_ + 1)) + t22)))] 3 w__7 fun a_t24 w__8 =>
K ⟨(some a_t24), 1, 1⟩ w__8) ∧
(((t17 : Int) == 16) = false → ∃ J : Bool → World → Prop,
(Ld (.i .i64) (Addr.add a_x 0) w__6 fun (t27 : Int) w__9 =>
CallT (.o (.lf .b)) P0 55 [(.int .i64 t27)] w__9 fun (t28 : Bool) w__10 =>
((!t28) = true → J true w__10) ∧
((!t28) = false → Ld (.i .i64) (Addr.add a_x 3) w__10 fun (t32 : Int) w__11 =>
J ((t32 : Int) == 0) w__11)) ∧
(∀ (t25 : Bool) w__12, J t25 w__12 → ∀ _ : Nat → Value,
(t25 = true → Nw #[(.int .i64 (IntKind.wrap .i64 (at_ + 1)))] 3 w__12 fun a_t37 w__13 =>
K ⟨(some a_t37), 1, 1⟩ w__13) ∧
(t25 = false → Ld (.i .i64) (Addr.add a_x 3) w__12 fun (t40 : Int) w__14 =>
((decide ((t40 : Int) < 0)) = true → Ld (.i .i64) (Addr.add a_x 3) w__14 fun (t45 : Int) w__15 =>
Nw #[(.int .i64 (IntKind.wrap .i64 ((IntKind.wrap .i64 (at_ + 1)) + t45))), (.int .i64 (IntKind.wrap .i64 (at_ + 1)))] 3 w__15 fun a_t49 w__16 =>
K ⟨(some a_t49), 2, 2⟩ w__16) ∧
((decide ((t40 : Int) < 0)) = false → Ld (.i .i64) (Addr.add a_x 3) w__14 fun (t55 : Int) w__17 =>
Nw #[(.int .i64 (IntKind.wrap .i64 (at_ + 1))), (.int .i64 (IntKind.wrap .i64 ((IntKind.wrap .i64 (at_ + 1)) + t55)))] 3 w__17 fun a_t57 w__18 =>
K ⟨(some a_t57), 2, 2⟩ w__18)))))
theorem spec.l12Next.ok {list : Sl} {at_ : Int} {w : World} {K : Sl → World → Prop} (h : spec.l12Next.vc list at_ w K) : CallT (.o (.lf .sl)) P0 65 [list.v, (.int .i64 at_)] w K :=
  call_of Try.func65 rfl rfl (pl := spec.l12Next.pl) (show VC P0 Try.f65 spec.l12Next.pl (.o (.lf .sl)) [list.v, (.int .i64 at_)] w K noP from Eq.mp (by kernel_rfl) h)
/- spec.FlowNext -/
def spec.FlowNext.pl : Pl := (.s (.r (D 1)) (.s (.s (.r [.d, (.c (.o (.lf .b))), .d, (.sp .d), .d, .d, .d, .d, (.c (.o (.lf .b))), .d, .d]) (.c (.s (.r (D 1)) .z) .z)) (.s (.r [.d, .d, (.c (.o (.lf .sl))), .d]) .z)))
def spec.FlowNext.vc (list : Sl) (at_ : Int) (w : World) (K : Sl → World → Prop) : Prop :=
CallT (.o (.lf .b)) P0 54 [list.v] w fun (t6 : Bool) w_ =>
((!t6) = true → K ⟨none, 0, 0⟩ w_) ∧
((!t6) = false → CallT (.o (.lf .b)) P0 61 [(.int .i64 at_), (.int .i64 0), (.int .i64 (IntKind.wrap .i64 (((list.n : Nat) : Int) - 1)))] w_ fun (t13 : Bool) w__1 =>
((!t13) = true → K ⟨none, 0, 0⟩ w__1) ∧
((!t13) = false → CallT (.o (.lf .sl)) P0 65 [list.v, (.int .i64 at_)] w__1 fun (t18 : Sl) w__2 =>
K t18 w__2))
theorem spec.FlowNext.ok {list : Sl} {at_ : Int} {w : World} {K : Sl → World → Prop} (h : spec.FlowNext.vc list at_ w K) : CallT (.o (.lf .sl)) P0 31 [list.v, (.int .i64 at_)] w K :=
  call_of Try.func31 rfl rfl (pl := spec.FlowNext.pl) (show VC P0 Try.f31 spec.FlowNext.pl (.o (.lf .sl)) [list.v, (.int .i64 at_)] w K noP from Eq.mp (by kernel_rfl) h)
/- impl.ahead -/
def impl.ahead.pl : Pl := (.s (.r (D 1)) (.s (.r [.d, .d, .d, (.l (.ag (R 6 (.i .i64)))), .d, .d]) (.s (.b (.s (.r [.d, (.l (.lf (.i .i64))), .d, .d]) (.c (.s (.r (D 1)) .z) (.s (.r [.d, (.l (.lf (.i .i64))), .d, .d]) (.c (.s (.r [.d, .d, (.c (.o (.lf (.i .i64)))), .d, .d]) .z) (.s (.r [.d, (.l (.lf (.i .i64))), (.c (.o (.lf .b))), .d]) (.c (.s (.r [.d, .d, .d, .d, (.c (.o (.lf (.i .i64)))), .d, .d]) (.s (.r [.d, (.c .z)]) (.s (.r [.d, (.c (.o (.lf .sl))), (.c (.o (.lf .sl))), .d]) .z))) .z))))))) (.s (.r (D 4)) .z))))
def impl.ahead.vc (list : Sl) (at_ : Int) (w : World) (K : Sl → World → Prop) : Prop :=
Ix list.a list.n at_ 6 w fun a_t9 w_ =>
LdA (R 6 (.i .i64)) a_t9 w_ fun (t10 : Tup (R 6 (.i .i64))) w__1 =>
Nw (zc P0 51) 51 w__1 fun a_x w__2 =>
StA P0 a_x (Tup.cells (R 6 (.i .i64)) t10) w__2 fun w__3 =>
Ld (.i .i64) (Addr.add a_x 0) w__3 fun (t13 : Int) w__4 =>
(((t13 : Int) == 20) = true → K ⟨none, 0, 0⟩ w__4) ∧
(((t13 : Int) == 20) = false → Ld (.i .i64) (Addr.add a_x 0) w__4 fun (t17 : Int) w__5 =>
(((t17 : Int) == 16) = true → CallT (.o (.lf (.i .i64))) P0 58 [list.v, (.int .i64 at_)] w__5 fun (t21 : Int) w__6 =>
Nw #[(.int .i64 t21)] 3 w__6 fun a_t22 w__7 =>
K ⟨(some a_t22), 1, 1⟩ w__7) ∧
(((t17 : Int) == 16) = false → Ld (.i .i64) (Addr.add a_x 0) w__5 fun (t25 : Int) w__8 =>
CallT (.o (.lf .b)) P0 85 [(.int .i64 t25)] w__8 fun (t26 : Bool) w__9 =>
(t26 = true → CallT (.o (.lf (.i .i64))) P0 58 [list.v, (.int .i64 at_)] w__9 fun (t31 : Int) w__10 =>
Nw #[(.int .i64 (IntKind.wrap .i64 (at_ + 1))), (.int .i64 t31)] 3 w__10 fun a_t32 w__11 =>
CallT .z P0 84 [(.slice (some a_t32) 2 2)] w__11 fun (u : Unit) w__12 =>
CallT (.o (.lf .sl)) P0 87 [(.slice (some a_t32) 2 2)] w__12 fun (t36 : Sl) w__13 =>
CallT (.o (.lf .sl)) P0 86 [t36.v] w__13 fun (t37 : Sl) w__14 =>
K t37 w__14) ∧
(t26 = false → Nw #[(.int .i64 (IntKind.wrap .i64 (at_ + 1)))] 3 w__9 fun a_t40 w__15 =>
K ⟨(some a_t40), 1, 1⟩ w__15)))
theorem impl.ahead.ok {list : Sl} {at_ : Int} {w : World} {K : Sl → World → Prop} (h : impl.ahead.vc list at_ w K) : CallT (.o (.lf .sl)) P0 67 [list.v, (.int .i64 at_)] w K :=
  call_of Try.func67 rfl rfl (pl := impl.ahead.pl) (show VC P0 Try.f67 impl.ahead.pl (.o (.lf .sl)) [list.v, (.int .i64 at_)] w K noP from Eq.mp (by kernel_rfl) h)
/- impl.FlowNext -/
def impl.FlowNext.pl : Pl := (.s (.r (D 1)) (.s (.s (.r [.d, (.c (.o (.lf (.i .i64)))), .d, (.sp .d), .d, .d, .d, .d, (.c (.o (.lf .b))), .d, .d]) (.c (.s (.r (D 1)) .z) .z)) (.s (.r [.d, .d, (.c (.o (.lf .sl))), .d]) .z)))
def impl.FlowNext.vc (list : Sl) (at_ : Int) (w : World) (K : Sl → World → Prop) : Prop :=
CallT (.o (.lf (.i .i64))) P0 43 [list.v] w fun (t6 : Int) w_ =>
(((t6 : Int) != 0) = true → K ⟨none, 0, 0⟩ w_) ∧
(((t6 : Int) != 0) = false → CallT (.o (.lf .b)) P0 66 [(.int .i64 at_), (.int .i64 0), (.int .i64 (IntKind.wrap .i64 (((list.n : Nat) : Int) - 1)))] w_ fun (t13 : Bool) w__1 =>
((!t13) = true → K ⟨none, 0, 0⟩ w__1) ∧
((!t13) = false → CallT (.o (.lf .sl)) P0 67 [list.v, (.int .i64 at_)] w__1 fun (t18 : Sl) w__2 =>
K t18 w__2))
theorem impl.FlowNext.ok {list : Sl} {at_ : Int} {w : World} {K : Sl → World → Prop} (h : impl.FlowNext.vc list at_ w K) : CallT (.o (.lf .sl)) P0 32 [list.v, (.int .i64 at_)] w K :=
  call_of Try.func32 rfl rfl (pl := impl.FlowNext.pl) (show VC P0 Try.f32 impl.FlowNext.pl (.o (.lf .sl)) [list.v, (.int .i64 at_)] w K noP from Eq.mp (by kernel_rfl) h)
/- slices.Clip[[]int,int] -/
def slices.Clip_int.pl : Pl := (.s (.r (D 1)) (.s (.r [.d, .d, .d, .d, .d, (.t (.o (.lf .sl))), .d]) .z))
def slices.Clip_int.vc (s : Sl) (w : World) (K : Sl → World → Prop) : Prop :=
RunT (.o (.lf .sl)) P0 (Instr.sliceAt 31 s.v none (some (.int .i64 ((s.n : Nat) : Int))) (some (.int .i64 ((s.n : Nat) : Int)))) w fun (t8 : Sl) w_ =>
K t8 w_
theorem slices.Clip_int.ok {s : Sl} {w : World} {K : Sl → World → Prop} (h : slices.Clip_int.vc s w K) : CallT (.o (.lf .sl)) P0 86 [s.v] w K :=
  call_of Try.func86 rfl rfl (pl := slices.Clip_int.pl) (show VC P0 Try.f86 slices.Clip_int.pl (.o (.lf .sl)) [s.v] w K noP from Eq.mp (by kernel_rfl) h)
/- laws.szInsS -/
def laws.szInsS.pl : Pl := (.s (.r (D 1)) (.s (.r (D 5)) (.s (.s (.r (D 2)) (.c (.s (.r (D 1)) .z) .z)) (.s (.r (D 2)) .z))))
def laws.szInsS.vc (a : Sl) (left : Int) (w : World) (K : Int → World → Prop) : Prop :=
((decide (((IntKind.wrap .i64 (left - ((a.n : Nat) : Int))) : Int) < 0)) = true → K (-1) w) ∧
((decide (((IntKind.wrap .i64 (left - ((a.n : Nat) : Int))) : Int) < 0)) = false → K (IntKind.wrap .i64 (left - ((a.n : Nat) : Int))) w)
theorem laws.szInsS.ok {a : Sl} {left : Int} {w : World} {K : Int → World → Prop} (h : laws.szInsS.vc a left w K) : CallT (.o (.lf (.i .i64))) P0 20 [a.v, (.int .i64 left)] w K :=
  call_of Try.func20 rfl rfl (pl := laws.szInsS.pl) (show VC P0 Try.f20 laws.szInsS.pl (.o (.lf (.i .i64))) [a.v, (.int .i64 left)] w K noP from Eq.mp (by kernel_rfl) h)
/- laws.toIns -/
def laws.toIns.pl : Pl := (.s (.r (D 2)) (.s (.r (D 1)) (.s (.r [.d, (.l (.lf (.i .i64))), .d, .d]) (.s (.r [.d, (.l (.lf (.i .i64))), .d, .d]) (.s (.r [.d, (.l (.lf (.i .i64))), .d, .d]) (.s (.r [.d, (.l (.lf (.i .i64))), .d, .d]) (.s (.r [.d, (.l (.lf (.i .i64))), .d, .d]) (.s (.r [.d, (.l (.lf (.i .i64))), .d, .d]) (.s (.r [(.l (.ag (R 6 (.i .i64)))), .d]) .z)))))))))
def laws.toIns.vc (a : Tup (R 6 (.i .i64))) (w : World) (K : Tup (R 6 (.i .i64)) → World → Prop) : Prop :=
Nw (Tup.cells (R 6 (.i .i64)) a).toArray 67 w fun a_a w_ =>
Nw (zc P0 51) 51 w_ fun a_t2 w__1 =>
Nw (zc P0 51) 51 w__1 fun a_out w__2 =>
Ld (.i .i64) (Addr.add a_a 0) w__2 fun (t5 : Int) w__3 =>
St (Addr.add a_out 0) (.int .i64 t5) w__3 fun w__4 =>
Ld (.i .i64) (Addr.add a_a 1) w__4 fun (t8 : Int) w__5 =>
St (Addr.add a_out 1) (.int .i64 t8) w__5 fun w__6 =>
Ld (.i .i64) (Addr.add a_a 2) w__6 fun (t11 : Int) w__7 =>
St (Addr.add a_out 2) (.int .i64 t11) w__7 fun w__8 =>
Ld (.i .i64) (Addr.add a_a 3) w__8 fun (t14 : Int) w__9 =>
St (Addr.add a_out 3) (.int .i64 t14) w__9 fun w__10 =>
Ld (.i .i64) (Addr.add a_a 4) w__10 fun (t17 : Int) w__11 =>
St (Addr.add a_out 4) (.int .i64 t17) w__11 fun w__12 =>
Ld (.i .i64) (Addr.add a_a 5) w__12 fun (t20 : Int) w__13 =>
St (Addr.add a_out 5) (.int .i64 t20) w__13 fun w__14 =>
LdA (R 6 (.i .i64)) a_out w__14 fun (t22 : Tup (R 6 (.i .i64))) w__15 =>
StA P0 a_t2 (Tup.cells (R 6 (.i .i64)) t22) w__15 fun w__16 =>
LdA (R 6 (.i .i64)) a_t2 w__16 fun r w__17 =>
K r w__16
theorem laws.toIns.ok {a : Tup (R 6 (.i .i64))} {w : World} {K : Tup (R 6 (.i .i64)) → World → Prop} (h : laws.toIns.vc a w K) : CallT (.o (.ag (R 6 (.i .i64)))) P0 56 [(.agg (Tup.cells (R 6 (.i .i64)) a).toArray)] w K :=
  call_of Try.func56 rfl rfl (pl := laws.toIns.pl) (show VC P0 Try.f56 laws.toIns.pl (.o (.ag (R 6 (.i .i64)))) [(.agg (Tup.cells (R 6 (.i .i64)) a).toArray)] w K noP from Eq.mp (by kernel_rfl) h)
/- laws.toInsS -/
def laws.toInsS.pl : Pl := (.s (.r (D 1)) (.s (.r [.d, .d, (.t (.o (.lf .sl))), .d]) (.s (.s (.r (D 1)) (.b (.l [(4, (.i .i64))] (.s (.s (.r (D 4)) (.c .z .z)) (.s (.b (.r [.d, .d, .d, .d, .d, (.l (.ag (R 6 (.i .i64)))), (.c (.o (.ag (R 6 (.i .i64))))), .d, .d])) (.r (D 3))))))) (.s (.r (D 2)) .z))))
def laws.toInsS.vc (a : Sl) (w : World) (K : Sl → World → Prop) : Prop :=
RunT (.o (.lf .sl)) P0 (Instr.makeSlice 33 (.int .i64 ((a.n : Nat) : Int)) (.int .i64 ((a.n : Nat) : Int))) w fun (t7 : Sl) w_ =>
∃ (I : Int → World → Prop) (M : Int → World → Nat),
I 0 w_ ∧
(∀ (i : Int) w__1, I i w__1 → ∀ _ : Nat → Value,
((decide ((i : Int) < ((a.n : Nat) : Int))) = true → Ix a.a a.n i 6 w__1 fun a_t18 w__2 =>
LdA (R 6 (.i .i64)) a_t18 w__2 fun (t19 : Tup (R 6 (.i .i64))) w__3 =>
CallT (.o (.ag (R 6 (.i .i64)))) P0 56 [(.agg (Tup.cells (R 6 (.i .i64)) t19).toArray)] w__3 fun (t20 : Tup (R 6 (.i .i64))) w__4 =>
Ix t7.a t7.n i 6 w__4 fun a_t21 w__5 =>
StA P0 a_t21 (Tup.cells (R 6 (.i .i64)) t20) w__5 fun w__6 =>
(I (IntKind.wrap .i64 (i + 1)) w__6 ∧ M (IntKind.wrap .i64 (i + 1)) w__6 < M i w__1)) ∧
((decide ((i : Int) < ((a.n : Nat) : Int))) = false → K t7 w__1))
theorem laws.toInsS.ok {a : Sl} {w : World} {K : Sl → World → Prop} (h : laws.toInsS.vc a w K) : CallT (.o (.lf .sl)) P0 22 [a.v] w K :=
  call_of Try.func22 rfl rfl (pl := laws.toInsS.pl) (show VC P0 Try.f22 laws.toInsS.pl (.o (.lf .sl)) [a.v] w K noP from Eq.mp (by kernel_rfl) h)
/- laws.eqIns -/
def laws.eqIns.pl : Pl := (.s (.r (D 3)) (.s (.s (.r [.d, (.l (.lf (.i .i64))), .d, (.l (.lf (.i .i64))), .d]) (.c (.s (.r (D 1)) .z) .z)) (.s (.s (.r [.d, (.l (.lf (.i .i64))), .d, (.l (.lf (.i .i64))), .d]) (.c (.s (.r (D 1)) .z) .z)) (.s (.s (.r [.d, (.l (.lf (.i .i64))), .d, (.l (.lf (.i .i64))), .d]) (.c (.s (.r (D 1)) .z) .z)) (.s (.s (.r [.d, (.l (.lf (.i .i64))), .d, (.l (.lf (.i .i64))), .d]) (.c (.s (.r (D 1)) .z) .z)) (.s (.s (.r [.d, (.l (.lf (.i .i64))), .d, (.l (.lf (.i .i64))), .d]) (.c (.s (.r (D 1)) .z) .z)) (.s (.s (.r [.d, (.l (.lf (.i .i64))), .d, (.l (.lf (.i .i64))), .d]) (.c (.s (.r (D 1)) .z) .z)) (.s (.r (D 1)) .z))))))))
def laws.eqIns.vc (a : Tup (R 6 (.i .i64))) (b : Tup (R 6 (.i .i64))) (w : World) (K : Bool → World → Prop) : Prop :=
Nw (Tup.cells (R 6 (.i .i64)) a).toArray 51 w fun a_a w_ =>
Nw (Tup.cells (R 6 (.i .i64)) b).toArray 51 w_ fun a_b w__1 =>
Ld (.i .i64) (Addr.add a_a 0) w__1 fun (t6 : Int) w__2 =>
Ld (.i .i64) (Addr.add a_b 0) w__2 fun (t8 : Int) w__3 =>
(((t6 : Int) != t8) = true → K false w__3) ∧
(((t6 : Int) != t8) = false → Ld (.i .i64) (Addr.add a_a 1) w__3 fun (t11 : Int) w__4 =>
Ld (.i .i64) (Addr.add a_b 1) w__4 fun (t13 : Int) w__5 =>
(((t11 : Int) != t13) = true → K false w__5) ∧
(((t11 : Int) != t13) = false → Ld (.i .i64) (Addr.add a_a 2) w__5 fun (t16 : Int) w__6 =>
Ld (.i .i64) (Addr.add a_b 2) w__6 fun (t18 : Int) w__7 =>
(((t16 : Int) != t18) = true → K false w__7) ∧
(((t16 : Int) != t18) = false → Ld (.i .i64) (Addr.add a_a 3) w__7 fun (t21 : Int) w__8 =>
Ld (.i .i64) (Addr.add a_b 3) w__8 fun (t23 : Int) w__9 =>
(((t21 : Int) != t23) = true → K false w__9) ∧
(((t21 : Int) != t23) = false → Ld (.i .i64) (Addr.add a_a 4) w__9 fun (t26 : Int) w__10 =>
Ld (.i .i64) (Addr.add a_b 4) w__10 fun (t28 : Int) w__11 =>
(((t26 : Int) != t28) = true → K false w__11) ∧
(((t26 : Int) != t28) = false → Ld (.i .i64) (Addr.add a_a 5) w__11 fun (t31 : Int) w__12 =>
Ld (.i .i64) (Addr.add a_b 5) w__12 fun (t33 : Int) w__13 =>
(((t31 : Int) != t33) = true → K false w__13) ∧
(((t31 : Int) != t33) = false → K true w__13))))))
theorem laws.eqIns.ok {a : Tup (R 6 (.i .i64))} {b : Tup (R 6 (.i .i64))} {w : World} {K : Bool → World → Prop} (h : laws.eqIns.vc a b w K) : CallT (.o (.lf .b)) P0 60 [(.agg (Tup.cells (R 6 (.i .i64)) a).toArray), (.agg (Tup.cells (R 6 (.i .i64)) b).toArray)] w K :=
  call_of Try.func60 rfl rfl (pl := laws.eqIns.pl) (show VC P0 Try.f60 laws.eqIns.pl (.o (.lf .b)) [(.agg (Tup.cells (R 6 (.i .i64)) a).toArray), (.agg (Tup.cells (R 6 (.i .i64)) b).toArray)] w K noP from Eq.mp (by kernel_rfl) h)
/- laws.eqInsS -/
def laws.eqInsS.pl : Pl := (.s (.r (D 1)) (.s (.s (.r (D 5)) (.c (.s (.r (D 1)) .z) .z)) (.s (.s (.r (D 1)) (.b (.l [(5, (.i .i64))] (.s (.s (.r (D 4)) (.c .z .z)) (.s (.b (.s (.r [.d, .d, .d, (.l (.ag (R 6 (.i .i64)))), .d, .d, .d, (.l (.ag (R 6 (.i .i64)))), (.c (.o (.lf .b))), .d]) (.c (.s (.r (D 1)) .z) .z))) (.r (D 3))))))) (.s (.r (D 1)) .z))))
def laws.eqInsS.vc (a : Sl) (b : Sl) (w : World) (K : Bool → World → Prop) : Prop :=
(((((a.n : Nat) : Int) : Int) != ((b.n : Nat) : Int)) = true → K false w) ∧
(((((a.n : Nat) : Int) : Int) != ((b.n : Nat) : Int)) = false → ∃ (I : Int → World → Prop) (M : Int → World → Nat),
I 0 w ∧
(∀ (i : Int) w_, I i w_ → ∀ _ : Nat → Value,
((decide ((i : Int) < ((a.n : Nat) : Int))) = true → QIx a.a a.n i 6 fun a_t19 =>
QLdA (R 6 (.i .i64)) a_t19 (fun w' => Below (World.heap w_).size w_ w') fun (t20 : Tup (R 6 (.i .i64))) =>
QIx b.a b.n i 6 fun a_t23 =>
QLdA (R 6 (.i .i64)) a_t23 (fun w' => Below (World.heap w_).size w_ w') fun (t24 : Tup (R 6 (.i .i64))) =>
QCl (.o (.lf .b)) P0 60 [(.agg (Tup.cells (R 6 (.i .i64)) t20).toArray), (.agg (Tup.cells (R 6 (.i .i64)) t24).toArray)] (fun w' => Below (World.heap w_).size w_ w') fun (t25 : Bool) =>
∀ w__1, Below (World.heap w_).size w_ w__1 →
((!t25) = true → K false w__1) ∧
((!t25) = false → (I (IntKind.wrap .i64 (i + 1)) w__1 ∧ M (IntKind.wrap .i64 (i + 1)) w__1 < M i w_))) ∧
((decide ((i : Int) < ((a.n : Nat) : Int))) = false → K true w_)))
theorem laws.eqInsS.ok {a : Sl} {b : Sl} {w : World} {K : Bool → World → Prop} (h : laws.eqInsS.vc a b w K) : CallT (.o (.lf .b)) P0 25 [a.v, b.v] w K :=
  call_of Try.func25 rfl rfl (pl := laws.eqInsS.pl) (show VC P0 Try.f25 laws.eqInsS.pl (.o (.lf .b)) [a.v, b.v] w K noP from Eq.mp (by kernel_rfl) h)
/- laws.eqIntS -/
def laws.eqIntS.pl : Pl := (.s (.r (D 1)) (.s (.s (.r (D 5)) (.c (.s (.r (D 1)) .z) .z)) (.s (.s (.r (D 1)) (.b (.l [(5, (.i .i64))] (.s (.s (.r (D 4)) (.c .z .z)) (.s (.b (.s (.r [.d, .d, .d, (.l (.lf (.i .i64))), .d, .d, .d, (.l (.lf (.i .i64))), .d]) (.c (.s (.r (D 1)) .z) .z))) (.r (D 3))))))) (.s (.r (D 1)) .z))))
def laws.eqIntS.vc (a : Sl) (b : Sl) (w : World) (K : Bool → World → Prop) : Prop :=
(((((a.n : Nat) : Int) : Int) != ((b.n : Nat) : Int)) = true → K false w) ∧
(((((a.n : Nat) : Int) : Int) != ((b.n : Nat) : Int)) = false → ∃ (I : Int → World → Prop) (M : Int → World → Nat),
I 0 w ∧
(∀ (i : Int) w_, I i w_ → ∀ _ : Nat → Value,
((decide ((i : Int) < ((a.n : Nat) : Int))) = true → QIx a.a a.n i 1 fun a_t19 =>
QLd (.i .i64) a_t19 (fun w' => Below (World.heap w_).size w_ w') fun (t20 : Int) =>
QIx b.a b.n i 1 fun a_t23 =>
QLd (.i .i64) a_t23 (fun w' => Below (World.heap w_).size w_ w') fun (t24 : Int) =>
∀ w__1, Below (World.heap w_).size w_ w__1 →
(((t20 : Int) != t24) = true → K false w__1) ∧
(((t20 : Int) != t24) = false → (I (IntKind.wrap .i64 (i + 1)) w__1 ∧ M (IntKind.wrap .i64 (i + 1)) w__1 < M i w_))) ∧
((decide ((i : Int) < ((a.n : Nat) : Int))) = false → K true w_)))
theorem laws.eqIntS.ok {a : Sl} {b : Sl} {w : World} {K : Bool → World → Prop} (h : laws.eqIntS.vc a b w K) : CallT (.o (.lf .b)) P0 24 [a.v, b.v] w K :=
  call_of Try.func24 rfl rfl (pl := laws.eqIntS.pl) (show VC P0 Try.f24 laws.eqIntS.pl (.o (.lf .b)) [a.v, b.v] w K noP from Eq.mp (by kernel_rfl) h)
/- laws.markInsS -/
def laws.markInsS.pl : Pl := (.s (.r (D 1)) (.s (.s (.r (D 1)) (.b (.l [(1, (.i .i64)), (5, (.i .i64))] (.s (.s (.r (D 4)) (.c .z .z)) (.s (.b (.s (.r (D 6)) (.s (.r (D 3)) (.s (.r (D 6)) (.s (.r (D 3)) (.s (.r (D 6)) (.s (.r (D 3)) (.s (.r (D 6)) (.s (.r (D 3)) (.s (.r (D 6)) (.s (.r (D 3)) (.s (.r (D 6)) (.r (D 3)))))))))))))) (.r (D 3))))))) (.s (.r (D 2)) .z)))
def laws.markInsS.vc (a : Sl) (k : Int) (w : World) (K : Int → World → Prop) : Prop :=
∃ (I : Int → Int → World → Prop) (M : Int → Int → World → Nat),
I k 0 w ∧
(∀ (k_1 : Int) (i : Int) w_, I k_1 i w_ → ∀ _ : Nat → Value,
((decide ((i : Int) < ((a.n : Nat) : Int))) = true → Ix a.a a.n i 6 w_ fun a_t15 w__1 =>
St (Addr.add a_t15 0) (.int .i64 k_1) w__1 fun w__2 =>
Ix a.a a.n i 6 w__2 fun a_t22 w__3 =>
St (Addr.add a_t22 1) (.int .i64 (IntKind.wrap .i64 (k_1 + 1))) w__3 fun w__4 =>
Ix a.a a.n i 6 w__4 fun a_t29 w__5 =>
St (Addr.add a_t29 2) (.int .i64 (IntKind.wrap .i64 ((IntKind.wrap .i64 (k_1 + 1)) + 1))) w__5 fun w__6 =>
Ix a.a a.n i 6 w__6 fun a_t36 w__7 =>
St (Addr.add a_t36 3) (.int .i64 (IntKind.wrap .i64 ((IntKind.wrap .i64 ((IntKind.wrap .i64 (k_1 + 1)) + 1)) + 1))) w__7 fun w__8 =>
Ix a.a a.n i 6 w__8 fun a_t43 w__9 =>
St (Addr.add a_t43 4) (.int .i64 (IntKind.wrap .i64 ((IntKind.wrap .i64 ((IntKind.wrap .i64 ((IntKind.wrap .i64 (k_1 + 1)) + 1)) + 1)) + 1))) w__9 fun w__10 =>
Ix a.a a.n i 6 w__10 fun a_t50 w__11 =>
St (Addr.add a_t50 5) (.int .i64 (IntKind.wrap .i64 ((IntKind.wrap .i64 ((IntKind.wrap .i64 ((IntKind.wrap .i64 ((IntKind.wrap .i64 (k_1 + 1)) + 1)) + 1)) + 1)) + 1))) w__11 fun w__12 =>
(I (IntKind.wrap .i64 ((IntKind.wrap .i64 ((IntKind.wrap .i64 ((IntKind.wrap .i64 ((IntKind.wrap .i64 ((IntKind.wrap .i64 (k_1 + 1)) + 1)) + 1)) + 1)) + 1)) + 1)) (IntKind.wrap .i64 (i + 1)) w__12 ∧ M (IntKind.wrap .i64 ((IntKind.wrap .i64 ((IntKind.wrap .i64 ((IntKind.wrap .i64 ((IntKind.wrap .i64 ((IntKind.wrap .i64 (k_1 + 1)) + 1)) + 1)) + 1)) + 1)) + 1)) (IntKind.wrap .i64 (i + 1)) w__12 < M k_1 i w_)) ∧
((decide ((i : Int) < ((a.n : Nat) : Int))) = false → K k_1 w_))
theorem laws.markInsS.ok {a : Sl} {k : Int} {w : World} {K : Int → World → Prop} (h : laws.markInsS.vc a k w K) : CallT (.o (.lf (.i .i64))) P0 26 [a.v, (.int .i64 k)] w K :=
  call_of Try.func26 rfl rfl (pl := laws.markInsS.pl) (show VC P0 Try.f26 laws.markInsS.pl (.o (.lf (.i .i64))) [a.v, (.int .i64 k)] w K noP from Eq.mp (by kernel_rfl) h)
/- laws.markIntS -/
def laws.markIntS.pl : Pl := (.s (.r (D 1)) (.s (.s (.r (D 1)) (.b (.l [(1, (.i .i64)), (5, (.i .i64))] (.s (.s (.r (D 4)) (.c .z .z)) (.s (.b (.s (.r (D 5)) (.r (D 3)))) (.r (D 3))))))) (.s (.r (D 2)) .z)))
def laws.markIntS.vc (a : Sl) (k : Int) (w : World) (K : Int → World → Prop) : Prop :=
∃ (I : Int → Int → World → Prop) (M : Int → Int → World → Nat),
I k 0 w ∧
(∀ (k_1 : Int) (i : Int) w_, I k_1 i w_ → ∀ _ : Nat → Value,
((decide ((i : Int) < ((a.n : Nat) : Int))) = true → Ix a.a a.n i 1 w_ fun a_t15 w__1 =>
St a_t15 (.int .i64 k_1) w__1 fun w__2 =>
(I (IntKind.wrap .i64 (k_1 + 1)) (IntKind.wrap .i64 (i + 1)) w__2 ∧ M (IntKind.wrap .i64 (k_1 + 1)) (IntKind.wrap .i64 (i + 1)) w__2 < M k_1 i w_)) ∧
((decide ((i : Int) < ((a.n : Nat) : Int))) = false → K k_1 w_))
theorem laws.markIntS.ok {a : Sl} {k : Int} {w : World} {K : Int → World → Prop} (h : laws.markIntS.vc a k w K) : CallT (.o (.lf (.i .i64))) P0 27 [a.v, (.int .i64 k)] w K :=
  call_of Try.func27 rfl rfl (pl := laws.markIntS.pl) (show VC P0 Try.f27 laws.markIntS.pl (.o (.lf (.i .i64))) [a.v, (.int .i64 k)] w K noP from Eq.mp (by kernel_rfl) h)
/- laws.heldIntS -/
def laws.heldIntS.pl : Pl := (.s (.r (D 1)) (.s (.s (.r (D 1)) (.b (.l [(1, (.i .i64)), (5, (.i .i64))] (.s (.s (.r (D 4)) (.c .z .z)) (.s (.b (.s (.s (.r [.d, .d, .d, (.l (.lf (.i .i64))), .d, .d]) (.c (.s (.r (D 1)) .z) .z)) (.r (D 3)))) (.r (D 3))))))) (.s (.r (D 2)) .z)))
def laws.heldIntS.vc (a : Sl) (k : Int) (w : World) (K : Int → World → Prop) : Prop :=
∃ (I : Int → Int → World → Prop) (M : Int → Int → World → Nat),
I k 0 w ∧
(∀ (k_1 : Int) (i : Int) w_, I k_1 i w_ → ∀ _ : Nat → Value,
((decide ((i : Int) < ((a.n : Nat) : Int))) = true → Ix a.a a.n i 1 w_ fun a_t14 w__1 =>
Ld (.i .i64) a_t14 w__1 fun (t15 : Int) w__2 =>
(((t15 : Int) != k_1) = true → K (-1) w__2) ∧
(((t15 : Int) != k_1) = false → (I (IntKind.wrap .i64 (k_1 + 1)) (IntKind.wrap .i64 (i + 1)) w__2 ∧ M (IntKind.wrap .i64 (k_1 + 1)) (IntKind.wrap .i64 (i + 1)) w__2 < M k_1 i w_))) ∧
((decide ((i : Int) < ((a.n : Nat) : Int))) = false → K k_1 w_))
theorem laws.heldIntS.ok {a : Sl} {k : Int} {w : World} {K : Int → World → Prop} (h : laws.heldIntS.vc a k w K) : CallT (.o (.lf (.i .i64))) P0 28 [a.v, (.int .i64 k)] w K :=
  call_of Try.func28 rfl rfl (pl := laws.heldIntS.pl) (show VC P0 Try.f28 laws.heldIntS.pl (.o (.lf (.i .i64))) [a.v, (.int .i64 k)] w K noP from Eq.mp (by kernel_rfl) h)
/- laws.FnExactFlowNext -/
def laws.FnExactFlowNext.pl : Pl := (.s (.r (D 1)) (.s (.r (D 1)) (.s (.r [.d, .d, (.c (.o (.lf (.i .i64)))), .d]) (.s (.s (.r (D 2)) (.c (.s (.r (D 1)) .z) .z)) (.s (.r [.d, (.c (.o (.lf .sl))), .d, (.c (.o (.lf .sl))), .d]) (.s (.r [.d, (.c (.o (.lf .sl))), .d]) (.s (.r [.d, .d, (.c (.o (.lf .sl))), .d]) (.s (.s (.r [.d, .d, (.c (.o (.lf .b))), .d]) (.c (.s (.r (D 1)) .z) .z)) (.s (.s (.r [.d, .d, (.c (.o (.lf .sl))), (.c (.o (.lf .b))), .d]) (.c (.s (.r (D 1)) .z) .z)) (.s (.r (D 1)) (.s (.r [.d, .d, (.c (.o (.lf (.i .i64)))), .d]) (.j [] (.s (.r [.d, .d, (.sp .d), .d, .d, (.c (.o (.lf .b))), .d, .d]) (.c (.s (.r (D 1)) .z) .z)) (.s (.r (D 1)) (.s (.r [.d, .d, (.c (.o (.lf (.i .i64)))), .d]) (.s (.r (D 1)) (.s (.r [.d, .d, (.c (.o (.lf (.i .i64)))), .d]) (.s (.s (.r (D 2)) (.c (.s (.r (D 1)) .z) .z)) (.s (.s (.r (D 3)) (.c (.s (.r (D 1)) .z) .z)) (.s (.r [.d, (.c (.o (.lf .sl))), .d, (.c (.o (.lf .sl))), .d]) (.s (.s (.r [.d, .d, (.c (.o (.lf .b))), .d]) (.c (.s (.r (D 1)) .z) .z)) (.s (.r (D 1)) (.s (.r [.d, .d, (.c (.o (.lf (.i .i64)))), .d]) (.s (.s (.r (D 2)) (.c (.s (.r (D 1)) .z) .z)) (.s (.s (.r (D 3)) (.c (.s (.r (D 1)) .z) .z)) (.s (.r (D 1)) .z)))))))))))))))))))))))))
def laws.FnExactFlowNext.vc (aList : Sl) (aAt : Int) (w : World) (K : Bool → World → Prop) : Prop :=
CallT (.o (.lf (.i .i64))) P0 20 [aList.v, (.int .i64 1048576)] w fun (t15 : Int) w_ =>
((decide ((t15 : Int) < 0)) = true → K true w_) ∧
((decide ((t15 : Int) < 0)) = false → CallT (.o (.lf .sl)) P0 22 [aList.v] w_ fun (t19 : Sl) w__1 =>
CallT (.o (.lf .sl)) P0 31 [t19.v, (.int .i64 aAt)] w__1 fun (t21 : Sl) w__2 =>
CallT (.o (.lf .sl)) P0 22 [aList.v] w__2 fun (t23 : Sl) w__3 =>
CallT (.o (.lf .sl)) P0 32 [t23.v, (.int .i64 aAt)] w__3 fun (t26 : Sl) w__4 =>
CallT (.o (.lf .b)) P0 24 [t26.v, t21.v] w__4 fun (t29 : Bool) w__5 =>
((!t29) = true → K false w__5) ∧
((!t29) = false → CallT (.o (.lf .sl)) P0 22 [aList.v] w__5 fun (t33 : Sl) w__6 =>
CallT (.o (.lf .b)) P0 25 [t23.v, t33.v] w__6 fun (t34 : Bool) w__7 =>
((!t34) = true → K false w__7) ∧
((!t34) = false → CallT (.o (.lf (.i .i64))) P0 26 [t23.v, (.int .i64 1)] w__7 fun (t38 : Int) w__8 =>
∃ J : World → Prop,
(((decide ((t38 : Int) < 0)) = true → K false w__8) ∧
((decide ((t38 : Int) < 0)) = false → CallT (.o (.lf .b)) P0 24 [t26.v, t21.v] w__8 fun (t44 : Bool) w__9 =>
((!t44) = true → K false w__9) ∧
((!t44) = false → J w__9))) ∧
(∀  w__10, J w__10 → ∀ _ : Nat → Value,
CallT (.o (.lf (.i .i64))) P0 27 [t26.v, (.int .i64 1)] w__10 fun (t49 : Int) w__11 =>
CallT (.o (.lf (.i .i64))) P0 28 [t26.v, (.int .i64 1)] w__11 fun (t52 : Int) w__12 =>
((decide ((t52 : Int) < 0)) = true → K false w__12) ∧
((decide ((t52 : Int) < 0)) = false → (((t52 : Int) != t49) = true → K false w__12) ∧
(((t52 : Int) != t49) = false → CallT (.o (.lf .sl)) P0 22 [aList.v] w__12 fun (t59 : Sl) w__13 =>
CallT (.o (.lf .sl)) P0 32 [t59.v, (.int .i64 aAt)] w__13 fun (t61 : Sl) w__14 =>
CallT (.o (.lf .b)) P0 24 [t61.v, t21.v] w__14 fun (t64 : Bool) w__15 =>
((!t64) = true → K false w__15) ∧
((!t64) = false → CallT (.o (.lf (.i .i64))) P0 28 [t26.v, (.int .i64 1)] w__15 fun (t68 : Int) w__16 =>
((decide ((t68 : Int) < 0)) = true → K false w__16) ∧
((decide ((t68 : Int) < 0)) = false → (((t68 : Int) != t49) = true → K false w__16) ∧
(((t68 : Int) != t49) = false → K true w__16)))))))))
theorem laws.FnExactFlowNext.ok {aList : Sl} {aAt : Int} {w : World} {K : Bool → World → Prop} (h : laws.FnExactFlowNext.vc aList aAt w K) : CallT (.o (.lf .b)) P0 6 [aList.v, (.int .i64 aAt)] w K :=
  call_of Try.func6 rfl rfl (pl := laws.FnExactFlowNext.pl) (show VC P0 Try.f6 laws.FnExactFlowNext.pl (.o (.lf .b)) [aList.v, (.int .i64 aAt)] w K noP from Eq.mp (by kernel_rfl) h)
end Go.Proofs.Ytdgnojjemlfhdaa.V
