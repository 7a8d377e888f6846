/- Verification conditions, printed by this session's own program (wip/vc.py) and checked by the kernel. -/
import Derived.Test.YtdgnojjemlfhdaaVP
namespace Go.Proofs.Ytdgnojjemlfhdaa.V
open Go Go.RowKit
set_option linter.unusedVariables false
/- impl.FlowBlocks -/
def impl.FlowBlocks.pl : Pl := (.s (.r (D 1)) (.s (.s (.r [.d, (.c (.o (.lf (.i .i64)))), .d]) (.c (.s (.r (D 1)) .z) .z)) (.s (.r [(.t (.o (.lf .m))), .u, .d, .d]) (.s (.s (.r (D 3)) (.b (.l [(13, (.i .i64))] (.s (.r (D 1)) (.s (.c .z .z) (.s (.b (.s (.r [.d, .d, (.l (.ag (R 6 (.i .i64)))), .d, .d, .d]) (.j [] (.s (.r [.d, (.l (.lf (.i .i64))), (.c (.o (.lf .b)))]) (.c (.r [.d, .d, .d, (.c (.o (.lf (.i .i64)))), .u]) .z)) (.s (.r [.d, (.l (.lf (.i .i64))), (.c (.o (.lf .b))), (.sp .d), .d, (.l (.lf (.i .i64))), .d, .d, (.sp .d), .d, .d, .d, .d, .d, .d]) (.c (.r [.d, .d, .d, .u]) .z))))) (.r (D 2)))))))) (.s (.r [.d, (.c (.o (.lf .sl))), .d]) .z)))))
def impl.FlowBlocks.vc (list : Sl) (w : World) (K : Sl → World → Prop) : Prop :=
CallT (.o (.lf (.i .i64))) P0 43 [list.v] w fun (t7 : Int) w_ =>
(((t7 : Int) != 0) = true → K ⟨none, 0, 0⟩ w_) ∧
(((t7 : Int) != 0) = false → RunT (.o (.lf .m)) P0 (Instr.makeMap 69 none) w_ fun (t9 : Option Nat) w__1 =>
RunU P0 (Instr.mapUpdate 69 (.map t9) (.int .i64 0) (.bool true)) w__1 fun w__2 =>
∃ (I : Int → World → Prop) (M : Int → World → Nat),
I 0 w__2 ∧
(∀ (t13 : Int) w__3, I t13 w__3 → ∀ _ : Nat → Value,
((decide ((t13 : Int) < ((list.n : Nat) : Int))) = true → Ix list.a list.n t13 6 w__3 fun a_t16 w__4 =>
LdA (R 6 (.i .i64)) a_t16 w__4 fun (t17 : Tup (R 6 (.i .i64))) w__5 =>
Nw (zc P0 51) 51 w__5 fun a_x w__6 =>
StA P0 a_x (Tup.cells (R 6 (.i .i64)) t17) w__6 fun w__7 =>
∃ J : World → Prop,
(Ld (.i .i64) (Addr.add a_x 0) w__7 fun (t19 : Int) w__8 =>
CallT (.o (.lf .b)) P0 57 [(.int .i64 t19)] w__8 fun (t20 : Bool) w__9 =>
(t20 = true → CallT (.o (.lf (.i .i64))) P0 58 [list.v, (.int .i64 t13)] w__9 fun (t24 : Int) w__10 =>
RunU P0 (Instr.mapUpdate 69 (.map t9) (.int .i64 t24) (.bool true)) w__10 fun w__11 =>
J w__11) ∧
(t20 = false → J w__9)) ∧
(∀  w__12, J w__12 → ∀ _ : Nat → Value,
Ld (.i .i64) (Addr.add a_x 0) w__12 fun (t26 : Int) w__13 =>
CallT (.o (.lf .b)) P0 57 [(.int .i64 t26)] w__13 fun (t27 : Bool) w__14 =>
(t27 = true → ((decide (((IntKind.wrap .i64 (t13 + 1)) : Int) < ((list.n : Nat) : Int))) = true → RunU P0 (Instr.mapUpdate 69 (.map t9) (.int .i64 (IntKind.wrap .i64 (t13 + 1))) (.bool true)) w__14 fun w__15 =>
(I (IntKind.wrap .i64 (t13 + 1)) w__15 ∧ M (IntKind.wrap .i64 (t13 + 1)) w__15 < M t13 w__3)) ∧
((decide (((IntKind.wrap .i64 (t13 + 1)) : Int) < ((list.n : Nat) : Int))) = false → (I (IntKind.wrap .i64 (t13 + 1)) w__14 ∧ M (IntKind.wrap .i64 (t13 + 1)) w__14 < M t13 w__3))) ∧
(t27 = false → Ld (.i .i64) (Addr.add a_x 0) w__14 fun (t30 : Int) w__16 =>
(((t30 : Int) == 20) = true → ((decide (((IntKind.wrap .i64 (t13 + 1)) : Int) < ((list.n : Nat) : Int))) = true → RunU P0 (Instr.mapUpdate 69 (.map t9) (.int .i64 (IntKind.wrap .i64 (t13 + 1))) (.bool true)) w__16 fun w__17 =>
(I (IntKind.wrap .i64 (t13 + 1)) w__17 ∧ M (IntKind.wrap .i64 (t13 + 1)) w__17 < M t13 w__3)) ∧
((decide (((IntKind.wrap .i64 (t13 + 1)) : Int) < ((list.n : Nat) : Int))) = false → (I (IntKind.wrap .i64 (t13 + 1)) w__16 ∧ M (IntKind.wrap .i64 (t13 + 1)) w__16 < M t13 w__3))) ∧
(((t30 : Int) == 20) = false → (I (IntKind.wrap .i64 (t13 + 1)) w__16 ∧ M (IntKind.wrap .i64 (t13 + 1)) w__16 < M t13 w__3))))) ∧
((decide ((t13 : Int) < ((list.n : Nat) : Int))) = false → CallT (.o (.lf .sl)) P0 59 [(.map t9)] w__3 fun (t45 : Sl) w__18 =>
K t45 w__18)))
theorem impl.FlowBlocks.ok {list : Sl} {w : World} {K : Sl → World → Prop} (h : impl.FlowBlocks.vc list w K) : CallT (.o (.lf .sl)) P0 23 [list.v] w K :=
  call_of Try.func23 rfl rfl (pl := impl.FlowBlocks.pl) (show VC P0 Try.f23 impl.FlowBlocks.pl (.o (.lf .sl)) [list.v] w K noP from Eq.mp (by kernel_rfl) h)
/- (impl.places).sorted -/
def impl.places.sorted.pl : Pl := (.s (.r (D 1)) (.s (.r [.d, (.t (.o (.lf (.i .i64)))), (.t (.o (.lf .sl))), .d]) (.s (.s (.r [.d, (.t (.o (.lf .ad)))]) (.b (.l [(3, .sl)] (.s (.r (D 2)) (.s (.c .z .z) (.b (.s (.r [(.t (.n [(.lf (.i .i64)), (.lf .b)])), .d, .d]) (.r [.d, .d, .d, (.t (.o (.lf .sl))), .d])))))))) (.s (.r [.d, (.c .z)]) (.s (.r (D 2)) .z)))))
def impl.places.sorted.vc (p : Option Nat) (w : World) (K : Sl → World → Prop) : Prop :=
RunT (.o (.lf (.i .i64))) P0 (Builtin.len_ #[69] 3 #[(.map p)]) w fun (t6 : Int) w_ =>
RunT (.o (.lf .sl)) P0 (Instr.makeSlice 31 (.int .i64 0) (.int .i64 t6)) w_ fun (t7 : Sl) w__1 =>
RunT (.o (.lf .ad)) P0 (Instr.range 69 (.map p)) w__1 fun (t9 : Addr) w__2 =>
∃ (I : Sl → World → Prop) (M : Sl → World → Nat),
I t7 w__2 ∧
(∀ (out : Sl) w__3, I out w__3 → ∀ _ : Nat → Value,
Nx P0 (.pointer (some t9)) false 0 w__3 fun more rest w__4 =>
(more = true → RunT (.n [(.lf (.i .i64)), (.lf .b)]) P0 (Instr.entry (.pointer (some t9))) w__4 fun (t12 : (Int) × (Bool) × Unit) w__5 =>
Nw #[(.int .i64 t12.1)] 3 w__5 fun a_t16 w__6 =>
RunT (.o (.lf .sl)) P0 (Builtin.append_ #[31, 31] 31 #[out.v, (.slice (some a_t16) 1 1)]) w__6 fun (t17 : Sl) w__7 =>
(I t17 w__7 ∧ M t17 w__7 < M out w__3)) ∧
(more = false → CallT .z P0 84 [out.v] w__4 fun (u : Unit) w__8 =>
K out w__8))
theorem impl.places.sorted.ok {p : Option Nat} {w : World} {K : Sl → World → Prop} (h : impl.places.sorted.vc p w K) : CallT (.o (.lf .sl)) P0 59 [(.map p)] w K :=
  call_of Try.func59 rfl rfl (pl := impl.places.sorted.pl) (show VC P0 Try.f59 impl.places.sorted.pl (.o (.lf .sl)) [(.map p)] w K noP from Eq.mp (by kernel_rfl) h)
/- spec.FlowBlocks -/
def spec.FlowBlocks.pl : Pl := (.s (.r (D 1)) (.s (.r (D 2)) (.s (.s (.r [.d, (.c (.o (.lf .b))), .d]) (.c (.s (.r (D 2)) .z) .z)) (.s (.r [.d, .d, .d, (.t (.o (.lf .sl))), .d]) (.s (.r (D 3)) (.s (.s (.r (D 1)) (.b (.l [(5, (.i .i64))] (.s (.s (.r (D 4)) (.c .z .z)) (.s (.b (.s (.j [(37, .b)] (.r [.d, .d, .d, .d, (.l (.lf (.i .i64))), (.c (.o (.lf .b))), (.sp .d), .d, .d, .d, .d, (.l (.lf (.i .i64))), .d, .d]) (.c (.s (.r (D 5)) (.r [.d, .d, .d, .d, .d, .d, .d, (.l (.lf (.i .i64))), .d, .d, .d])) .z)) (.s (.r [.d, .d, .d, .d, (.l (.lf (.i .i64))), .d]) (.c (.r (D 5)) .z)))) (.r (D 3))))))) (.s (.s (.r (D 1)) (.b (.l [(3, .sl), (6, (.i .i64))] (.s (.s (.r (D 4)) (.c .z .z)) (.s (.b (.s (.r [.d, .d, .d, (.l (.lf .b))]) (.c (.r [.d, .d, .d, (.t (.o (.lf .sl))), .d]) .z))) (.r (D 3))))))) (.s (.r (D 2)) .z))))))))
def spec.FlowBlocks.vc (list : Sl) (w : World) (K : Sl → World → Prop) : Prop :=
Nw #[] 3 w fun a_t7 w_ =>
CallT (.o (.lf .b)) P0 54 [list.v] w_ fun (t9 : Bool) w__1 =>
((!t9) = true → K ⟨(some a_t7), 0, 0⟩ w__1) ∧
((!t9) = false → RunT (.o (.lf .sl)) P0 (Instr.makeSlice 64 (.int .i64 (IntKind.wrap .i64 (((list.n : Nat) : Int) + 1))) (.int .i64 (IntKind.wrap .i64 (((list.n : Nat) : Int) + 1)))) w__1 fun (t15 : Sl) w__2 =>
Ix t15.a t15.n 0 1 w__2 fun a_t17 w__3 =>
St a_t17 (.bool true) w__3 fun w__4 =>
∃ (I : Int → World → Prop) (M : Int → World → Nat),
I 0 w__4 ∧
(∀ (i : Int) w__5, I i w__5 → ∀ _ : Nat → Value,
((decide ((i : Int) < ((list.n : Nat) : Int))) = true → ∃ J : Bool → World → Prop,
(Ix list.a list.n i 6 w__5 fun a_t26 w__6 =>
Ld (.i .i64) (Addr.add a_t26 0) w__6 fun (t28 : Int) w__7 =>
CallT (.o (.lf .b)) P0 55 [(.int .i64 t28)] w__7 fun (t29 : Bool) w__8 =>
(t29 = true → J true w__8) ∧
(t29 = false → Ix list.a list.n i 6 w__8 fun a_t33 w__9 =>
Ld (.i .i64) (Addr.add a_t33 0) w__9 fun (t35 : Int) w__10 =>
J ((t35 : Int) == 16) w__10)) ∧
(∀ (t37 : Bool) w__11, J t37 w__11 → ∀ _ : Nat → Value,
(t37 = true → Ix t15.a t15.n (IntKind.wrap .i64 (i + 1)) 1 w__11 fun a_t41 w__12 =>
St a_t41 (.bool true) w__12 fun w__13 =>
Ix list.a list.n i 6 w__13 fun a_t47 w__14 =>
Ld (.i .i64) (Addr.add a_t47 3) w__14 fun (t49 : Int) w__15 =>
Ix t15.a t15.n (IntKind.wrap .i64 ((IntKind.wrap .i64 (i + 1)) + t49)) 1 w__15 fun a_t51 w__16 =>
St a_t51 (.bool true) w__16 fun w__17 =>
Ix list.a list.n i 6 w__17 fun a_t54 w__18 =>
Ld (.i .i64) (Addr.add a_t54 0) w__18 fun (t56 : Int) w__19 =>
(((t56 : Int) == 20) = true → Ix t15.a t15.n (IntKind.wrap .i64 (i + 1)) 1 w__19 fun a_t61 w__20 =>
St a_t61 (.bool true) w__20 fun w__21 =>
(I (IntKind.wrap .i64 (i + 1)) w__21 ∧ M (IntKind.wrap .i64 (i + 1)) w__21 < M i w__5)) ∧
(((t56 : Int) == 20) = false → (I (IntKind.wrap .i64 (i + 1)) w__19 ∧ M (IntKind.wrap .i64 (i + 1)) w__19 < M i w__5))) ∧
(t37 = false → Ix list.a list.n i 6 w__11 fun a_t54_1 w__22 =>
Ld (.i .i64) (Addr.add a_t54_1 0) w__22 fun (t56_1 : Int) w__23 =>
(((t56_1 : Int) == 20) = true → Ix t15.a t15.n (IntKind.wrap .i64 (i + 1)) 1 w__23 fun a_t61_1 w__24 =>
St a_t61_1 (.bool true) w__24 fun w__25 =>
(I (IntKind.wrap .i64 (i + 1)) w__25 ∧ M (IntKind.wrap .i64 (i + 1)) w__25 < M i w__5)) ∧
(((t56_1 : Int) == 20) = false → (I (IntKind.wrap .i64 (i + 1)) w__23 ∧ M (IntKind.wrap .i64 (i + 1)) w__23 < M i w__5))))) ∧
((decide ((i : Int) < ((list.n : Nat) : Int))) = false → ∃ (I_1 : Sl → Int → World → Prop) (M_1 : Sl → Int → World → Nat),
I_1 ⟨(some a_t7), 0, 0⟩ 0 w__5 ∧
(∀ (out : Sl) (i_1 : Int) w__26, I_1 out i_1 w__26 → ∀ _ : Nat → Value,
((decide ((i_1 : Int) < ((list.n : Nat) : Int))) = true → Ix t15.a t15.n i_1 1 w__26 fun a_t70 w__27 =>
Ld .b a_t70 w__27 fun (t71 : Bool) w__28 =>
(t71 = true → Nw #[(.int .i64 i_1)] 3 w__28 fun a_t74 w__29 =>
RunT (.o (.lf .sl)) P0 (Builtin.append_ #[31, 31] 31 #[out.v, (.slice (some a_t74) 1 1)]) w__29 fun (t75 : Sl) w__30 =>
(I_1 t75 (IntKind.wrap .i64 (i_1 + 1)) w__30 ∧ M_1 t75 (IntKind.wrap .i64 (i_1 + 1)) w__30 < M_1 out i_1 w__26)) ∧
(t71 = false → (I_1 out (IntKind.wrap .i64 (i_1 + 1)) w__28 ∧ M_1 out (IntKind.wrap .i64 (i_1 + 1)) w__28 < M_1 out i_1 w__26))) ∧
((decide ((i_1 : Int) < ((list.n : Nat) : Int))) = false → K out w__26)))))
theorem spec.FlowBlocks.ok {list : Sl} {w : World} {K : Sl → World → Prop} (h : spec.FlowBlocks.vc list w K) : CallT (.o (.lf .sl)) P0 21 [list.v] w K :=
  call_of Try.func21 rfl rfl (pl := spec.FlowBlocks.pl) (show VC P0 Try.f21 spec.FlowBlocks.pl (.o (.lf .sl)) [list.v] w K noP from Eq.mp (by kernel_rfl) h)
/- laws.FnExactFlowBlocks -/
def laws.FnExactFlowBlocks.pl : Pl := (.s (.r (D 1)) (.s (.r (D 1)) (.s (.r [.d, .d, (.c (.o (.lf (.i .i64)))), .d]) (.s (.s (.r (D 2)) (.c (.s (.r (D 1)) .z) .z)) (.s (.r [.d, (.c (.o (.lf .sl))), (.c (.o (.lf .sl))), .d]) (.s (.r [.d, (.c (.o (.lf .sl))), .d]) (.s (.r [.d, (.c (.o (.lf .sl))), .d]) (.s (.s (.r [.d, .d, (.c (.o (.lf .b))), .d]) (.c (.s (.r (D 1)) .z) .z)) (.s (.s (.r [.d, .d, (.c (.o (.lf .sl))), (.c (.o (.lf .b))), .d]) (.c (.s (.r (D 1)) .z) .z)) (.s (.r (D 1)) (.s (.r [.d, .d, (.c (.o (.lf (.i .i64)))), .d]) (.j [] (.s (.r [.d, .d, (.sp .d), .d, .d, (.c (.o (.lf .b))), .d, .d]) (.c (.s (.r (D 1)) .z) .z)) (.s (.r (D 1)) (.s (.r [.d, .d, (.c (.o (.lf (.i .i64)))), .d]) (.s (.r (D 1)) (.s (.r [.d, .d, (.c (.o (.lf (.i .i64)))), .d]) (.s (.s (.r (D 2)) (.c (.s (.r (D 1)) .z) .z)) (.s (.s (.r (D 3)) (.c (.s (.r (D 1)) .z) .z)) (.s (.r [.d, (.c (.o (.lf .sl))), (.c (.o (.lf .sl))), .d]) (.s (.s (.r [.d, .d, (.c (.o (.lf .b))), .d]) (.c (.s (.r (D 1)) .z) .z)) (.s (.r (D 1)) (.s (.r [.d, .d, (.c (.o (.lf (.i .i64)))), .d]) (.s (.s (.r (D 2)) (.c (.s (.r (D 1)) .z) .z)) (.s (.s (.r (D 3)) (.c (.s (.r (D 1)) .z) .z)) (.s (.r (D 1)) .z)))))))))))))))))))))))))
def laws.FnExactFlowBlocks.vc (aList : Sl) (w : World) (K : Bool → World → Prop) : Prop :=
CallT (.o (.lf (.i .i64))) P0 20 [aList.v, (.int .i64 1048576)] w fun (t13 : Int) w_ =>
((decide ((t13 : Int) < 0)) = true → K true w_) ∧
((decide ((t13 : Int) < 0)) = false → CallT (.o (.lf .sl)) P0 22 [aList.v] w_ fun (t17 : Sl) w__1 =>
CallT (.o (.lf .sl)) P0 21 [t17.v] w__1 fun (t18 : Sl) w__2 =>
CallT (.o (.lf .sl)) P0 22 [aList.v] w__2 fun (t20 : Sl) w__3 =>
CallT (.o (.lf .sl)) P0 23 [t20.v] w__3 fun (t22 : Sl) w__4 =>
CallT (.o (.lf .b)) P0 24 [t22.v, t18.v] w__4 fun (t25 : Bool) w__5 =>
((!t25) = true → K false w__5) ∧
((!t25) = false → CallT (.o (.lf .sl)) P0 22 [aList.v] w__5 fun (t29 : Sl) w__6 =>
CallT (.o (.lf .b)) P0 25 [t20.v, t29.v] w__6 fun (t30 : Bool) w__7 =>
((!t30) = true → K false w__7) ∧
((!t30) = false → CallT (.o (.lf (.i .i64))) P0 26 [t20.v, (.int .i64 1)] w__7 fun (t34 : Int) w__8 =>
∃ J : World → Prop,
(((decide ((t34 : Int) < 0)) = true → K false w__8) ∧
((decide ((t34 : Int) < 0)) = false → CallT (.o (.lf .b)) P0 24 [t22.v, t18.v] w__8 fun (t40 : Bool) w__9 =>
((!t40) = true → K false w__9) ∧
((!t40) = false → J w__9))) ∧
(∀  w__10, J w__10 → ∀ _ : Nat → Value,
CallT (.o (.lf (.i .i64))) P0 27 [t22.v, (.int .i64 1)] w__10 fun (t45 : Int) w__11 =>
CallT (.o (.lf (.i .i64))) P0 28 [t22.v, (.int .i64 1)] w__11 fun (t48 : Int) w__12 =>
((decide ((t48 : Int) < 0)) = true → K false w__12) ∧
((decide ((t48 : Int) < 0)) = false → (((t48 : Int) != t45) = true → K false w__12) ∧
(((t48 : Int) != t45) = false → CallT (.o (.lf .sl)) P0 22 [aList.v] w__12 fun (t55 : Sl) w__13 =>
CallT (.o (.lf .sl)) P0 23 [t55.v] w__13 fun (t56 : Sl) w__14 =>
CallT (.o (.lf .b)) P0 24 [t56.v, t18.v] w__14 fun (t59 : Bool) w__15 =>
((!t59) = true → K false w__15) ∧
((!t59) = false → CallT (.o (.lf (.i .i64))) P0 28 [t22.v, (.int .i64 1)] w__15 fun (t63 : Int) w__16 =>
((decide ((t63 : Int) < 0)) = true → K false w__16) ∧
((decide ((t63 : Int) < 0)) = false → (((t63 : Int) != t45) = true → K false w__16) ∧
(((t63 : Int) != t45) = false → K true w__16)))))))))
theorem laws.FnExactFlowBlocks.ok {aList : Sl} {w : World} {K : Bool → World → Prop} (h : laws.FnExactFlowBlocks.vc aList w K) : CallT (.o (.lf .b)) P0 4 [aList.v] w K :=
  call_of Try.func4 rfl rfl (pl := laws.FnExactFlowBlocks.pl) (show VC P0 Try.f4 laws.FnExactFlowBlocks.pl (.o (.lf .b)) [aList.v] w K noP from Eq.mp (by kernel_rfl) h)
/- (impl.places).spread -/
def impl.places.spread.pl : Pl := (.s (.r [.d, .d, (.c (.o (.lf .sl))), .d, .d]) (.b (.l [(14, (.i .i64))] (.s (.r (D 1)) (.s (.c .z .z) (.s (.b (.s (.r [.d, (.l (.lf (.i .i64))), .d]) (.s (.r [.d, .d, .d, (.sp .d), .d, .d, (.t (.o (.lf .b))), .d, .d]) (.c (.s (.r [.d, .d, .u]) (.r [.d, .d, .d, .d, (.c .z)])) .z)))) (.r (D 2))))))))
def impl.places.spread.vc (p : Option Nat) (list : Sl) (from_ : Int) (without : Int) (w : World) (K : Unit → World → Prop) : Prop :=
CallT (.o (.lf .sl)) P0 67 [list.v, (.int .i64 from_)] w fun (t12 : Sl) w_ =>
∃ (I : Int → World → Prop) (M : Int → World → Nat),
I 0 w_ ∧
(∀ (t14 : Int) w__1, I t14 w__1 → ∀ _ : Nat → Value,
((decide ((t14 : Int) < ((t12.n : Nat) : Int))) = true → Ix t12.a t12.n t14 1 w__1 fun a_t16 w__2 =>
Ld (.i .i64) a_t16 w__2 fun (t17 : Int) w__3 =>
(((t17 : Int) != without) = true → RunT (.o (.lf .b)) P0 (Instr.lookup 69 (.map p) (.int .i64 t17) false) w__3 fun (t24 : Bool) w__4 =>
((!t24) = true → RunU P0 (Instr.mapUpdate 69 (.map p) (.int .i64 t17) (.bool true)) w__4 fun w__5 =>
CallT .z P0 64 [(.map p), list.v, (.int .i64 t17), (.int .i64 without)] w__5 fun (u : Unit) w__6 =>
(I (IntKind.wrap .i64 (t14 + 1)) w__6 ∧ M (IntKind.wrap .i64 (t14 + 1)) w__6 < M t14 w__1)) ∧
((!t24) = false → (I (IntKind.wrap .i64 (t14 + 1)) w__4 ∧ M (IntKind.wrap .i64 (t14 + 1)) w__4 < M t14 w__1))) ∧
(((t17 : Int) != without) = false → (I (IntKind.wrap .i64 (t14 + 1)) w__3 ∧ M (IntKind.wrap .i64 (t14 + 1)) w__3 < M t14 w__1))) ∧
((decide ((t14 : Int) < ((t12.n : Nat) : Int))) = false → K () w__1))
theorem impl.places.spread.ok {p : Option Nat} {list : Sl} {from_ : Int} {without : Int} {w : World} {K : Unit → World → Prop} (h : impl.places.spread.vc p list from_ without w K) : CallT .z P0 64 [(.map p), list.v, (.int .i64 from_), (.int .i64 without)] w K :=
  call_of Try.func64 rfl rfl (pl := impl.places.spread.pl) (show VC P0 Try.f64 impl.places.spread.pl .z [(.map p), list.v, (.int .i64 from_), (.int .i64 without)] w K noP from Eq.mp (by kernel_rfl) h)
/- impl.reached -/
def impl.reached.pl : Pl := (.s (.r (D 1)) (.s (.r [(.t (.o (.lf .m))), .u, .d, .d]) (.s (.r [.d, .d, (.c .z)]) (.s (.r (D 2)) .z))))
def impl.reached.vc (list : Sl) (w : World) (K : Option Nat → World → Prop) : Prop :=
RunT (.o (.lf .m)) P0 (Instr.makeMap 69 none) w fun (t4 : Option Nat) w_ =>
RunU P0 (Instr.mapUpdate 69 (.map t4) (.int .i64 0) (.bool true)) w_ fun w__1 =>
CallT .z P0 64 [(.map t4), list.v, (.int .i64 0), (.int .i64 (-1))] w__1 fun (u : Unit) w__2 =>
K t4 w__2
theorem impl.reached.ok {list : Sl} {w : World} {K : Option Nat → World → Prop} (h : impl.reached.vc list w K) : CallT (.o (.lf .m)) P0 63 [list.v] w K :=
  call_of Try.func63 rfl rfl (pl := impl.reached.pl) (show VC P0 Try.f63 impl.reached.pl (.o (.lf .m)) [list.v] w K noP from Eq.mp (by kernel_rfl) h)
/- impl.FlowAhead -/
def impl.FlowAhead.pl : Pl := (.s (.r (D 1)) (.j [] (.s (.r [.d, (.c (.o (.lf (.i .i64)))), .d, (.sp .d), .d, (.c (.o (.lf .m))), .d, (.t (.o (.lf .b))), .d, .d, (.sp .d), .d, (.c (.o (.lf .m))), .d, (.t (.o (.lf .b))), .d, .d]) (.c (.s (.r (D 1)) .z) .z)) (.j [] (.s (.r [.d, .d, .d, (.sp .d), .d, .d, .d]) (.c (.s (.r (D 1)) .z) .z)) (.s (.r [(.t (.o (.lf .m))), .u, .d, .d]) (.s (.r [.d, .d, .d, (.c .z)]) (.s (.r [.d, .d, (.t (.o (.lf .b))), .d, .d]) .z))))))
def impl.FlowAhead.vc (list : Sl) (a : Int) (b : Int) (w : World) (K : Bool → World → Prop) : Prop :=
∃ J : World → Prop,
(CallT (.o (.lf (.i .i64))) P0 43 [list.v] w fun (t9 : Int) w_ =>
(((t9 : Int) != 0) = true → K false w_) ∧
(((t9 : Int) != 0) = false → CallT (.o (.lf .m)) P0 63 [list.v] w_ fun (t13 : Option Nat) w__1 =>
RunT (.o (.lf .b)) P0 (Instr.lookup 69 (.map t13) (.int .i64 a) false) w__1 fun (t15 : Bool) w__2 =>
((!t15) = true → K false w__2) ∧
((!t15) = false → CallT (.o (.lf .m)) P0 63 [list.v] w__2 fun (t20 : Option Nat) w__3 =>
RunT (.o (.lf .b)) P0 (Instr.lookup 69 (.map t20) (.int .i64 b) false) w__3 fun (t22 : Bool) w__4 =>
((!t22) = true → K false w__4) ∧
((!t22) = false → J w__4)))) ∧
(∀  w__5, J w__5 → ∀ _ : Nat → Value,
∃ J_1 : World → Prop,
((((a : Int) == b) = true → K true w__5) ∧
(((a : Int) == b) = false → (((a : Int) == 0) = true → K true w__5) ∧
(((a : Int) == 0) = false → J_1 w__5))) ∧
(∀  w__6, J_1 w__6 → ∀ _ : Nat → Value,
RunT (.o (.lf .m)) P0 (Instr.makeMap 69 none) w__6 fun (t32 : Option Nat) w__7 =>
RunU P0 (Instr.mapUpdate 69 (.map t32) (.int .i64 0) (.bool true)) w__7 fun w__8 =>
CallT .z P0 64 [(.map t32), list.v, (.int .i64 0), (.int .i64 a)] w__8 fun (u : Unit) w__9 =>
RunT (.o (.lf .b)) P0 (Instr.lookup 69 (.map t32) (.int .i64 b) false) w__9 fun (t40 : Bool) w__10 =>
K (!t40) w__10))
theorem impl.FlowAhead.ok {list : Sl} {a : Int} {b : Int} {w : World} {K : Bool → World → Prop} (h : impl.FlowAhead.vc list a b w K) : CallT (.o (.lf .b)) P0 30 [list.v, (.int .i64 a), (.int .i64 b)] w K :=
  call_of Try.func30 rfl rfl (pl := impl.FlowAhead.pl) (show VC P0 Try.f30 impl.FlowAhead.pl (.o (.lf .b)) [list.v, (.int .i64 a), (.int .i64 b)] w K noP from Eq.mp (by kernel_rfl) h)
/- spec.l12Reach -/
def spec.l12Reach.pl : Pl := (.s (.r (D 1)) (.s (.r [.d, .d, (.t (.o (.lf .sl))), .d]) (.s (.s (.r (D 3)) (.c (.s (.r (D 2)) .z) .z)) (.s (.r (D 3)) (.s (.r (D 4)) (.s (.s (.r (D 1)) (.b (.l [(8, .sl), (9, (.i .i64))] (.s (.s (.r (D 4)) (.c .z .z)) (.s (.b (.s (.r [.d, .d, .d, .d, (.l (.lf (.i .i64))), (.c (.o (.lf .sl))), .d]) (.s (.r (D 1)) (.b (.l [(8, .sl), (11, (.i .i64))] (.s (.s (.r (D 4)) (.c .z .z)) (.s (.b (.j [(57, .b)] (.r [.d, .d, .d, (.l (.lf (.i .i64))), .d, .d, (.sp .d), .d, .d, .d, .d, (.l (.lf (.i .i64))), .d, (.l (.lf .b)), .d, .d]) (.c (.s (.r [.d, .d, .d, .d, (.l (.lf (.i .i64))), .d, .d]) (.r [.d, .d, .d, .d, (.l (.lf (.i .i64))), .d, (.t (.o (.lf .sl))), .d])) .z))) (.r (D 3))))))))) (.r (D 3))))))) (.s (.r (D 2)) .z)))))))
def spec.l12Reach.vc (list : Sl) (from_ : Int) (but : Int) (w : World) (K : Sl → World → Prop) : Prop :=
RunT (.o (.lf .sl)) P0 (Instr.makeSlice 64 (.int .i64 ((list.n : Nat) : Int)) (.int .i64 ((list.n : Nat) : Int))) w fun (t14 : Sl) w_ =>
(((from_ : Int) == but) = true → K t14 w_) ∧
(((from_ : Int) == but) = false → Nw #[(.int .i64 from_)] 3 w_ fun a_t20 w__1 =>
Ix t14.a t14.n from_ 1 w__1 fun a_t23 w__2 =>
St a_t23 (.bool true) w__2 fun w__3 =>
∃ (I : Sl → Int → World → Prop) (M : Sl → Int → World → Nat),
I ⟨(some a_t20), 1, 1⟩ 0 w__3 ∧
(∀ (todo : Sl) (i : Int) w__4, I todo i w__4 → ∀ _ : Nat → Value,
((decide ((i : Int) < ((todo.n : Nat) : Int))) = true → Ix todo.a todo.n i 1 w__4 fun a_t33 w__5 =>
Ld (.i .i64) a_t33 w__5 fun (t34 : Int) w__6 =>
CallT (.o (.lf .sl)) P0 65 [list.v, (.int .i64 t34)] w__6 fun (t35 : Sl) w__7 =>
∃ (I_1 : Sl → Int → World → Prop) (M_1 : Sl → Int → World → Nat),
I_1 todo 0 w__7 ∧
(∀ (todo_1 : Sl) (k : Int) w__8, I_1 todo_1 k w__8 → ∀ _ : Nat → Value,
((decide ((k : Int) < ((t35.n : Nat) : Int))) = true → ∃ J : Bool → World → Prop,
(Ix t35.a t35.n k 1 w__8 fun a_t44 w__9 =>
Ld (.i .i64) a_t44 w__9 fun (t45 : Int) w__10 =>
(((t45 : Int) != but) = true → Ix t35.a t35.n k 1 w__10 fun a_t52 w__11 =>
Ld (.i .i64) a_t52 w__11 fun (t53 : Int) w__12 =>
Ix t14.a t14.n t53 1 w__12 fun a_t54 w__13 =>
Ld .b a_t54 w__13 fun (t55 : Bool) w__14 =>
J (!t55) w__14) ∧
(((t45 : Int) != but) = false → J false w__10)) ∧
(∀ (t57 : Bool) w__15, J t57 w__15 → ∀ _ : Nat → Value,
(t57 = true → Ix t35.a t35.n k 1 w__15 fun a_t61 w__16 =>
Ld (.i .i64) a_t61 w__16 fun (t62 : Int) w__17 =>
Ix t14.a t14.n t62 1 w__17 fun a_t63 w__18 =>
St a_t63 (.bool true) w__18 fun w__19 =>
Ix t35.a t35.n k 1 w__19 fun a_t67 w__20 =>
Ld (.i .i64) a_t67 w__20 fun (t68 : Int) w__21 =>
Nw #[(.int .i64 t68)] 3 w__21 fun a_t69 w__22 =>
RunT (.o (.lf .sl)) P0 (Builtin.append_ #[31, 31] 31 #[todo_1.v, (.slice (some a_t69) 1 1)]) w__22 fun (t70 : Sl) w__23 =>
(I_1 t70 (IntKind.wrap .i64 (k + 1)) w__23 ∧ M_1 t70 (IntKind.wrap .i64 (k + 1)) w__23 < M_1 todo_1 k w__8)) ∧
(t57 = false → (I_1 todo_1 (IntKind.wrap .i64 (k + 1)) w__15 ∧ M_1 todo_1 (IntKind.wrap .i64 (k + 1)) w__15 < M_1 todo_1 k w__8)))) ∧
((decide ((k : Int) < ((t35.n : Nat) : Int))) = false → (I todo_1 (IntKind.wrap .i64 (i + 1)) w__8 ∧ M todo_1 (IntKind.wrap .i64 (i + 1)) w__8 < M todo i w__4)))) ∧
((decide ((i : Int) < ((todo.n : Nat) : Int))) = false → K t14 w__4)))
theorem spec.l12Reach.ok {list : Sl} {from_ : Int} {but : Int} {w : World} {K : Sl → World → Prop} (h : spec.l12Reach.vc list from_ but w K) : CallT (.o (.lf .sl)) P0 62 [list.v, (.int .i64 from_), (.int .i64 but)] w K :=
  call_of Try.func62 rfl rfl (pl := spec.l12Reach.pl) (show VC P0 Try.f62 spec.l12Reach.pl (.o (.lf .sl)) [list.v, (.int .i64 from_), (.int .i64 but)] w K noP from Eq.mp (by kernel_rfl) h)
/- spec.FlowAhead -/
def spec.FlowAhead.pl : Pl := (.s (.r (D 1)) (.j [] (.s (.r [.d, (.c (.o (.lf .b))), .d, (.sp .d), .d, .d, .d, .d, (.c (.o (.lf .b))), .d, .d, (.sp .d), .d, .d, .d, .d, (.c (.o (.lf .b))), .d, .d]) (.c (.s (.r (D 1)) .z) .z)) (.s (.r [.d, (.c (.o (.lf .sl))), .d]) (.s (.r [.d, .d, .d, (.l (.lf .b)), (.sp .d), .d, .d, .d, (.l (.lf .b)), .d, (.sp .d), .d, .d, .d, (.sp .d), .d, .d, (.c (.o (.lf .sl))), .d, .d, (.l (.lf .b)), .d, .d, .d, .d]) .z))))
def spec.FlowAhead.vc (list : Sl) (a : Int) (b : Int) (w : World) (K : Bool → World → Prop) : Prop :=
∃ J : World → Prop,
(CallT (.o (.lf .b)) P0 54 [list.v] w fun (t9 : Bool) w_ =>
((!t9) = true → K false w_) ∧
((!t9) = false → CallT (.o (.lf .b)) P0 61 [(.int .i64 a), (.int .i64 0), (.int .i64 (IntKind.wrap .i64 (((list.n : Nat) : Int) - 1)))] w_ fun (t16 : Bool) w__1 =>
((!t16) = true → K false w__1) ∧
((!t16) = false → CallT (.o (.lf .b)) P0 61 [(.int .i64 b), (.int .i64 0), (.int .i64 (IntKind.wrap .i64 (((list.n : Nat) : Int) - 1)))] w__1 fun (t24 : Bool) w__2 =>
((!t24) = true → K false w__2) ∧
((!t24) = false → J w__2)))) ∧
(∀  w__3, J w__3 → ∀ _ : Nat → Value,
CallT (.o (.lf .sl)) P0 62 [list.v, (.int .i64 0), (.int .i64 (-1))] w__3 fun (t28 : Sl) w__4 =>
Ix t28.a t28.n a 1 w__4 fun a_t31 w__5 =>
Ld .b a_t31 w__5 fun (t32 : Bool) w__6 =>
(t32 = true → Ix t28.a t28.n b 1 w__6 fun a_t36 w__7 =>
Ld .b a_t36 w__7 fun (t37 : Bool) w__8 =>
(t37 = true → (((a : Int) == b) = true → K true w__8) ∧
(((a : Int) == b) = false → CallT (.o (.lf .sl)) P0 62 [list.v, (.int .i64 0), (.int .i64 a)] w__8 fun (t46 : Sl) w__9 =>
Ix t46.a t46.n b 1 w__9 fun a_t48 w__10 =>
Ld .b a_t48 w__10 fun (t49 : Bool) w__11 =>
K (!t49) w__11)) ∧
(t37 = false → K false w__8)) ∧
(t32 = false → K false w__6))
theorem spec.FlowAhead.ok {list : Sl} {a : Int} {b : Int} {w : World} {K : Bool → World → Prop} (h : spec.FlowAhead.vc list a b w K) : CallT (.o (.lf .b)) P0 29 [list.v, (.int .i64 a), (.int .i64 b)] w K :=
  call_of Try.func29 rfl rfl (pl := spec.FlowAhead.pl) (show VC P0 Try.f29 spec.FlowAhead.pl (.o (.lf .b)) [list.v, (.int .i64 a), (.int .i64 b)] w K noP from Eq.mp (by kernel_rfl) h)
/- laws.FnExactFlowAhead -/
def laws.FnExactFlowAhead.pl : Pl := (.s (.r (D 1)) (.s (.r (D 1)) (.s (.r [.d, .d, (.c (.o (.lf (.i .i64)))), .d]) (.s (.s (.r (D 2)) (.c (.s (.r (D 1)) .z) .z)) (.s (.r [.d, (.c (.o (.lf .sl))), .d, .d, (.c (.o (.lf .b))), .d]) (.s (.r [.d, (.c (.o (.lf .sl))), .d]) (.s (.r [.d, .d, .d, (.c (.o (.lf .b))), .d]) (.s (.s (.r (D 3)) (.c (.s (.r (D 1)) .z) .z)) (.s (.s (.r [.d, .d, (.c (.o (.lf .sl))), (.c (.o (.lf .b))), .d]) (.c (.s (.r (D 1)) .z) .z)) (.s (.r (D 1)) .z))))))))))
def laws.FnExactFlowAhead.vc (aList : Sl) (aA : Int) (aB : Int) (w : World) (K : Bool → World → Prop) : Prop :=
CallT (.o (.lf (.i .i64))) P0 20 [aList.v, (.int .i64 1048576)] w fun (t13 : Int) w_ =>
((decide ((t13 : Int) < 0)) = true → K true w_) ∧
((decide ((t13 : Int) < 0)) = false → CallT (.o (.lf .sl)) P0 22 [aList.v] w_ fun (t17 : Sl) w__1 =>
CallT (.o (.lf .b)) P0 29 [t17.v, (.int .i64 aA), (.int .i64 aB)] w__1 fun (t20 : Bool) w__2 =>
CallT (.o (.lf .sl)) P0 22 [aList.v] w__2 fun (t22 : Sl) w__3 =>
CallT (.o (.lf .b)) P0 30 [t22.v, (.int .i64 aA), (.int .i64 aB)] w__3 fun (t26 : Bool) w__4 =>
((!(t26 == t20)) = true → K false w__4) ∧
((!(t26 == t20)) = false → CallT (.o (.lf .sl)) P0 22 [aList.v] w__4 fun (t32 : Sl) w__5 =>
CallT (.o (.lf .b)) P0 25 [t22.v, t32.v] w__5 fun (t33 : Bool) w__6 =>
((!t33) = true → K false w__6) ∧
((!t33) = false → K true w__6)))
theorem laws.FnExactFlowAhead.ok {aList : Sl} {aA : Int} {aB : Int} {w : World} {K : Bool → World → Prop} (h : laws.FnExactFlowAhead.vc aList aA aB w K) : CallT (.o (.lf .b)) P0 5 [aList.v, (.int .i64 aA), (.int .i64 aB)] w K :=
  call_of Try.func5 rfl rfl (pl := laws.FnExactFlowAhead.pl) (show VC P0 Try.f5 laws.FnExactFlowAhead.pl (.o (.lf .b)) [aList.v, (.int .i64 aA), (.int .i64 aB)] w K noP from Eq.mp (by kernel_rfl) h)
/- impl.FlowReach -/
def impl.FlowReach.pl : Pl := (.s (.r (D 1)) (.s (.s (.r [.d, (.c (.o (.lf (.i .i64)))), .d]) (.c (.s (.r (D 1)) .z) .z)) (.s (.r [.d, (.c (.o (.lf .m))), (.c (.o (.lf .sl))), .d]) .z)))
def impl.FlowReach.vc (list : Sl) (w : World) (K : Sl → World → Prop) : Prop :=
CallT (.o (.lf (.i .i64))) P0 43 [list.v] w fun (t4 : Int) w_ =>
(((t4 : Int) != 0) = true → K ⟨none, 0, 0⟩ w_) ∧
(((t4 : Int) != 0) = false → CallT (.o (.lf .m)) P0 63 [list.v] w_ fun (t7 : Option Nat) w__1 =>
CallT (.o (.lf .sl)) P0 59 [(.map t7)] w__1 fun (t8 : Sl) w__2 =>
K t8 w__2)
theorem impl.FlowReach.ok {list : Sl} {w : World} {K : Sl → World → Prop} (h : impl.FlowReach.vc list w K) : CallT (.o (.lf .sl)) P0 38 [list.v] w K :=
  call_of Try.func38 rfl rfl (pl := impl.FlowReach.pl) (show VC P0 Try.f38 impl.FlowReach.pl (.o (.lf .sl)) [list.v] w K noP from Eq.mp (by kernel_rfl) h)
/- spec.FlowReach -/
def spec.FlowReach.pl : Pl := (.s (.r (D 1)) (.s (.r (D 2)) (.s (.s (.r [.d, (.c (.o (.lf .b))), .d]) (.c (.s (.r (D 2)) .z) .z)) (.s (.r [.d, (.c (.o (.lf .sl))), .d]) (.s (.s (.r (D 1)) (.b (.l [(3, .sl), (5, (.i .i64))] (.s (.s (.r (D 4)) (.c .z .z)) (.s (.b (.s (.r [.d, .d, .d, (.l (.lf .b))]) (.c (.r [.d, .d, .d, (.t (.o (.lf .sl))), .d]) .z))) (.r (D 3))))))) (.s (.r (D 2)) .z))))))
def spec.FlowReach.vc (list : Sl) (w : World) (K : Sl → World → Prop) : Prop :=
Nw #[] 3 w fun a_t6 w_ =>
CallT (.o (.lf .b)) P0 54 [list.v] w_ fun (t8 : Bool) w__1 =>
((!t8) = true → K ⟨(some a_t6), 0, 0⟩ w__1) ∧
((!t8) = false → CallT (.o (.lf .sl)) P0 62 [list.v, (.int .i64 0), (.int .i64 (-1))] w__1 fun (t12 : Sl) w__2 =>
∃ (I : Sl → Int → World → Prop) (M : Sl → Int → World → Nat),
I ⟨(some a_t6), 0, 0⟩ 0 w__2 ∧
(∀ (out : Sl) (i : Int) w__3, I out i w__3 → ∀ _ : Nat → Value,
((decide ((i : Int) < ((t12.n : Nat) : Int))) = true → Ix t12.a t12.n i 1 w__3 fun a_t21 w__4 =>
Ld .b a_t21 w__4 fun (t22 : Bool) w__5 =>
(t22 = true → Nw #[(.int .i64 i)] 3 w__5 fun a_t25 w__6 =>
RunT (.o (.lf .sl)) P0 (Builtin.append_ #[31, 31] 31 #[out.v, (.slice (some a_t25) 1 1)]) w__6 fun (t26 : Sl) w__7 =>
(I t26 (IntKind.wrap .i64 (i + 1)) w__7 ∧ M t26 (IntKind.wrap .i64 (i + 1)) w__7 < M out i w__3)) ∧
(t22 = false → (I out (IntKind.wrap .i64 (i + 1)) w__5 ∧ M out (IntKind.wrap .i64 (i + 1)) w__5 < M out i w__3))) ∧
((decide ((i : Int) < ((t12.n : Nat) : Int))) = false → K out w__3)))
theorem spec.FlowReach.ok {list : Sl} {w : World} {K : Sl → World → Prop} (h : spec.FlowReach.vc list w K) : CallT (.o (.lf .sl)) P0 37 [list.v] w K :=
  call_of Try.func37 rfl rfl (pl := spec.FlowReach.pl) (show VC P0 Try.f37 spec.FlowReach.pl (.o (.lf .sl)) [list.v] w K noP from Eq.mp (by kernel_rfl) h)
/- laws.FnExactFlowReach -/
def laws.FnExactFlowReach.pl : Pl := (.s (.r (D 1)) (.s (.r (D 1)) (.s (.r [.d, .d, (.c (.o (.lf (.i .i64)))), .d]) (.s (.s (.r (D 2)) (.c (.s (.r (D 1)) .z) .z)) (.s (.r [.d, (.c (.o (.lf .sl))), (.c (.o (.lf .sl))), .d]) (.s (.r [.d, (.c (.o (.lf .sl))), .d]) (.s (.r [.d, (.c (.o (.lf .sl))), .d]) (.s (.s (.r [.d, .d, (.c (.o (.lf .b))), .d]) (.c (.s (.r (D 1)) .z) .z)) (.s (.s (.r [.d, .d, (.c (.o (.lf .sl))), (.c (.o (.lf .b))), .d]) (.c (.s (.r (D 1)) .z) .z)) (.s (.r (D 1)) (.s (.r [.d, .d, (.c (.o (.lf (.i .i64)))), .d]) (.j [] (.s (.r [.d, .d, (.sp .d), .d, .d, (.c (.o (.lf .b))), .d, .d]) (.c (.s (.r (D 1)) .z) .z)) (.s (.r (D 1)) (.s (.r [.d, .d, (.c (.o (.lf (.i .i64)))), .d]) (.s (.r (D 1)) (.s (.r [.d, .d, (.c (.o (.lf (.i .i64)))), .d]) (.s (.s (.r (D 2)) (.c (.s (.r (D 1)) .z) .z)) (.s (.s (.r (D 3)) (.c (.s (.r (D 1)) .z) .z)) (.s (.r [.d, (.c (.o (.lf .sl))), (.c (.o (.lf .sl))), .d]) (.s (.s (.r [.d, .d, (.c (.o (.lf .b))), .d]) (.c (.s (.r (D 1)) .z) .z)) (.s (.r (D 1)) (.s (.r [.d, .d, (.c (.o (.lf (.i .i64)))), .d]) (.s (.s (.r (D 2)) (.c (.s (.r (D 1)) .z) .z)) (.s (.s (.r (D 3)) (.c (.s (.r (D 1)) .z) .z)) (.s (.r (D 1)) .z)))))))))))))))))))))))))
def laws.FnExactFlowReach.vc (aList : Sl) (w : World) (K : Bool → World → Prop) : Prop :=
CallT (.o (.lf (.i .i64))) P0 20 [aList.v, (.int .i64 1048576)] w fun (t13 : Int) w_ =>
((decide ((t13 : Int) < 0)) = true → K true w_) ∧
((decide ((t13 : Int) < 0)) = false → CallT (.o (.lf .sl)) P0 22 [aList.v] w_ fun (t17 : Sl) w__1 =>
CallT (.o (.lf .sl)) P0 37 [t17.v] w__1 fun (t18 : Sl) w__2 =>
CallT (.o (.lf .sl)) P0 22 [aList.v] w__2 fun (t20 : Sl) w__3 =>
CallT (.o (.lf .sl)) P0 38 [t20.v] w__3 fun (t22 : Sl) w__4 =>
CallT (.o (.lf .b)) P0 24 [t22.v, t18.v] w__4 fun (t25 : Bool) w__5 =>
((!t25) = true → K false w__5) ∧
((!t25) = false → CallT (.o (.lf .sl)) P0 22 [aList.v] w__5 fun (t29 : Sl) w__6 =>
CallT (.o (.lf .b)) P0 25 [t20.v, t29.v] w__6 fun (t30 : Bool) w__7 =>
((!t30) = true → K false w__7) ∧
((!t30) = false → CallT (.o (.lf (.i .i64))) P0 26 [t20.v, (.int .i64 1)] w__7 fun (t34 : Int) w__8 =>
∃ J : World → Prop,
(((decide ((t34 : Int) < 0)) = true → K false w__8) ∧
((decide ((t34 : Int) < 0)) = false → CallT (.o (.lf .b)) P0 24 [t22.v, t18.v] w__8 fun (t40 : Bool) w__9 =>
((!t40) = true → K false w__9) ∧
((!t40) = false → J w__9))) ∧
(∀  w__10, J w__10 → ∀ _ : Nat → Value,
CallT (.o (.lf (.i .i64))) P0 27 [t22.v, (.int .i64 1)] w__10 fun (t45 : Int) w__11 =>
CallT (.o (.lf (.i .i64))) P0 28 [t22.v, (.int .i64 1)] w__11 fun (t48 : Int) w__12 =>
((decide ((t48 : Int) < 0)) = true → K false w__12) ∧
((decide ((t48 : Int) < 0)) = false → (((t48 : Int) != t45) = true → K false w__12) ∧
(((t48 : Int) != t45) = false → CallT (.o (.lf .sl)) P0 22 [aList.v] w__12 fun (t55 : Sl) w__13 =>
CallT (.o (.lf .sl)) P0 38 [t55.v] w__13 fun (t56 : Sl) w__14 =>
CallT (.o (.lf .b)) P0 24 [t56.v, t18.v] w__14 fun (t59 : Bool) w__15 =>
((!t59) = true → K false w__15) ∧
((!t59) = false → CallT (.o (.lf (.i .i64))) P0 28 [t22.v, (.int .i64 1)] w__15 fun (t63 : Int) w__16 =>
((decide ((t63 : Int) < 0)) = true → K false w__16) ∧
((decide ((t63 : Int) < 0)) = false → (((t63 : Int) != t45) = true → K false w__16) ∧
(((t63 : Int) != t45) = false → K true w__16)))))))))
theorem laws.FnExactFlowReach.ok {aList : Sl} {w : World} {K : Bool → World → Prop} (h : laws.FnExactFlowReach.vc aList w K) : CallT (.o (.lf .b)) P0 9 [aList.v] w K :=
  call_of Try.func9 rfl rfl (pl := laws.FnExactFlowReach.pl) (show VC P0 Try.f9 laws.FnExactFlowReach.pl (.o (.lf .b)) [aList.v] w K noP from Eq.mp (by kernel_rfl) h)
/- impl.FlowRound -/
def impl.FlowRound.pl : Pl := (.s (.r (D 1)) (.s (.s (.r [.d, (.c (.o (.lf (.i .i64)))), .d]) (.c (.s (.r (D 1)) .z) .z)) (.s (.r [(.t (.o (.lf .m))), .d]) (.s (.s (.r [.d, (.c (.o (.lf .m))), (.t (.o (.lf .ad)))]) (.b (.l [] (.s (.r (D 2)) (.s (.c .z .z) (.b (.s (.r [(.t (.n [(.lf (.i .i64)), (.lf .b)])), .d, .d]) (.s (.r [(.t (.o (.lf .m))), .d]) (.s (.r [.d, .d, .d, (.c .z)]) (.s (.r [.d, .d, (.t (.o (.lf .b)))]) (.c (.r [.d, .d, .u]) .z))))))))))) (.s (.r [.d, (.c (.o (.lf .sl))), .d]) .z)))))
def impl.FlowRound.vc (list : Sl) (w : World) (K : Sl → World → Prop) : Prop :=
CallT (.o (.lf (.i .i64))) P0 43 [list.v] w fun (t7 : Int) w_ =>
(((t7 : Int) != 0) = true → K ⟨none, 0, 0⟩ w_) ∧
(((t7 : Int) != 0) = false → RunT (.o (.lf .m)) P0 (Instr.makeMap 69 none) w_ fun (t9 : Option Nat) w__1 =>
CallT (.o (.lf .m)) P0 63 [list.v] w__1 fun (t11 : Option Nat) w__2 =>
RunT (.o (.lf .ad)) P0 (Instr.range 69 (.map t11)) w__2 fun (t12 : Addr) w__3 =>
∃ (I : World → Prop) (M : World → Nat),
I w__3 ∧
(∀  w__4, I w__4 → ∀ _ : Nat → Value,
Nx P0 (.pointer (some t12)) false 0 w__4 fun more rest w__5 =>
(more = true → RunT (.n [(.lf (.i .i64)), (.lf .b)]) P0 (Instr.entry (.pointer (some t12))) w__5 fun (t15 : (Int) × (Bool) × Unit) w__6 =>
RunT (.o (.lf .m)) P0 (Instr.makeMap 69 none) w__6 fun (t17 : Option Nat) w__7 =>
CallT .z P0 64 [(.map t17), list.v, (.int .i64 t15.1), (.int .i64 (-1))] w__7 fun (u : Unit) w__8 =>
RunT (.o (.lf .b)) P0 (Instr.lookup 69 (.map t17) (.int .i64 t15.1) false) w__8 fun (t24 : Bool) w__9 =>
(t24 = true → RunU P0 (Instr.mapUpdate 69 (.map t9) (.int .i64 t15.1) (.bool true)) w__9 fun w__10 =>
(I w__10 ∧ M w__10 < M w__4)) ∧
(t24 = false → (I w__9 ∧ M w__9 < M w__4))) ∧
(more = false → CallT (.o (.lf .sl)) P0 59 [(.map t9)] w__5 fun (t28 : Sl) w__11 =>
K t28 w__11)))
theorem impl.FlowRound.ok {list : Sl} {w : World} {K : Sl → World → Prop} (h : impl.FlowRound.vc list w K) : CallT (.o (.lf .sl)) P0 40 [list.v] w K :=
  call_of Try.func40 rfl rfl (pl := impl.FlowRound.pl) (show VC P0 Try.f40 impl.FlowRound.pl (.o (.lf .sl)) [list.v] w K noP from Eq.mp (by kernel_rfl) h)
/- spec.l12Round -/
def spec.l12Round.pl : Pl := (.s (.r (D 1)) (.s (.r [.d, .d, (.c (.o (.lf .sl))), .d]) (.s (.s (.r (D 1)) (.b (.l [(6, (.i .i64))] (.s (.s (.r (D 4)) (.c .z .z)) (.s (.b (.s (.r [.d, .d, .d, .d, (.l (.lf (.i .i64))), (.c (.o (.lf .sl))), .d, .d, (.l (.lf .b))]) (.c (.s (.r (D 1)) .z) .z))) (.r (D 3))))))) (.s (.r (D 1)) .z))))
def spec.l12Round.vc (list : Sl) (at_ : Int) (w : World) (K : Bool → World → Prop) : Prop :=
CallT (.o (.lf .sl)) P0 65 [list.v, (.int .i64 at_)] w fun (t9 : Sl) w_ =>
∃ (I : Int → World → Prop) (M : Int → World → Nat),
I 0 w_ ∧
(∀ (k : Int) w__1, I k w__1 → ∀ _ : Nat → Value,
((decide ((k : Int) < ((t9.n : Nat) : Int))) = true → Ix t9.a t9.n k 1 w__1 fun a_t19 w__2 =>
Ld (.i .i64) a_t19 w__2 fun (t20 : Int) w__3 =>
CallT (.o (.lf .sl)) P0 62 [list.v, (.int .i64 t20), (.int .i64 (-1))] w__3 fun (t21 : Sl) w__4 =>
Ix t21.a t21.n at_ 1 w__4 fun a_t23 w__5 =>
Ld .b a_t23 w__5 fun (t24 : Bool) w__6 =>
(t24 = true → K true w__6) ∧
(t24 = false → (I (IntKind.wrap .i64 (k + 1)) w__6 ∧ M (IntKind.wrap .i64 (k + 1)) w__6 < M k w__1))) ∧
((decide ((k : Int) < ((t9.n : Nat) : Int))) = false → K false w__1))
theorem spec.l12Round.ok {list : Sl} {at_ : Int} {w : World} {K : Bool → World → Prop} (h : spec.l12Round.vc list at_ w K) : CallT (.o (.lf .b)) P0 71 [list.v, (.int .i64 at_)] w K :=
  call_of Try.func71 rfl rfl (pl := spec.l12Round.pl) (show VC P0 Try.f71 spec.l12Round.pl (.o (.lf .b)) [list.v, (.int .i64 at_)] w K noP from Eq.mp (by kernel_rfl) h)
/- spec.FlowRound -/
def spec.FlowRound.pl : Pl := (.s (.r (D 1)) (.s (.r (D 2)) (.s (.r [.d, (.c (.o (.lf .sl))), .d]) (.s (.s (.r (D 1)) (.b (.l [(3, .sl), (5, (.i .i64))] (.s (.s (.r (D 4)) (.c .z .z)) (.s (.b (.s (.r [.d, .d, .d, .d, (.l (.lf (.i .i64))), (.c (.o (.lf .b)))]) (.c (.r [.d, .d, .d, .d, (.l (.lf (.i .i64))), .d, (.t (.o (.lf .sl))), .d]) .z))) (.r (D 3))))))) (.s (.r (D 2)) .z)))))
def spec.FlowRound.vc (list : Sl) (w : World) (K : Sl → World → Prop) : Prop :=
Nw #[] 3 w fun a_t6 w_ =>
CallT (.o (.lf .sl)) P0 37 [list.v] w_ fun (t8 : Sl) w__1 =>
∃ (I : Sl → Int → World → Prop) (M : Sl → Int → World → Nat),
I ⟨(some a_t6), 0, 0⟩ 0 w__1 ∧
(∀ (out : Sl) (i : Int) w__2, I out i w__2 → ∀ _ : Nat → Value,
((decide ((i : Int) < ((t8.n : Nat) : Int))) = true → Ix t8.a t8.n i 1 w__2 fun a_t18 w__3 =>
Ld (.i .i64) a_t18 w__3 fun (t19 : Int) w__4 =>
CallT (.o (.lf .b)) P0 71 [list.v, (.int .i64 t19)] w__4 fun (t20 : Bool) w__5 =>
(t20 = true → Ix t8.a t8.n i 1 w__5 fun a_t24 w__6 =>
Ld (.i .i64) a_t24 w__6 fun (t25 : Int) w__7 =>
Nw #[(.int .i64 t25)] 3 w__7 fun a_t26 w__8 =>
RunT (.o (.lf .sl)) P0 (Builtin.append_ #[31, 31] 31 #[out.v, (.slice (some a_t26) 1 1)]) w__8 fun (t27 : Sl) w__9 =>
(I t27 (IntKind.wrap .i64 (i + 1)) w__9 ∧ M t27 (IntKind.wrap .i64 (i + 1)) w__9 < M out i w__2)) ∧
(t20 = false → (I out (IntKind.wrap .i64 (i + 1)) w__5 ∧ M out (IntKind.wrap .i64 (i + 1)) w__5 < M out i w__2))) ∧
((decide ((i : Int) < ((t8.n : Nat) : Int))) = false → K out w__2))
theorem spec.FlowRound.ok {list : Sl} {w : World} {K : Sl → World → Prop} (h : spec.FlowRound.vc list w K) : CallT (.o (.lf .sl)) P0 39 [list.v] w K :=
  call_of Try.func39 rfl rfl (pl := spec.FlowRound.pl) (show VC P0 Try.f39 spec.FlowRound.pl (.o (.lf .sl)) [list.v] w K noP from Eq.mp (by kernel_rfl) h)
/- laws.FnExactFlowRound -/
def laws.FnExactFlowRound.pl : Pl := (.s (.r (D 1)) (.s (.r (D 1)) (.s (.r [.d, .d, (.c (.o (.lf (.i .i64)))), .d]) (.s (.s (.r (D 2)) (.c (.s (.r (D 1)) .z) .z)) (.s (.r [.d, (.c (.o (.lf .sl))), (.c (.o (.lf .sl))), .d]) (.s (.r [.d, (.c (.o (.lf .sl))), .d]) (.s (.r [.d, (.c (.o (.lf .sl))), .d]) (.s (.s (.r [.d, .d, (.c (.o (.lf .b))), .d]) (.c (.s (.r (D 1)) .z) .z)) (.s (.s (.r [.d, .d, (.c (.o (.lf .sl))), (.c (.o (.lf .b))), .d]) (.c (.s (.r (D 1)) .z) .z)) (.s (.r (D 1)) (.s (.r [.d, .d, (.c (.o (.lf (.i .i64)))), .d]) (.j [] (.s (.r [.d, .d, (.sp .d), .d, .d, (.c (.o (.lf .b))), .d, .d]) (.c (.s (.r (D 1)) .z) .z)) (.s (.r (D 1)) (.s (.r [.d, .d, (.c (.o (.lf (.i .i64)))), .d]) (.s (.r (D 1)) (.s (.r [.d, .d, (.c (.o (.lf (.i .i64)))), .d]) (.s (.s (.r (D 2)) (.c (.s (.r (D 1)) .z) .z)) (.s (.s (.r (D 3)) (.c (.s (.r (D 1)) .z) .z)) (.s (.r [.d, (.c (.o (.lf .sl))), (.c (.o (.lf .sl))), .d]) (.s (.s (.r [.d, .d, (.c (.o (.lf .b))), .d]) (.c (.s (.r (D 1)) .z) .z)) (.s (.r (D 1)) (.s (.r [.d, .d, (.c (.o (.lf (.i .i64)))), .d]) (.s (.s (.r (D 2)) (.c (.s (.r (D 1)) .z) .z)) (.s (.s (.r (D 3)) (.c (.s (.r (D 1)) .z) .z)) (.s (.r (D 1)) .z)))))))))))))))))))))))))
def laws.FnExactFlowRound.vc (aList : Sl) (w : World) (K : Bool → World → Prop) : Prop :=
CallT (.o (.lf (.i .i64))) P0 20 [aList.v, (.int .i64 1048576)] w fun (t13 : Int) w_ =>
((decide ((t13 : Int) < 0)) = true → K true w_) ∧
((decide ((t13 : Int) < 0)) = false → CallT (.o (.lf .sl)) P0 22 [aList.v] w_ fun (t17 : Sl) w__1 =>
CallT (.o (.lf .sl)) P0 39 [t17.v] w__1 fun (t18 : Sl) w__2 =>
CallT (.o (.lf .sl)) P0 22 [aList.v] w__2 fun (t20 : Sl) w__3 =>
CallT (.o (.lf .sl)) P0 40 [t20.v] w__3 fun (t22 : Sl) w__4 =>
CallT (.o (.lf .b)) P0 24 [t22.v, t18.v] w__4 fun (t25 : Bool) w__5 =>
((!t25) = true → K false w__5) ∧
((!t25) = false → CallT (.o (.lf .sl)) P0 22 [aList.v] w__5 fun (t29 : Sl) w__6 =>
CallT (.o (.lf .b)) P0 25 [t20.v, t29.v] w__6 fun (t30 : Bool) w__7 =>
((!t30) = true → K false w__7) ∧
((!t30) = false → CallT (.o (.lf (.i .i64))) P0 26 [t20.v, (.int .i64 1)] w__7 fun (t34 : Int) w__8 =>
∃ J : World → Prop,
(((decide ((t34 : Int) < 0)) = true → K false w__8) ∧
((decide ((t34 : Int) < 0)) = false → CallT (.o (.lf .b)) P0 24 [t22.v, t18.v] w__8 fun (t40 : Bool) w__9 =>
((!t40) = true → K false w__9) ∧
((!t40) = false → J w__9))) ∧
(∀  w__10, J w__10 → ∀ _ : Nat → Value,
CallT (.o (.lf (.i .i64))) P0 27 [t22.v, (.int .i64 1)] w__10 fun (t45 : Int) w__11 =>
CallT (.o (.lf (.i .i64))) P0 28 [t22.v, (.int .i64 1)] w__11 fun (t48 : Int) w__12 =>
((decide ((t48 : Int) < 0)) = true → K false w__12) ∧
((decide ((t48 : Int) < 0)) = false → (((t48 : Int) != t45) = true → K false w__12) ∧
(((t48 : Int) != t45) = false → CallT (.o (.lf .sl)) P0 22 [aList.v] w__12 fun (t55 : Sl) w__13 =>
CallT (.o (.lf .sl)) P0 40 [t55.v] w__13 fun (t56 : Sl) w__14 =>
CallT (.o (.lf .b)) P0 24 [t56.v, t18.v] w__14 fun (t59 : Bool) w__15 =>
((!t59) = true → K false w__15) ∧
((!t59) = false → CallT (.o (.lf (.i .i64))) P0 28 [t22.v, (.int .i64 1)] w__15 fun (t63 : Int) w__16 =>
((decide ((t63 : Int) < 0)) = true → K false w__16) ∧
((decide ((t63 : Int) < 0)) = false → (((t63 : Int) != t45) = true → K false w__16) ∧
(((t63 : Int) != t45) = false → K true w__16)))))))))
theorem laws.FnExactFlowRound.ok {aList : Sl} {w : World} {K : Bool → World → Prop} (h : laws.FnExactFlowRound.vc aList w K) : CallT (.o (.lf .b)) P0 10 [aList.v] w K :=
  call_of Try.func10 rfl rfl (pl := laws.FnExactFlowRound.pl) (show VC P0 Try.f10 laws.FnExactFlowRound.pl (.o (.lf .b)) [aList.v] w K noP from Eq.mp (by kernel_rfl) h)
end Go.Proofs.Ytdgnojjemlfhdaa.V
