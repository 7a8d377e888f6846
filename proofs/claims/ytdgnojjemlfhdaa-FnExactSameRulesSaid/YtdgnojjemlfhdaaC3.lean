/- Verification conditions, printed by this session's own program (wip/vc.py) and checked by the kernel. -/
import Derived.Test.YtdgnojjemlfhdaaVP
namespace Go.Proofs.Ytdgnojjemlfhdaa.V
open Go Go.RowKit
set_option linter.unusedVariables false
/- (impl.Rule).valid -/
def impl.Rule.valid.pl : Pl := (.s (.r (D 2)) (.s (.r [.d, (.l (.lf (.i .i64))), (.c (.o (.lf .b))), (.sp .d), .d, (.l (.lf (.i .i64))), (.c (.o (.lf .b))), .d, (.sp .d), .d, (.l (.lf (.i .i64))), (.c (.o (.lf .b))), .d, (.sp .d), .d, (.l (.lf (.i .i64))), (.c (.o (.lf .b))), .d, (.sp .d), .d, (.l (.lf (.i .i64))), (.c (.o (.lf .b))), .d, (.sp .d), .d, (.l (.lf (.i .i64))), .d, (.sp .d), .d, (.l (.lf (.i .i64))), .d, .d, .d, .d]) .z))
def impl.Rule.valid.vc (r : Tup (R 5 (.i .i64))) (w : World) (K : Bool → World → Prop) : Prop :=
Nw (Tup.cells (R 5 (.i .i64)) r).toArray 59 w fun a_r w_ =>
Ld (.i .i64) (Addr.add a_r 0) w_ fun (t4 : Int) w__1 =>
CallT (.o (.lf .b)) P0 66 [(.int .i64 t4), (.int .i64 0), (.int .i64 11)] w__1 fun (t5 : Bool) w__2 =>
(t5 = true → Ld (.i .i64) (Addr.add a_r 1) w__2 fun (t8 : Int) w__3 =>
CallT (.o (.lf .b)) P0 85 [(.int .i64 t8)] w__3 fun (t9 : Bool) w__4 =>
(t9 = true → Ld (.i .i64) (Addr.add a_r 2) w__4 fun (t13 : Int) w__5 =>
CallT (.o (.lf .b)) P0 66 [(.int .i64 t13), (.int .i64 0), (.int .i64 255)] w__5 fun (t14 : Bool) w__6 =>
(t14 = true → Ld (.i .i64) (Addr.add a_r 3) w__6 fun (t18 : Int) w__7 =>
CallT (.o (.lf .b)) P0 66 [(.int .i64 t18), (.int .i64 0), (.int .i64 2)] w__7 fun (t19 : Bool) w__8 =>
(t19 = true → Ld (.i .i64) (Addr.add a_r 4) w__8 fun (t23 : Int) w__9 =>
CallT (.o (.lf .b)) P0 103 [(.int .i64 t23)] w__9 fun (t24 : Bool) w__10 =>
(t24 = true → Ld (.i .i64) (Addr.add a_r 4) w__10 fun (t28 : Int) w__11 =>
(((t28 : Int) == 0) = true → K true w__11) ∧
(((t28 : Int) == 0) = false → Ld (.i .i64) (Addr.add a_r 3) w__11 fun (t32 : Int) w__12 =>
K ((t32 : Int) == 2) w__12)) ∧
(t24 = false → K false w__10)) ∧
(t19 = false → K false w__8)) ∧
(t14 = false → K false w__6)) ∧
(t9 = false → K false w__4)) ∧
(t5 = false → K false w__2)
theorem impl.Rule.valid.ok {r : Tup (R 5 (.i .i64))} {w : World} {K : Bool → World → Prop} (h : impl.Rule.valid.vc r w K) : CallT (.o (.lf .b)) P0 81 [(.agg (Tup.cells (R 5 (.i .i64)) r).toArray)] w K :=
  call_of Try.func81 rfl rfl (pl := impl.Rule.valid.pl) (show VC P0 Try.f81 impl.Rule.valid.pl (.o (.lf .b)) [(.agg (Tup.cells (R 5 (.i .i64)) r).toArray)] w K noP from Eq.mp (by kernel_rfl) h)
/- impl.RulesOk$1 -/
def impl.RulesOk_1.pl : Pl := (.s (.r (D 2)) (.s (.r [(.l (.ag (R 5 (.i .i64)))), (.c (.o (.lf .b))), .d, .d]) .z))
def impl.RulesOk_1.vc (r : Tup (R 5 (.i .i64))) (w : World) (K : Bool → World → Prop) : Prop :=
Nw (Tup.cells (R 5 (.i .i64)) r).toArray 59 w fun a_r w_ =>
LdA (R 5 (.i .i64)) a_r w_ fun (t3 : Tup (R 5 (.i .i64))) w__1 =>
CallT (.o (.lf .b)) P0 81 [(.agg (Tup.cells (R 5 (.i .i64)) t3).toArray)] w__1 fun (t4 : Bool) w__2 =>
K (!t4) w__2
theorem impl.RulesOk_1.ok {r : Tup (R 5 (.i .i64))} {w : World} {K : Bool → World → Prop} (h : impl.RulesOk_1.vc r w K) : CallT (.o (.lf .b)) P0 80 [(.agg (Tup.cells (R 5 (.i .i64)) r).toArray)] w K :=
  call_of Try.func80 rfl rfl (pl := impl.RulesOk_1.pl) (show VC P0 Try.f80 impl.RulesOk_1.pl (.o (.lf .b)) [(.agg (Tup.cells (R 5 (.i .i64)) r).toArray)] w K noP from Eq.mp (by kernel_rfl) h)
/- slices.IndexFunc[[]impl.Rule,impl.Rule] -/
def slices.IndexFunc_Rule_ok.pl : Pl := (.s (.r (D 1)) (.s (.s (.r (D 3)) (.b (.l [(8, (.i .i64))] (.s (.r (D 1)) (.s (.c .z .z) (.s (.b (.s (.r (D 2)) (.s (.r [.d, .d, .d, .d, (.l (.ag (R 5 (.i .i64)))), (.c (.o (.lf .b)))]) (.c (.s (.r (D 2)) .z) .z)))) (.r (D 2)))))))) (.s (.r (D 1)) .z)))
def slices.IndexFunc_Rule_ok.vc (s : Sl) (w : World) (K : Int → World → Prop) : Prop :=
∃ (I : Int → World → Prop) (M : Int → World → Nat),
I 0 w ∧
(∀ (t8 : Int) w_, I t8 w_ → ∀ _ : Nat → Value,
((decide ((t8 : Int) < ((s.n : Nat) : Int))) = true → Ix s.a s.n t8 5 w_ fun a_t14 w__1 =>
LdA (R 5 (.i .i64)) a_t14 w__1 fun (t15 : Tup (R 5 (.i .i64))) w__2 =>
CallT (.o (.lf .b)) P0 80 [(.agg (Tup.cells (R 5 (.i .i64)) t15).toArray)] w__2 fun (t16 : Bool) w__3 =>
(t16 = true → K t8 w__3) ∧
(t16 = false → (I (IntKind.wrap .i64 (t8 + 1)) w__3 ∧ M (IntKind.wrap .i64 (t8 + 1)) w__3 < M t8 w_))) ∧
((decide ((t8 : Int) < ((s.n : Nat) : Int))) = false → K (-1) w_))
theorem slices.IndexFunc_Rule_ok.ok {s : Sl} {w : World} {K : Int → World → Prop} (h : slices.IndexFunc_Rule_ok.vc s w K) : CallT (.o (.lf (.i .i64))) P0 102 [s.v, (.func (.func 80) #[] #[])] w K :=
  call_of Try.func102 rfl rfl (pl := slices.IndexFunc_Rule_ok.pl) (show VC P0 Try.f102 slices.IndexFunc_Rule_ok.pl (.o (.lf (.i .i64))) [s.v, (.func (.func 80) #[] #[])] w K noP from Eq.mp (by kernel_rfl) h)
/- slices.ContainsFunc[[]impl.Rule,impl.Rule] -/
def slices.ContainsFunc_Rule_ok.pl : Pl := (.s (.r (D 1)) (.s (.r [.d, .d, (.c (.o (.lf (.i .i64)))), .d, .d]) .z))
def slices.ContainsFunc_Rule_ok.vc (s : Sl) (w : World) (K : Bool → World → Prop) : Prop :=
CallT (.o (.lf (.i .i64))) P0 102 [s.v, (.func (.func 80) #[] #[])] w fun (t7 : Int) w_ =>
K (decide ((t7 : Int) ≥ 0)) w_
theorem slices.ContainsFunc_Rule_ok.ok {s : Sl} {w : World} {K : Bool → World → Prop} (h : slices.ContainsFunc_Rule_ok.vc s w K) : CallT (.o (.lf .b)) P0 79 [s.v, (.func (.func 80) #[] #[])] w K :=
  call_of Try.func79 rfl rfl (pl := slices.ContainsFunc_Rule_ok.pl) (show VC P0 Try.f79 slices.ContainsFunc_Rule_ok.pl (.o (.lf .b)) [s.v, (.func (.func 80) #[] #[])] w K noP from Eq.mp (by kernel_rfl) h)
/- impl.RulesOk -/
def impl.RulesOk.pl : Pl := (.s (.r (D 1)) (.s (.r [.d, .d, .d, (.sp .d), .d, (.c (.o (.lf .b))), .d, .d, .d]) .z))
def impl.RulesOk.vc (list : Sl) (w : World) (K : Bool → World → Prop) : Prop :=
((decide ((((list.n : Nat) : Int) : Int) ≤ 6)) = true → CallT (.o (.lf .b)) P0 79 [list.v, (.func (.func 80) #[] #[])] w fun (t8 : Bool) w_ =>
K (!t8) w_) ∧
((decide ((((list.n : Nat) : Int) : Int) ≤ 6)) = false → K false w)
theorem impl.RulesOk.ok {list : Sl} {w : World} {K : Bool → World → Prop} (h : impl.RulesOk.vc list w K) : CallT (.o (.lf .b)) P0 51 [list.v] w K :=
  call_of Try.func51 rfl rfl (pl := impl.RulesOk.pl) (show VC P0 Try.f51 impl.RulesOk.pl (.o (.lf .b)) [list.v] w K noP from Eq.mp (by kernel_rfl) h)
/- slices.Grow[[]impl.Rule,impl.Rule] -/
def slices.Grow_Rule.pl : Pl := (.s (.r (D 1)) (.j [] (.s (.r (D 2)) (.c (.r (D 2)) .z)) (.s (.s (.r (D 8)) (.s (.r (D 2)) (.c (.r [.d, .d, .d, (.t (.o (.lf .sl))), .d, (.t (.o (.lf .sl))), .d, .d, (.t (.o (.lf .sl))), .d]) .z))) (.s (.r (D 2)) .z))))
def slices.Grow_Rule.vc (s : Sl) (n : Int) (w : World) (K : Sl → World → Prop) : Prop :=
∃ J : World → Prop,
(((decide ((n : Int) < 0)) = true → False) ∧
((decide ((n : Int) < 0)) = false → J w)) ∧
(∀  w_, J w_ → ∀ _ : Nat → Value,
((decide (((IntKind.wrap .i64 (n - (IntKind.wrap .i64 (((s.c : Nat) : Int) - ((s.n : Nat) : Int))))) : Int) > 0)) = true → RunT (.o (.lf .sl)) P0 (Instr.sliceAt 25 s.v none (some (.int .i64 ((s.c : Nat) : Int))) none) w_ fun (t20 : Sl) w__1 =>
RunT (.o (.lf .sl)) P0 (Builtin.append_ #[25, 3] 25 #[t20.v, (.int .i64 (IntKind.wrap .i64 (n - (IntKind.wrap .i64 (((s.c : Nat) : Int) - ((s.n : Nat) : Int))))))]) w__1 fun (t22 : Sl) w__2 =>
RunT (.o (.lf .sl)) P0 (Instr.sliceAt 25 t22.v none (some (.int .i64 ((s.n : Nat) : Int))) none) w__2 fun (t25 : Sl) w__3 =>
K t25 w__3) ∧
((decide (((IntKind.wrap .i64 (n - (IntKind.wrap .i64 (((s.c : Nat) : Int) - ((s.n : Nat) : Int))))) : Int) > 0)) = false → K s w_))
theorem slices.Grow_Rule.ok {s : Sl} {n : Int} {w : World} {K : Sl → World → Prop} (h : slices.Grow_Rule.vc s n w K) : CallT (.o (.lf .sl)) P0 113 [s.v, (.int .i64 n)] w K :=
  call_of Try.func113 rfl rfl (pl := slices.Grow_Rule.pl) (show VC P0 Try.f113 slices.Grow_Rule.pl (.o (.lf .sl)) [s.v, (.int .i64 n)] w K noP from Eq.mp (by kernel_rfl) h)
/- slices.Concat[[]impl.Rule,impl.Rule] -/
def slices.Concat_Rule.pl : Pl := (.s (.r (D 1)) (.s (.r (D 1)) (.s (.s (.r (D 3)) (.b (.l [(3, (.i .i64)), (11, (.i .i64))] (.s (.r (D 1)) (.s (.c .z .z) (.s (.b (.s (.r [.d, (.l (.lf .sl)), .d]) (.s (.r (D 5)) (.s (.r (D 2)) (.c (.r (D 2)) .z))))) (.r (D 2)))))))) (.s (.r [.d, (.c (.o (.lf .sl))), .d]) (.s (.s (.r (D 3)) (.b (.l [(6, .sl), (27, (.i .i64))] (.s (.r (D 1)) (.s (.c .z .z) (.s (.b (.s (.r [.d, (.l (.lf .sl)), .d]) (.r [.d, .d, (.t (.o (.lf .sl))), .d]))) (.r (D 2)))))))) (.s (.r (D 2)) .z))))))
def slices.Concat_Rule.vc (slices_ : Sl) (w : World) (K : Sl → World → Prop) : Prop :=
∃ (I : Int → Int → World → Prop) (M : Int → Int → World → Nat),
I 0 0 w ∧
(∀ (size : Int) (t11 : Int) w_, I size t11 w_ → ∀ _ : Nat → Value,
((decide ((t11 : Int) < ((slices_.n : Nat) : Int))) = true → Ix slices_.a slices_.n t11 1 w_ fun a_t13 w__1 =>
Ld .sl a_t13 w__1 fun (t14 : Sl) w__2 =>
((decide (((IntKind.wrap .i64 (size + ((t14.n : Nat) : Int))) : Int) < 0)) = true → False) ∧
((decide (((IntKind.wrap .i64 (size + ((t14.n : Nat) : Int))) : Int) < 0)) = false → (I (IntKind.wrap .i64 (size + ((t14.n : Nat) : Int))) (IntKind.wrap .i64 (t11 + 1)) w__2 ∧ M (IntKind.wrap .i64 (size + ((t14.n : Nat) : Int))) (IntKind.wrap .i64 (t11 + 1)) w__2 < M size t11 w_))) ∧
((decide ((t11 : Int) < ((slices_.n : Nat) : Int))) = false → CallT (.o (.lf .sl)) P0 113 [(.slice none 0 0), (.int .i64 size)] w_ fun (t24 : Sl) w__3 =>
∃ (I_1 : Sl → Int → World → Prop) (M_1 : Sl → Int → World → Nat),
I_1 t24 0 w__3 ∧
(∀ (newslice : Sl) (t27 : Int) w__4, I_1 newslice t27 w__4 → ∀ _ : Nat → Value,
((decide ((t27 : Int) < ((slices_.n : Nat) : Int))) = true → Ix slices_.a slices_.n t27 1 w__4 fun a_t29 w__5 =>
Ld .sl a_t29 w__5 fun (t30 : Sl) w__6 =>
RunT (.o (.lf .sl)) P0 (Builtin.append_ #[25, 25] 25 #[newslice.v, t30.v]) w__6 fun (t33 : Sl) w__7 =>
(I_1 t33 (IntKind.wrap .i64 (t27 + 1)) w__7 ∧ M_1 t33 (IntKind.wrap .i64 (t27 + 1)) w__7 < M_1 newslice t27 w__4)) ∧
((decide ((t27 : Int) < ((slices_.n : Nat) : Int))) = false → K newslice w__4))))
theorem slices.Concat_Rule.ok {slices_ : Sl} {w : World} {K : Sl → World → Prop} (h : slices.Concat_Rule.vc slices_ w K) : CallT (.o (.lf .sl)) P0 104 [slices_.v] w K :=
  call_of Try.func104 rfl rfl (pl := slices.Concat_Rule.pl) (show VC P0 Try.f104 slices.Concat_Rule.pl (.o (.lf .sl)) [slices_.v] w K noP from Eq.mp (by kernel_rfl) h)
/- impl.cuts -/
def impl.cuts.pl : Pl := (.s (.r (D 1)) (.s (.r (D 2)) (.s (.s (.r [.d, .d, .d, (.c (.o (.lf .sl))), .d, .d]) (.b (.l [(7, .sl), (16, (.i .i64))] (.s (.r (D 1)) (.s (.c .z .z) (.s (.b (.s (.r [.d, (.l (.ag (R 5 (.i .i64)))), .d, .d]) (.s (.s (.r [.d, (.l (.lf (.i .i64))), .d, .d]) (.c .z .z)) (.s (.r [.d, .d, (.l (.lf (.i .i64))), .d, (.t (.o (.lf .sl))), .d]) (.s (.r [.d, (.l (.lf (.i .i64))), .d]) (.c (.r [.d, .d, (.l (.lf (.i .i64))), .d, .d, (.t (.o (.lf .sl))), .d]) .z)))))) (.r (D 2)))))))) (.s (.r [.d, (.c .z)]) (.s (.r [.d, (.c (.o (.lf .sl))), .d]) .z)))))
def impl.cuts.vc (a : Sl) (b : Sl) (at_ : Int) (w : World) (K : Sl → World → Prop) : Prop :=
Nw #[(.int .i64 0)] 3 w fun a_t10 w_ =>
Nw #[a.v, b.v] 25 w_ fun a_t13 w__1 =>
CallT (.o (.lf .sl)) P0 104 [(.slice (some a_t13) 2 2)] w__1 fun (t14 : Sl) w__2 =>
∃ (I : Sl → Int → World → Prop) (M : Sl → Int → World → Nat),
I ⟨(some a_t10), 1, 1⟩ 0 w__2 ∧
(∀ (out : Sl) (t16 : Int) w__3, I out t16 w__3 → ∀ _ : Nat → Value,
((decide ((t16 : Int) < ((t14.n : Nat) : Int))) = true → Ix t14.a t14.n t16 5 w__3 fun a_t18 w__4 =>
LdA (R 5 (.i .i64)) a_t18 w__4 fun (t19 : Tup (R 5 (.i .i64))) w__5 =>
Nw (zc P0 59) 59 w__5 fun a_r w__6 =>
StA P0 a_r (Tup.cells (R 5 (.i .i64)) t19) w__6 fun w__7 =>
Ld (.i .i64) (Addr.add a_r 0) w__7 fun (t21 : Int) w__8 =>
(((t21 : Int) != at_) = true → (I out (IntKind.wrap .i64 (t16 + 1)) w__8 ∧ M out (IntKind.wrap .i64 (t16 + 1)) w__8 < M out t16 w__3)) ∧
(((t21 : Int) != at_) = false → Ld (.i .i64) (Addr.add a_r 2) w__8 fun (t26 : Int) w__9 =>
Nw #[(.int .i64 t26)] 3 w__9 fun a_t27 w__10 =>
RunT (.o (.lf .sl)) P0 (Builtin.append_ #[31, 31] 31 #[out.v, (.slice (some a_t27) 1 1)]) w__10 fun (t28 : Sl) w__11 =>
Ld (.i .i64) (Addr.add a_r 2) w__11 fun (t30 : Int) w__12 =>
((decide ((t30 : Int) < 255)) = true → Ld (.i .i64) (Addr.add a_r 2) w__12 fun (t34 : Int) w__13 =>
Nw #[(.int .i64 (IntKind.wrap .i64 (t34 + 1)))] 3 w__13 fun a_t36 w__14 =>
RunT (.o (.lf .sl)) P0 (Builtin.append_ #[31, 31] 31 #[t28.v, (.slice (some a_t36) 1 1)]) w__14 fun (t37 : Sl) w__15 =>
(I t37 (IntKind.wrap .i64 (t16 + 1)) w__15 ∧ M t37 (IntKind.wrap .i64 (t16 + 1)) w__15 < M out t16 w__3)) ∧
((decide ((t30 : Int) < 255)) = false → (I t28 (IntKind.wrap .i64 (t16 + 1)) w__12 ∧ M t28 (IntKind.wrap .i64 (t16 + 1)) w__12 < M out t16 w__3)))) ∧
((decide ((t16 : Int) < ((t14.n : Nat) : Int))) = false → CallT .z P0 84 [out.v] w__3 fun (u : Unit) w__16 =>
CallT (.o (.lf .sl)) P0 87 [out.v] w__16 fun (t42 : Sl) w__17 =>
K t42 w__17))
theorem impl.cuts.ok {a : Sl} {b : Sl} {at_ : Int} {w : World} {K : Sl → World → Prop} (h : impl.cuts.vc a b at_ w K) : CallT (.o (.lf .sl)) P0 82 [a.v, b.v, (.int .i64 at_)] w K :=
  call_of Try.func82 rfl rfl (pl := impl.cuts.pl) (show VC P0 Try.f82 impl.cuts.pl (.o (.lf .sl)) [a.v, b.v, (.int .i64 at_)] w K noP from Eq.mp (by kernel_rfl) h)
/- impl.pieces -/
def impl.pieces.pl : Pl := (.s (.r (D 1)) (.s (.r (D 1)) (.s (.s (.r (D 1)) (.b (.l [(5, (.i .i64)), (7, (.i .i64))] (.s (.r (D 1)) (.s (.c .z .z) (.s (.b (.s (.r (D 2)) (.r [.d, .d, .d, .d, (.c (.o (.lf .sl))), .d, .d, .d]))) (.r (D 2)))))))) (.s (.r (D 2)) .z))))
def impl.pieces.vc (a : Sl) (b : Sl) (w : World) (K : Int → World → Prop) : Prop :=
∃ (I : Int → Int → World → Prop) (M : Int → Int → World → Nat),
I 1 0 w ∧
(∀ (many : Int) (t7 : Int) w_, I many t7 w_ → ∀ _ : Nat → Value,
((decide ((t7 : Int) < 12)) = true → CallT (.o (.lf .sl)) P0 82 [a.v, b.v, (.int .i64 t7)] w_ fun (t14 : Sl) w__1 =>
(I (IntKind.wrap .i64 (many * ((t14.n : Nat) : Int))) (IntKind.wrap .i64 (t7 + 1)) w__1 ∧ M (IntKind.wrap .i64 (many * ((t14.n : Nat) : Int))) (IntKind.wrap .i64 (t7 + 1)) w__1 < M many t7 w_)) ∧
((decide ((t7 : Int) < 12)) = false → K many w_))
theorem impl.pieces.ok {a : Sl} {b : Sl} {w : World} {K : Int → World → Prop} (h : impl.pieces.vc a b w K) : CallT (.o (.lf (.i .i64))) P0 52 [a.v, b.v] w K :=
  call_of Try.func52 rfl rfl (pl := impl.pieces.pl) (show VC P0 Try.f52 impl.pieces.pl (.o (.lf (.i .i64))) [a.v, b.v] w K noP from Eq.mp (by kernel_rfl) h)
/- impl.SamePieces -/
def impl.SamePieces.pl : Pl := (.s (.r (D 1)) (.s (.s (.r [.d, (.c (.o (.lf .b))), .d, (.sp .d), .d, (.c (.o (.lf .b))), .d, .d]) (.c (.s (.r (D 1)) .z) .z)) (.s (.r [.d, .d, (.c (.o (.lf (.i .i64)))), .d]) .z)))
def impl.SamePieces.vc (a : Sl) (b : Sl) (w : World) (K : Int → World → Prop) : Prop :=
CallT (.o (.lf .b)) P0 51 [a.v] w fun (t6 : Bool) w_ =>
((!t6) = true → K (-1) w_) ∧
((!t6) = false → CallT (.o (.lf .b)) P0 51 [b.v] w_ fun (t10 : Bool) w__1 =>
((!t10) = true → K (-1) w__1) ∧
((!t10) = false → CallT (.o (.lf (.i .i64))) P0 52 [a.v, b.v] w__1 fun (t15 : Int) w__2 =>
K t15 w__2))
theorem impl.SamePieces.ok {a : Sl} {b : Sl} {w : World} {K : Int → World → Prop} (h : impl.SamePieces.vc a b w K) : CallT (.o (.lf (.i .i64))) P0 18 [a.v, b.v] w K :=
  call_of Try.func18 rfl rfl (pl := impl.SamePieces.pl) (show VC P0 Try.f18 impl.SamePieces.pl (.o (.lf (.i .i64))) [a.v, b.v] w K noP from Eq.mp (by kernel_rfl) h)
/- impl.holds -/
def impl.holds.pl : Pl := (.s (.r (D 1)) (.s (.s (.r (D 1)) (.b (.s (.r (D 2)) (.c (.s (.r (D 4)) .z) (.s (.r (D 2)) (.c (.s (.r (D 4)) .z) (.s (.r (D 2)) (.c (.s (.r (D 4)) .z) .z)))))))) (.s (.r (D 4)) .z)))
def impl.holds.vc (op : Int) (a : Int) (b : Int) (w : World) (K : Bool → World → Prop) : Prop :=
(((op : Int) == 12) = true → K ((a : Int) == b) w) ∧
(((op : Int) == 12) = false → (((op : Int) == 13) = true → K ((a : Int) != b) w) ∧
(((op : Int) == 13) = false → (((op : Int) == 14) = true → K (decide ((a : Int) < b)) w) ∧
(((op : Int) == 14) = false → K (decide ((a : Int) > b)) w)))
theorem impl.holds.ok {op : Int} {a : Int} {b : Int} {w : World} {K : Bool → World → Prop} (h : impl.holds.vc op a b w K) : CallT (.o (.lf .b)) P0 111 [(.int .i64 op), (.int .i64 a), (.int .i64 b)] w K :=
  call_of Try.func111 rfl rfl (pl := impl.holds.pl) (show VC P0 Try.f111 impl.holds.pl (.o (.lf .b)) [(.int .i64 op), (.int .i64 a), (.int .i64 b)] w K noP from Eq.mp (by kernel_rfl) h)
/- impl.ruled -/
def impl.ruled.pl : Pl := (.s (.r (D 2)) (.s (.s (.r (D 3)) (.b (.l [(10, (.i .i64))] (.s (.r (D 1)) (.s (.c .z .z) (.s (.b (.s (.r [.d, (.l (.ag (R 5 (.i .i64)))), .d, .d]) (.s (.r [.d, (.l (.lf (.i .i64))), .d, .d, (.l (.lf (.i .i64))), .d, .d, .d, (.l (.lf (.i .i64))), (.c (.o (.lf .b)))]) (.c (.s (.r [.d, (.l (.lf (.i .i64))), .d, (.l (.lf (.i .i64))), .d, .d]) .z) .z)))) (.r (D 2)))))))) (.s (.r (D 2)) .z)))
def impl.ruled.vc (list : Sl) (came : ByteArray) (w : World) (K : (Int) × (Int) × Unit → World → Prop) : Prop :=
∃ (I : Int → World → Prop) (M : Int → World → Nat),
I 0 w ∧
(∀ (t10 : Int) w_, I t10 w_ → ∀ _ : Nat → Value,
((decide ((t10 : Int) < ((list.n : Nat) : Int))) = true → Ix list.a list.n t10 5 w_ fun a_t12 w__1 =>
LdA (R 5 (.i .i64)) a_t12 w__1 fun (t13 : Tup (R 5 (.i .i64))) w__2 =>
Nw (zc P0 59) 59 w__2 fun a_r w__3 =>
StA P0 a_r (Tup.cells (R 5 (.i .i64)) t13) w__3 fun w__4 =>
QLd (.i .i64) (Addr.add a_r 1) (fun w' => Below (World.heap w__4).size w__4 w') fun (t15 : Int) =>
QLd (.i .i64) (Addr.add a_r 0) (fun w' => Below (World.heap w__4).size w__4 w') fun (t18 : Int) =>
QSx came t18 fun t19 =>
QLd (.i .i64) (Addr.add a_r 2) (fun w' => Below (World.heap w__4).size w__4 w') fun (t22 : Int) =>
QCl (.o (.lf .b)) P0 111 [(.int .i64 t15), (.int .i64 (IntKind.wrap .i64 t19)), (.int .i64 t22)] (fun w' => Below (World.heap w__4).size w__4 w') fun (t23 : Bool) =>
∀ w__5, Below (World.heap w__4).size w__4 w__5 →
(t23 = true → QLd (.i .i64) (Addr.add a_r 3) (fun w' => Below (World.heap w__5).size w__5 w') fun (t25 : Int) =>
QLd (.i .i64) (Addr.add a_r 4) (fun w' => Below (World.heap w__5).size w__5 w') fun (t27 : Int) =>
∀ w__6, Below (World.heap w__5).size w__5 w__6 →
K (t25, (t27, ())) w__6) ∧
(t23 = false → (I (IntKind.wrap .i64 (t10 + 1)) w__5 ∧ M (IntKind.wrap .i64 (t10 + 1)) w__5 < M t10 w_))) ∧
((decide ((t10 : Int) < ((list.n : Nat) : Int))) = false → K (1, (0, ())) w_))
theorem impl.ruled.ok {list : Sl} {came : ByteArray} {w : World} {K : (Int) × (Int) × Unit → World → Prop} (h : impl.ruled.vc list came w K) : CallT (.n [(.lf (.i .i64)), (.lf (.i .i64))]) P0 90 [list.v, (.string came)] w K :=
  call_of Try.func90 rfl rfl (pl := impl.ruled.pl) (show VC P0 Try.f90 impl.ruled.pl (.n [(.lf (.i .i64)), (.lf (.i .i64))]) [list.v, (.string came)] w K noP from Eq.mp (by kernel_rfl) h)
/- spec.l2Top -/
def spec.l2Top.pl : Pl := (.s (.r (D 1)) (.s (.r (D 1)) .z))
def spec.l2Top.vc  (w : World) (K : Int → World → Prop) : Prop :=
K 4294967295 w
theorem spec.l2Top.ok  {w : World} {K : Int → World → Prop} (h : spec.l2Top.vc  w K) : CallT (.o (.lf (.i .i64))) P0 101 [] w K :=
  call_of Try.func101 rfl rfl (pl := spec.l2Top.pl) (show VC P0 Try.f101 spec.l2Top.pl (.o (.lf (.i .i64))) [] w K noP from Eq.mp (by kernel_rfl) h)
/- spec.l9RuleOk -/
def spec.l9RuleOk.pl : Pl := (.s (.r (D 2)) (.s (.r [.d, (.l (.lf (.i .i64))), (.c (.o (.lf .b))), (.sp .d), .d, (.l (.lf (.i .i64))), (.c (.o (.lf .b))), .d, (.sp .d), .d, (.l (.lf (.i .i64))), (.c (.o (.lf .b))), .d, (.sp .d), .d, (.l (.lf (.i .i64))), (.c (.o (.lf .b))), .d, (.sp .d), .d, (.l (.lf (.i .i64))), (.c (.o (.lf (.i .i64)))), (.c (.o (.lf .b))), .d, (.sp .d), .d, (.l (.lf (.i .i64))), .d, (.sp .d), .d, (.l (.lf (.i .i64))), .d, .d, .d, .d]) .z))
def spec.l9RuleOk.vc (r : Tup (R 5 (.i .i64))) (w : World) (K : Bool → World → Prop) : Prop :=
Nw (Tup.cells (R 5 (.i .i64)) r).toArray 59 w fun a_r w_ =>
QLd (.i .i64) (Addr.add a_r 0) (fun w' => Below (World.heap w_).size w_ w') fun (t4 : Int) =>
QCl (.o (.lf .b)) P0 61 [(.int .i64 t4), (.int .i64 0), (.int .i64 11)] (fun w' => Below (World.heap w_).size w_ w') fun (t5 : Bool) =>
(t5 = true → QLd (.i .i64) (Addr.add a_r 1) (fun w' => Below (World.heap w_).size w_ w') fun (t8 : Int) =>
QCl (.o (.lf .b)) P0 61 [(.int .i64 t8), (.int .i64 12), (.int .i64 15)] (fun w' => Below (World.heap w_).size w_ w') fun (t9 : Bool) =>
(t9 = true → QLd (.i .i64) (Addr.add a_r 2) (fun w' => Below (World.heap w_).size w_ w') fun (t13 : Int) =>
QCl (.o (.lf .b)) P0 61 [(.int .i64 t13), (.int .i64 0), (.int .i64 255)] (fun w' => Below (World.heap w_).size w_ w') fun (t14 : Bool) =>
(t14 = true → QLd (.i .i64) (Addr.add a_r 3) (fun w' => Below (World.heap w_).size w_ w') fun (t18 : Int) =>
QCl (.o (.lf .b)) P0 61 [(.int .i64 t18), (.int .i64 0), (.int .i64 2)] (fun w' => Below (World.heap w_).size w_ w') fun (t19 : Bool) =>
(t19 = true → QLd (.i .i64) (Addr.add a_r 4) (fun w' => Below (World.heap w_).size w_ w') fun (t23 : Int) =>
QCl (.o (.lf (.i .i64))) P0 101 [] (fun w' => Below (World.heap w_).size w_ w') fun (t24 : Int) =>
QCl (.o (.lf .b)) P0 61 [(.int .i64 t23), (.int .i64 0), (.int .i64 t24)] (fun w' => Below (World.heap w_).size w_ w') fun (t25 : Bool) =>
(t25 = true → QLd (.i .i64) (Addr.add a_r 3) (fun w' => Below (World.heap w_).size w_ w') fun (t29 : Int) =>
(((t29 : Int) == 2) = true → ∀ w__1, Below (World.heap w_).size w_ w__1 →
K true w__1) ∧
(((t29 : Int) == 2) = false → QLd (.i .i64) (Addr.add a_r 4) (fun w' => Below (World.heap w_).size w_ w') fun (t33 : Int) =>
∀ w__1, Below (World.heap w_).size w_ w__1 →
K ((t33 : Int) == 0) w__1)) ∧
(t25 = false → ∀ w__1, Below (World.heap w_).size w_ w__1 →
K false w__1)) ∧
(t19 = false → ∀ w__1, Below (World.heap w_).size w_ w__1 →
K false w__1)) ∧
(t14 = false → ∀ w__1, Below (World.heap w_).size w_ w__1 →
K false w__1)) ∧
(t9 = false → ∀ w__1, Below (World.heap w_).size w_ w__1 →
K false w__1)) ∧
(t5 = false → ∀ w__1, Below (World.heap w_).size w_ w__1 →
K false w__1)
theorem spec.l9RuleOk.ok {r : Tup (R 5 (.i .i64))} {w : World} {K : Bool → World → Prop} (h : spec.l9RuleOk.vc r w K) : CallT (.o (.lf .b)) P0 77 [(.agg (Tup.cells (R 5 (.i .i64)) r).toArray)] w K :=
  call_of Try.func77 rfl rfl (pl := spec.l9RuleOk.pl) (show VC P0 Try.f77 spec.l9RuleOk.pl (.o (.lf .b)) [(.agg (Tup.cells (R 5 (.i .i64)) r).toArray)] w K noP from Eq.mp (by kernel_rfl) h)
/- spec.l9Ok -/
def spec.l9Ok.pl : Pl := (.s (.r (D 1)) (.s (.s (.r (D 1)) (.b (.l [(3, (.i .i64))] (.s (.s (.r (D 4)) (.c .z .z)) (.s (.b (.s (.r [.d, .d, .d, (.l (.ag (R 5 (.i .i64)))), (.c (.o (.lf .b))), .d]) (.c (.s (.r (D 1)) .z) .z))) (.r (D 3))))))) (.s (.r (D 4)) .z)))
def spec.l9Ok.vc (list : Sl) (w : World) (K : Bool → World → Prop) : Prop :=
∃ (I : Int → World → Prop) (M : Int → World → Nat),
I 0 w ∧
(∀ (i : Int) w_, I i w_ → ∀ _ : Nat → Value,
((decide ((i : Int) < ((list.n : Nat) : Int))) = true → Ix list.a list.n i 5 w_ fun a_t12 w__1 =>
LdA (R 5 (.i .i64)) a_t12 w__1 fun (t13 : Tup (R 5 (.i .i64))) w__2 =>
CallT (.o (.lf .b)) P0 77 [(.agg (Tup.cells (R 5 (.i .i64)) t13).toArray)] w__2 fun (t14 : Bool) w__3 =>
((!t14) = true → K false w__3) ∧
((!t14) = false → (I (IntKind.wrap .i64 (i + 1)) w__3 ∧ M (IntKind.wrap .i64 (i + 1)) w__3 < M i w_))) ∧
((decide ((i : Int) < ((list.n : Nat) : Int))) = false → K (decide ((((list.n : Nat) : Int) : Int) ≤ 6)) w_))
theorem spec.l9Ok.ok {list : Sl} {w : World} {K : Bool → World → Prop} (h : spec.l9Ok.vc list w K) : CallT (.o (.lf .b)) P0 48 [list.v] w K :=
  call_of Try.func48 rfl rfl (pl := spec.l9Ok.pl) (show VC P0 Try.f48 spec.l9Ok.pl (.o (.lf .b)) [list.v] w K noP from Eq.mp (by kernel_rfl) h)
/- spec.l14Cuts -/
def spec.l14Cuts.pl : Pl := (.s (.r (D 1)) (.s (.r [(.t (.o (.lf .sl))), .d]) (.s (.r (D 3)) (.s (.s (.r (D 1)) (.b (.l [(6, (.i .i64))] (.s (.s (.r (D 4)) (.c .z .z)) (.s (.b (.s (.r (D 1)) (.b (.l [(7, (.i .i64))] (.s (.s (.r [.d, .d, .d, .d, (.l (.lf .sl)), .d, .d]) (.c .z .z)) (.s (.b (.s (.r [.d, .d, .d, (.l (.lf .sl)), .d, .d, .d, (.l (.lf (.i .i64))), .d, .d]) (.c (.s (.r [.d, .d, .d, .d, (.l (.lf .sl)), .d, .d, .d, (.l (.lf (.i .i64))), .d, .d]) (.r [.d, .d, .d, .d, (.l (.lf .sl)), .d, .d, .d, (.l (.lf (.i .i64))), .d, .d, .d])) .z))) (.r (D 3)))))))) (.r (D 3))))))) (.s (.r (D 2)) (.s (.s (.r (D 1)) (.b (.l [(8, .sl), (9, (.i .i64))] (.s (.s (.r (D 2)) (.c .z .z)) (.s (.b (.s (.r [.d, .d, .d, (.l (.lf .b))]) (.c (.r [.d, .d, .d, (.t (.o (.lf .sl))), .d]) .z))) (.r (D 3))))))) (.s (.r (D 2)) .z)))))))
def spec.l14Cuts.vc (lists : Sl) (at_ : Int) (w : World) (K : Sl → World → Prop) : Prop :=
RunT (.o (.lf .sl)) P0 (Instr.makeSlice 64 (.int .i64 257) (.int .i64 257)) w fun (t10 : Sl) w_ =>
Ix t10.a t10.n 0 1 w_ fun a_t12 w__1 =>
St a_t12 (.bool true) w__1 fun w__2 =>
∃ (I : Int → World → Prop) (M : Int → World → Nat),
I 0 w__2 ∧
(∀ (i : Int) w__3, I i w__3 → ∀ _ : Nat → Value,
((decide ((i : Int) < ((lists.n : Nat) : Int))) = true → ∃ (I_1 : Int → World → Prop) (M_1 : Int → World → Nat),
I_1 0 w__3 ∧
(∀ (k : Int) w__4, I_1 k w__4 → ∀ _ : Nat → Value,
Ix lists.a lists.n i 1 w__4 fun a_t22 w__5 =>
Ld .sl a_t22 w__5 fun (t23 : Sl) w__6 =>
((decide ((k : Int) < ((t23.n : Nat) : Int))) = true → Ix lists.a lists.n i 1 w__6 fun a_t30 w__7 =>
Ld .sl a_t30 w__7 fun (t31 : Sl) w__8 =>
Ix t31.a t31.n k 5 w__8 fun a_t33 w__9 =>
Ld (.i .i64) (Addr.add a_t33 0) w__9 fun (t35 : Int) w__10 =>
(((t35 : Int) == at_) = true → Ix lists.a lists.n i 1 w__10 fun a_t41 w__11 =>
Ld .sl a_t41 w__11 fun (t42 : Sl) w__12 =>
Ix t42.a t42.n k 5 w__12 fun a_t44 w__13 =>
Ld (.i .i64) (Addr.add a_t44 2) w__13 fun (t46 : Int) w__14 =>
Ix t10.a t10.n t46 1 w__14 fun a_t47 w__15 =>
St a_t47 (.bool true) w__15 fun w__16 =>
Ix lists.a lists.n i 1 w__16 fun a_t51 w__17 =>
Ld .sl a_t51 w__17 fun (t52 : Sl) w__18 =>
Ix t52.a t52.n k 5 w__18 fun a_t54 w__19 =>
Ld (.i .i64) (Addr.add a_t54 2) w__19 fun (t56 : Int) w__20 =>
Ix t10.a t10.n (IntKind.wrap .i64 (t56 + 1)) 1 w__20 fun a_t58 w__21 =>
St a_t58 (.bool true) w__21 fun w__22 =>
(I_1 (IntKind.wrap .i64 (k + 1)) w__22 ∧ M_1 (IntKind.wrap .i64 (k + 1)) w__22 < M_1 k w__4)) ∧
(((t35 : Int) == at_) = false → (I_1 (IntKind.wrap .i64 (k + 1)) w__10 ∧ M_1 (IntKind.wrap .i64 (k + 1)) w__10 < M_1 k w__4))) ∧
((decide ((k : Int) < ((t23.n : Nat) : Int))) = false → (I (IntKind.wrap .i64 (i + 1)) w__6 ∧ M (IntKind.wrap .i64 (i + 1)) w__6 < M i w__3)))) ∧
((decide ((i : Int) < ((lists.n : Nat) : Int))) = false → Nw #[] 3 w__3 fun a_t59 w__23 =>
∃ (I_2 : Sl → Int → World → Prop) (M_2 : Sl → Int → World → Nat),
I_2 ⟨(some a_t59), 0, 0⟩ 0 w__23 ∧
(∀ (out : Sl) (n : Int) w__24, I_2 out n w__24 → ∀ _ : Nat → Value,
((decide ((n : Int) < 256)) = true → Ix t10.a t10.n n 1 w__24 fun a_t66 w__25 =>
Ld .b a_t66 w__25 fun (t67 : Bool) w__26 =>
(t67 = true → Nw #[(.int .i64 n)] 3 w__26 fun a_t70 w__27 =>
RunT (.o (.lf .sl)) P0 (Builtin.append_ #[31, 31] 31 #[out.v, (.slice (some a_t70) 1 1)]) w__27 fun (t71 : Sl) w__28 =>
(I_2 t71 (IntKind.wrap .i64 (n + 1)) w__28 ∧ M_2 t71 (IntKind.wrap .i64 (n + 1)) w__28 < M_2 out n w__24)) ∧
(t67 = false → (I_2 out (IntKind.wrap .i64 (n + 1)) w__26 ∧ M_2 out (IntKind.wrap .i64 (n + 1)) w__26 < M_2 out n w__24))) ∧
((decide ((n : Int) < 256)) = false → K out w__24))))
theorem spec.l14Cuts.ok {lists : Sl} {at_ : Int} {w : World} {K : Sl → World → Prop} (h : spec.l14Cuts.vc lists at_ w K) : CallT (.o (.lf .sl)) P0 78 [lists.v, (.int .i64 at_)] w K :=
  call_of Try.func78 rfl rfl (pl := spec.l14Cuts.pl) (show VC P0 Try.f78 spec.l14Cuts.pl (.o (.lf .sl)) [lists.v, (.int .i64 at_)] w K noP from Eq.mp (by kernel_rfl) h)
/- spec.l14Ways -/
def spec.l14Ways.pl : Pl := (.s (.r (D 1)) (.s (.r (D 1)) (.s (.s (.r (D 1)) (.b (.l [(5, (.i .i64)), (6, (.i .i64))] (.s (.s (.r (D 2)) (.c .z .z)) (.s (.b (.r [.d, .d, .d, .d, .d, (.c (.o (.lf .sl))), .d, .d, .d])) (.r (D 3))))))) (.s (.r (D 2)) .z))))
def spec.l14Ways.vc (a : Sl) (b : Sl) (w : World) (K : Int → World → Prop) : Prop :=
∃ (I : Int → Int → World → Prop) (M : Int → Int → World → Nat),
I 1 0 w ∧
(∀ (n : Int) (at_ : Int) w_, I n at_ w_ → ∀ _ : Nat → Value,
((decide ((at_ : Int) < 12)) = true → Nw #[a.v, b.v] 25 w_ fun a_t14 w__1 =>
CallT (.o (.lf .sl)) P0 78 [(.slice (some a_t14) 2 2), (.int .i64 at_)] w__1 fun (t16 : Sl) w__2 =>
(I (IntKind.wrap .i64 (n * ((t16.n : Nat) : Int))) (IntKind.wrap .i64 (at_ + 1)) w__2 ∧ M (IntKind.wrap .i64 (n * ((t16.n : Nat) : Int))) (IntKind.wrap .i64 (at_ + 1)) w__2 < M n at_ w_)) ∧
((decide ((at_ : Int) < 12)) = false → K n w_))
theorem spec.l14Ways.ok {a : Sl} {b : Sl} {w : World} {K : Int → World → Prop} (h : spec.l14Ways.vc a b w K) : CallT (.o (.lf (.i .i64))) P0 49 [a.v, b.v] w K :=
  call_of Try.func49 rfl rfl (pl := spec.l14Ways.pl) (show VC P0 Try.f49 spec.l14Ways.pl (.o (.lf (.i .i64))) [a.v, b.v] w K noP from Eq.mp (by kernel_rfl) h)
/- spec.SamePieces -/
def spec.SamePieces.pl : Pl := (.s (.r (D 1)) (.s (.s (.r [.d, (.c (.o (.lf .b))), .d, (.sp .d), .d, (.c (.o (.lf .b))), .d, .d]) (.c (.s (.r (D 1)) .z) .z)) (.s (.r [.d, .d, (.c (.o (.lf (.i .i64)))), .d]) .z)))
def spec.SamePieces.vc (a : Sl) (b : Sl) (w : World) (K : Int → World → Prop) : Prop :=
CallT (.o (.lf .b)) P0 48 [a.v] w fun (t6 : Bool) w_ =>
((!t6) = true → K (-1) w_) ∧
((!t6) = false → CallT (.o (.lf .b)) P0 48 [b.v] w_ fun (t10 : Bool) w__1 =>
((!t10) = true → K (-1) w__1) ∧
((!t10) = false → CallT (.o (.lf (.i .i64))) P0 49 [a.v, b.v] w__1 fun (t15 : Int) w__2 =>
K t15 w__2))
theorem spec.SamePieces.ok {a : Sl} {b : Sl} {w : World} {K : Int → World → Prop} (h : spec.SamePieces.vc a b w K) : CallT (.o (.lf (.i .i64))) P0 16 [a.v, b.v] w K :=
  call_of Try.func16 rfl rfl (pl := spec.SamePieces.pl) (show VC P0 Try.f16 spec.SamePieces.pl (.o (.lf (.i .i64))) [a.v, b.v] w K noP from Eq.mp (by kernel_rfl) h)
/- spec.l2Holds -/
def spec.l2Holds.pl : Pl := (.s (.r (D 1)) (.s (.s (.r (D 1)) (.b (.s (.r (D 2)) (.c (.s (.r (D 4)) .z) (.s (.r (D 2)) (.c (.s (.r (D 4)) .z) (.s (.r (D 2)) (.c (.s (.r (D 4)) .z) .z)))))))) (.s (.r (D 4)) .z)))
def spec.l2Holds.vc (op : Int) (a : Int) (b : Int) (w : World) (K : Bool → World → Prop) : Prop :=
(((op : Int) == 12) = true → K ((a : Int) == b) w) ∧
(((op : Int) == 12) = false → (((op : Int) == 13) = true → K ((a : Int) != b) w) ∧
(((op : Int) == 13) = false → (((op : Int) == 14) = true → K (decide ((a : Int) < b)) w) ∧
(((op : Int) == 14) = false → K (decide ((a : Int) > b)) w)))
theorem spec.l2Holds.ok {op : Int} {a : Int} {b : Int} {w : World} {K : Bool → World → Prop} (h : spec.l2Holds.vc op a b w K) : CallT (.o (.lf .b)) P0 108 [(.int .i64 op), (.int .i64 a), (.int .i64 b)] w K :=
  call_of Try.func108 rfl rfl (pl := spec.l2Holds.pl) (show VC P0 Try.f108 spec.l2Holds.pl (.o (.lf .b)) [(.int .i64 op), (.int .i64 a), (.int .i64 b)] w K noP from Eq.mp (by kernel_rfl) h)
/- spec.l9Of -/
def spec.l9Of.pl : Pl := (.s (.r (D 2)) (.s (.s (.r (D 1)) (.b (.l [(6, (.i .i64))] (.s (.s (.r (D 4)) (.c .z .z)) (.s (.b (.s (.r [.d, .d, .d, .d, (.l (.lf (.i .i64))), .d, .d, .d, .d, .d, (.l (.lf (.i .i64))), .d, .d, .d, .d, .d, .d, (.l (.lf (.i .i64))), (.c (.o (.lf .b)))]) (.c (.s (.r [.d, .d, .d, .d, (.l (.lf (.i .i64))), .d, .d, .d, .d, (.l (.lf (.i .i64))), .d, .d]) .z) .z))) (.r (D 3))))))) (.s (.r (D 2)) .z)))
def spec.l9Of.vc (list : Sl) (came : ByteArray) (w : World) (K : (Int) × (Int) × Unit → World → Prop) : Prop :=
∃ (I : Int → World → Prop) (M : Int → World → Nat),
I 0 w ∧
(∀ (i : Int) w_, I i w_ → ∀ _ : Nat → Value,
((decide ((i : Int) < ((list.n : Nat) : Int))) = true → QIx list.a list.n i 5 fun a_t15 =>
QLd (.i .i64) (Addr.add a_t15 1) (fun w' => Below (World.heap w_).size w_ w') fun (t17 : Int) =>
QIx list.a list.n i 5 fun a_t21 =>
QLd (.i .i64) (Addr.add a_t21 0) (fun w' => Below (World.heap w_).size w_ w') fun (t23 : Int) =>
QSx came t23 fun t24 =>
QIx list.a list.n i 5 fun a_t28 =>
QLd (.i .i64) (Addr.add a_t28 2) (fun w' => Below (World.heap w_).size w_ w') fun (t30 : Int) =>
QCl (.o (.lf .b)) P0 108 [(.int .i64 t17), (.int .i64 (IntKind.wrap .i64 t24)), (.int .i64 t30)] (fun w' => Below (World.heap w_).size w_ w') fun (t31 : Bool) =>
∀ w__1, Below (World.heap w_).size w_ w__1 →
(t31 = true → QIx list.a list.n i 5 fun a_t34 =>
QLd (.i .i64) (Addr.add a_t34 3) (fun w' => Below (World.heap w__1).size w__1 w') fun (t36 : Int) =>
QIx list.a list.n i 5 fun a_t39 =>
QLd (.i .i64) (Addr.add a_t39 4) (fun w' => Below (World.heap w__1).size w__1 w') fun (t41 : Int) =>
∀ w__2, Below (World.heap w__1).size w__1 w__2 →
K (t36, (t41, ())) w__2) ∧
(t31 = false → (I (IntKind.wrap .i64 (i + 1)) w__1 ∧ M (IntKind.wrap .i64 (i + 1)) w__1 < M i w_))) ∧
((decide ((i : Int) < ((list.n : Nat) : Int))) = false → K (1, (0, ())) w_))
theorem spec.l9Of.ok {list : Sl} {came : ByteArray} {w : World} {K : (Int) × (Int) × Unit → World → Prop} (h : spec.l9Of.vc list came w K) : CallT (.n [(.lf (.i .i64)), (.lf (.i .i64))]) P0 88 [list.v, (.string came)] w K :=
  call_of Try.func88 rfl rfl (pl := spec.l9Of.pl) (show VC P0 Try.f88 spec.l9Of.pl (.n [(.lf (.i .i64)), (.lf (.i .i64))]) [list.v, (.string came)] w K noP from Eq.mp (by kernel_rfl) h)
/- spec.l14Find -/
def spec.l14Find.pl : Pl := (.s (.r (D 2)) (.s (.r (D 3)) (.s (.s (.r (D 2)) (.c (.s (.r [.d, .d, (.c (.n [(.lf (.i .i64)), (.lf (.i .i64))])), .d, .d, .d, .d, .d]) (.s (.r [.d, .d, (.c (.n [(.lf (.i .i64)), (.lf (.i .i64))])), .d, .d, .d, .d, .d]) (.s (.r [.d, .d, .d, .d, (.sp .d), .d, .d, .d, .d, .d, .d]) .z))) .z)) (.s (.r [.d, .d, .d, .d, (.c (.o (.lf .sl))), .d]) (.s (.s (.r (D 1)) (.b (.l [(14, (.i .i64))] (.s (.s (.r (D 4)) (.c .z .z)) (.s (.b (.s (.r [.d, .d, .d, .d, .d, .d, (.l (.lf (.i .i64))), .d, .d, (.t (.o (.lf .s))), .d, (.c (.n [(.lf .s), (.lf .b)])), .d, .d, .d, .d, .d]) (.s (.r (D 1)) (.c (.s (.r (D 3)) .z) .z)))) (.r (D 3))))))) (.s (.r (D 2)) .z))))))
def spec.l14Find.vc (a : Sl) (b : Sl) (came : ByteArray) (w : World) (K : (ByteArray) × (Bool) × Unit → World → Prop) : Prop :=
((((((ByteArray.size came) : Nat) : Int) : Int) == 12) = true → CallT (.n [(.lf (.i .i64)), (.lf (.i .i64))]) P0 88 [a.v, (.string came)] w fun (t24 : (Int) × (Int) × Unit) w_ =>
CallT (.n [(.lf (.i .i64)), (.lf (.i .i64))]) P0 88 [b.v, (.string came)] w_ fun (t30 : (Int) × (Int) × Unit) w__1 =>
(((t24.1 : Int) != t30.1) = true → K (came, (true, ())) w__1) ∧
(((t24.1 : Int) != t30.1) = false → K (came, (((t24.2.1 : Int) != t30.2.1), ())) w__1)) ∧
((((((ByteArray.size came) : Nat) : Int) : Int) == 12) = false → Nw #[a.v, b.v] 25 w fun a_t44 w__2 =>
CallT (.o (.lf .sl)) P0 78 [(.slice (some a_t44) 2 2), (.int .i64 (((ByteArray.size came) : Nat) : Int))] w__2 fun (t46 : Sl) w__3 =>
∃ (I : Int → World → Prop) (M : Int → World → Nat),
I 0 w__3 ∧
(∀ (i : Int) w__4, I i w__4 → ∀ _ : Nat → Value,
((decide ((i : Int) < ((t46.n : Nat) : Int))) = true → Ix t46.a t46.n i 1 w__4 fun a_t59 w__5 =>
Ld (.i .i64) a_t59 w__5 fun (t60 : Int) w__6 =>
Nw #[(.int .u8 (IntKind.wrap .u8 t60))] 5 w__6 fun a_t62 w__7 =>
RunT (.o (.lf .s)) P0 (convert 46 9 (.slice (some a_t62) 1 1)) w__7 fun (t63 : ByteArray) w__8 =>
(((ByteArray.size came + ByteArray.size t63 : Nat) : Int) ≤ IntKind.i64.max) ∧ CallT (.n [(.lf .s), (.lf .b)]) P0 68 [a.v, b.v, (.string (came ++ t63))] w__8 fun (t65 : (ByteArray) × (Bool) × Unit) w__9 =>
(t65.2.1 = true → K (t65.1, (true, ())) w__9) ∧
(t65.2.1 = false → (I (IntKind.wrap .i64 (i + 1)) w__9 ∧ M (IntKind.wrap .i64 (i + 1)) w__9 < M i w__4))) ∧
((decide ((i : Int) < ((t46.n : Nat) : Int))) = false → K (⟨#[]⟩, (false, ())) w__4)))
theorem spec.l14Find.ok {a : Sl} {b : Sl} {came : ByteArray} {w : World} {K : (ByteArray) × (Bool) × Unit → World → Prop} (h : spec.l14Find.vc a b came w K) : CallT (.n [(.lf .s), (.lf .b)]) P0 68 [a.v, b.v, (.string came)] w K :=
  call_of Try.func68 rfl rfl (pl := spec.l14Find.pl) (show VC P0 Try.f68 spec.l14Find.pl (.n [(.lf .s), (.lf .b)]) [a.v, b.v, (.string came)] w K noP from Eq.mp (by kernel_rfl) h)
/- spec.SameFind -/
def spec.SameFind.pl : Pl := (.s (.r (D 2)) (.j [] (.s (.r [.d, (.c (.o (.lf .b))), .d, (.sp .d), .d, (.c (.o (.lf .b))), .d, .d, (.sp .d), .d, .d, (.c (.o (.lf (.i .i64)))), .d, .d]) (.c (.s (.r (D 2)) .z) .z)) (.s (.r [.d, .d, (.c (.n [(.lf .s), (.lf .b)])), .d, .d, .d, .d]) .z)))
def spec.SameFind.vc (a : Sl) (b : Sl) (w : World) (K : (ByteArray) × (Bool) × Unit → World → Prop) : Prop :=
∃ J : World → Prop,
(CallT (.o (.lf .b)) P0 48 [a.v] w fun (t7 : Bool) w_ =>
((!t7) = true → K (⟨#[]⟩, (false, ())) w_) ∧
((!t7) = false → CallT (.o (.lf .b)) P0 48 [b.v] w_ fun (t11 : Bool) w__1 =>
((!t11) = true → K (⟨#[]⟩, (false, ())) w__1) ∧
((!t11) = false → CallT (.o (.lf (.i .i64))) P0 49 [a.v, b.v] w__1 fun (t17 : Int) w__2 =>
((decide ((t17 : Int) > 400)) = true → K (⟨#[]⟩, (false, ())) w__2) ∧
((decide ((t17 : Int) > 400)) = false → J w__2)))) ∧
(∀  w__3, J w__3 → ∀ _ : Nat → Value,
CallT (.n [(.lf .s), (.lf .b)]) P0 68 [a.v, b.v, (.string ⟨#[]⟩)] w__3 fun (t22 : (ByteArray) × (Bool) × Unit) w__4 =>
K (t22.1, (t22.2.1, ())) w__4)
theorem spec.SameFind.ok {a : Sl} {b : Sl} {w : World} {K : (ByteArray) × (Bool) × Unit → World → Prop} (h : spec.SameFind.vc a b w K) : CallT (.n [(.lf .s), (.lf .b)]) P0 33 [a.v, b.v] w K :=
  call_of Try.func33 rfl rfl (pl := spec.SameFind.pl) (show VC P0 Try.f33 spec.SameFind.pl (.n [(.lf .s), (.lf .b)]) [a.v, b.v] w K noP from Eq.mp (by kernel_rfl) h)
/- spec.SameRules -/
def spec.SameRules.pl : Pl := (.s (.r (D 1)) (.j [] (.s (.r [.d, (.c (.o (.lf .b))), .d, (.sp .d), .d, (.c (.o (.lf .b))), .d, .d, (.sp .d), .d, .d, (.c (.o (.lf (.i .i64)))), .d, .d]) (.c (.s (.r (D 1)) .z) .z)) (.s (.r [.d, .d, (.c (.n [(.lf .s), (.lf .b)])), .d, .d, .d, .d, .d]) (.s (.r (D 3)) .z))))
def spec.SameRules.vc (a : Sl) (b : Sl) (w : World) (K : Bool → World → Prop) : Prop :=
∃ J : World → Prop,
(CallT (.o (.lf .b)) P0 48 [a.v] w fun (t8 : Bool) w_ =>
((!t8) = true → K false w_) ∧
((!t8) = false → CallT (.o (.lf .b)) P0 48 [b.v] w_ fun (t12 : Bool) w__1 =>
((!t12) = true → K false w__1) ∧
((!t12) = false → CallT (.o (.lf (.i .i64))) P0 49 [a.v, b.v] w__1 fun (t18 : Int) w__2 =>
((decide ((t18 : Int) > 400)) = true → K false w__2) ∧
((decide ((t18 : Int) > 400)) = false → J w__2)))) ∧
(∀  w__3, J w__3 → ∀ _ : Nat → Value,
CallT (.n [(.lf .s), (.lf .b)]) P0 68 [a.v, b.v, (.string ⟨#[]⟩)] w__3 fun (t24 : (ByteArray) × (Bool) × Unit) w__4 =>
K (!t24.2.1) w__4)
theorem spec.SameRules.ok {a : Sl} {b : Sl} {w : World} {K : Bool → World → Prop} (h : spec.SameRules.vc a b w K) : CallT (.o (.lf .b)) P0 35 [a.v, b.v] w K :=
  call_of Try.func35 rfl rfl (pl := spec.SameRules.pl) (show VC P0 Try.f35 spec.SameRules.pl (.o (.lf .b)) [a.v, b.v] w K noP from Eq.mp (by kernel_rfl) h)
/- laws.szRuleS -/
def laws.szRuleS.pl : Pl := (.s (.r (D 1)) (.s (.r (D 5)) (.s (.s (.r (D 2)) (.c (.s (.r (D 1)) .z) .z)) (.s (.r (D 2)) .z))))
def laws.szRuleS.vc (a : Sl) (left : Int) (w : World) (K : Int → World → Prop) : Prop :=
((decide (((IntKind.wrap .i64 (left - ((a.n : Nat) : Int))) : Int) < 0)) = true → K (-1) w) ∧
((decide (((IntKind.wrap .i64 (left - ((a.n : Nat) : Int))) : Int) < 0)) = false → K (IntKind.wrap .i64 (left - ((a.n : Nat) : Int))) w)
theorem laws.szRuleS.ok {a : Sl} {left : Int} {w : World} {K : Int → World → Prop} (h : laws.szRuleS.vc a left w K) : CallT (.o (.lf (.i .i64))) P0 15 [a.v, (.int .i64 left)] w K :=
  call_of Try.func15 rfl rfl (pl := laws.szRuleS.pl) (show VC P0 Try.f15 laws.szRuleS.pl (.o (.lf (.i .i64))) [a.v, (.int .i64 left)] w K noP from Eq.mp (by kernel_rfl) h)
/- laws.toRule -/
def laws.toRule.pl : Pl := (.s (.r (D 2)) (.s (.r (D 1)) (.s (.r [.d, (.l (.lf (.i .i64))), .d, .d]) (.s (.r [.d, (.l (.lf (.i .i64))), .d, .d]) (.s (.r [.d, (.l (.lf (.i .i64))), .d, .d]) (.s (.r [.d, (.l (.lf (.i .i64))), .d, .d]) (.s (.r [.d, (.l (.lf (.i .i64))), .d, .d]) (.s (.r [(.l (.ag (R 5 (.i .i64)))), .d]) .z))))))))
def laws.toRule.vc (a : Tup (R 5 (.i .i64))) (w : World) (K : Tup (R 5 (.i .i64)) → World → Prop) : Prop :=
Nw (Tup.cells (R 5 (.i .i64)) a).toArray 61 w fun a_a w_ =>
Nw (zc P0 59) 59 w_ fun a_t2 w__1 =>
Nw (zc P0 59) 59 w__1 fun a_out w__2 =>
Ld (.i .i64) (Addr.add a_a 0) w__2 fun (t5 : Int) w__3 =>
St (Addr.add a_out 0) (.int .i64 t5) w__3 fun w__4 =>
Ld (.i .i64) (Addr.add a_a 1) w__4 fun (t8 : Int) w__5 =>
St (Addr.add a_out 1) (.int .i64 t8) w__5 fun w__6 =>
Ld (.i .i64) (Addr.add a_a 2) w__6 fun (t11 : Int) w__7 =>
St (Addr.add a_out 2) (.int .i64 t11) w__7 fun w__8 =>
Ld (.i .i64) (Addr.add a_a 3) w__8 fun (t14 : Int) w__9 =>
St (Addr.add a_out 3) (.int .i64 t14) w__9 fun w__10 =>
Ld (.i .i64) (Addr.add a_a 4) w__10 fun (t17 : Int) w__11 =>
St (Addr.add a_out 4) (.int .i64 t17) w__11 fun w__12 =>
LdA (R 5 (.i .i64)) a_out w__12 fun (t19 : Tup (R 5 (.i .i64))) w__13 =>
StA P0 a_t2 (Tup.cells (R 5 (.i .i64)) t19) w__13 fun w__14 =>
LdA (R 5 (.i .i64)) a_t2 w__14 fun r w__15 =>
K r w__14
theorem laws.toRule.ok {a : Tup (R 5 (.i .i64))} {w : World} {K : Tup (R 5 (.i .i64)) → World → Prop} (h : laws.toRule.vc a w K) : CallT (.o (.ag (R 5 (.i .i64)))) P0 50 [(.agg (Tup.cells (R 5 (.i .i64)) a).toArray)] w K :=
  call_of Try.func50 rfl rfl (pl := laws.toRule.pl) (show VC P0 Try.f50 laws.toRule.pl (.o (.ag (R 5 (.i .i64)))) [(.agg (Tup.cells (R 5 (.i .i64)) a).toArray)] w K noP from Eq.mp (by kernel_rfl) h)
/- laws.toRuleS -/
def laws.toRuleS.pl : Pl := (.s (.r (D 1)) (.s (.r [.d, .d, (.t (.o (.lf .sl))), .d]) (.s (.s (.r (D 1)) (.b (.l [(4, (.i .i64))] (.s (.s (.r (D 4)) (.c .z .z)) (.s (.b (.r [.d, .d, .d, .d, .d, (.l (.ag (R 5 (.i .i64)))), (.c (.o (.ag (R 5 (.i .i64))))), .d, .d])) (.r (D 3))))))) (.s (.r (D 2)) .z))))
def laws.toRuleS.vc (a : Sl) (w : World) (K : Sl → World → Prop) : Prop :=
RunT (.o (.lf .sl)) P0 (Instr.makeSlice 25 (.int .i64 ((a.n : Nat) : Int)) (.int .i64 ((a.n : Nat) : Int))) w fun (t7 : Sl) w_ =>
∃ (I : Int → World → Prop) (M : Int → World → Nat),
I 0 w_ ∧
(∀ (i : Int) w__1, I i w__1 → ∀ _ : Nat → Value,
((decide ((i : Int) < ((a.n : Nat) : Int))) = true → Ix a.a a.n i 5 w__1 fun a_t18 w__2 =>
LdA (R 5 (.i .i64)) a_t18 w__2 fun (t19 : Tup (R 5 (.i .i64))) w__3 =>
CallT (.o (.ag (R 5 (.i .i64)))) P0 50 [(.agg (Tup.cells (R 5 (.i .i64)) t19).toArray)] w__3 fun (t20 : Tup (R 5 (.i .i64))) w__4 =>
Ix t7.a t7.n i 5 w__4 fun a_t21 w__5 =>
StA P0 a_t21 (Tup.cells (R 5 (.i .i64)) t20) w__5 fun w__6 =>
(I (IntKind.wrap .i64 (i + 1)) w__6 ∧ M (IntKind.wrap .i64 (i + 1)) w__6 < M i w__1)) ∧
((decide ((i : Int) < ((a.n : Nat) : Int))) = false → K t7 w__1))
theorem laws.toRuleS.ok {a : Sl} {w : World} {K : Sl → World → Prop} (h : laws.toRuleS.vc a w K) : CallT (.o (.lf .sl)) P0 17 [a.v] w K :=
  call_of Try.func17 rfl rfl (pl := laws.toRuleS.pl) (show VC P0 Try.f17 laws.toRuleS.pl (.o (.lf .sl)) [a.v] w K noP from Eq.mp (by kernel_rfl) h)
/- laws.eqRule -/
def laws.eqRule.pl : Pl := (.s (.r (D 3)) (.s (.s (.r [.d, (.l (.lf (.i .i64))), .d, (.l (.lf (.i .i64))), .d]) (.c (.s (.r (D 1)) .z) .z)) (.s (.s (.r [.d, (.l (.lf (.i .i64))), .d, (.l (.lf (.i .i64))), .d]) (.c (.s (.r (D 1)) .z) .z)) (.s (.s (.r [.d, (.l (.lf (.i .i64))), .d, (.l (.lf (.i .i64))), .d]) (.c (.s (.r (D 1)) .z) .z)) (.s (.s (.r [.d, (.l (.lf (.i .i64))), .d, (.l (.lf (.i .i64))), .d]) (.c (.s (.r (D 1)) .z) .z)) (.s (.s (.r [.d, (.l (.lf (.i .i64))), .d, (.l (.lf (.i .i64))), .d]) (.c (.s (.r (D 1)) .z) .z)) (.s (.r (D 1)) .z)))))))
def laws.eqRule.vc (a : Tup (R 5 (.i .i64))) (b : Tup (R 5 (.i .i64))) (w : World) (K : Bool → World → Prop) : Prop :=
Nw (Tup.cells (R 5 (.i .i64)) a).toArray 59 w fun a_a w_ =>
Nw (Tup.cells (R 5 (.i .i64)) b).toArray 59 w_ fun a_b w__1 =>
Ld (.i .i64) (Addr.add a_a 0) w__1 fun (t6 : Int) w__2 =>
Ld (.i .i64) (Addr.add a_b 0) w__2 fun (t8 : Int) w__3 =>
(((t6 : Int) != t8) = true → K false w__3) ∧
(((t6 : Int) != t8) = false → Ld (.i .i64) (Addr.add a_a 1) w__3 fun (t11 : Int) w__4 =>
Ld (.i .i64) (Addr.add a_b 1) w__4 fun (t13 : Int) w__5 =>
(((t11 : Int) != t13) = true → K false w__5) ∧
(((t11 : Int) != t13) = false → Ld (.i .i64) (Addr.add a_a 2) w__5 fun (t16 : Int) w__6 =>
Ld (.i .i64) (Addr.add a_b 2) w__6 fun (t18 : Int) w__7 =>
(((t16 : Int) != t18) = true → K false w__7) ∧
(((t16 : Int) != t18) = false → Ld (.i .i64) (Addr.add a_a 3) w__7 fun (t21 : Int) w__8 =>
Ld (.i .i64) (Addr.add a_b 3) w__8 fun (t23 : Int) w__9 =>
(((t21 : Int) != t23) = true → K false w__9) ∧
(((t21 : Int) != t23) = false → Ld (.i .i64) (Addr.add a_a 4) w__9 fun (t26 : Int) w__10 =>
Ld (.i .i64) (Addr.add a_b 4) w__10 fun (t28 : Int) w__11 =>
(((t26 : Int) != t28) = true → K false w__11) ∧
(((t26 : Int) != t28) = false → K true w__11)))))
theorem laws.eqRule.ok {a : Tup (R 5 (.i .i64))} {b : Tup (R 5 (.i .i64))} {w : World} {K : Bool → World → Prop} (h : laws.eqRule.vc a b w K) : CallT (.o (.lf .b)) P0 53 [(.agg (Tup.cells (R 5 (.i .i64)) a).toArray), (.agg (Tup.cells (R 5 (.i .i64)) b).toArray)] w K :=
  call_of Try.func53 rfl rfl (pl := laws.eqRule.pl) (show VC P0 Try.f53 laws.eqRule.pl (.o (.lf .b)) [(.agg (Tup.cells (R 5 (.i .i64)) a).toArray), (.agg (Tup.cells (R 5 (.i .i64)) b).toArray)] w K noP from Eq.mp (by kernel_rfl) h)
/- laws.eqRuleS -/
def laws.eqRuleS.pl : Pl := (.s (.r (D 1)) (.s (.s (.r (D 5)) (.c (.s (.r (D 1)) .z) .z)) (.s (.s (.r (D 1)) (.b (.l [(5, (.i .i64))] (.s (.s (.r (D 4)) (.c .z .z)) (.s (.b (.s (.r [.d, .d, .d, (.l (.ag (R 5 (.i .i64)))), .d, .d, .d, (.l (.ag (R 5 (.i .i64)))), (.c (.o (.lf .b))), .d]) (.c (.s (.r (D 1)) .z) .z))) (.r (D 3))))))) (.s (.r (D 1)) .z))))
def laws.eqRuleS.vc (a : Sl) (b : Sl) (w : World) (K : Bool → World → Prop) : Prop :=
(((((a.n : Nat) : Int) : Int) != ((b.n : Nat) : Int)) = true → K false w) ∧
(((((a.n : Nat) : Int) : Int) != ((b.n : Nat) : Int)) = false → ∃ (I : Int → World → Prop) (M : Int → World → Nat),
I 0 w ∧
(∀ (i : Int) w_, I i w_ → ∀ _ : Nat → Value,
((decide ((i : Int) < ((a.n : Nat) : Int))) = true → QIx a.a a.n i 5 fun a_t19 =>
QLdA (R 5 (.i .i64)) a_t19 (fun w' => Below (World.heap w_).size w_ w') fun (t20 : Tup (R 5 (.i .i64))) =>
QIx b.a b.n i 5 fun a_t23 =>
QLdA (R 5 (.i .i64)) a_t23 (fun w' => Below (World.heap w_).size w_ w') fun (t24 : Tup (R 5 (.i .i64))) =>
QCl (.o (.lf .b)) P0 53 [(.agg (Tup.cells (R 5 (.i .i64)) t20).toArray), (.agg (Tup.cells (R 5 (.i .i64)) t24).toArray)] (fun w' => Below (World.heap w_).size w_ w') fun (t25 : Bool) =>
∀ w__1, Below (World.heap w_).size w_ w__1 →
((!t25) = true → K false w__1) ∧
((!t25) = false → (I (IntKind.wrap .i64 (i + 1)) w__1 ∧ M (IntKind.wrap .i64 (i + 1)) w__1 < M i w_))) ∧
((decide ((i : Int) < ((a.n : Nat) : Int))) = false → K true w_)))
theorem laws.eqRuleS.ok {a : Sl} {b : Sl} {w : World} {K : Bool → World → Prop} (h : laws.eqRuleS.vc a b w K) : CallT (.o (.lf .b)) P0 19 [a.v, b.v] w K :=
  call_of Try.func19 rfl rfl (pl := laws.eqRuleS.pl) (show VC P0 Try.f19 laws.eqRuleS.pl (.o (.lf .b)) [a.v, b.v] w K noP from Eq.mp (by kernel_rfl) h)
/- laws.FnExactSamePieces -/
def laws.FnExactSamePieces.pl : Pl := (.s (.r (D 1)) (.s (.r (D 1)) (.s (.r [.d, .d, (.c (.o (.lf (.i .i64)))), .d]) (.s (.s (.r (D 2)) (.c (.s (.r (D 1)) .z) .z)) (.s (.r [.d, .d, (.c (.o (.lf (.i .i64)))), .d]) (.s (.s (.r (D 2)) (.c (.s (.r (D 1)) .z) .z)) (.s (.r [.d, (.c (.o (.lf .sl))), .d, (.c (.o (.lf .sl))), (.c (.o (.lf (.i .i64)))), .d]) (.s (.r [.d, (.c (.o (.lf .sl))), .d]) (.s (.r [.d, (.c (.o (.lf .sl))), .d]) (.s (.r [.d, .d, (.c (.o (.lf (.i .i64)))), .d]) (.s (.s (.r (D 3)) (.c (.s (.r (D 1)) .z) .z)) (.s (.s (.r [.d, .d, (.c (.o (.lf .sl))), (.c (.o (.lf .b))), .d]) (.c (.s (.r (D 1)) .z) .z)) (.s (.s (.r [.d, .d, (.c (.o (.lf .sl))), (.c (.o (.lf .b))), .d]) (.c (.s (.r (D 1)) .z) .z)) (.s (.r (D 1)) .z))))))))))))))
def laws.FnExactSamePieces.vc (aA : Sl) (aB : Sl) (w : World) (K : Bool → World → Prop) : Prop :=
CallT (.o (.lf (.i .i64))) P0 15 [aA.v, (.int .i64 1048576)] w fun (t12 : Int) w_ =>
((decide ((t12 : Int) < 0)) = true → K true w_) ∧
((decide ((t12 : Int) < 0)) = false → CallT (.o (.lf (.i .i64))) P0 15 [aB.v, (.int .i64 t12)] w_ fun (t17 : Int) w__1 =>
((decide ((t17 : Int) < 0)) = true → K true w__1) ∧
((decide ((t17 : Int) < 0)) = false → CallT (.o (.lf .sl)) P0 17 [aA.v] w__1 fun (t21 : Sl) w__2 =>
CallT (.o (.lf .sl)) P0 17 [aB.v] w__2 fun (t23 : Sl) w__3 =>
CallT (.o (.lf (.i .i64))) P0 16 [t21.v, t23.v] w__3 fun (t24 : Int) w__4 =>
CallT (.o (.lf .sl)) P0 17 [aA.v] w__4 fun (t26 : Sl) w__5 =>
CallT (.o (.lf .sl)) P0 17 [aB.v] w__5 fun (t28 : Sl) w__6 =>
CallT (.o (.lf (.i .i64))) P0 18 [t26.v, t28.v] w__6 fun (t31 : Int) w__7 =>
(((t31 : Int) != t24) = true → K false w__7) ∧
(((t31 : Int) != t24) = false → CallT (.o (.lf .sl)) P0 17 [aA.v] w__7 fun (t37 : Sl) w__8 =>
CallT (.o (.lf .b)) P0 19 [t26.v, t37.v] w__8 fun (t38 : Bool) w__9 =>
((!t38) = true → K false w__9) ∧
((!t38) = false → CallT (.o (.lf .sl)) P0 17 [aB.v] w__9 fun (t42 : Sl) w__10 =>
CallT (.o (.lf .b)) P0 19 [t28.v, t42.v] w__10 fun (t43 : Bool) w__11 =>
((!t43) = true → K false w__11) ∧
((!t43) = false → K true w__11)))))
theorem laws.FnExactSamePieces.ok {aA : Sl} {aB : Sl} {w : World} {K : Bool → World → Prop} (h : laws.FnExactSamePieces.vc aA aB w K) : CallT (.o (.lf .b)) P0 3 [aA.v, aB.v] w K :=
  call_of Try.func3 rfl rfl (pl := laws.FnExactSamePieces.pl) (show VC P0 Try.f3 laws.FnExactSamePieces.pl (.o (.lf .b)) [aA.v, aB.v] w K noP from Eq.mp (by kernel_rfl) h)
/- laws.FnExactSameFind -/
def laws.FnExactSameFind.pl : Pl := (.s (.r (D 1)) (.s (.r (D 1)) (.s (.r [.d, .d, (.c (.o (.lf (.i .i64)))), .d]) (.s (.s (.r (D 2)) (.c (.s (.r (D 1)) .z) .z)) (.s (.r [.d, .d, (.c (.o (.lf (.i .i64)))), .d]) (.s (.s (.r (D 2)) (.c (.s (.r (D 1)) .z) .z)) (.s (.r [.d, (.c (.o (.lf .sl))), .d, (.c (.o (.lf .sl))), (.c (.n [(.lf .s), (.lf .b)])), .d, .d, .d, .d, .d]) (.s (.r [.d, (.c (.o (.lf .sl))), .d]) (.s (.r [.d, (.c (.o (.lf .sl))), .d]) (.s (.r [.d, .d, (.c (.n [(.lf .s), (.lf .b)])), .d, .d, .d, .d, .d]) (.j [] (.s (.r [.d, .d, .d, (.sp .d), .d, .d, .d, .d]) (.c (.s (.r (D 1)) .z) .z)) (.s (.s (.r [.d, .d, (.c (.o (.lf .sl))), (.c (.o (.lf .b))), .d]) (.c (.s (.r (D 1)) .z) .z)) (.s (.s (.r [.d, .d, (.c (.o (.lf .sl))), (.c (.o (.lf .b))), .d]) (.c (.s (.r (D 1)) .z) .z)) (.s (.r (D 1)) .z))))))))))))))
def laws.FnExactSameFind.vc (aA : Sl) (aB : Sl) (w : World) (K : Bool → World → Prop) : Prop :=
CallT (.o (.lf (.i .i64))) P0 15 [aA.v, (.int .i64 1048576)] w fun (t14 : Int) w_ =>
((decide ((t14 : Int) < 0)) = true → K true w_) ∧
((decide ((t14 : Int) < 0)) = false → CallT (.o (.lf (.i .i64))) P0 15 [aB.v, (.int .i64 t14)] w_ fun (t19 : Int) w__1 =>
((decide ((t19 : Int) < 0)) = true → K true w__1) ∧
((decide ((t19 : Int) < 0)) = false → CallT (.o (.lf .sl)) P0 17 [aA.v] w__1 fun (t24 : Sl) w__2 =>
CallT (.o (.lf .sl)) P0 17 [aB.v] w__2 fun (t26 : Sl) w__3 =>
CallT (.n [(.lf .s), (.lf .b)]) P0 33 [t24.v, t26.v] w__3 fun (t27 : (ByteArray) × (Bool) × Unit) w__4 =>
CallT (.o (.lf .sl)) P0 17 [aA.v] w__4 fun (t31 : Sl) w__5 =>
CallT (.o (.lf .sl)) P0 17 [aB.v] w__5 fun (t33 : Sl) w__6 =>
CallT (.n [(.lf .s), (.lf .b)]) P0 34 [t31.v, t33.v] w__6 fun (t37 : (ByteArray) × (Bool) × Unit) w__7 =>
∃ J : World → Prop,
(((!(ByteArray.toList t37.1 == ByteArray.toList t27.1)) = true → K false w__7) ∧
((!(ByteArray.toList t37.1 == ByteArray.toList t27.1)) = false → ((!(t37.2.1 == t27.2.1)) = true → K false w__7) ∧
((!(t37.2.1 == t27.2.1)) = false → J w__7))) ∧
(∀  w__8, J w__8 → ∀ _ : Nat → Value,
CallT (.o (.lf .sl)) P0 17 [aA.v] w__8 fun (t50 : Sl) w__9 =>
CallT (.o (.lf .b)) P0 19 [t31.v, t50.v] w__9 fun (t51 : Bool) w__10 =>
((!t51) = true → K false w__10) ∧
((!t51) = false → CallT (.o (.lf .sl)) P0 17 [aB.v] w__10 fun (t55 : Sl) w__11 =>
CallT (.o (.lf .b)) P0 19 [t33.v, t55.v] w__11 fun (t56 : Bool) w__12 =>
((!t56) = true → K false w__12) ∧
((!t56) = false → K true w__12)))))
theorem laws.FnExactSameFind.ok {aA : Sl} {aB : Sl} {w : World} {K : Bool → World → Prop} (h : laws.FnExactSameFind.vc aA aB w K) : CallT (.o (.lf .b)) P0 7 [aA.v, aB.v] w K :=
  call_of Try.func7 rfl rfl (pl := laws.FnExactSameFind.pl) (show VC P0 Try.f7 laws.FnExactSameFind.pl (.o (.lf .b)) [aA.v, aB.v] w K noP from Eq.mp (by kernel_rfl) h)
/- laws.FnExactSameRules -/
def laws.FnExactSameRules.pl : Pl := (.s (.r (D 1)) (.s (.r (D 1)) (.s (.r [.d, .d, (.c (.o (.lf (.i .i64)))), .d]) (.s (.s (.r (D 2)) (.c (.s (.r (D 1)) .z) .z)) (.s (.r [.d, .d, (.c (.o (.lf (.i .i64)))), .d]) (.s (.s (.r (D 2)) (.c (.s (.r (D 1)) .z) .z)) (.s (.r [.d, (.c (.o (.lf .sl))), .d, (.c (.o (.lf .sl))), (.c (.o (.lf .b))), .d]) (.s (.r [.d, (.c (.o (.lf .sl))), .d]) (.s (.r [.d, (.c (.o (.lf .sl))), .d]) (.s (.r [.d, .d, (.c (.o (.lf .b))), .d]) (.s (.s (.r (D 3)) (.c (.s (.r (D 1)) .z) .z)) (.s (.s (.r [.d, .d, (.c (.o (.lf .sl))), (.c (.o (.lf .b))), .d]) (.c (.s (.r (D 1)) .z) .z)) (.s (.s (.r [.d, .d, (.c (.o (.lf .sl))), (.c (.o (.lf .b))), .d]) (.c (.s (.r (D 1)) .z) .z)) (.s (.r (D 1)) .z))))))))))))))
def laws.FnExactSameRules.vc (aA : Sl) (aB : Sl) (w : World) (K : Bool → World → Prop) : Prop :=
CallT (.o (.lf (.i .i64))) P0 15 [aA.v, (.int .i64 1048576)] w fun (t12 : Int) w_ =>
((decide ((t12 : Int) < 0)) = true → K true w_) ∧
((decide ((t12 : Int) < 0)) = false → CallT (.o (.lf (.i .i64))) P0 15 [aB.v, (.int .i64 t12)] w_ fun (t17 : Int) w__1 =>
((decide ((t17 : Int) < 0)) = true → K true w__1) ∧
((decide ((t17 : Int) < 0)) = false → CallT (.o (.lf .sl)) P0 17 [aA.v] w__1 fun (t21 : Sl) w__2 =>
CallT (.o (.lf .sl)) P0 17 [aB.v] w__2 fun (t23 : Sl) w__3 =>
CallT (.o (.lf .b)) P0 35 [t21.v, t23.v] w__3 fun (t24 : Bool) w__4 =>
CallT (.o (.lf .sl)) P0 17 [aA.v] w__4 fun (t26 : Sl) w__5 =>
CallT (.o (.lf .sl)) P0 17 [aB.v] w__5 fun (t28 : Sl) w__6 =>
CallT (.o (.lf .b)) P0 36 [t26.v, t28.v] w__6 fun (t31 : Bool) w__7 =>
((!(t31 == t24)) = true → K false w__7) ∧
((!(t31 == t24)) = false → CallT (.o (.lf .sl)) P0 17 [aA.v] w__7 fun (t37 : Sl) w__8 =>
CallT (.o (.lf .b)) P0 19 [t26.v, t37.v] w__8 fun (t38 : Bool) w__9 =>
((!t38) = true → K false w__9) ∧
((!t38) = false → CallT (.o (.lf .sl)) P0 17 [aB.v] w__9 fun (t42 : Sl) w__10 =>
CallT (.o (.lf .b)) P0 19 [t28.v, t42.v] w__10 fun (t43 : Bool) w__11 =>
((!t43) = true → K false w__11) ∧
((!t43) = false → K true w__11)))))
theorem laws.FnExactSameRules.ok {aA : Sl} {aB : Sl} {w : World} {K : Bool → World → Prop} (h : laws.FnExactSameRules.vc aA aB w K) : CallT (.o (.lf .b)) P0 8 [aA.v, aB.v] w K :=
  call_of Try.func8 rfl rfl (pl := laws.FnExactSameRules.pl) (show VC P0 Try.f8 laws.FnExactSameRules.pl (.o (.lf .b)) [aA.v, aB.v] w K noP from Eq.mp (by kernel_rfl) h)
end Go.Proofs.Ytdgnojjemlfhdaa.V
