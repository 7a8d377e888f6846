/- Verification conditions, printed by this session's own program (wip/vc.py) and checked by the kernel. -/
import Derived.Test.YtdgnojjemlfhdaaVP
import Derived.Test.YtdgnojjemlfhdaaVI
namespace Go.Proofs.Ytdgnojjemlfhdaa.V
open Go Go.RowKit
set_option linter.unusedVariables false
/- impl.looked -/
def impl.looked.pl : Pl := (.s (.r (D 1)) (.s (.r [.d, (.c (.o (.lf .b))), (.sp .d), .d, (.c (.o (.lf .b))), .d, (.sp .d), .d, .d, (.c (.o (.lf (.i .i64)))), .d, .d, .d]) .z))
def impl.looked.vc (a : Sl) (b : Sl) (w : World) (K : Bool → World → Prop) : Prop :=
CallT (.o (.lf .b)) P0 51 [a.v] w fun (t6 : Bool) w_ =>
(t6 = true → CallT (.o (.lf .b)) P0 51 [b.v] w_ fun (t9 : Bool) w__1 =>
(t9 = true → CallT (.o (.lf (.i .i64))) P0 52 [a.v, b.v] w__1 fun (t14 : Int) w__2 =>
K (decide ((t14 : Int) ≤ 400)) w__2) ∧
(t9 = false → K false w__1)) ∧
(t6 = false → K false w_)
theorem impl.looked.ok {a : Sl} {b : Sl} {w : World} {K : Bool → World → Prop} (h : impl.looked.vc a b w K) : CallT (.o (.lf .b)) P0 69 [a.v, b.v] w K :=
  call_of Try.func69 rfl rfl (pl := impl.looked.pl) (show VC P0 Try.f69 impl.looked.pl (.o (.lf .b)) [a.v, b.v] w K noP from Eq.mp (by kernel_rfl) h)
/- impl.everyPiece -/
def impl.everyPiece.pl : Pl := (.s (.r (D 3)) (.s (.r (D 2)) .z))
def impl.everyPiece.vc (a : Sl) (b : Sl) (w : World) (K : Value → World → Prop) : Prop :=
Nw #[a.v] 25 w fun a_a w_ =>
Nw #[b.v] 25 w_ fun a_b w__1 =>
K (.func (.func 109) #[] #[(.pointer (some a_a)), (.pointer (some a_b))]) w__1
theorem impl.everyPiece.ok {a : Sl} {b : Sl} {w : World} {K : Value → World → Prop} (h : impl.everyPiece.vc a b w K) : CallT (.o (.lf .any)) P0 89 [a.v, b.v] w K :=
  call_of Try.func89 rfl rfl (pl := impl.everyPiece.pl) (show VC P0 Try.f89 impl.everyPiece.pl (.o (.lf .any)) [a.v, b.v] w K noP from Eq.mp (by kernel_rfl) h)
/- impl.everyPiece$1$1 -/
def impl.everyPiece_1_1.pl : Pl := (.s (.r (D 1)) (.s (.s (.r (D 2)) (.c (.s (.r [(.l (.lf .yl)), (.l (.lf .sl)), (.t (.o (.lf .s))), .y, .d]) .z) .z)) (.s (.s (.r [(.l (.lf .sl)), (.l (.lf .sl)), .d, (.c (.o (.lf .sl))), .d, .d]) (.b (.l [(21, (.i .i64))] (.s (.r (D 1)) (.s (.c .z .z) (.s (.b (.s (.r [.d, (.l (.lf (.i .i64))), .d]) (.s (.r [(.l (.lf .sl)), .d, .d, .d, .d, .d]) (.s (.r [(.l (.lf (.fn 110 5))), .d, .d, (.c (.o (.lf .b))), .d]) (.c (.s (.r (D 1)) .z) .z))))) (.r (D 2)))))))) (.s (.r (D 1)) .z))))
def impl.everyPiece_1_1.vc (at_ : Int) (t1 : Addr) (t2 : Addr) (t3 : Addr) (t4 : Addr) (t5 : Addr) (w : World) (K : Bool → World → Prop) : Prop :=
(((at_ : Int) == 12) = true → Ld .yl t1 w fun (t12 : Nat) w_ =>
Ld .sl t2 w_ fun (t13 : Sl) w__1 =>
RunT (.o (.lf .s)) P0 (convert 46 9 t13.v) w__1 fun (t14 : ByteArray) w__2 =>
YldT P0 t12 [(.string t14)] w__2 fun (t15 : Bool) w__3 =>
K t15 w__3) ∧
(((at_ : Int) == 12) = false → Ld .sl t3 w fun (t16 : Sl) w__4 =>
Ld .sl t4 w__4 fun (t17 : Sl) w__5 =>
CallT (.o (.lf .sl)) P0 82 [t16.v, t17.v, (.int .i64 at_)] w__5 fun (t19 : Sl) w__6 =>
∃ (I : Int → World → Prop) (M : Int → World → Nat),
I 0 w__6 ∧
(∀ (t21 : Int) w__7, I t21 w__7 → ∀ _ : Nat → Value,
((decide ((t21 : Int) < ((t19.n : Nat) : Int))) = true → Ix t19.a t19.n t21 1 w__7 fun a_t23 w__8 =>
Ld (.i .i64) a_t23 w__8 fun (t24 : Int) w__9 =>
Ld .sl t2 w__9 fun (t25 : Sl) w__10 =>
Ix t25.a t25.n at_ 1 w__10 fun a_t29 w__11 =>
St a_t29 (.int .u8 (IntKind.wrap .u8 t24)) w__11 fun w__12 =>
Ld (.fn 110 5) t5 w__12 fun (t30 : AdT 5) w__13 =>
CallT (.o (.lf .b)) P0 110 [(.int .i64 (IntKind.wrap .i64 (at_ + 1))), (.pointer (some t30.1)), (.pointer (some t30.2.1)), (.pointer (some t30.2.2.1)), (.pointer (some t30.2.2.2.1)), (.pointer (some t30.2.2.2.2.1))] w__13 fun (t33 : Bool) w__14 =>
((!t33) = true → K false w__14) ∧
((!t33) = false → (I (IntKind.wrap .i64 (t21 + 1)) w__14 ∧ M (IntKind.wrap .i64 (t21 + 1)) w__14 < M t21 w__7))) ∧
((decide ((t21 : Int) < ((t19.n : Nat) : Int))) = false → K true w__7)))
theorem impl.everyPiece_1_1.ok {at_ : Int} {t1 : Addr} {t2 : Addr} {t3 : Addr} {t4 : Addr} {t5 : Addr} {w : World} {K : Bool → World → Prop} (h : impl.everyPiece_1_1.vc at_ t1 t2 t3 t4 t5 w K) : CallT (.o (.lf .b)) P0 110 [(.int .i64 at_), (.pointer (some t1)), (.pointer (some t2)), (.pointer (some t3)), (.pointer (some t4)), (.pointer (some t5))] w K :=
  callI_of Try.func110 rfl rfl (pl := impl.everyPiece_1_1.pl) (show VCI P0 Try.f110 impl.everyPiece_1_1.pl (.o (.lf .b)) [(.int .i64 at_), (.pointer (some t1)), (.pointer (some t2)), (.pointer (some t3)), (.pointer (some t4)), (.pointer (some t5))] w K noP from Eq.mp (by kernel_rfl) h)
/- impl.everyPiece$1 -/
def impl.everyPiece_1.pl : Pl := (.s (.r (D 1)) (.s (.r [(.t (.o (.lf .sl))), .d, .d]) (.s (.r (D 1)) (.s (.r (D 2)) (.r [(.l (.lf (.fn 110 5))), (.c (.o (.lf .b)))])))))
def impl.everyPiece_1.vc (yield : Nat) (t1 : Addr) (t2 : Addr) (w : World) (K : Unit → World → Prop) : Prop :=
Nw #[(.func (.yield yield) #[] #[])] 112 w fun a_yield w_ =>
RunT (.o (.lf .sl)) P0 (Instr.makeSlice 46 (.int .i64 12) (.int .i64 12)) w_ fun (t6 : Sl) w__1 =>
Nw (zc P0 46) 46 w__1 fun a_came w__2 =>
St a_came t6.v w__2 fun w__3 =>
Nw (zc P0 65) 65 w__3 fun a_from w__4 =>
St a_from (.func (.func 110) #[] #[(.pointer (some a_yield)), (.pointer (some a_came)), (.pointer (some t1)), (.pointer (some t2)), (.pointer (some a_from))]) w__4 fun w__5 =>
Ld (.fn 110 5) a_from w__5 fun (t8 : AdT 5) w__6 =>
CallT (.o (.lf .b)) P0 110 [(.int .i64 0), (.pointer (some t8.1)), (.pointer (some t8.2.1)), (.pointer (some t8.2.2.1)), (.pointer (some t8.2.2.2.1)), (.pointer (some t8.2.2.2.2.1))] w__6 fun (t9 : Bool) w__7 =>
K () w__7
theorem impl.everyPiece_1.ok {yield : Nat} {t1 : Addr} {t2 : Addr} {w : World} {K : Unit → World → Prop} (h : impl.everyPiece_1.vc yield t1 t2 w K) : CallT .z P0 109 [(.func (.yield yield) #[] #[]), (.pointer (some t1)), (.pointer (some t2))] w K :=
  call_of Try.func109 rfl rfl (pl := impl.everyPiece_1.pl) (show VC P0 Try.f109 impl.everyPiece_1.pl .z [(.func (.yield yield) #[] #[]), (.pointer (some t1)), (.pointer (some t2))] w K noP from Eq.mp (by kernel_rfl) h)
/- impl.SameFind -/
def impl.SameFind.pl : Pl := (.s (.r (D 2)) (.s (.s (.r [.d, .d, (.c (.o (.lf .b))), .d]) (.c (.s (.r (D 2)) .z) .z)) (.s (.r [.d, .d, (.c (.n [(.lf .s), (.lf .b)])), .d, .d, .d, .d]) .z)))
def impl.SameFind.vc (a : Sl) (b : Sl) (w : World) (K : (ByteArray) × (Bool) × Unit → World → Prop) : Prop :=
CallT (.o (.lf .b)) P0 69 [a.v, b.v] w fun (t8 : Bool) w_ =>
((!t8) = true → K (⟨#[]⟩, (false, ())) w_) ∧
((!t8) = false → CallT (.n [(.lf .s), (.lf .b)]) P0 70 [a.v, b.v] w_ fun (t12 : (ByteArray) × (Bool) × Unit) w__1 =>
K (t12.1, (t12.2.1, ())) w__1)
theorem impl.SameFind.ok {a : Sl} {b : Sl} {w : World} {K : (ByteArray) × (Bool) × Unit → World → Prop} (h : impl.SameFind.vc a b w K) : CallT (.n [(.lf .s), (.lf .b)]) P0 34 [a.v, b.v] w K :=
  call_of Try.func34 rfl rfl (pl := impl.SameFind.pl) (show VC P0 Try.f34 impl.SameFind.pl (.n [(.lf .s), (.lf .b)]) [a.v, b.v] w K noP from Eq.mp (by kernel_rfl) h)
/- impl.SameRules -/
def impl.SameRules.pl : Pl := (.s (.r (D 1)) (.s (.s (.r [.d, .d, (.c (.o (.lf .b))), .d]) (.c (.s (.r (D 1)) .z) .z)) (.s (.r [.d, .d, (.c (.n [(.lf .s), (.lf .b)])), .d, .d, .d, .d, .d]) (.s (.r (D 3)) .z))))
def impl.SameRules.vc (a : Sl) (b : Sl) (w : World) (K : Bool → World → Prop) : Prop :=
CallT (.o (.lf .b)) P0 69 [a.v, b.v] w fun (t9 : Bool) w_ =>
((!t9) = true → K false w_) ∧
((!t9) = false → CallT (.n [(.lf .s), (.lf .b)]) P0 70 [a.v, b.v] w_ fun (t14 : (ByteArray) × (Bool) × Unit) w__1 =>
K (!t14.2.1) w__1)
theorem impl.SameRules.ok {a : Sl} {b : Sl} {w : World} {K : Bool → World → Prop} (h : impl.SameRules.vc a b w K) : CallT (.o (.lf .b)) P0 36 [a.v, b.v] w K :=
  call_of Try.func36 rfl rfl (pl := impl.SameRules.pl) (show VC P0 Try.f36 impl.SameRules.pl (.o (.lf .b)) [a.v, b.v] w K noP from Eq.mp (by kernel_rfl) h)
end Go.Proofs.Ytdgnojjemlfhdaa.V
