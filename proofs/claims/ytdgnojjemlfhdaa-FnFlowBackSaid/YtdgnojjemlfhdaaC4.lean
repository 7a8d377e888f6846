/- Verification conditions, printed by this session's own program (wip/vc.py) and checked by the kernel. -/
import Derived.Test.YtdgnojjemlfhdaaVP
namespace Go.Proofs.Ytdgnojjemlfhdaa.V
open Go Go.RowKit
set_option linter.unusedVariables false
/- spec.l20Open -/
def spec.l20Open.pl : Pl := (.s (.r (D 1)) (.s (.s (.r (D 3)) (.c (.r [.d, (.t (.o (.lf .sl))), .d]) .z)) (.s (.r (D 4)) .z)))
def spec.l20Open.vc (code : Sl) (w : World) (K : Option Addr → World → Prop) : Prop :=
((decide ((((code.n : Nat) : Int) : Int) > 2000)) = true → RunT (.o (.lf .sl)) P0 (Instr.sliceAt 46 code.v none (some (.int .i64 2000)) none) w fun (t7 : Sl) w_ =>
Nw #[t7.v, (.int .i64 0)] 98 w_ fun a_t10 w__1 =>
K (some a_t10) w__1) ∧
((decide ((((code.n : Nat) : Int) : Int) > 2000)) = false → Nw #[code.v, (.int .i64 0)] 98 w fun a_t10_1 w__2 =>
K (some a_t10_1) w__2)
theorem spec.l20Open.ok {code : Sl} {w : World} {K : Option Addr → World → Prop} (h : spec.l20Open.vc code w K) : CallT (.o (.lf .p)) P0 72 [code.v] w K :=
  call_of Try.func72 rfl rfl (pl := spec.l20Open.pl) (show VC P0 Try.f72 spec.l20Open.pl (.o (.lf .p)) [code.v] w K noP from Eq.mp (by kernel_rfl) h)
/- (spec.l20Rd).pick -/
def spec.l20Rd.pick.pl : Pl := (.s (.r (D 1)) (.s (.r [.d, .d, .n, .d, (.l (.lf (.i .i64))), .d, .n, .d, .d]) (.j [] (.s (.r [.d, .d, (.sp .d), .d, .n, .d, (.l (.lf .sl)), .d, .d, .d]) (.c (.s (.r (D 1)) .z) .z)) (.s (.r [.d, .n, .d, (.l (.lf (.i .i64))), .d, .d]) (.s (.s (.r [.d, .d, .n, .d, (.l (.lf .sl)), .d, .d]) (.c (.s (.r [.d, .n, .d, (.l (.lf .sl)), .d, .d, (.l (.lf (.i .u8))), .d, .d, .d, .d]) .z) .z)) (.s (.r [.d, .n, .d, (.l (.lf .sl)), .d, .d, .n, .d, (.l (.lf .sl)), .d, .d, .d, (.l (.lf (.i .u8))), .d, .d, .d, .n, .d, (.l (.lf .sl)), .d, .d, .d, .d, .n, .d, (.l (.lf .sl)), .d, .d, .d, (.l (.lf (.i .u8))), .d, .d, .d, .d, .d, .d, .d, .d, .n, .d, (.l (.lf .sl)), .d, .d, .d, .d, .d]) (.s (.r (D 5)) (.s (.r (D 4)) .z))))))))
def spec.l20Rd.pick.vc (r : Option Addr) (n : Int) (w : World) (K : Int → World → Prop) : Prop :=
Nc r w fun a_t9 w_ =>
Ld (.i .i64) (Addr.add a_t9 1) w_ fun (t11 : Int) w__1 =>
Nc r w__1 fun a_t13 w__2 =>
St (Addr.add a_t13 1) (.int .i64 (IntKind.wrap .i64 (t11 + 1))) w__2 fun w__3 =>
∃ J : World → Prop,
(((decide ((n : Int) < 1)) = true → K 0 w__3) ∧
((decide ((n : Int) < 1)) = false → Nc r w__3 fun a_t19 w__4 =>
Ld .sl (Addr.add a_t19 0) w__4 fun (t21 : Sl) w__5 =>
(((((t21.n : Nat) : Int) : Int) == 0) = true → K 0 w__5) ∧
(((((t21.n : Nat) : Int) : Int) == 0) = false → J w__5))) ∧
(∀  w__6, J w__6 → ∀ _ : Nat → Value,
Nc r w__6 fun a_t26 w__7 =>
Ld (.i .i64) (Addr.add a_t26 1) w__7 fun (t28 : Int) w__8 =>
Nc r w__8 fun a_t32 w__9 =>
Ld .sl (Addr.add a_t32 0) w__9 fun (t34 : Sl) w__10 =>
((decide (((IntKind.wrap .i64 (t28 - 1)) : Int) < ((t34.n : Nat) : Int))) = true → Nc r w__10 fun a_t38 w__11 =>
Ld .sl (Addr.add a_t38 0) w__11 fun (t40 : Sl) w__12 =>
Ix t40.a t40.n (IntKind.wrap .i64 (t28 - 1)) 1 w__12 fun a_t42 w__13 =>
Ld (.i .u8) a_t42 w__13 fun (t43 : Int) w__14 =>
(n : Int) ≠ 0 ∧ K (Int.tmod (IntKind.wrap .i64 t43) n) w__14) ∧
((decide (((IntKind.wrap .i64 (t28 - 1)) : Int) < ((t34.n : Nat) : Int))) = false → ∃ a_t48, r = some a_t48 ∧ QLd .sl (Addr.add a_t48 0) (fun w' => Below (World.heap w__10).size w__10 w') fun (t50 : Sl) =>
∃ a_t53, r = some a_t53 ∧ QLd .sl (Addr.add a_t53 0) (fun w' => Below (World.heap w__10).size w__10 w') fun (t55 : Sl) =>
(((t55.n : Nat) : Int) : Int) ≠ 0 ∧ QIx t50.a t50.n (Int.tmod (IntKind.wrap .i64 (t28 - 1)) ((t55.n : Nat) : Int)) 1 fun a_t58 =>
QLd (.i .u8) a_t58 (fun w' => Below (World.heap w__10).size w__10 w') fun (t59 : Int) =>
∃ a_t63, r = some a_t63 ∧ QLd .sl (Addr.add a_t63 0) (fun w' => Below (World.heap w__10).size w__10 w') fun (t65 : Sl) =>
∃ a_t70, r = some a_t70 ∧ QLd .sl (Addr.add a_t70 0) (fun w' => Below (World.heap w__10).size w__10 w') fun (t72 : Sl) =>
(((t72.n : Nat) : Int) : Int) ≠ 0 ∧ QIx t65.a t65.n (Int.tmod (IntKind.wrap .i64 ((IntKind.wrap .i64 ((IntKind.wrap .i64 (t28 - 1)) * 7)) + 3)) ((t72.n : Nat) : Int)) 1 fun a_t75 =>
QLd (.i .u8) a_t75 (fun w' => Below (World.heap w__10).size w__10 w') fun (t76 : Int) =>
∃ a_t85, r = some a_t85 ∧ QLd .sl (Addr.add a_t85 0) (fun w' => Below (World.heap w__10).size w__10 w') fun (t87 : Sl) =>
(((t87.n : Nat) : Int) : Int) ≠ 0 ∧ ∀ w__15, Below (World.heap w__10).size w__10 w__15 →
(64 : Int) ≠ 0 ∧ (n : Int) ≠ 0 ∧ K (Int.tmod (iXor .i64 (IntKind.wrap .i64 ((IntKind.wrap .i64 ((IntKind.wrap .i64 ((IntKind.wrap .i64 ((IntKind.wrap .i64 t59) * 131)) + (IntKind.wrap .i64 ((IntKind.wrap .i64 t76) * 1117)))) + (IntKind.wrap .i64 ((IntKind.wrap .i64 (t28 - 1)) * 29)))) + (IntKind.wrap .i64 ((IntKind.wrap .i64 (Int.tdiv (IntKind.wrap .i64 (t28 - 1)) ((t87.n : Nat) : Int))) * 53)))) (IntKind.wrap .i64 (Int.tdiv (IntKind.wrap .i64 ((IntKind.wrap .i64 ((IntKind.wrap .i64 ((IntKind.wrap .i64 ((IntKind.wrap .i64 t59) * 131)) + (IntKind.wrap .i64 ((IntKind.wrap .i64 t76) * 1117)))) + (IntKind.wrap .i64 ((IntKind.wrap .i64 (t28 - 1)) * 29)))) + (IntKind.wrap .i64 ((IntKind.wrap .i64 (Int.tdiv (IntKind.wrap .i64 (t28 - 1)) ((t87.n : Nat) : Int))) * 53)))) 64))) n) w__15))
theorem spec.l20Rd.pick.ok {r : Option Addr} {n : Int} {w : World} {K : Int → World → Prop} (h : spec.l20Rd.pick.vc r n w K) : CallT (.o (.lf (.i .i64))) P0 74 [(.pointer r), (.int .i64 n)] w K :=
  call_of Try.func74 rfl rfl (pl := spec.l20Rd.pick.pl) (show VC P0 Try.f74 spec.l20Rd.pick.pl (.o (.lf (.i .i64))) [(.pointer r), (.int .i64 n)] w K noP from Eq.mp (by kernel_rfl) h)
/- (spec.l20Rd).one -/
def spec.l20Rd.one.pl : Pl := (.s (.r (D 1)) (.s (.r [.d, .d, .d, .d, (.c (.o (.lf (.i .i64)))), .d, (.l (.lf (.i .i64))), .d]) .z))
def spec.l20Rd.one.vc (r : Option Addr) (list : Sl) (w : World) (K : Int → World → Prop) : Prop :=
CallT (.o (.lf (.i .i64))) P0 74 [(.pointer r), (.int .i64 ((list.n : Nat) : Int))] w fun (t9 : Int) w_ =>
Ix list.a list.n t9 1 w_ fun a_t10 w__1 =>
Ld (.i .i64) a_t10 w__1 fun (t11 : Int) w__2 =>
K t11 w__2
theorem spec.l20Rd.one.ok {r : Option Addr} {list : Sl} {w : World} {K : Int → World → Prop} (h : spec.l20Rd.one.vc r list w K) : CallT (.o (.lf (.i .i64))) P0 95 [(.pointer r), list.v] w K :=
  call_of Try.func95 rfl rfl (pl := spec.l20Rd.one.pl) (show VC P0 Try.f95 spec.l20Rd.one.pl (.o (.lf (.i .i64))) [(.pointer r), list.v] w K noP from Eq.mp (by kernel_rfl) h)
/- spec.l20Imm -/
def spec.l20Imm.pl : Pl := (.s (.r (D 1)) (.s (.r [.d, .d, (.c (.o (.lf (.i .i64)))), .d]) .z))
def spec.l20Imm.vc (r : Option Addr) (w : World) (K : Int → World → Prop) : Prop :=
Nw #[(.int .i64 0), (.int .i64 1), (.int .i64 2), (.int .i64 3), (.int .i64 7), (.int .i64 8), (.int .i64 15), (.int .i64 31), (.int .i64 100), (.int .i64 255), (.int .i64 65535), (.int .i64 2147483647), (.int .i64 2147483648), (.int .i64 4294967295)] 3 w fun a_t4 w_ =>
CallT (.o (.lf (.i .i64))) P0 95 [(.pointer r), (.slice (some a_t4) 14 14)] w_ fun (t5 : Int) w__1 =>
K t5 w__1
theorem spec.l20Imm.ok {r : Option Addr} {w : World} {K : Int → World → Prop} (h : spec.l20Imm.vc r w K) : CallT (.o (.lf (.i .i64))) P0 94 [(.pointer r)] w K :=
  call_of Try.func94 rfl rfl (pl := spec.l20Imm.pl) (show VC P0 Try.f94 spec.l20Imm.pl (.o (.lf (.i .i64))) [(.pointer r)] w K noP from Eq.mp (by kernel_rfl) h)
/- spec.l20Alu -/
def spec.l20Alu.pl : Pl := (.s (.r (D 1)) (.s (.r [.d, (.c (.o (.lf (.i .i64)))), .d, .d, .d, (.c (.o (.lf (.i .i64)))), .d, (.c (.o (.lf (.i .i64)))), .d, .d, .d]) (.s (.s (.r [.d, (.c (.o (.lf (.i .i64)))), .d]) (.c (.s (.r [.d, .d, (.c (.o (.lf (.i .i64)))), .d, .d]) (.r (D 2))) .z)) (.s (.r [(.l (.ag (R 6 (.i .i64)))), .d]) .z))))
def spec.l20Alu.vc (r : Option Addr) (w : World) (K : Tup (R 6 (.i .i64)) → World → Prop) : Prop :=
Nw (zc P0 51) 51 w fun a_t2 w_ =>
CallT (.o (.lf (.i .i64))) P0 74 [(.pointer r), (.int .i64 11)] w_ fun (t5 : Int) w__1 =>
Nw #[(.int .i64 0), (.int .i64 6), (.int .i64 7), (.int .i64 8)] 3 w__1 fun a_t8 w__2 =>
CallT (.o (.lf (.i .i64))) P0 95 [(.pointer r), (.slice (some a_t8) 4 4)] w__2 fun (t9 : Int) w__3 =>
CallT (.o (.lf (.i .i64))) P0 94 [(.pointer r)] w__3 fun (t11 : Int) w__4 =>
Nw (zc P0 51) 51 w__4 fun a_x w__5 =>
StA P0 a_x [(.int .i64 (IntKind.wrap .i64 (1 + t5))), (.int .i64 t9), (.int .i64 (-1)), (.int .i64 0), (.int .i64 t11), (.int .i64 0)] w__5 fun w__6 =>
CallT (.o (.lf (.i .i64))) P0 74 [(.pointer r), (.int .i64 2)] w__6 fun (t14 : Int) w__7 =>
(((t14 : Int) == 0) = true → Nw #[(.int .i64 0), (.int .i64 6), (.int .i64 7), (.int .i64 8)] 3 w__7 fun a_t17 w__8 =>
CallT (.o (.lf (.i .i64))) P0 95 [(.pointer r), (.slice (some a_t17) 4 4)] w__8 fun (t18 : Int) w__9 =>
St (Addr.add a_x 2) (.int .i64 t18) w__9 fun w__10 =>
St (Addr.add a_x 4) (.int .i64 0) w__10 fun w__11 =>
LdA (R 6 (.i .i64)) a_x w__11 fun (t21 : Tup (R 6 (.i .i64))) w__12 =>
StA P0 a_t2 (Tup.cells (R 6 (.i .i64)) t21) w__12 fun w__13 =>
LdA (R 6 (.i .i64)) a_t2 w__13 fun r_1 w__14 =>
K r_1 w__13) ∧
(((t14 : Int) == 0) = false → LdA (R 6 (.i .i64)) a_x w__7 fun (t21_1 : Tup (R 6 (.i .i64))) w__15 =>
StA P0 a_t2 (Tup.cells (R 6 (.i .i64)) t21_1) w__15 fun w__16 =>
LdA (R 6 (.i .i64)) a_t2 w__16 fun r_2 w__17 =>
K r_2 w__16)
theorem spec.l20Alu.ok {r : Option Addr} {w : World} {K : Tup (R 6 (.i .i64)) → World → Prop} (h : spec.l20Alu.vc r w K) : CallT (.o (.ag (R 6 (.i .i64)))) P0 96 [(.pointer r)] w K :=
  call_of Try.func96 rfl rfl (pl := spec.l20Alu.pl) (show VC P0 Try.f96 spec.l20Alu.pl (.o (.ag (R 6 (.i .i64)))) [(.pointer r)] w K noP from Eq.mp (by kernel_rfl) h)
/- spec.l20Lines -/
def spec.l20Lines.pl : Pl := (.s (.r (D 1)) (.s (.r (D 17)) .z))
def spec.l20Lines.vc  (w : World) (K : Sl → World → Prop) : Prop :=
Nw #[(.string ⟨#[109, 111, 118, 32, 114, 48, 32, 49]⟩), (.string ⟨#[101, 120, 105, 116]⟩)] 9 w fun a_t1 w_ =>
Nw #[(.string ⟨#[108, 111, 97, 100, 49, 32, 114, 50, 32, 114, 49, 32, 48]⟩), (.string ⟨#[109, 111, 118, 32, 114, 48, 32, 48]⟩), (.string ⟨#[108, 101, 115, 115, 32, 114, 50, 32, 49, 48, 32, 49]⟩), (.string ⟨#[109, 111, 118, 32, 114, 48, 32, 49]⟩), (.string ⟨#[101, 120, 105, 116]⟩)] 9 w_ fun a_t2 w__1 =>
Nw #[(.string ⟨#[108, 111, 97, 100, 49, 32, 114, 54, 32, 114, 49, 32, 48]⟩), (.string ⟨#[97, 110, 100, 32, 114, 54, 32, 51]⟩), (.string ⟨#[109, 111, 118, 32, 114, 49, 32, 48]⟩), (.string ⟨#[109, 111, 118, 32, 114, 50, 32, 114, 54]⟩), (.string ⟨#[99, 97, 108, 108, 32, 108, 111, 111, 107]⟩), (.string ⟨#[111, 116, 104, 101, 114, 32, 114, 48, 32, 48, 32, 50]⟩), (.string ⟨#[109, 111, 118, 32, 114, 48, 32, 48]⟩), (.string ⟨#[101, 120, 105, 116]⟩), (.string ⟨#[108, 111, 97, 100, 49, 32, 114, 51, 32, 114, 48, 32, 48]⟩), (.string ⟨#[97, 100, 100, 32, 114, 51, 32, 49]⟩), (.string ⟨#[115, 116, 111, 114, 101, 49, 32, 114, 48, 32, 48, 32, 114, 51]⟩), (.string ⟨#[109, 111, 118, 32, 114, 48, 32, 49]⟩), (.string ⟨#[101, 120, 105, 116]⟩)] 9 w__1 fun a_t3 w__2 =>
Nw #[(.string ⟨#[108, 111, 97, 100, 52, 32, 114, 50, 32, 114, 49, 32, 48]⟩), (.string ⟨#[115, 116, 111, 114, 101, 52, 32, 114, 49, 48, 32, 45, 52, 32, 114, 50]⟩), (.string ⟨#[108, 111, 97, 100, 49, 32, 114, 48, 32, 114, 49, 48, 32, 45, 51]⟩), (.string ⟨#[97, 110, 100, 32, 114, 48, 32, 49]⟩), (.string ⟨#[101, 120, 105, 116]⟩)] 9 w__2 fun a_t4 w__3 =>
Nw #[(.string ⟨#[108, 111, 97, 100, 49, 32, 114, 49, 32, 114, 49, 32, 48]⟩), (.string ⟨#[99, 97, 108, 108, 32, 102, 105, 110, 100]⟩), (.string ⟨#[115, 97, 109, 101, 32, 114, 48, 32, 48, 32, 52]⟩), (.string ⟨#[109, 111, 118, 32, 114, 49, 32, 114, 48]⟩), (.string ⟨#[99, 97, 108, 108, 32, 100, 114, 111, 112]⟩), (.string ⟨#[109, 111, 118, 32, 114, 48, 32, 49]⟩), (.string ⟨#[101, 120, 105, 116]⟩), (.string ⟨#[109, 111, 118, 32, 114, 48, 32, 48]⟩), (.string ⟨#[101, 120, 105, 116]⟩)] 9 w__3 fun a_t5 w__4 =>
Nw #[(.string ⟨#[108, 111, 97, 100, 49, 32, 114, 49, 32, 114, 49, 32, 48]⟩), (.string ⟨#[99, 97, 108, 108, 32, 115, 101, 110, 100]⟩), (.string ⟨#[109, 111, 118, 32, 114, 48, 32, 50]⟩), (.string ⟨#[101, 120, 105, 116]⟩)] 9 w__4 fun a_t6 w__5 =>
Nw #[(.string ⟨#[109, 111, 118, 32, 114, 54, 32, 48]⟩), (.string ⟨#[97, 100, 100, 32, 114, 54, 32, 49]⟩), (.string ⟨#[108, 101, 115, 115, 32, 114, 54, 32, 53, 32, 45, 50]⟩), (.string ⟨#[109, 111, 118, 32, 114, 48, 32, 114, 54]⟩), (.string ⟨#[101, 120, 105, 116]⟩)] 9 w__5 fun a_t7 w__6 =>
Nw #[(.string ⟨#[108, 111, 97, 100, 49, 32, 114, 50, 32, 114, 49, 32, 48]⟩), (.string ⟨#[97, 110, 100, 32, 114, 50, 32, 55]⟩), (.string ⟨#[109, 111, 118, 32, 114, 51, 32, 114, 49]⟩), (.string ⟨#[97, 100, 100, 32, 114, 51, 32, 114, 50]⟩), (.string ⟨#[108, 111, 97, 100, 49, 32, 114, 48, 32, 114, 51, 32, 48]⟩), (.string ⟨#[101, 120, 105, 116]⟩)] 9 w__6 fun a_t8 w__7 =>
Nw #[(.string ⟨#[99, 97, 108, 108, 32, 114, 97, 110, 100]⟩), (.string ⟨#[109, 111, 100, 32, 114, 48, 32, 51]⟩), (.string ⟨#[101, 120, 105, 116]⟩)] 9 w__7 fun a_t9 w__8 =>
Nw #[(.string ⟨#[108, 111, 97, 100, 50, 32, 114, 50, 32, 114, 49, 32, 52]⟩), (.string ⟨#[109, 111, 118, 32, 114, 48, 32, 114, 50]⟩), (.string ⟨#[115, 104, 114, 32, 114, 48, 32, 52]⟩), (.string ⟨#[120, 111, 114, 32, 114, 48, 32, 50, 53, 53]⟩), (.string ⟨#[100, 105, 118, 32, 114, 48, 32, 51]⟩), (.string ⟨#[101, 120, 105, 116]⟩)] 9 w__8 fun a_t10 w__9 =>
Nw #[(.string ⟨#[108, 111, 97, 100, 49, 32, 114, 54, 32, 114, 49, 32, 48]⟩), (.string ⟨#[109, 111, 118, 32, 114, 49, 32, 49]⟩), (.string ⟨#[109, 111, 118, 32, 114, 50, 32, 114, 54]⟩), (.string ⟨#[109, 111, 118, 32, 114, 51, 32, 55]⟩), (.string ⟨#[99, 97, 108, 108, 32, 112, 117, 116]⟩), (.string ⟨#[101, 120, 105, 116]⟩)] 9 w__9 fun a_t11 w__10 =>
Nw #[(.string ⟨#[108, 111, 97, 100, 49, 32, 114, 49, 32, 114, 49, 32, 49]⟩), (.string ⟨#[99, 97, 108, 108, 32, 102, 105, 110, 100]⟩), (.string ⟨#[109, 111, 118, 32, 114, 54, 32, 114, 48]⟩), (.string ⟨#[111, 116, 104, 101, 114, 32, 114, 54, 32, 48, 32, 50]⟩), (.string ⟨#[109, 111, 118, 32, 114, 48, 32, 48]⟩), (.string ⟨#[101, 120, 105, 116]⟩), (.string ⟨#[109, 111, 118, 32, 114, 49, 32, 114, 54]⟩), (.string ⟨#[99, 97, 108, 108, 32, 100, 114, 111, 112]⟩), (.string ⟨#[109, 111, 118, 32, 114, 48, 32, 50]⟩), (.string ⟨#[101, 120, 105, 116]⟩)] 9 w__10 fun a_t12 w__11 =>
Nw #[(.string ⟨#[108, 111, 97, 100, 49, 32, 114, 50, 32, 114, 49, 32, 48]⟩), (.string ⟨#[109, 111, 114, 101, 32, 114, 50, 32, 55, 32, 50]⟩), (.string ⟨#[115, 116, 111, 114, 101, 49, 32, 114, 49, 48, 32, 45, 49, 32, 114, 50]⟩), (.string ⟨#[103, 111, 32, 49]⟩), (.string ⟨#[115, 116, 111, 114, 101, 49, 32, 114, 49, 48, 32, 45, 49, 32, 48]⟩), (.string ⟨#[108, 111, 97, 100, 49, 32, 114, 48, 32, 114, 49, 48, 32, 45, 49]⟩), (.string ⟨#[101, 120, 105, 116]⟩)] 9 w__11 fun a_t13 w__12 =>
Nw #[(.string ⟨#[108, 111, 97, 100, 49, 32, 114, 50, 32, 114, 49, 32, 48]⟩), (.string ⟨#[108, 101, 115, 115, 32, 114, 50, 32, 57, 32, 49]⟩), (.string ⟨#[109, 111, 118, 32, 114, 50, 32, 56]⟩), (.string ⟨#[109, 111, 118, 32, 114, 51, 32, 114, 49, 48]⟩), (.string ⟨#[115, 117, 98, 32, 114, 51, 32, 49, 54]⟩), (.string ⟨#[115, 116, 111, 114, 101, 52, 32, 114, 51, 32, 48, 32, 49]⟩), (.string ⟨#[115, 116, 111, 114, 101, 52, 32, 114, 51, 32, 52, 32, 50]⟩), (.string ⟨#[115, 116, 111, 114, 101, 52, 32, 114, 51, 32, 56, 32, 51]⟩), (.string ⟨#[97, 100, 100, 32, 114, 51, 32, 114, 50]⟩), (.string ⟨#[108, 111, 97, 100, 49, 32, 114, 48, 32, 114, 51, 32, 48]⟩), (.string ⟨#[101, 120, 105, 116]⟩)] 9 w__12 fun a_t14 w__13 =>
Nw #[(.string ⟨#[108, 111, 97, 100, 49, 32, 114, 50, 32, 114, 49, 32, 48]⟩), (.string ⟨#[109, 117, 108, 32, 114, 50, 32, 49, 48, 48, 48]⟩), (.string ⟨#[109, 111, 118, 32, 114, 48, 32, 114, 50]⟩), (.string ⟨#[109, 111, 114, 101, 32, 114, 48, 32, 49, 48, 48, 48, 48, 48, 32, 49]⟩), (.string ⟨#[115, 117, 98, 32, 114, 48, 32, 49]⟩), (.string ⟨#[101, 120, 105, 116]⟩)] 9 w__13 fun a_t15 w__14 =>
Nw #[(.slice (some a_t1) 2 2), (.slice (some a_t2) 5 5), (.slice (some a_t3) 13 13), (.slice (some a_t4) 5 5), (.slice (some a_t5) 9 9), (.slice (some a_t6) 4 4), (.slice (some a_t7) 5 5), (.slice (some a_t8) 6 6), (.slice (some a_t9) 3 3), (.slice (some a_t10) 6 6), (.slice (some a_t11) 6 6), (.slice (some a_t12) 10 10), (.slice (some a_t13) 7 7), (.slice (some a_t14) 11 11), (.slice (some a_t15) 6 6)] 102 w__14 fun a_t16 w__15 =>
K ⟨(some a_t16), 15, 15⟩ w__15
theorem spec.l20Lines.ok  {w : World} {K : Sl → World → Prop} (h : spec.l20Lines.vc  w K) : CallT (.o (.lf .sl)) P0 92 [] w K :=
  call_of Try.func92 rfl rfl (pl := spec.l20Lines.pl) (show VC P0 Try.f92 spec.l20Lines.pl (.o (.lf .sl)) [] w K noP from Eq.mp (by kernel_rfl) h)
/- spec.l20Read -/
def spec.l20Read.pl : Pl := (.s (.r (D 1)) (.s (.r (D 2)) (.s (.s (.r (D 1)) (.b (.l [(3, .sl), (4, (.i .i64))] (.s (.s (.r (D 4)) (.c .z .z)) (.s (.b (.s (.r [.d, .d, .d, (.l (.lf .s)), (.c (.n [(.ag (R 6 (.i .i64))), (.lf .b)])), .d, .d, .d, .d, .d, .d]) (.r [.d, (.l (.ag (R 6 (.i .i64)))), .d, (.t (.o (.lf .sl))), .d]))) (.r (D 3))))))) (.s (.r (D 2)) .z))))
def spec.l20Read.vc (list : Sl) (w : World) (K : Sl → World → Prop) : Prop :=
Nw #[] 51 w fun a_t7 w_ =>
∃ (I : Sl → Int → World → Prop) (M : Sl → Int → World → Nat),
I ⟨(some a_t7), 0, 0⟩ 0 w_ ∧
(∀ (out : Sl) (i : Int) w__1, I out i w__1 → ∀ _ : Nat → Value,
((decide ((i : Int) < ((list.n : Nat) : Int))) = true → Ix list.a list.n i 1 w__1 fun a_t17 w__2 =>
Ld .s a_t17 w__2 fun (t18 : ByteArray) w__3 =>
CallT (.n [(.ag (R 6 (.i .i64))), (.lf .b)]) P0 112 [(.string t18)] w__3 fun (t19 : (Tup (R 6 (.i .i64))) × (Bool) × Unit) w__4 =>
Nw (zc P0 51) 51 w__4 fun a_x w__5 =>
StA P0 a_x (Tup.cells (R 6 (.i .i64)) t19.1) w__5 fun w__6 =>
LdA (R 6 (.i .i64)) a_x w__6 fun (t23 : Tup (R 6 (.i .i64))) w__7 =>
Nw #[(.int .i64 t23.1), (.int .i64 t23.2.1), (.int .i64 t23.2.2.1), (.int .i64 t23.2.2.2.1), (.int .i64 t23.2.2.2.2.1), (.int .i64 t23.2.2.2.2.2.1)] 51 w__7 fun a_t24 w__8 =>
RunT (.o (.lf .sl)) P0 (Builtin.append_ #[33, 33] 33 #[out.v, (.slice (some a_t24) 1 1)]) w__8 fun (t25 : Sl) w__9 =>
(I t25 (IntKind.wrap .i64 (i + 1)) w__9 ∧ M t25 (IntKind.wrap .i64 (i + 1)) w__9 < M out i w__1)) ∧
((decide ((i : Int) < ((list.n : Nat) : Int))) = false → K out w__1))
theorem spec.l20Read.ok {list : Sl} {w : World} {K : Sl → World → Prop} (h : spec.l20Read.vc list w K) : CallT (.o (.lf .sl)) P0 93 [list.v] w K :=
  call_of Try.func93 rfl rfl (pl := spec.l20Read.pl) (show VC P0 Try.f93 spec.l20Read.pl (.o (.lf .sl)) [list.v] w K noP from Eq.mp (by kernel_rfl) h)
/- spec.l20Make -/
def spec.l20Make.pl : Pl := (.s (.r (D 1)) (.s (.r [.d, (.c (.o (.lf .sl))), .d]) (.s (.r [.d, (.c (.o (.lf (.i .i64)))), .d, .d]) (.s (.b (.l [(3, .sl)] (.s (.s (.r (D 5)) (.c .z .z)) (.b (.s (.r (D 6)) (.s (.r [.d, (.c (.o (.lf (.i .i64))))]) (.b (.j [(29, .b)] (.s (.r (D 2)) (.c .z (.r (D 2)))) (.c (.s (.r [.d, (.c (.o (.lf (.i .i64)))), .d, .d, .d, (.c (.o (.lf (.i .i64)))), .d, (.c (.o (.lf (.i .i64)))), .d, .d, (.c (.o (.lf (.i .i64)))), .d, .d, .d]) (.s (.s (.r [.d, (.c (.o (.lf (.i .i64)))), .d]) (.c (.s (.r [.d, .d, (.c (.o (.lf (.i .i64)))), .d, .d]) (.r (D 2))) .z)) (.r [.d, (.l (.ag (R 6 (.i .i64)))), .d, (.t (.o (.lf .sl))), .d]))) (.s (.r (D 2)) (.c (.r [.d, .d, .d, (.c (.o (.lf (.i .i64)))), .d, .d, (.c (.o (.lf (.i .i64)))), .d, .d, (.c (.o (.lf (.i .i64)))), .d, .d, (.t (.o (.lf .sl))), .d]) (.s (.r (D 2)) (.c (.r [.d, .d, .d, (.c (.o (.lf (.i .i64)))), .d, .d, (.c (.o (.lf (.i .i64)))), .d, .d, (.c (.o (.lf (.i .i64)))), .d, .d, (.c (.o (.lf (.i .i64)))), .d, .d, (.t (.o (.lf .sl))), .d]) (.r [.d, .d, (.c (.o (.ag (R 6 (.i .i64))))), .d, (.t (.o (.lf .sl))), .d])))))))))))))) (.s (.r [.d, .d, .d, (.t (.o (.lf .sl))), .d]) .z)))))
def spec.l20Make.vc (r : Option Addr) (w : World) (K : Sl → World → Prop) : Prop :=
Nw #[(.string ⟨#[109, 111, 118, 32, 114, 48, 32, 49]⟩), (.string ⟨#[108, 111, 97, 100, 49, 32, 114, 54, 32, 114, 49, 32, 48]⟩), (.string ⟨#[108, 111, 97, 100, 52, 32, 114, 55, 32, 114, 49, 32, 52]⟩), (.string ⟨#[109, 111, 118, 32, 114, 56, 32, 53]⟩)] 9 w fun a_t7 w_ =>
CallT (.o (.lf .sl)) P0 93 [(.slice (some a_t7) 4 4)] w_ fun (t8 : Sl) w__1 =>
CallT (.o (.lf (.i .i64))) P0 74 [(.pointer r), (.int .i64 14)] w__1 fun (t10 : Int) w__2 =>
∃ (I : Sl → World → Prop) (M : Sl → World → Nat),
I t8 w__2 ∧
(∀ (out : Sl) w__3, I out w__3 → ∀ _ : Nat → Value,
((decide ((((out.n : Nat) : Int) : Int) < (IntKind.wrap .i64 ((IntKind.wrap .i64 (4 + t10)) + 4)))) = true → CallT (.o (.lf (.i .i64))) P0 74 [(.pointer r), (.int .i64 7)] w__3 fun (t23 : Int) w__4 =>
∃ J : Bool → World → Prop,
((((t23 : Int) == 0) = true → J ((t23 : Int) == 0) w__4) ∧
(((t23 : Int) == 0) = false → J ((t23 : Int) == 1) w__4)) ∧
(∀ (t29 : Bool) w__5, J t29 w__5 → ∀ _ : Nat → Value,
(t29 = true → CallT (.o (.lf (.i .i64))) P0 74 [(.pointer r), (.int .i64 4)] w__5 fun (t33 : Int) w__6 =>
Nw #[(.int .i64 0), (.int .i64 6), (.int .i64 7), (.int .i64 8)] 3 w__6 fun a_t36 w__7 =>
CallT (.o (.lf (.i .i64))) P0 95 [(.pointer r), (.slice (some a_t36) 4 4)] w__7 fun (t37 : Int) w__8 =>
CallT (.o (.lf (.i .i64))) P0 94 [(.pointer r)] w__8 fun (t39 : Int) w__9 =>
CallT (.o (.lf (.i .i64))) P0 74 [(.pointer r), (.int .i64 (IntKind.wrap .i64 ((IntKind.wrap .i64 ((IntKind.wrap .i64 (4 + t10)) + 4)) - ((out.n : Nat) : Int))))] w__9 fun (t42 : Int) w__10 =>
Nw (zc P0 51) 51 w__10 fun a_x w__11 =>
StA P0 a_x [(.int .i64 (IntKind.wrap .i64 (12 + t33))), (.int .i64 t37), (.int .i64 (-1)), (.int .i64 t42), (.int .i64 t39), (.int .i64 0)] w__11 fun w__12 =>
CallT (.o (.lf (.i .i64))) P0 74 [(.pointer r), (.int .i64 3)] w__12 fun (t45 : Int) w__13 =>
(((t45 : Int) == 0) = true → Nw #[(.int .i64 0), (.int .i64 6), (.int .i64 7), (.int .i64 8)] 3 w__13 fun a_t48 w__14 =>
CallT (.o (.lf (.i .i64))) P0 95 [(.pointer r), (.slice (some a_t48) 4 4)] w__14 fun (t49 : Int) w__15 =>
St (Addr.add a_x 2) (.int .i64 t49) w__15 fun w__16 =>
St (Addr.add a_x 4) (.int .i64 0) w__16 fun w__17 =>
LdA (R 6 (.i .i64)) a_x w__17 fun (t53 : Tup (R 6 (.i .i64))) w__18 =>
Nw #[(.int .i64 t53.1), (.int .i64 t53.2.1), (.int .i64 t53.2.2.1), (.int .i64 t53.2.2.2.1), (.int .i64 t53.2.2.2.2.1), (.int .i64 t53.2.2.2.2.2.1)] 51 w__18 fun a_t54 w__19 =>
RunT (.o (.lf .sl)) P0 (Builtin.append_ #[33, 33] 33 #[out.v, (.slice (some a_t54) 1 1)]) w__19 fun (t55 : Sl) w__20 =>
(I t55 w__20 ∧ M t55 w__20 < M out w__3)) ∧
(((t45 : Int) == 0) = false → LdA (R 6 (.i .i64)) a_x w__13 fun (t53_1 : Tup (R 6 (.i .i64))) w__21 =>
Nw #[(.int .i64 t53_1.1), (.int .i64 t53_1.2.1), (.int .i64 t53_1.2.2.1), (.int .i64 t53_1.2.2.2.1), (.int .i64 t53_1.2.2.2.2.1), (.int .i64 t53_1.2.2.2.2.2.1)] 51 w__21 fun a_t54_1 w__22 =>
RunT (.o (.lf .sl)) P0 (Builtin.append_ #[33, 33] 33 #[out.v, (.slice (some a_t54_1) 1 1)]) w__22 fun (t55_1 : Sl) w__23 =>
(I t55_1 w__23 ∧ M t55_1 w__23 < M out w__3))) ∧
(t29 = false → (((t23 : Int) == 2) = true → Nw #[(.int .i64 0), (.int .i64 6), (.int .i64 7), (.int .i64 8)] 3 w__5 fun a_t60 w__24 =>
CallT (.o (.lf (.i .i64))) P0 95 [(.pointer r), (.slice (some a_t60) 4 4)] w__24 fun (t61 : Int) w__25 =>
Nw #[(.int .i64 (-4)), (.int .i64 (-8)), (.int .i64 (-2))] 3 w__25 fun a_t63 w__26 =>
CallT (.o (.lf (.i .i64))) P0 95 [(.pointer r), (.slice (some a_t63) 3 3)] w__26 fun (t64 : Int) w__27 =>
Nw #[(.int .i64 1), (.int .i64 2)] 3 w__27 fun a_t66 w__28 =>
CallT (.o (.lf (.i .i64))) P0 95 [(.pointer r), (.slice (some a_t66) 2 2)] w__28 fun (t67 : Int) w__29 =>
Nw #[(.int .i64 18), (.int .i64 10), (.int .i64 t61), (.int .i64 t64), (.int .i64 0), (.int .i64 t67)] 51 w__29 fun a_t69 w__30 =>
RunT (.o (.lf .sl)) P0 (Builtin.append_ #[33, 33] 33 #[out.v, (.slice (some a_t69) 1 1)]) w__30 fun (t70 : Sl) w__31 =>
(I t70 w__31 ∧ M t70 w__31 < M out w__3)) ∧
(((t23 : Int) == 2) = false → (((t23 : Int) == 3) = true → Nw #[(.int .i64 0), (.int .i64 6), (.int .i64 8)] 3 w__5 fun a_t75 w__32 =>
CallT (.o (.lf (.i .i64))) P0 95 [(.pointer r), (.slice (some a_t75) 3 3)] w__32 fun (t76 : Int) w__33 =>
Nw #[(.int .i64 1), (.int .i64 10), (.int .i64 1)] 3 w__33 fun a_t78 w__34 =>
CallT (.o (.lf (.i .i64))) P0 95 [(.pointer r), (.slice (some a_t78) 3 3)] w__34 fun (t79 : Int) w__35 =>
Nw #[(.int .i64 0), (.int .i64 3), (.int .i64 8)] 3 w__35 fun a_t81 w__36 =>
CallT (.o (.lf (.i .i64))) P0 95 [(.pointer r), (.slice (some a_t81) 3 3)] w__36 fun (t82 : Int) w__37 =>
Nw #[(.int .i64 1), (.int .i64 2), (.int .i64 4)] 3 w__37 fun a_t84 w__38 =>
CallT (.o (.lf (.i .i64))) P0 95 [(.pointer r), (.slice (some a_t84) 3 3)] w__38 fun (t85 : Int) w__39 =>
Nw #[(.int .i64 17), (.int .i64 t76), (.int .i64 t79), (.int .i64 t82), (.int .i64 0), (.int .i64 t85)] 51 w__39 fun a_t87 w__40 =>
RunT (.o (.lf .sl)) P0 (Builtin.append_ #[33, 33] 33 #[out.v, (.slice (some a_t87) 1 1)]) w__40 fun (t88 : Sl) w__41 =>
(I t88 w__41 ∧ M t88 w__41 < M out w__3)) ∧
(((t23 : Int) == 3) = false → CallT (.o (.ag (R 6 (.i .i64)))) P0 96 [(.pointer r)] w__5 fun (t26 : Tup (R 6 (.i .i64))) w__42 =>
Nw #[(.int .i64 t26.1), (.int .i64 t26.2.1), (.int .i64 t26.2.2.1), (.int .i64 t26.2.2.2.1), (.int .i64 t26.2.2.2.2.1), (.int .i64 t26.2.2.2.2.2.1)] 51 w__42 fun a_t27 w__43 =>
RunT (.o (.lf .sl)) P0 (Builtin.append_ #[33, 33] 33 #[out.v, (.slice (some a_t27) 1 1)]) w__43 fun (t28 : Sl) w__44 =>
(I t28 w__44 ∧ M t28 w__44 < M out w__3)))))) ∧
((decide ((((out.n : Nat) : Int) : Int) < (IntKind.wrap .i64 ((IntKind.wrap .i64 (4 + t10)) + 4)))) = false → Nw #[(.int .i64 20), (.int .i64 0), (.int .i64 (-1)), (.int .i64 0), (.int .i64 0), (.int .i64 0)] 51 w__3 fun a_t91 w__45 =>
RunT (.o (.lf .sl)) P0 (Builtin.append_ #[33, 33] 33 #[out.v, (.slice (some a_t91) 1 1)]) w__45 fun (t92 : Sl) w__46 =>
K t92 w__46))
theorem spec.l20Make.ok {r : Option Addr} {w : World} {K : Sl → World → Prop} (h : spec.l20Make.vc r w K) : CallT (.o (.lf .sl)) P0 91 [(.pointer r)] w K :=
  call_of Try.func91 rfl rfl (pl := spec.l20Make.pl) (show VC P0 Try.f91 spec.l20Make.pl (.o (.lf .sl)) [(.pointer r)] w K noP from Eq.mp (by kernel_rfl) h)
/- spec.l20Prog -/
def spec.l20Prog.pl : Pl := (.s (.r (D 1)) (.s (.r [.d, (.c (.o (.lf .sl))), .d]) (.j [(3, .sl)] (.s (.r [.d, (.c (.o (.lf (.i .i64)))), .d]) (.c (.s (.r [(.c (.o (.lf .sl))), .d]) (.r [.d, .d, .d, .d, (.c (.o (.lf (.i .i64)))), .d, (.l (.lf .sl)), (.c (.o (.lf .sl))), .d])) .z)) (.s (.s (.r [.d, (.c (.o (.lf (.i .i64)))), .d]) (.c (.s (.r [.d, .d, .d, (.c (.o (.lf (.i .i64)))), .d]) (.s (.r [.d, (.c (.o (.lf (.i .i64))))]) (.b (.s (.r (D 2)) (.c (.r [.d, .d, .d, (.c (.o (.lf (.i .i64)))), .d, .d, .d]) (.s (.r (D 2)) (.c (.r [.d, .d, .d, .d, (.c (.o (.lf (.i .i64)))), .d, .d, .d]) (.s (.r (D 2)) (.c (.r [.d, .d, .d, (.c (.o (.lf (.i .i64)))), .d, .d, .d]) (.s (.r (D 2)) (.c (.r [.d, .d, .d, (.c (.o (.lf (.i .i64)))), .d, .d, .d]) (.s (.r (D 2)) (.c (.r [.d, .d, .d, (.c (.o (.lf (.i .i64)))), .d, .d, .d, .d]) (.s (.g [((.g (.o (.lf .sl)) .d), []), (.q, []), (.q, []), ((.g (.o (.lf .sl)) (.t (.o (.lf .sl)))), []), ((.g (.o (.lf .sl)) (.t (.o (.lf .sl)))), [0, 3]), (.q, []), ((.h (.o (.ag (R 6 (.i .i64)))) (.c (.o (.ag (R 6 (.i .i64)))))), []), ((.g (.o (.lf .sl)) .d), [6]), ((.g (.o (.lf .sl)) (.t (.o (.lf .sl)))), [4, 7]), (.q, []), (.q, []), ((.g (.o (.lf .sl)) (.t (.o (.lf .sl)))), []), ((.g (.o (.lf .sl)) (.t (.o (.lf .sl)))), [8, 11]), (.q, [12])] []) .z)))))))))))))) .z)) (.s (.r (D 2)) .z)))))
def spec.l20Prog.vc (r : Option Addr) (w : World) (K : Sl → World → Prop) : Prop :=
CallT (.o (.lf .sl)) P0 91 [(.pointer r)] w fun (t7 : Sl) w_ =>
∃ J : Sl → World → Prop,
(CallT (.o (.lf (.i .i64))) P0 74 [(.pointer r), (.int .i64 2)] w_ fun (t9 : Int) w__1 =>
(((t9 : Int) == 0) = true → CallT (.o (.lf .sl)) P0 92 [] w__1 fun (t11 : Sl) w__2 =>
CallT (.o (.lf (.i .i64))) P0 74 [(.pointer r), (.int .i64 ((t11.n : Nat) : Int))] w__2 fun (t16 : Int) w__3 =>
Ix t11.a t11.n t16 1 w__3 fun a_t17 w__4 =>
Ld .sl a_t17 w__4 fun (t18 : Sl) w__5 =>
CallT (.o (.lf .sl)) P0 93 [t18.v] w__5 fun (t19 : Sl) w__6 =>
J t19 w__6) ∧
(((t9 : Int) == 0) = false → J t7 w__1)) ∧
(∀ (out : Sl) w__7, J out w__7 → ∀ _ : Nat → Value,
CallT (.o (.lf (.i .i64))) P0 74 [(.pointer r), (.int .i64 4)] w__7 fun (t21 : Int) w__8 =>
(((t21 : Int) == 0) = true → CallT (.o (.lf (.i .i64))) P0 74 [(.pointer r), (.int .i64 ((out.n : Nat) : Int))] w__8 fun (t26 : Int) w__9 =>
CallT (.o (.lf (.i .i64))) P0 74 [(.pointer r), (.int .i64 6)] w__9 fun (t28 : Int) w__10 =>
(((t28 : Int) == 0) = true → CallT (.o (.lf (.i .i64))) P0 94 [(.pointer r)] w__10 fun (t47 : Int) w__11 =>
Ix out.a out.n t26 6 w__11 fun a_t48 w__12 =>
St (Addr.add a_t48 4) (.int .i64 t47) w__12 fun w__13 =>
K out w__13) ∧
(((t28 : Int) == 0) = false → (((t28 : Int) == 1) = true → Nw #[(.int .i64 (-1)), (.int .i64 0), (.int .i64 1), (.int .i64 2), (.int .i64 (-2)), (.int .i64 12), (.int .i64 200)] 3 w__10 fun a_t55 w__14 =>
CallT (.o (.lf (.i .i64))) P0 95 [(.pointer r), (.slice (some a_t55) 7 7)] w__14 fun (t56 : Int) w__15 =>
Ix out.a out.n t26 6 w__15 fun a_t57 w__16 =>
St (Addr.add a_t57 3) (.int .i64 t56) w__16 fun w__17 =>
K out w__17) ∧
(((t28 : Int) == 1) = false → (((t28 : Int) == 2) = true → CallT (.o (.lf (.i .i64))) P0 74 [(.pointer r), (.int .i64 12)] w__10 fun (t64 : Int) w__18 =>
Ix out.a out.n t26 6 w__18 fun a_t65 w__19 =>
St (Addr.add a_t65 1) (.int .i64 t64) w__19 fun w__20 =>
K out w__20) ∧
(((t28 : Int) == 2) = false → (((t28 : Int) == 3) = true → CallT (.o (.lf (.i .i64))) P0 74 [(.pointer r), (.int .i64 22)] w__10 fun (t72 : Int) w__21 =>
Ix out.a out.n t26 6 w__21 fun a_t73 w__22 =>
St (Addr.add a_t73 0) (.int .i64 t72) w__22 fun w__23 =>
K out w__23) ∧
(((t28 : Int) == 3) = false → (((t28 : Int) == 4) = true → CallT (.o (.lf (.i .i64))) P0 74 [(.pointer r), (.int .i64 12)] w__10 fun (t80 : Int) w__24 =>
Ix out.a out.n t26 6 w__24 fun a_t82 w__25 =>
St (Addr.add a_t82 2) (.int .i64 (IntKind.wrap .i64 (t80 - 1))) w__25 fun w__26 =>
K out w__26) ∧
(((t28 : Int) == 4) = false → ∃ Sp : World → World → Prop, SpOk Sp w__10 ∧
∃ N : World → Prop, NOk N w__10 ∧
∃ G_t29 : Sl → World → Prop, Kept Sp G_t29 ∧
∃ G_t32 : Sl → World → Prop, Kept Sp G_t32 ∧
∃ G_t33 : Sl → World → Prop, Kept Sp G_t33 ∧
∃ G_t35 : Tup (R 6 (.i .i64)) → World → Prop, Kept Sp G_t35 ∧
∃ G_t36 : Sl → World → Prop, Kept Sp G_t36 ∧
∃ G_t37 : Sl → World → Prop, Kept Sp G_t37 ∧
∃ G_t40 : Sl → World → Prop, Kept Sp G_t40 ∧
∃ G_t41 : Sl → World → Prop, Kept Sp G_t41 ∧
(∀ w__27, Sp w__10 w__27 → Nw #[] 51 w__27 fun a_t29 w__28 =>
GK (.o (.lf .sl)) (Sk Sp N) w__27 G_t29 (.slice (some a_t29) 0 0) w__28) ∧
∀ (t29 : Sl), (∀ w__29, Sp w__10 w__29 → RunT (.o (.lf .sl)) P0 (Instr.sliceAt 33 out.v none (some (.int .i64 t26)) none) w__29 fun (t32 : Sl) w__30 =>
GK (.o (.lf .sl)) (Sk Sp N) w__29 G_t32 t32.v w__30) ∧
∀ (t32_1 : Sl), (∀ w__31, Sp w__10 w__31 → G_t29 t29 w__31 → G_t32 t32_1 w__31 → RunT (.o (.lf .sl)) P0 (Builtin.append_ #[33, 33] 33 #[t29.v, t32_1.v]) w__31 fun (t33 : Sl) w__32 =>
GK (.o (.lf .sl)) (Sk Sp N) w__31 G_t33 t33.v w__32) ∧
∀ (t33_1 : Sl), (∀ w__33, Sp w__10 w__33 → N w__33 → CallT (.o (.ag (R 6 (.i .i64)))) P0 96 [(.pointer r)] w__33 fun (t35 : Tup (R 6 (.i .i64))) w__34 =>
GK (.o (.ag (R 6 (.i .i64)))) Sp w__33 G_t35 (.agg (Tup.cells (R 6 (.i .i64)) t35).toArray) w__34) ∧
∀ (t35_1 : Tup (R 6 (.i .i64))), (∀ w__35, Sp w__10 w__35 → G_t35 t35_1 w__35 → Nw #[(.int .i64 t35_1.1), (.int .i64 t35_1.2.1), (.int .i64 t35_1.2.2.1), (.int .i64 t35_1.2.2.2.1), (.int .i64 t35_1.2.2.2.2.1), (.int .i64 t35_1.2.2.2.2.2.1)] 51 w__35 fun a_t36 w__36 =>
GK (.o (.lf .sl)) (Sk Sp N) w__35 G_t36 (.slice (some a_t36) 1 1) w__36) ∧
∀ (t36 : Sl), (∀ w__37, Sp w__10 w__37 → G_t33 t33_1 w__37 → G_t36 t36 w__37 → RunT (.o (.lf .sl)) P0 (Builtin.append_ #[33, 33] 33 #[t33_1.v, t36.v]) w__37 fun (t37 : Sl) w__38 =>
GK (.o (.lf .sl)) (Sk Sp N) w__37 G_t37 t37.v w__38) ∧
∀ (t37_1 : Sl), (∀ w__39, Sp w__10 w__39 → RunT (.o (.lf .sl)) P0 (Instr.sliceAt 33 out.v (some (.int .i64 t26)) none none) w__39 fun (t40 : Sl) w__40 =>
GK (.o (.lf .sl)) (Sk Sp N) w__39 G_t40 t40.v w__40) ∧
∀ (t40_1 : Sl), (∀ w__41, Sp w__10 w__41 → G_t37 t37_1 w__41 → G_t40 t40_1 w__41 → RunT (.o (.lf .sl)) P0 (Builtin.append_ #[33, 33] 33 #[t37_1.v, t40_1.v]) w__41 fun (t41 : Sl) w__42 =>
GK (.o (.lf .sl)) (Sk Sp N) w__41 G_t41 t41.v w__42) ∧
∀ (t41_1 : Sl), ∀ w__43, Sp w__10 w__43 → G_t29 t29 w__43 → G_t32 t32_1 w__43 → G_t33 t33_1 w__43 → G_t35 t35_1 w__43 → G_t36 t36 w__43 → G_t37 t37_1 w__43 → G_t40 t40_1 w__43 → G_t41 t41_1 w__43 → 
K t41_1 w__43)))))) ∧
(((t21 : Int) == 0) = false → K out w__8))
theorem spec.l20Prog.ok {r : Option Addr} {w : World} {K : Sl → World → Prop} (h : spec.l20Prog.vc r w K) : CallT (.o (.lf .sl)) P0 73 [(.pointer r)] w K :=
  call_of Try.func73 rfl rfl (pl := spec.l20Prog.pl) (show VC P0 Try.f73 spec.l20Prog.pl (.o (.lf .sl)) [(.pointer r)] w K noP from Eq.mp (by kernel_rfl) h)
/- spec.l1Num -/
def spec.l1Num.pl : Pl := (.s (.r (D 1)) (.s (.r (D 1)) (.s (.s (.r (D 1)) (.b (.l [(3, (.i .i64)), (4, (.i .i64))] (.s (.s (.r (D 4)) (.c .z .z)) (.s (.b (.j [] (.s (.r [.d, .d, .d, .d, (.sp .d), .d, .d, .d, .d, .d, (.sp .d), .d, .d, .d]) (.c (.s (.r (D 1)) .z) .z)) (.r (D 9)))) (.r (D 3))))))) (.s (.s (.r [.d, .d, .d, (.sp .d), .d, .d, .d, (.sp .d), .d, .d, .d, .d, .d]) (.c (.s (.r (D 1)) .z) .z)) (.s (.r (D 2)) .z)))))
def spec.l1Num.vc (s : ByteArray) (w : World) (K : Int → World → Prop) : Prop :=
∃ (I : Int → Int → World → Prop) (M : Int → Int → World → Nat),
I 0 0 w ∧
(∀ (n : Int) (i : Int) w_, I n i w_ → ∀ _ : Nat → Value,
((decide ((i : Int) < (((ByteArray.size s) : Nat) : Int))) = true → ∃ J : World → Prop,
(Sx s i w_ fun t13 w__1 =>
((decide ((t13 : Int) < 48)) = true → K (-1) w__1) ∧
((decide ((t13 : Int) < 48)) = false → Sx s i w__1 fun t18 w__2 =>
((decide ((t18 : Int) > 57)) = true → K (-1) w__2) ∧
((decide ((t18 : Int) > 57)) = false → ((decide ((i : Int) ≥ 10)) = true → K (-1) w__2) ∧
((decide ((i : Int) ≥ 10)) = false → J w__2)))) ∧
(∀  w__3, J w__3 → ∀ _ : Nat → Value,
Sx s i w__3 fun t29 w__4 =>
(I (IntKind.wrap .i64 ((IntKind.wrap .i64 (n * 10)) + (IntKind.wrap .i64 (IntKind.wrap .u8 (t29 - 48))))) (IntKind.wrap .i64 (i + 1)) w__4 ∧ M (IntKind.wrap .i64 ((IntKind.wrap .i64 (n * 10)) + (IntKind.wrap .i64 (IntKind.wrap .u8 (t29 - 48))))) (IntKind.wrap .i64 (i + 1)) w__4 < M n i w_))) ∧
((decide ((i : Int) < (((ByteArray.size s) : Nat) : Int))) = false → ((((((ByteArray.size s) : Nat) : Int) : Int) == 0) = true → K (-1) w_) ∧
((((((ByteArray.size s) : Nat) : Int) : Int) == 0) = false → ((decide (((((ByteArray.size s) : Nat) : Int) : Int) > 1)) = true → Sx s 0 w_ fun t42 w__5 =>
(((t42 : Int) == 48) = true → K (-1) w__5) ∧
(((t42 : Int) == 48) = false → K n w__5)) ∧
((decide (((((ByteArray.size s) : Nat) : Int) : Int) > 1)) = false → K n w_))))
theorem spec.l1Num.ok {s : ByteArray} {w : World} {K : Int → World → Prop} (h : spec.l1Num.vc s w K) : CallT (.o (.lf (.i .i64))) P0 144 [(.string s)] w K :=
  call_of Try.func144 rfl rfl (pl := spec.l1Num.pl) (show VC P0 Try.f144 spec.l1Num.pl (.o (.lf (.i .i64))) [(.string s)] w K noP from Eq.mp (by kernel_rfl) h)
/- spec.l1Cut -/
def spec.l1Cut.pl : Pl := (.s (.r (D 1)) (.s (.r (D 2)) (.s (.r (D 1)) (.s (.s (.r (D 1)) (.b (.l [(7, .sl), (8, (.i .i64)), (9, (.i .i64))] (.j [] (.s (.r [.d, .d, .d, .d, (.sp .d), .d, .d, .d, .d, .d]) (.c .z .z)) (.s (.b (.s (.r (D 5)) (.c (.s (.r [.d, .d, .d, .d, (.t (.o (.lf .s))), .d, (.t (.o (.lf .sl))), .d]) (.r (D 3))) .z))) (.r (D 3))))))) (.s (.r [.d, .d, .d, (.t (.o (.lf .s))), .d, (.t (.o (.lf .sl))), .d]) .z)))))
def spec.l1Cut.vc (s : ByteArray) (b : Int) (most : Int) (w : World) (K : Sl → World → Prop) : Prop :=
Nw #[] 9 w fun a_t10 w_ =>
∃ (I : Sl → Int → Int → World → Prop) (M : Sl → Int → Int → World → Nat),
I ⟨(some a_t10), 0, 0⟩ 0 0 w_ ∧
(∀ (out : Sl) (from_ : Int) (i : Int) w__1, I out from_ i w__1 → ∀ _ : Nat → Value,
∃ J : World → Prop,
(((decide ((i : Int) < (((ByteArray.size s) : Nat) : Int))) = true → ((decide ((((out.n : Nat) : Int) : Int) < most)) = true → J w__1) ∧
((decide ((((out.n : Nat) : Int) : Int) < most)) = false → RunT (.o (.lf .s)) P0 (Instr.sliceAt 9 (.string s) (some (.int .i64 from_)) none none) w__1 fun (t40 : ByteArray) w__2 =>
Nw #[(.string t40)] 9 w__2 fun a_t41 w__3 =>
RunT (.o (.lf .sl)) P0 (Builtin.append_ #[102, 102] 102 #[out.v, (.slice (some a_t41) 1 1)]) w__3 fun (t42 : Sl) w__4 =>
K t42 w__4)) ∧
((decide ((i : Int) < (((ByteArray.size s) : Nat) : Int))) = false → RunT (.o (.lf .s)) P0 (Instr.sliceAt 9 (.string s) (some (.int .i64 from_)) none none) w__1 fun (t40_1 : ByteArray) w__5 =>
Nw #[(.string t40_1)] 9 w__5 fun a_t41_1 w__6 =>
RunT (.o (.lf .sl)) P0 (Builtin.append_ #[102, 102] 102 #[out.v, (.slice (some a_t41_1) 1 1)]) w__6 fun (t42_1 : Sl) w__7 =>
K t42_1 w__7)) ∧
(∀  w__8, J w__8 → ∀ _ : Nat → Value,
Sx s i w__8 fun t25 w__9 =>
(((t25 : Int) == b) = true → RunT (.o (.lf .s)) P0 (Instr.sliceAt 9 (.string s) (some (.int .i64 from_)) (some (.int .i64 i)) none) w__9 fun (t32 : ByteArray) w__10 =>
Nw #[(.string t32)] 9 w__10 fun a_t33 w__11 =>
RunT (.o (.lf .sl)) P0 (Builtin.append_ #[102, 102] 102 #[out.v, (.slice (some a_t33) 1 1)]) w__11 fun (t34 : Sl) w__12 =>
(I t34 (IntKind.wrap .i64 (i + 1)) (IntKind.wrap .i64 (i + 1)) w__12 ∧ M t34 (IntKind.wrap .i64 (i + 1)) (IntKind.wrap .i64 (i + 1)) w__12 < M out from_ i w__1)) ∧
(((t25 : Int) == b) = false → (I out from_ (IntKind.wrap .i64 (i + 1)) w__9 ∧ M out from_ (IntKind.wrap .i64 (i + 1)) w__9 < M out from_ i w__1))))
theorem spec.l1Cut.ok {s : ByteArray} {b : Int} {most : Int} {w : World} {K : Sl → World → Prop} (h : spec.l1Cut.vc s b most w K) : CallT (.o (.lf .sl)) P0 127 [(.string s), (.int .u8 b), (.int .i64 most)] w K :=
  call_of Try.func127 rfl rfl (pl := spec.l1Cut.pl) (show VC P0 Try.f127 spec.l1Cut.pl (.o (.lf .sl)) [(.string s), (.int .u8 b), (.int .i64 most)] w K noP from Eq.mp (by kernel_rfl) h)
/- spec.l1Find -/
def spec.l1Find.pl : Pl := (.s (.r (D 1)) (.s (.s (.r (D 1)) (.b (.l [(5, (.i .i64))] (.s (.s (.r (D 4)) (.c .z .z)) (.s (.b (.s (.r [.d, .d, .d, (.l (.lf .s)), .d, .d]) (.c (.s (.r (D 2)) .z) .z))) (.r (D 3))))))) (.s (.r (D 1)) .z)))
def spec.l1Find.vc (list : Sl) (s : ByteArray) (w : World) (K : Int → World → Prop) : Prop :=
∃ (I : Int → World → Prop) (M : Int → World → Nat),
I 0 w ∧
(∀ (i : Int) w_, I i w_ → ∀ _ : Nat → Value,
((decide ((i : Int) < ((list.n : Nat) : Int))) = true → Ix list.a list.n i 1 w_ fun a_t14 w__1 =>
Ld .s a_t14 w__1 fun (t15 : ByteArray) w__2 =>
((ByteArray.toList t15 == ByteArray.toList s) = true → K i w__2) ∧
((ByteArray.toList t15 == ByteArray.toList s) = false → (I (IntKind.wrap .i64 (i + 1)) w__2 ∧ M (IntKind.wrap .i64 (i + 1)) w__2 < M i w_))) ∧
((decide ((i : Int) < ((list.n : Nat) : Int))) = false → K (-1) w_))
theorem spec.l1Find.ok {list : Sl} {s : ByteArray} {w : World} {K : Int → World → Prop} (h : spec.l1Find.vc list s w K) : CallT (.o (.lf (.i .i64))) P0 136 [list.v, (.string s)] w K :=
  call_of Try.func136 rfl rfl (pl := spec.l1Find.pl) (show VC P0 Try.f136 spec.l1Find.pl (.o (.lf (.i .i64))) [list.v, (.string s)] w K noP from Eq.mp (by kernel_rfl) h)
/- spec.l1Words -/
def spec.l1Words.pl : Pl := (.s (.r (D 1)) (.s (.r (D 2)) .z))
def spec.l1Words.vc  (w : World) (K : Sl → World → Prop) : Prop :=
Nw #[(.string ⟨#[]⟩), (.string ⟨#[109, 111, 118]⟩), (.string ⟨#[97, 100, 100]⟩), (.string ⟨#[115, 117, 98]⟩), (.string ⟨#[109, 117, 108]⟩), (.string ⟨#[97, 110, 100]⟩), (.string ⟨#[111, 114]⟩), (.string ⟨#[120, 111, 114]⟩), (.string ⟨#[115, 104, 108]⟩), (.string ⟨#[115, 104, 114]⟩), (.string ⟨#[100, 105, 118]⟩), (.string ⟨#[109, 111, 100]⟩), (.string ⟨#[115, 97, 109, 101]⟩), (.string ⟨#[111, 116, 104, 101, 114]⟩), (.string ⟨#[108, 101, 115, 115]⟩), (.string ⟨#[109, 111, 114, 101]⟩), (.string ⟨#[103, 111]⟩), (.string ⟨#[108, 111, 97, 100]⟩), (.string ⟨#[115, 116, 111, 114, 101]⟩), (.string ⟨#[99, 97, 108, 108]⟩), (.string ⟨#[101, 120, 105, 116]⟩)] 9 w fun a_t1 w_ =>
K ⟨(some a_t1), 21, 21⟩ w_
theorem spec.l1Words.ok  {w : World} {K : Sl → World → Prop} (h : spec.l1Words.vc  w K) : CallT (.o (.lf .sl)) P0 137 [] w K :=
  call_of Try.func137 rfl rfl (pl := spec.l1Words.pl) (show VC P0 Try.f137 spec.l1Words.pl (.o (.lf .sl)) [] w K noP from Eq.mp (by kernel_rfl) h)
/- spec.l1Calls -/
def spec.l1Calls.pl : Pl := (.s (.r (D 1)) (.s (.r (D 2)) .z))
def spec.l1Calls.vc  (w : World) (K : Sl → World → Prop) : Prop :=
Nw #[(.string ⟨#[]⟩), (.string ⟨#[108, 111, 111, 107]⟩), (.string ⟨#[112, 117, 116]⟩), (.string ⟨#[102, 105, 110, 100]⟩), (.string ⟨#[100, 114, 111, 112]⟩), (.string ⟨#[114, 97, 110, 100]⟩), (.string ⟨#[115, 101, 110, 100]⟩)] 9 w fun a_t1 w_ =>
K ⟨(some a_t1), 7, 7⟩ w_
theorem spec.l1Calls.ok  {w : World} {K : Sl → World → Prop} (h : spec.l1Calls.vc  w K) : CallT (.o (.lf .sl)) P0 141 [] w K :=
  call_of Try.func141 rfl rfl (pl := spec.l1Calls.pl) (show VC P0 Try.f141 spec.l1Calls.pl (.o (.lf .sl)) [] w K noP from Eq.mp (by kernel_rfl) h)
/- spec.l1Dec -/
def spec.l1Dec.pl : Pl := (.s (.r (D 1)) (.s (.s (.r (D 2)) (.c (.s (.r (D 1)) .z) .z)) (.s (.s (.r (D 2)) (.c (.s (.r [.d, .d, (.c (.o (.lf .s))), .d, .d]) .z) .z)) (.s (.s (.r (D 2)) (.c (.s (.r [.d, .d, .d, .d, (.t (.o (.lf .s))), .d]) .z) .z)) (.s (.g [(.q, []), (.q, []), ((.g (.o (.lf .s)) (.c (.o (.lf .s)))), []), (.q, []), (.q, []), (.q, []), (.q, []), ((.g (.o (.lf .sl)) .d), []), ((.g (.o (.lf .s)) (.t (.o (.lf .s)))), [7]), ((.g (.o (.lf .s)) .d), [2, 8]), (.q, [9])] []) .z)))))
def spec.l1Dec.vc (n : Int) (w : World) (K : ByteArray → World → Prop) : Prop :=
((decide ((n : Int) < (-9223372036854775807))) = true → K ⟨#[45, 57, 50, 50, 51, 51, 55, 50, 48, 51, 54, 56, 53, 52, 55, 55, 53, 56, 48, 56]⟩ w) ∧
((decide ((n : Int) < (-9223372036854775807))) = false → ((decide ((n : Int) < 0)) = true → CallT (.o (.lf .s)) P0 138 [(.int .i64 (IntKind.wrap .i64 (0 - n)))] w fun (t9 : ByteArray) w_ =>
(((ByteArray.size (⟨#[45]⟩ : ByteArray) + ByteArray.size t9 : Nat) : Int) ≤ IntKind.i64.max) ∧ K ((⟨#[45]⟩ : ByteArray) ++ t9) w_) ∧
((decide ((n : Int) < 0)) = false → ((decide ((n : Int) < 10)) = true → Nw #[(.int .u8 (IntKind.wrap .u8 (IntKind.wrap .i64 (48 + n))))] 5 w fun a_t16 w__1 =>
RunT (.o (.lf .s)) P0 (convert 46 9 (.slice (some a_t16) 1 1)) w__1 fun (t17 : ByteArray) w__2 =>
K t17 w__2) ∧
((decide ((n : Int) < 10)) = false → ∃ Sp : World → World → Prop, SpOk Sp w ∧
∃ G_t20 : ByteArray → World → Prop, Kept Sp G_t20 ∧
∃ G_t25 : Sl → World → Prop, Kept Sp G_t25 ∧
∃ G_t26 : ByteArray → World → Prop, Kept Sp G_t26 ∧
∃ G_t27 : ByteArray → World → Prop, Kept Sp G_t27 ∧
(10 : Int) ≠ 0 ∧ (∀ w__3, Sp w w__3 → CallT (.o (.lf .s)) P0 138 [(.int .i64 (IntKind.wrap .i64 (Int.tdiv n 10)))] w__3 fun (t20 : ByteArray) w__4 =>
GK (.o (.lf .s)) Sp w__3 G_t20 (.string t20) w__4) ∧
∀ (t20_1 : ByteArray), (10 : Int) ≠ 0 ∧ (∀ w__5, Sp w w__5 → Nw #[(.int .u8 (IntKind.wrap .u8 (IntKind.wrap .i64 (48 + (Int.tmod n 10)))))] 5 w__5 fun a_t25 w__6 =>
GK (.o (.lf .sl)) Sp w__5 G_t25 (.slice (some a_t25) 1 1) w__6) ∧
∀ (t25 : Sl), (∀ w__7, Sp w w__7 → G_t25 t25 w__7 → RunT (.o (.lf .s)) P0 (convert 46 9 t25.v) w__7 fun (t26 : ByteArray) w__8 =>
GK (.o (.lf .s)) Sp w__7 G_t26 (.string t26) w__8) ∧
∀ (t26_1 : ByteArray), (∀ w__9, Sp w w__9 → G_t20 t20_1 w__9 → G_t26 t26_1 w__9 → (((ByteArray.size t20_1 + ByteArray.size t26_1 : Nat) : Int) ≤ IntKind.i64.max) ∧ GK (.o (.lf .s)) Sp w__9 G_t27 (.string (t20_1 ++ t26_1)) w__9) ∧
∀ (t27 : ByteArray), ∀ w__10, Sp w w__10 → G_t20 t20_1 w__10 → G_t25 t25 w__10 → G_t26 t26_1 w__10 → G_t27 t27 w__10 → 
K t27 w__10)))
theorem spec.l1Dec.ok {n : Int} {w : World} {K : ByteArray → World → Prop} (h : spec.l1Dec.vc n w K) : CallT (.o (.lf .s)) P0 138 [(.int .i64 n)] w K :=
  call_of Try.func138 rfl rfl (pl := spec.l1Dec.pl) (show VC P0 Try.f138 spec.l1Dec.pl (.o (.lf .s)) [(.int .i64 n)] w K noP from Eq.mp (by kernel_rfl) h)
/- spec.l1Reg -/
def spec.l1Reg.pl : Pl := (.s (.r (D 1)) (.s (.s (.r (D 2)) (.c (.s (.r [.d, (.c (.o (.lf .s))), .d, .d]) .z) .z)) (.s (.r [.d, (.c (.o (.lf .s))), .d]) .z)))
def spec.l1Reg.vc (src : Int) (imm : Int) (w : World) (K : ByteArray → World → Prop) : Prop :=
((decide ((src : Int) ≥ 0)) = true → CallT (.o (.lf .s)) P0 138 [(.int .i64 src)] w fun (t8 : ByteArray) w_ =>
(((ByteArray.size (⟨#[114]⟩ : ByteArray) + ByteArray.size t8 : Nat) : Int) ≤ IntKind.i64.max) ∧ K ((⟨#[114]⟩ : ByteArray) ++ t8) w_) ∧
((decide ((src : Int) ≥ 0)) = false → CallT (.o (.lf .s)) P0 138 [(.int .i64 imm)] w fun (t11 : ByteArray) w__1 =>
K t11 w__1)
theorem spec.l1Reg.ok {src : Int} {imm : Int} {w : World} {K : ByteArray → World → Prop} (h : spec.l1Reg.vc src imm w K) : CallT (.o (.lf .s)) P0 142 [(.int .i64 src), (.int .i64 imm)] w K :=
  call_of Try.func142 rfl rfl (pl := spec.l1Reg.pl) (show VC P0 Try.f142 spec.l1Reg.pl (.o (.lf .s)) [(.int .i64 src), (.int .i64 imm)] w K noP from Eq.mp (by kernel_rfl) h)
/- spec.l1Line -/
def spec.l1Line.pl : Pl := (.s (.r (D 2)) (.s (.g [((.g (.o (.lf .sl)) (.c (.o (.lf .sl)))), []), (.q, []), ((.g (.o (.lf (.i .i64))) (.l (.lf (.i .i64)))), []), ((.g (.o (.lf .ad)) .d), [0, 2]), ((.g (.o (.lf .s)) (.l (.lf .s))), [3]), (.q, [4])] []) (.s (.r [.d, (.l (.lf (.i .i64))), (.c (.o (.lf .s))), .d, .d]) (.s (.b (.s (.r [.d, (.l (.lf (.i .i64))), (.c (.o (.lf .b))), .d]) (.c (.s (.r [.d, .d, .d, .d, .d, (.l (.lf (.i .i64))), .d, (.l (.lf (.i .i64))), (.c (.o (.lf .s))), .d, .d]) .z) (.s (.r [.d, (.l (.lf (.i .i64))), (.c (.o (.lf .b))), .d]) (.c (.s (.r [.d, .d, .d, .d, .d, (.l (.lf (.i .i64))), .d, (.l (.lf (.i .i64))), (.c (.o (.lf .s))), .d, .d, .d, (.l (.lf (.i .i64))), (.c (.o (.lf .s))), .d, .d]) .z) (.s (.r [.d, (.l (.lf (.i .i64))), .d, .d]) (.c (.s (.r [.d, .d, .d, (.l (.lf (.i .i64))), (.c (.o (.lf .s))), .d, .d]) .z) (.s (.r [.d, (.l (.lf (.i .i64))), .d, .d]) (.c (.s (.r [.d, .d, (.l (.lf (.i .i64))), (.c (.o (.lf .s))), .d, .d, .d, .d, .d, (.l (.lf (.i .i64))), (.c (.o (.lf .s))), .d, .d, .d, (.l (.lf (.i .i64))), (.c (.o (.lf .s))), .d, .d]) .z) (.s (.r [.d, (.l (.lf (.i .i64))), .d, .d]) (.c (.s (.r [.d, .d, (.l (.lf (.i .i64))), (.c (.o (.lf .s))), .d, .d, .d, .d, .d, (.l (.lf (.i .i64))), (.c (.o (.lf .s))), .d, .d, .d, (.l (.lf (.i .i64))), .d, (.l (.lf (.i .i64))), (.c (.o (.lf .s))), .d, .d]) .z) (.s (.r [.d, (.l (.lf (.i .i64))), .d, .d]) (.c (.s (.g [(.q, []), ((.g (.o (.lf .s)) .d), []), ((.g (.o (.lf .sl)) (.c (.o (.lf .sl)))), []), (.q, []), ((.g (.o (.lf (.i .i64))) (.l (.lf (.i .i64)))), []), ((.g (.o (.lf .ad)) .d), [2, 4]), ((.g (.o (.lf .s)) (.l (.lf .s))), [5]), ((.g (.o (.lf .s)) .d), [1, 6]), (.q, [7])] []) .z) .z))))))))))))) (.s (.r (D 2)) .z)))))
def spec.l1Line.vc (x : Tup (R 6 (.i .i64))) (w : World) (K : ByteArray → World → Prop) : Prop :=
Nw (Tup.cells (R 6 (.i .i64)) x).toArray 51 w fun a_x w_ =>
∃ Sp : World → World → Prop, SpOk Sp w_ ∧
∃ G_t5 : Sl → World → Prop, Kept Sp G_t5 ∧
∃ G_t7 : Int → World → Prop, Kept Sp G_t7 ∧
∃ G_t8 : Addr → World → Prop, Kept Sp G_t8 ∧
∃ G_t9 : ByteArray → World → Prop, Kept Sp G_t9 ∧
(∀ w__1, Sp w_ w__1 → CallT (.o (.lf .sl)) P0 137 [] w__1 fun (t5 : Sl) w__2 =>
GK (.o (.lf .sl)) Sp w__1 G_t5 t5.v w__2) ∧
∀ (t5_1 : Sl), (∀ w__3, Sp w_ w__3 → Ld (.i .i64) (Addr.add a_x 0) w__3 fun (t7 : Int) w__4 =>
GK (.o (.lf (.i .i64))) Sp w__3 G_t7 (.int .i64 t7) w__4) ∧
∀ (t7_1 : Int), (∀ w__5, Sp w_ w__5 → G_t5 t5_1 w__5 → G_t7 t7_1 w__5 → Ix t5_1.a t5_1.n t7_1 1 w__5 fun a_t8 w__6 =>
GK (.o (.lf .ad)) Sp w__5 G_t8 (.pointer (some a_t8)) w__6) ∧
∀ (t8 : Addr), (∀ w__7, Sp w_ w__7 → G_t8 t8 w__7 → Ld .s t8 w__7 fun (t9 : ByteArray) w__8 =>
GK (.o (.lf .s)) Sp w__7 G_t9 (.string t9) w__8) ∧
∀ (t9_1 : ByteArray), ∀ w__9, Sp w_ w__9 → G_t5 t5_1 w__9 → G_t7 t7_1 w__9 → G_t8 t8 w__9 → G_t9 t9_1 w__9 → 
Ld (.i .i64) (Addr.add a_x 1) w__9 fun (t11 : Int) w__10 =>
CallT (.o (.lf .s)) P0 138 [(.int .i64 t11)] w__10 fun (t12 : ByteArray) w__11 =>
(((ByteArray.size (⟨#[32, 114]⟩ : ByteArray) + ByteArray.size t12 : Nat) : Int) ≤ IntKind.i64.max) ∧ Ld (.i .i64) (Addr.add a_x 0) w__11 fun (t16 : Int) w__12 =>
CallT (.o (.lf .b)) P0 129 [(.int .i64 t16)] w__12 fun (t17 : Bool) w__13 =>
(t17 = true → (((ByteArray.size t9_1 + ByteArray.size ((⟨#[32, 114]⟩ : ByteArray) ++ t12) : Nat) : Int) ≤ IntKind.i64.max) ∧ (((ByteArray.size (t9_1 ++ ((⟨#[32, 114]⟩ : ByteArray) ++ t12)) + ByteArray.size (⟨#[32]⟩ : ByteArray) : Nat) : Int) ≤ IntKind.i64.max) ∧ Ld (.i .i64) (Addr.add a_x 2) w__13 fun (t23 : Int) w__14 =>
Ld (.i .i64) (Addr.add a_x 4) w__14 fun (t25 : Int) w__15 =>
CallT (.o (.lf .s)) P0 142 [(.int .i64 t23), (.int .i64 t25)] w__15 fun (t26 : ByteArray) w__16 =>
(((ByteArray.size ((t9_1 ++ ((⟨#[32, 114]⟩ : ByteArray) ++ t12)) ++ (⟨#[32]⟩ : ByteArray)) + ByteArray.size t26 : Nat) : Int) ≤ IntKind.i64.max) ∧ K (((t9_1 ++ ((⟨#[32, 114]⟩ : ByteArray) ++ t12)) ++ (⟨#[32]⟩ : ByteArray)) ++ t26) w__16) ∧
(t17 = false → Ld (.i .i64) (Addr.add a_x 0) w__13 fun (t30 : Int) w__17 =>
CallT (.o (.lf .b)) P0 55 [(.int .i64 t30)] w__17 fun (t31 : Bool) w__18 =>
(t31 = true → (((ByteArray.size t9_1 + ByteArray.size ((⟨#[32, 114]⟩ : ByteArray) ++ t12) : Nat) : Int) ≤ IntKind.i64.max) ∧ (((ByteArray.size (t9_1 ++ ((⟨#[32, 114]⟩ : ByteArray) ++ t12)) + ByteArray.size (⟨#[32]⟩ : ByteArray) : Nat) : Int) ≤ IntKind.i64.max) ∧ QLd (.i .i64) (Addr.add a_x 2) (fun w' => Below (World.heap w__18).size w__18 w') fun (t37 : Int) =>
QLd (.i .i64) (Addr.add a_x 4) (fun w' => Below (World.heap w__18).size w__18 w') fun (t39 : Int) =>
QCl (.o (.lf .s)) P0 142 [(.int .i64 t37), (.int .i64 t39)] (fun w' => Below (World.heap w__18).size w__18 w') fun (t40 : ByteArray) =>
(((ByteArray.size ((t9_1 ++ ((⟨#[32, 114]⟩ : ByteArray) ++ t12)) ++ (⟨#[32]⟩ : ByteArray)) + ByteArray.size t40 : Nat) : Int) ≤ IntKind.i64.max) ∧ (((ByteArray.size (((t9_1 ++ ((⟨#[32, 114]⟩ : ByteArray) ++ t12)) ++ (⟨#[32]⟩ : ByteArray)) ++ t40) + ByteArray.size (⟨#[32]⟩ : ByteArray) : Nat) : Int) ≤ IntKind.i64.max) ∧ QLd (.i .i64) (Addr.add a_x 3) (fun w' => Below (World.heap w__18).size w__18 w') fun (t44 : Int) =>
QCl (.o (.lf .s)) P0 138 [(.int .i64 t44)] (fun w' => Below (World.heap w__18).size w__18 w') fun (t45 : ByteArray) =>
(((ByteArray.size ((((t9_1 ++ ((⟨#[32, 114]⟩ : ByteArray) ++ t12)) ++ (⟨#[32]⟩ : ByteArray)) ++ t40) ++ (⟨#[32]⟩ : ByteArray)) + ByteArray.size t45 : Nat) : Int) ≤ IntKind.i64.max) ∧ ∀ w__19, Below (World.heap w__18).size w__18 w__19 →
K (((((t9_1 ++ ((⟨#[32, 114]⟩ : ByteArray) ++ t12)) ++ (⟨#[32]⟩ : ByteArray)) ++ t40) ++ (⟨#[32]⟩ : ByteArray)) ++ t45) w__19) ∧
(t31 = false → Ld (.i .i64) (Addr.add a_x 0) w__18 fun (t49 : Int) w__20 =>
(((t49 : Int) == 16) = true → (((ByteArray.size t9_1 + ByteArray.size (⟨#[32]⟩ : ByteArray) : Nat) : Int) ≤ IntKind.i64.max) ∧ Ld (.i .i64) (Addr.add a_x 3) w__20 fun (t54 : Int) w__21 =>
CallT (.o (.lf .s)) P0 138 [(.int .i64 t54)] w__21 fun (t55 : ByteArray) w__22 =>
(((ByteArray.size (t9_1 ++ (⟨#[32]⟩ : ByteArray)) + ByteArray.size t55 : Nat) : Int) ≤ IntKind.i64.max) ∧ K ((t9_1 ++ (⟨#[32]⟩ : ByteArray)) ++ t55) w__22) ∧
(((t49 : Int) == 16) = false → Ld (.i .i64) (Addr.add a_x 0) w__20 fun (t59 : Int) w__23 =>
(((t59 : Int) == 17) = true → QLd (.i .i64) (Addr.add a_x 5) (fun w' => Below (World.heap w__23).size w__23 w') fun (t63 : Int) =>
QCl (.o (.lf .s)) P0 138 [(.int .i64 t63)] (fun w' => Below (World.heap w__23).size w__23 w') fun (t64 : ByteArray) =>
(((ByteArray.size t9_1 + ByteArray.size t64 : Nat) : Int) ≤ IntKind.i64.max) ∧ (((ByteArray.size (t9_1 ++ t64) + ByteArray.size ((⟨#[32, 114]⟩ : ByteArray) ++ t12) : Nat) : Int) ≤ IntKind.i64.max) ∧ (((ByteArray.size ((t9_1 ++ t64) ++ ((⟨#[32, 114]⟩ : ByteArray) ++ t12)) + ByteArray.size (⟨#[32, 114]⟩ : ByteArray) : Nat) : Int) ≤ IntKind.i64.max) ∧ QLd (.i .i64) (Addr.add a_x 2) (fun w' => Below (World.heap w__23).size w__23 w') fun (t70 : Int) =>
QCl (.o (.lf .s)) P0 138 [(.int .i64 t70)] (fun w' => Below (World.heap w__23).size w__23 w') fun (t71 : ByteArray) =>
(((ByteArray.size (((t9_1 ++ t64) ++ ((⟨#[32, 114]⟩ : ByteArray) ++ t12)) ++ (⟨#[32, 114]⟩ : ByteArray)) + ByteArray.size t71 : Nat) : Int) ≤ IntKind.i64.max) ∧ (((ByteArray.size ((((t9_1 ++ t64) ++ ((⟨#[32, 114]⟩ : ByteArray) ++ t12)) ++ (⟨#[32, 114]⟩ : ByteArray)) ++ t71) + ByteArray.size (⟨#[32]⟩ : ByteArray) : Nat) : Int) ≤ IntKind.i64.max) ∧ QLd (.i .i64) (Addr.add a_x 3) (fun w' => Below (World.heap w__23).size w__23 w') fun (t75 : Int) =>
QCl (.o (.lf .s)) P0 138 [(.int .i64 t75)] (fun w' => Below (World.heap w__23).size w__23 w') fun (t76 : ByteArray) =>
(((ByteArray.size (((((t9_1 ++ t64) ++ ((⟨#[32, 114]⟩ : ByteArray) ++ t12)) ++ (⟨#[32, 114]⟩ : ByteArray)) ++ t71) ++ (⟨#[32]⟩ : ByteArray)) + ByteArray.size t76 : Nat) : Int) ≤ IntKind.i64.max) ∧ ∀ w__24, Below (World.heap w__23).size w__23 w__24 →
K ((((((t9_1 ++ t64) ++ ((⟨#[32, 114]⟩ : ByteArray) ++ t12)) ++ (⟨#[32, 114]⟩ : ByteArray)) ++ t71) ++ (⟨#[32]⟩ : ByteArray)) ++ t76) w__24) ∧
(((t59 : Int) == 17) = false → Ld (.i .i64) (Addr.add a_x 0) w__23 fun (t80 : Int) w__25 =>
(((t80 : Int) == 18) = true → QLd (.i .i64) (Addr.add a_x 5) (fun w' => Below (World.heap w__25).size w__25 w') fun (t84 : Int) =>
QCl (.o (.lf .s)) P0 138 [(.int .i64 t84)] (fun w' => Below (World.heap w__25).size w__25 w') fun (t85 : ByteArray) =>
(((ByteArray.size t9_1 + ByteArray.size t85 : Nat) : Int) ≤ IntKind.i64.max) ∧ (((ByteArray.size (t9_1 ++ t85) + ByteArray.size ((⟨#[32, 114]⟩ : ByteArray) ++ t12) : Nat) : Int) ≤ IntKind.i64.max) ∧ (((ByteArray.size ((t9_1 ++ t85) ++ ((⟨#[32, 114]⟩ : ByteArray) ++ t12)) + ByteArray.size (⟨#[32]⟩ : ByteArray) : Nat) : Int) ≤ IntKind.i64.max) ∧ QLd (.i .i64) (Addr.add a_x 3) (fun w' => Below (World.heap w__25).size w__25 w') fun (t91 : Int) =>
QCl (.o (.lf .s)) P0 138 [(.int .i64 t91)] (fun w' => Below (World.heap w__25).size w__25 w') fun (t92 : ByteArray) =>
(((ByteArray.size (((t9_1 ++ t85) ++ ((⟨#[32, 114]⟩ : ByteArray) ++ t12)) ++ (⟨#[32]⟩ : ByteArray)) + ByteArray.size t92 : Nat) : Int) ≤ IntKind.i64.max) ∧ (((ByteArray.size ((((t9_1 ++ t85) ++ ((⟨#[32, 114]⟩ : ByteArray) ++ t12)) ++ (⟨#[32]⟩ : ByteArray)) ++ t92) + ByteArray.size (⟨#[32]⟩ : ByteArray) : Nat) : Int) ≤ IntKind.i64.max) ∧ QLd (.i .i64) (Addr.add a_x 2) (fun w' => Below (World.heap w__25).size w__25 w') fun (t96 : Int) =>
QLd (.i .i64) (Addr.add a_x 4) (fun w' => Below (World.heap w__25).size w__25 w') fun (t98 : Int) =>
QCl (.o (.lf .s)) P0 142 [(.int .i64 t96), (.int .i64 t98)] (fun w' => Below (World.heap w__25).size w__25 w') fun (t99 : ByteArray) =>
(((ByteArray.size (((((t9_1 ++ t85) ++ ((⟨#[32, 114]⟩ : ByteArray) ++ t12)) ++ (⟨#[32]⟩ : ByteArray)) ++ t92) ++ (⟨#[32]⟩ : ByteArray)) + ByteArray.size t99 : Nat) : Int) ≤ IntKind.i64.max) ∧ ∀ w__26, Below (World.heap w__25).size w__25 w__26 →
K ((((((t9_1 ++ t85) ++ ((⟨#[32, 114]⟩ : ByteArray) ++ t12)) ++ (⟨#[32]⟩ : ByteArray)) ++ t92) ++ (⟨#[32]⟩ : ByteArray)) ++ t99) w__26) ∧
(((t80 : Int) == 18) = false → Ld (.i .i64) (Addr.add a_x 0) w__25 fun (t103 : Int) w__27 =>
(((t103 : Int) == 19) = true → ∃ Sp_1 : World → World → Prop, SpOk Sp_1 w__27 ∧
∃ G_t106 : ByteArray → World → Prop, Kept Sp_1 G_t106 ∧
∃ G_t107 : Sl → World → Prop, Kept Sp_1 G_t107 ∧
∃ G_t109 : Int → World → Prop, Kept Sp_1 G_t109 ∧
∃ G_t110 : Addr → World → Prop, Kept Sp_1 G_t110 ∧
∃ G_t111 : ByteArray → World → Prop, Kept Sp_1 G_t111 ∧
∃ G_t112 : ByteArray → World → Prop, Kept Sp_1 G_t112 ∧
(∀ w__28, Sp_1 w__27 w__28 → (((ByteArray.size t9_1 + ByteArray.size (⟨#[32]⟩ : ByteArray) : Nat) : Int) ≤ IntKind.i64.max) ∧ GK (.o (.lf .s)) Sp_1 w__28 G_t106 (.string (t9_1 ++ (⟨#[32]⟩ : ByteArray))) w__28) ∧
∀ (t106 : ByteArray), (∀ w__29, Sp_1 w__27 w__29 → CallT (.o (.lf .sl)) P0 141 [] w__29 fun (t107 : Sl) w__30 =>
GK (.o (.lf .sl)) Sp_1 w__29 G_t107 t107.v w__30) ∧
∀ (t107_1 : Sl), (∀ w__31, Sp_1 w__27 w__31 → Ld (.i .i64) (Addr.add a_x 4) w__31 fun (t109 : Int) w__32 =>
GK (.o (.lf (.i .i64))) Sp_1 w__31 G_t109 (.int .i64 t109) w__32) ∧
∀ (t109_1 : Int), (∀ w__33, Sp_1 w__27 w__33 → G_t107 t107_1 w__33 → G_t109 t109_1 w__33 → Ix t107_1.a t107_1.n t109_1 1 w__33 fun a_t110 w__34 =>
GK (.o (.lf .ad)) Sp_1 w__33 G_t110 (.pointer (some a_t110)) w__34) ∧
∀ (t110 : Addr), (∀ w__35, Sp_1 w__27 w__35 → G_t110 t110 w__35 → Ld .s t110 w__35 fun (t111 : ByteArray) w__36 =>
GK (.o (.lf .s)) Sp_1 w__35 G_t111 (.string t111) w__36) ∧
∀ (t111_1 : ByteArray), (∀ w__37, Sp_1 w__27 w__37 → G_t106 t106 w__37 → G_t111 t111_1 w__37 → (((ByteArray.size t106 + ByteArray.size t111_1 : Nat) : Int) ≤ IntKind.i64.max) ∧ GK (.o (.lf .s)) Sp_1 w__37 G_t112 (.string (t106 ++ t111_1)) w__37) ∧
∀ (t112 : ByteArray), ∀ w__38, Sp_1 w__27 w__38 → G_t106 t106 w__38 → G_t107 t107_1 w__38 → G_t109 t109_1 w__38 → G_t110 t110 w__38 → G_t111 t111_1 w__38 → G_t112 t112 w__38 → 
K t112 w__38) ∧
(((t103 : Int) == 19) = false → K t9_1 w__27))))))
theorem spec.l1Line.ok {x : Tup (R 6 (.i .i64))} {w : World} {K : ByteArray → World → Prop} (h : spec.l1Line.vc x w K) : CallT (.o (.lf .s)) P0 128 [(.agg (Tup.cells (R 6 (.i .i64)) x).toArray)] w K :=
  call_of Try.func128 rfl rfl (pl := spec.l1Line.pl) (show VC P0 Try.f128 spec.l1Line.pl (.o (.lf .s)) [(.agg (Tup.cells (R 6 (.i .i64)) x).toArray)] w K noP from Eq.mp (by kernel_rfl) h)
/- spec.l1Signed -/
def spec.l1Signed.pl : Pl := (.s (.r (D 1)) (.s (.s (.r [.d, .d, .d, (.sp .d), .d, .d, .d, .d]) (.c (.s (.r [.d, (.t (.o (.lf .s))), (.c (.o (.lf (.i .i64)))), .d]) (.s (.s (.r (D 2)) (.c (.s (.r (D 1)) .z) .z)) (.s (.r (D 3)) .z))) .z)) (.s (.r [.d, (.c (.o (.lf (.i .i64)))), .d]) (.s (.s (.r (D 2)) (.c (.s (.r (D 1)) .z) .z)) (.s (.r (D 2)) .z)))))
def spec.l1Signed.vc (s : ByteArray) (w : World) (K : Int → World → Prop) : Prop :=
((decide (((((ByteArray.size s) : Nat) : Int) : Int) > 1)) = true → Sx s 0 w fun t10 w_ =>
(((t10 : Int) == 45) = true → RunT (.o (.lf .s)) P0 (Instr.sliceAt 9 (.string s) (some (.int .i64 1)) none none) w_ fun (t14 : ByteArray) w__1 =>
CallT (.o (.lf (.i .i64))) P0 144 [(.string t14)] w__1 fun (t15 : Int) w__2 =>
((decide ((t15 : Int) < 1)) = true → K 1000 w__2) ∧
((decide ((t15 : Int) < 1)) = false → K (IntKind.wrap .i64 (0 - t15)) w__2)) ∧
(((t10 : Int) == 45) = false → CallT (.o (.lf (.i .i64))) P0 144 [(.string s)] w_ fun (t21 : Int) w__3 =>
((decide ((t21 : Int) < 0)) = true → K 1000 w__3) ∧
((decide ((t21 : Int) < 0)) = false → K t21 w__3))) ∧
((decide (((((ByteArray.size s) : Nat) : Int) : Int) > 1)) = false → CallT (.o (.lf (.i .i64))) P0 144 [(.string s)] w fun (t21_1 : Int) w__4 =>
((decide ((t21_1 : Int) < 0)) = true → K 1000 w__4) ∧
((decide ((t21_1 : Int) < 0)) = false → K t21_1 w__4))
theorem spec.l1Signed.ok {s : ByteArray} {w : World} {K : Int → World → Prop} (h : spec.l1Signed.vc s w K) : CallT (.o (.lf (.i .i64))) P0 140 [(.string s)] w K :=
  call_of Try.func140 rfl rfl (pl := spec.l1Signed.pl) (show VC P0 Try.f140 spec.l1Signed.pl (.o (.lf (.i .i64))) [(.string s)] w K noP from Eq.mp (by kernel_rfl) h)
/- spec.l1ReadReg -/
def spec.l1ReadReg.pl : Pl := (.s (.r (D 2)) (.s (.s (.r [.d, .d, .d, (.sp .d), .d, .d, .d, .d]) (.c (.s (.r [.d, (.t (.o (.lf .s))), (.c (.o (.lf (.i .i64)))), .d]) (.s (.s (.r (D 2)) (.c (.r (D 1)) .z)) (.s (.r (D 3)) .z))) .z)) (.s (.r [.d, (.c (.o (.lf (.i .i64)))), .d, .d]) .z)))
def spec.l1ReadReg.vc (s : ByteArray) (w : World) (K : (Int) × (Int) × Unit → World → Prop) : Prop :=
((decide (((((ByteArray.size s) : Nat) : Int) : Int) > 1)) = true → Sx s 0 w fun t10 w_ =>
(((t10 : Int) == 114) = true → RunT (.o (.lf .s)) P0 (Instr.sliceAt 9 (.string s) (some (.int .i64 1)) none none) w_ fun (t14 : ByteArray) w__1 =>
CallT (.o (.lf (.i .i64))) P0 144 [(.string t14)] w__1 fun (t15 : Int) w__2 =>
((decide ((t15 : Int) < 0)) = true → K (99, (0, ())) w__2) ∧
((decide ((t15 : Int) < 0)) = false → K (t15, (0, ())) w__2)) ∧
(((t10 : Int) == 114) = false → CallT (.o (.lf (.i .i64))) P0 144 [(.string s)] w_ fun (t20 : Int) w__3 =>
K ((-1), (t20, ())) w__3)) ∧
((decide (((((ByteArray.size s) : Nat) : Int) : Int) > 1)) = false → CallT (.o (.lf (.i .i64))) P0 144 [(.string s)] w fun (t20_1 : Int) w__4 =>
K ((-1), (t20_1, ())) w__4)
theorem spec.l1ReadReg.ok {s : ByteArray} {w : World} {K : (Int) × (Int) × Unit → World → Prop} (h : spec.l1ReadReg.vc s w K) : CallT (.n [(.lf (.i .i64)), (.lf (.i .i64))]) P0 139 [(.string s)] w K :=
  call_of Try.func139 rfl rfl (pl := spec.l1ReadReg.pl) (show VC P0 Try.f139 spec.l1ReadReg.pl (.n [(.lf (.i .i64)), (.lf (.i .i64))]) [(.string s)] w K noP from Eq.mp (by kernel_rfl) h)
/- spec.l1Read -/
def spec.l1Read.pl : Pl := (.s (.r (D 1)) (.s (.g [((.g (.o (.lf .sl)) (.c (.o (.lf .sl)))), []), (.q, []), ((.g (.o (.lf .ad)) .d), []), ((.g (.o (.lf .s)) (.l (.lf .s))), [2]), ((.g (.o (.lf (.i .i64))) (.c (.o (.lf (.i .i64))))), [0, 3]), ((.g (.o (.ag (R 6 (.i .i64)))) .d), [4]), ((.g (.o (.lf .ad)) .d), [])] [.d]) (.s (.s (.r (D 1)) (.b (.l [(4, (.i .i64))] (.s (.s (.r (D 2)) (.c .z .z)) (.s (.b (.j [(43, .b)] (.r [.d, .d, (.l (.lf .s)), .d, (.c (.o (.lf .s))), .d, .d, (.sp .d), .d, .d, (.l (.lf .s)), .d, (.c (.o (.lf .s))), .d, .d, .d]) (.c (.s (.g [((.g (.o (.lf .sl)) (.c (.o (.lf .sl)))), []), (.q, []), ((.g (.o (.lf .ad)) .d), []), ((.g (.o (.lf .s)) (.l (.lf .s))), [2]), (.q, []), ((.g (.o (.lf .ad)) .d), []), ((.g (.o (.lf .s)) (.l (.lf .s))), [5]), (.q, [6]), (.q, [6]), ((.g (.o (.lf .s)) (.t (.o (.lf .s)))), [3, 6]), ((.g (.o (.lf (.i .i64))) (.c (.o (.lf (.i .i64))))), [0, 9]), (.q, [])] [.d]) (.r (D 3))) .z))) (.r (D 3))))))) (.s (.r (D 3)) (.j [] (.b (.j [(60, .b)] (.r [.d, (.l (.lf (.i .i64))), (.c (.o (.lf .b))), (.sp .d), .d, .d, .d, (.sp .d), .d, (.l (.lf (.i .i64))), (.c (.o (.lf .b))), (.sp .d), .d, .d, .d, .d, .d]) (.c (.s (.r [.d, .d, (.l (.lf .s)), (.c (.n [(.lf (.i .i64)), (.lf (.i .i64))])), .d, .d, .d, .d, .d]) (.s (.r [.d, .d, (.l (.lf .s)), (.c (.n [(.lf (.i .i64)), (.lf (.i .i64))])), .d, .d, .d, .d, .d]) (.s (.r (D 3)) (.s (.r (D 3)) (.s (.r (D 3)) (.s (.r (D 2)) (.c (.r [.d, .d, (.l (.lf .s)), (.c (.o (.lf (.i .i64)))), .d, .d]) .z))))))) (.j [(104, .b)] (.r [.d, (.l (.lf (.i .i64))), .d, (.sp .d), .d, .d, .d, .d]) (.c (.r [.d, .d, (.l (.lf .s)), (.c (.o (.lf (.i .i64)))), .d, .d]) (.j [(117, .b)] (.r [.d, (.l (.lf (.i .i64))), .d, (.sp .d), .d, .d, .d, .d]) (.c (.s (.r [.d, .d, (.l (.lf .s)), (.c (.n [(.lf (.i .i64)), (.lf (.i .i64))])), .d, .d, .d, .d, .d]) (.s (.r [.d, .d, (.l (.lf .s)), (.c (.n [(.lf (.i .i64)), (.lf (.i .i64))])), .d, .d, .d, .d, .d]) (.s (.r (D 3)) (.s (.r (D 3)) (.r [.d, .d, (.l (.lf .s)), (.c (.o (.lf (.i .i64)))), .d, .d]))))) (.j [(148, .b)] (.r [.d, (.l (.lf (.i .i64))), .d, (.sp .d), .d, .d, .d, .d]) (.c (.s (.r [.d, .d, (.l (.lf .s)), (.c (.n [(.lf (.i .i64)), (.lf (.i .i64))])), .d, .d, .d, .d, .d]) (.s (.r [.d, .d, (.l (.lf .s)), (.c (.n [(.lf (.i .i64)), (.lf (.i .i64))])), .d, .d, .d, .d, .d]) (.s (.r (D 3)) (.s (.r [.d, .d, (.l (.lf .s)), (.c (.o (.lf (.i .i64)))), .d, .d]) (.s (.r (D 3)) (.r (D 3))))))) (.s (.r [.d, (.l (.lf (.i .i64))), .d, (.sp .d), .d, .d, .d, .d]) (.c (.g [((.g (.o (.lf .sl)) (.c (.o (.lf .sl)))), []), (.q, []), ((.g (.o (.lf .ad)) .d), []), ((.g (.o (.lf .s)) (.l (.lf .s))), [2]), ((.g (.o (.lf (.i .i64))) (.c (.o (.lf (.i .i64))))), [0, 3]), (.q, [])] [.d]) .z))))))))))) (.s (.r [(.l (.ag (R 6 (.i .i64)))), .d]) .z))))))
def spec.l1Read.vc (w_ : Sl) (w : World) (K : Tup (R 6 (.i .i64)) → World → Prop) : Prop :=
Nw (zc P0 51) 51 w fun a_t2 w__1 =>
∃ Sp : World → World → Prop, SpOk Sp w__1 ∧
∃ G_t18 : Sl → World → Prop, Kept Sp G_t18 ∧
∃ G_t20 : Addr → World → Prop, Kept Sp G_t20 ∧
∃ G_t21 : ByteArray → World → Prop, Kept Sp G_t21 ∧
∃ G_t22 : Int → World → Prop, Kept Sp G_t22 ∧
∃ G_t23 : Tup (R 6 (.i .i64)) → World → Prop, Kept Sp G_t23 ∧
∃ G_x : Addr → World → Prop, Kept Sp G_x ∧
(∀ w__2, Sp w__1 w__2 → CallT (.o (.lf .sl)) P0 137 [] w__2 fun (t18 : Sl) w__3 =>
GK (.o (.lf .sl)) Sp w__2 G_t18 t18.v w__3) ∧
∀ (t18_1 : Sl), (∀ w__4, Sp w__1 w__4 → Ix w_.a w_.n 0 1 w__4 fun a_t20 w__5 =>
GK (.o (.lf .ad)) Sp w__4 G_t20 (.pointer (some a_t20)) w__5) ∧
∀ (t20 : Addr), (∀ w__6, Sp w__1 w__6 → G_t20 t20 w__6 → Ld .s t20 w__6 fun (t21 : ByteArray) w__7 =>
GK (.o (.lf .s)) Sp w__6 G_t21 (.string t21) w__7) ∧
∀ (t21_1 : ByteArray), (∀ w__8, Sp w__1 w__8 → G_t18 t18_1 w__8 → G_t21 t21_1 w__8 → CallT (.o (.lf (.i .i64))) P0 136 [t18_1.v, (.string t21_1)] w__8 fun (t22 : Int) w__9 =>
GK (.o (.lf (.i .i64))) Sp w__8 G_t22 (.int .i64 t22) w__9) ∧
∀ (t22_1 : Int), (∀ w__10, Sp w__1 w__10 → G_t22 t22_1 w__10 → GK (.o (.ag (R 6 (.i .i64)))) Sp w__10 G_t23 (.agg #[(.int .i64 t22_1), (.int .i64 0), (.int .i64 (-1)), (.int .i64 0), (.int .i64 0), (.int .i64 0)]) w__10) ∧
∀ (t23 : Tup (R 6 (.i .i64))), (∀ w__11, Sp w__1 w__11 → Nw (zc P0 51) 51 w__11 fun a_x w__12 =>
GK (.o (.lf .ad)) Sp w__11 G_x (.pointer (some a_x)) w__12) ∧
∀ (x : Addr), ∀ w__13, Sp w__1 w__13 → G_t18 t18_1 w__13 → G_t20 t20 w__13 → G_t21 t21_1 w__13 → G_t22 t22_1 w__13 → G_t23 t23 w__13 → G_x x w__13 → 
StA P0 x (Tup.cells (R 6 (.i .i64)) t23) w__13 fun w__14 =>
∃ (I : Int → World → Prop) (M : Int → World → Nat),
I 1 w__14 ∧
(∀ (size : Int) w__15, I size w__15 → ∀ _ : Nat → Value,
((decide ((size : Int) ≤ 4)) = true → ∃ J : Bool → World → Prop,
(QIx w_.a w_.n 0 1 fun a_t29 =>
QLd .s a_t29 (fun w' => Below (World.heap w__15).size w__15 w') fun (t30 : ByteArray) =>
QCl (.o (.lf .s)) P0 138 [(.int .i64 size)] (fun w' => Below (World.heap w__15).size w__15 w') fun (t32 : ByteArray) =>
(((ByteArray.size (⟨#[108, 111, 97, 100]⟩ : ByteArray) + ByteArray.size t32 : Nat) : Int) ≤ IntKind.i64.max) ∧ ((ByteArray.toList t30 == ByteArray.toList ((⟨#[108, 111, 97, 100]⟩ : ByteArray) ++ t32)) = true → ∀ w__16, Below (World.heap w__15).size w__15 w__16 →
J true w__16) ∧
((ByteArray.toList t30 == ByteArray.toList ((⟨#[108, 111, 97, 100]⟩ : ByteArray) ++ t32)) = false → QIx w_.a w_.n 0 1 fun a_t37 =>
QLd .s a_t37 (fun w' => Below (World.heap w__15).size w__15 w') fun (t38 : ByteArray) =>
QCl (.o (.lf .s)) P0 138 [(.int .i64 size)] (fun w' => Below (World.heap w__15).size w__15 w') fun (t40 : ByteArray) =>
(((ByteArray.size (⟨#[115, 116, 111, 114, 101]⟩ : ByteArray) + ByteArray.size t40 : Nat) : Int) ≤ IntKind.i64.max) ∧ ∀ w__16, Below (World.heap w__15).size w__15 w__16 →
J (ByteArray.toList t38 == ByteArray.toList ((⟨#[115, 116, 111, 114, 101]⟩ : ByteArray) ++ t40)) w__16)) ∧
(∀ (t43 : Bool) w__17, J t43 w__17 → ∀ _ : Nat → Value,
(t43 = true → ∃ Sp_1 : World → World → Prop, SpOk Sp_1 w__17 ∧
∃ G_t44 : Sl → World → Prop, Kept Sp_1 G_t44 ∧
∃ G_t46 : Addr → World → Prop, Kept Sp_1 G_t46 ∧
∃ G_t47 : ByteArray → World → Prop, Kept Sp_1 G_t47 ∧
∃ G_t49 : Addr → World → Prop, Kept Sp_1 G_t49 ∧
∃ G_t50 : ByteArray → World → Prop, Kept Sp_1 G_t50 ∧
∃ G_t53 : ByteArray → World → Prop, Kept Sp_1 G_t53 ∧
∃ G_t54 : Int → World → Prop, Kept Sp_1 G_t54 ∧
(∀ w__18, Sp_1 w__17 w__18 → CallT (.o (.lf .sl)) P0 137 [] w__18 fun (t44 : Sl) w__19 =>
GK (.o (.lf .sl)) Sp_1 w__18 G_t44 t44.v w__19) ∧
∀ (t44_1 : Sl), (∀ w__20, Sp_1 w__17 w__20 → Ix w_.a w_.n 0 1 w__20 fun a_t46 w__21 =>
GK (.o (.lf .ad)) Sp_1 w__20 G_t46 (.pointer (some a_t46)) w__21) ∧
∀ (t46 : Addr), (∀ w__22, Sp_1 w__17 w__22 → G_t46 t46 w__22 → Ld .s t46 w__22 fun (t47 : ByteArray) w__23 =>
GK (.o (.lf .s)) Sp_1 w__22 G_t47 (.string t47) w__23) ∧
∀ (t47_1 : ByteArray), (∀ w__24, Sp_1 w__17 w__24 → Ix w_.a w_.n 0 1 w__24 fun a_t49 w__25 =>
GK (.o (.lf .ad)) Sp_1 w__24 G_t49 (.pointer (some a_t49)) w__25) ∧
∀ (t49 : Addr), (∀ w__26, Sp_1 w__17 w__26 → G_t49 t49 w__26 → Ld .s t49 w__26 fun (t50 : ByteArray) w__27 =>
GK (.o (.lf .s)) Sp_1 w__26 G_t50 (.string t50) w__27) ∧
∀ (t50_1 : ByteArray), (∀ w__28, Sp_1 w__17 w__28 → G_t47 t47_1 w__28 → G_t50 t50_1 w__28 → RunT (.o (.lf .s)) P0 (Instr.sliceAt 9 (.string t47_1) none (some (.int .i64 (IntKind.wrap .i64 ((((ByteArray.size t50_1) : Nat) : Int) - 1)))) none) w__28 fun (t53 : ByteArray) w__29 =>
GK (.o (.lf .s)) Sp_1 w__28 G_t53 (.string t53) w__29) ∧
∀ (t53_1 : ByteArray), (∀ w__30, Sp_1 w__17 w__30 → G_t44 t44_1 w__30 → G_t53 t53_1 w__30 → CallT (.o (.lf (.i .i64))) P0 136 [t44_1.v, (.string t53_1)] w__30 fun (t54 : Int) w__31 =>
GK (.o (.lf (.i .i64))) Sp_1 w__30 G_t54 (.int .i64 t54) w__31) ∧
∀ (t54_1 : Int), ∀ w__32, Sp_1 w__17 w__32 → G_t44 t44_1 w__32 → G_t46 t46 w__32 → G_t47 t47_1 w__32 → G_t49 t49 w__32 → G_t50 t50_1 w__32 → G_t53 t53_1 w__32 → G_t54 t54_1 w__32 → 
St (Addr.add x 0) (.int .i64 t54_1) w__32 fun w__33 =>
St (Addr.add x 5) (.int .i64 size) w__33 fun w__34 =>
(I (IntKind.wrap .i64 (size * 2)) w__34 ∧ M (IntKind.wrap .i64 (size * 2)) w__34 < M size w__15)) ∧
(t43 = false → (I (IntKind.wrap .i64 (size * 2)) w__17 ∧ M (IntKind.wrap .i64 (size * 2)) w__17 < M size w__15)))) ∧
((decide ((size : Int) ≤ 4)) = false → ∃ J_1 : World → Prop,
(∃ J_2 : Bool → World → Prop,
(Ld (.i .i64) (Addr.add x 0) w__15 fun (t62 : Int) w__35 =>
CallT (.o (.lf .b)) P0 129 [(.int .i64 t62)] w__35 fun (t63 : Bool) w__36 =>
(t63 = true → (((((w_.n : Nat) : Int) : Int) == 3) = true → J_2 true w__36) ∧
(((((w_.n : Nat) : Int) : Int) == 3) = false → Ld (.i .i64) (Addr.add x 0) w__36 fun (t70 : Int) w__37 =>
CallT (.o (.lf .b)) P0 55 [(.int .i64 t70)] w__37 fun (t71 : Bool) w__38 =>
(t71 = true → J_2 ((((w_.n : Nat) : Int) : Int) == 4) w__38) ∧
(t71 = false → J_2 false w__38))) ∧
(t63 = false → Ld (.i .i64) (Addr.add x 0) w__36 fun (t70_1 : Int) w__39 =>
CallT (.o (.lf .b)) P0 55 [(.int .i64 t70_1)] w__39 fun (t71_1 : Bool) w__40 =>
(t71_1 = true → J_2 ((((w_.n : Nat) : Int) : Int) == 4) w__40) ∧
(t71_1 = false → J_2 false w__40))) ∧
(∀ (t60 : Bool) w__41, J_2 t60 w__41 → ∀ _ : Nat → Value,
(t60 = true → Ix w_.a w_.n 1 1 w__41 fun a_t79 w__42 =>
Ld .s a_t79 w__42 fun (t80 : ByteArray) w__43 =>
CallT (.n [(.lf (.i .i64)), (.lf (.i .i64))]) P0 139 [(.string t80)] w__43 fun (t81 : (Int) × (Int) × Unit) w__44 =>
Ix w_.a w_.n 2 1 w__44 fun a_t86 w__45 =>
Ld .s a_t86 w__45 fun (t87 : ByteArray) w__46 =>
CallT (.n [(.lf (.i .i64)), (.lf (.i .i64))]) P0 139 [(.string t87)] w__46 fun (t88 : (Int) × (Int) × Unit) w__47 =>
St (Addr.add x 1) (.int .i64 t81.1) w__47 fun w__48 =>
St (Addr.add x 2) (.int .i64 t88.1) w__48 fun w__49 =>
St (Addr.add x 4) (.int .i64 t88.2.1) w__49 fun w__50 =>
(((((w_.n : Nat) : Int) : Int) == 4) = true → Ix w_.a w_.n 3 1 w__50 fun a_t100 w__51 =>
Ld .s a_t100 w__51 fun (t101 : ByteArray) w__52 =>
CallT (.o (.lf (.i .i64))) P0 140 [(.string t101)] w__52 fun (t102 : Int) w__53 =>
St (Addr.add x 3) (.int .i64 t102) w__53 fun w__54 =>
J_1 w__54) ∧
(((((w_.n : Nat) : Int) : Int) == 4) = false → J_1 w__50)) ∧
(t60 = false → ∃ J_3 : Bool → World → Prop,
(Ld (.i .i64) (Addr.add x 0) w__41 fun (t106 : Int) w__55 =>
(((t106 : Int) == 16) = true → J_3 ((((w_.n : Nat) : Int) : Int) == 2) w__55) ∧
(((t106 : Int) == 16) = false → J_3 false w__55)) ∧
(∀ (t104 : Bool) w__56, J_3 t104 w__56 → ∀ _ : Nat → Value,
(t104 = true → Ix w_.a w_.n 1 1 w__56 fun a_t113 w__57 =>
Ld .s a_t113 w__57 fun (t114 : ByteArray) w__58 =>
CallT (.o (.lf (.i .i64))) P0 140 [(.string t114)] w__58 fun (t115 : Int) w__59 =>
St (Addr.add x 3) (.int .i64 t115) w__59 fun w__60 =>
J_1 w__60) ∧
(t104 = false → ∃ J_4 : Bool → World → Prop,
(Ld (.i .i64) (Addr.add x 0) w__56 fun (t119 : Int) w__61 =>
(((t119 : Int) == 17) = true → J_4 ((((w_.n : Nat) : Int) : Int) == 4) w__61) ∧
(((t119 : Int) == 17) = false → J_4 false w__61)) ∧
(∀ (t117 : Bool) w__62, J_4 t117 w__62 → ∀ _ : Nat → Value,
(t117 = true → Ix w_.a w_.n 1 1 w__62 fun a_t127 w__63 =>
Ld .s a_t127 w__63 fun (t128 : ByteArray) w__64 =>
CallT (.n [(.lf (.i .i64)), (.lf (.i .i64))]) P0 139 [(.string t128)] w__64 fun (t129 : (Int) × (Int) × Unit) w__65 =>
Ix w_.a w_.n 2 1 w__65 fun a_t134 w__66 =>
Ld .s a_t134 w__66 fun (t135 : ByteArray) w__67 =>
CallT (.n [(.lf (.i .i64)), (.lf (.i .i64))]) P0 139 [(.string t135)] w__67 fun (t136 : (Int) × (Int) × Unit) w__68 =>
St (Addr.add x 1) (.int .i64 t129.1) w__68 fun w__69 =>
St (Addr.add x 2) (.int .i64 t136.1) w__69 fun w__70 =>
Ix w_.a w_.n 3 1 w__70 fun a_t144 w__71 =>
Ld .s a_t144 w__71 fun (t145 : ByteArray) w__72 =>
CallT (.o (.lf (.i .i64))) P0 140 [(.string t145)] w__72 fun (t146 : Int) w__73 =>
St (Addr.add x 3) (.int .i64 t146) w__73 fun w__74 =>
J_1 w__74) ∧
(t117 = false → ∃ J_5 : Bool → World → Prop,
(Ld (.i .i64) (Addr.add x 0) w__62 fun (t150 : Int) w__75 =>
(((t150 : Int) == 18) = true → J_5 ((((w_.n : Nat) : Int) : Int) == 4) w__75) ∧
(((t150 : Int) == 18) = false → J_5 false w__75)) ∧
(∀ (t148 : Bool) w__76, J_5 t148 w__76 → ∀ _ : Nat → Value,
(t148 = true → Ix w_.a w_.n 1 1 w__76 fun a_t158 w__77 =>
Ld .s a_t158 w__77 fun (t159 : ByteArray) w__78 =>
CallT (.n [(.lf (.i .i64)), (.lf (.i .i64))]) P0 139 [(.string t159)] w__78 fun (t160 : (Int) × (Int) × Unit) w__79 =>
Ix w_.a w_.n 3 1 w__79 fun a_t165 w__80 =>
Ld .s a_t165 w__80 fun (t166 : ByteArray) w__81 =>
CallT (.n [(.lf (.i .i64)), (.lf (.i .i64))]) P0 139 [(.string t166)] w__81 fun (t167 : (Int) × (Int) × Unit) w__82 =>
St (Addr.add x 1) (.int .i64 t160.1) w__82 fun w__83 =>
Ix w_.a w_.n 2 1 w__83 fun a_t173 w__84 =>
Ld .s a_t173 w__84 fun (t174 : ByteArray) w__85 =>
CallT (.o (.lf (.i .i64))) P0 140 [(.string t174)] w__85 fun (t175 : Int) w__86 =>
St (Addr.add x 3) (.int .i64 t175) w__86 fun w__87 =>
St (Addr.add x 2) (.int .i64 t167.1) w__87 fun w__88 =>
St (Addr.add x 4) (.int .i64 t167.2.1) w__88 fun w__89 =>
J_1 w__89) ∧
(t148 = false → Ld (.i .i64) (Addr.add x 0) w__76 fun (t183 : Int) w__90 =>
(((t183 : Int) == 19) = true → (((((w_.n : Nat) : Int) : Int) == 2) = true → ∃ Sp_2 : World → World → Prop, SpOk Sp_2 w__90 ∧
∃ G_t189 : Sl → World → Prop, Kept Sp_2 G_t189 ∧
∃ G_t191 : Addr → World → Prop, Kept Sp_2 G_t191 ∧
∃ G_t192 : ByteArray → World → Prop, Kept Sp_2 G_t192 ∧
∃ G_t193 : Int → World → Prop, Kept Sp_2 G_t193 ∧
(∀ w__91, Sp_2 w__90 w__91 → CallT (.o (.lf .sl)) P0 141 [] w__91 fun (t189 : Sl) w__92 =>
GK (.o (.lf .sl)) Sp_2 w__91 G_t189 t189.v w__92) ∧
∀ (t189_1 : Sl), (∀ w__93, Sp_2 w__90 w__93 → Ix w_.a w_.n 1 1 w__93 fun a_t191 w__94 =>
GK (.o (.lf .ad)) Sp_2 w__93 G_t191 (.pointer (some a_t191)) w__94) ∧
∀ (t191 : Addr), (∀ w__95, Sp_2 w__90 w__95 → G_t191 t191 w__95 → Ld .s t191 w__95 fun (t192 : ByteArray) w__96 =>
GK (.o (.lf .s)) Sp_2 w__95 G_t192 (.string t192) w__96) ∧
∀ (t192_1 : ByteArray), (∀ w__97, Sp_2 w__90 w__97 → G_t189 t189_1 w__97 → G_t192 t192_1 w__97 → CallT (.o (.lf (.i .i64))) P0 136 [t189_1.v, (.string t192_1)] w__97 fun (t193 : Int) w__98 =>
GK (.o (.lf (.i .i64))) Sp_2 w__97 G_t193 (.int .i64 t193) w__98) ∧
∀ (t193_1 : Int), ∀ w__99, Sp_2 w__90 w__99 → G_t189 t189_1 w__99 → G_t191 t191 w__99 → G_t192 t192_1 w__99 → G_t193 t193_1 w__99 → 
St (Addr.add x 4) (.int .i64 t193_1) w__99 fun w__100 =>
J_1 w__100) ∧
(((((w_.n : Nat) : Int) : Int) == 2) = false → J_1 w__90)) ∧
(((t183 : Int) == 19) = false → J_1 w__90)))))))))) ∧
(∀  w__101, J_1 w__101 → ∀ _ : Nat → Value,
LdA (R 6 (.i .i64)) x w__101 fun (t195 : Tup (R 6 (.i .i64))) w__102 =>
StA P0 a_t2 (Tup.cells (R 6 (.i .i64)) t195) w__102 fun w__103 =>
LdA (R 6 (.i .i64)) a_t2 w__103 fun r w__104 =>
K r w__103)))
theorem spec.l1Read.ok {w_ : Sl} {w : World} {K : Tup (R 6 (.i .i64)) → World → Prop} (h : spec.l1Read.vc w_ w K) : CallT (.o (.ag (R 6 (.i .i64)))) P0 126 [w_.v] w K :=
  call_of Try.func126 rfl rfl (pl := spec.l1Read.pl) (show VC P0 Try.f126 spec.l1Read.pl (.o (.ag (R 6 (.i .i64)))) [w_.v] w K noP from Eq.mp (by kernel_rfl) h)
/- spec.LineGet -/
def spec.LineGet.pl : Pl := (.s (.r (D 2)) (.s (.r [.d, (.c (.o (.lf .sl))), (.c (.o (.ag (R 6 (.i .i64))))), .d, .d]) (.s (.s (.r [(.l (.ag (R 6 (.i .i64)))), (.c (.o (.lf .b))), .d, (.sp .d), (.l (.ag (R 6 (.i .i64)))), (.c (.o (.lf .s))), .d, .d, .d]) (.c (.s (.r (D 3)) .z) .z)) (.s (.r [(.l (.ag (R 6 (.i .i64)))), .d, .d]) .z))))
def spec.LineGet.vc (s : ByteArray) (w : World) (K : (Tup (R 6 (.i .i64))) × (Bool) × Unit → World → Prop) : Prop :=
Nw (zc P0 51) 51 w fun a_t2 w_ =>
CallT (.o (.lf .sl)) P0 127 [(.string s), (.int .u8 32), (.int .i64 5)] w_ fun (t6 : Sl) w__1 =>
CallT (.o (.ag (R 6 (.i .i64)))) P0 126 [t6.v] w__1 fun (t7 : Tup (R 6 (.i .i64))) w__2 =>
Nw (zc P0 51) 51 w__2 fun a_x w__3 =>
StA P0 a_x (Tup.cells (R 6 (.i .i64)) t7) w__3 fun w__4 =>
LdA (R 6 (.i .i64)) a_x w__4 fun (t8 : Tup (R 6 (.i .i64))) w__5 =>
CallT (.o (.lf .b)) P0 105 [(.agg (Tup.cells (R 6 (.i .i64)) t8).toArray)] w__5 fun (t9 : Bool) w__6 =>
((!t9) = true → StA P0 a_t2 [(.int .i64 0), (.int .i64 0), (.int .i64 0), (.int .i64 0), (.int .i64 0), (.int .i64 0)] w__6 fun w__7 =>
LdA (R 6 (.i .i64)) a_t2 w__7 fun r w__8 =>
K (r, (false, ())) w__7) ∧
((!t9) = false → LdA (R 6 (.i .i64)) a_x w__6 fun (t12 : Tup (R 6 (.i .i64))) w__9 =>
CallT (.o (.lf .s)) P0 128 [(.agg (Tup.cells (R 6 (.i .i64)) t12).toArray)] w__9 fun (t13 : ByteArray) w__10 =>
((!(ByteArray.toList t13 == ByteArray.toList s)) = true → StA P0 a_t2 [(.int .i64 0), (.int .i64 0), (.int .i64 0), (.int .i64 0), (.int .i64 0), (.int .i64 0)] w__10 fun w__11 =>
LdA (R 6 (.i .i64)) a_t2 w__11 fun r_1 w__12 =>
K (r_1, (false, ())) w__11) ∧
((!(ByteArray.toList t13 == ByteArray.toList s)) = false → LdA (R 6 (.i .i64)) a_x w__10 fun (t18 : Tup (R 6 (.i .i64))) w__13 =>
StA P0 a_t2 (Tup.cells (R 6 (.i .i64)) t18) w__13 fun w__14 =>
LdA (R 6 (.i .i64)) a_t2 w__14 fun r_2 w__15 =>
K (r_2, (true, ())) w__14))
theorem spec.LineGet.ok {s : ByteArray} {w : World} {K : (Tup (R 6 (.i .i64))) × (Bool) × Unit → World → Prop} (h : spec.LineGet.vc s w K) : CallT (.n [(.ag (R 6 (.i .i64))), (.lf .b)]) P0 112 [(.string s)] w K :=
  call_of Try.func112 rfl rfl (pl := spec.LineGet.pl) (show VC P0 Try.f112 spec.LineGet.pl (.n [(.ag (R 6 (.i .i64))), (.lf .b)]) [(.string s)] w K noP from Eq.mp (by kernel_rfl) h)
/- spec.DrawProgForm -/
def spec.DrawProgForm.pl : Pl := (.s (.r (D 1)) (.s (.r [.d, (.c (.o (.lf .p))), .d]) (.s (.r [.d, (.c (.o (.lf .sl))), .d]) (.s (.s (.r [.d, (.c (.o (.lf (.i .i64))))]) (.b (.s (.r (D 2)) (.c (.s (.r [.d, .d, .d, .d, (.t (.o (.lf .sl))), .d]) .z) (.s (.r (D 2)) (.c (.b (.l [(4, .sl)] (.s (.s (.r [.d, .d, .d, (.c (.o (.lf (.i .i64)))), .d, .d]) (.c .z .z)) (.b (.r [.d, .d, .d, (.t (.o (.lf .sl))), .d]))))) (.s (.r (D 2)) (.c (.s (.r (D 1)) .z) .z)))))))) (.s (.r (D 2)) .z)))))
def spec.DrawProgForm.vc (code : Sl) (w : World) (K : Sl → World → Prop) : Prop :=
CallT (.o (.lf .p)) P0 72 [code.v] w fun (t6 : Option Addr) w_ =>
CallT (.o (.lf .sl)) P0 73 [(.pointer t6)] w_ fun (t8 : Sl) w__1 =>
CallT (.o (.lf (.i .i64))) P0 74 [(.pointer t6), (.int .i64 8)] w__1 fun (t10 : Int) w__2 =>
(((t10 : Int) == 0) = true → RunT (.o (.lf .sl)) P0 (Instr.sliceAt 33 t8.v none (some (.int .i64 (IntKind.wrap .i64 (((t8.n : Nat) : Int) - 1)))) none) w__2 fun (t17 : Sl) w__3 =>
K t17 w__3) ∧
(((t10 : Int) == 0) = false → (((t10 : Int) == 1) = true → ∃ (I : Sl → World → Prop) (M : Sl → World → Nat),
I t8 w__2 ∧
(∀ (list : Sl) w__4, I list w__4 → ∀ _ : Nat → Value,
CallT (.o (.lf (.i .i64))) P0 74 [(.pointer t6), (.int .i64 2)] w__4 fun (t23 : Int) w__5 =>
((decide ((((list.n : Nat) : Int) : Int) < (IntKind.wrap .i64 (48 + t23)))) = true → Nw #[(.int .i64 20), (.int .i64 0), (.int .i64 (-1)), (.int .i64 0), (.int .i64 0), (.int .i64 0)] 51 w__5 fun a_t28 w__6 =>
RunT (.o (.lf .sl)) P0 (Builtin.append_ #[33, 33] 33 #[list.v, (.slice (some a_t28) 1 1)]) w__6 fun (t29 : Sl) w__7 =>
(I t29 w__7 ∧ M t29 w__7 < M list w__4)) ∧
((decide ((((list.n : Nat) : Int) : Int) < (IntKind.wrap .i64 (48 + t23)))) = false → K list w__5))) ∧
(((t10 : Int) == 1) = false → (((t10 : Int) == 2) = true → K ⟨none, 0, 0⟩ w__2) ∧
(((t10 : Int) == 2) = false → K t8 w__2)))
theorem spec.DrawProgForm.ok {code : Sl} {w : World} {K : Sl → World → Prop} (h : spec.DrawProgForm.vc code w K) : CallT (.o (.lf .sl)) P0 76 [code.v] w K :=
  call_of Try.func76 rfl rfl (pl := spec.DrawProgForm.pl) (show VC P0 Try.f76 spec.DrawProgForm.pl (.o (.lf .sl)) [code.v] w K noP from Eq.mp (by kernel_rfl) h)
/- spec.DrawFlowNext -/
def spec.DrawFlowNext.pl : Pl := (.s (.r (D 2)) (.s (.r [.d, (.c (.o (.lf .p))), .d]) (.s (.r [.d, (.c (.o (.lf .sl))), .d]) (.s (.r [.d, .d, .d, .d, .d, (.c (.o (.lf (.i .i64)))), .d, (.c (.o (.lf (.i .i64)))), .d, .d, .d]) .z))))
def spec.DrawFlowNext.vc (code : Sl) (w : World) (K : (Sl) × (Int) × Unit → World → Prop) : Prop :=
CallT (.o (.lf .p)) P0 72 [code.v] w fun (t7 : Option Addr) w_ =>
CallT (.o (.lf .sl)) P0 73 [(.pointer t7)] w_ fun (t9 : Sl) w__1 =>
CallT (.o (.lf (.i .i64))) P0 74 [(.pointer t7), (.int .i64 (IntKind.wrap .i64 (((t9.n : Nat) : Int) + 1)))] w__1 fun (t15 : Int) w__2 =>
CallT (.o (.lf (.i .i64))) P0 74 [(.pointer t7), (.int .i64 2)] w__2 fun (t17 : Int) w__3 =>
K (t9, ((IntKind.wrap .i64 (t15 - t17)), ())) w__3
theorem spec.DrawFlowNext.ok {code : Sl} {w : World} {K : (Sl) × (Int) × Unit → World → Prop} (h : spec.DrawFlowNext.vc code w K) : CallT (.n [(.lf .sl), (.lf (.i .i64))]) P0 41 [code.v] w K :=
  call_of Try.func41 rfl rfl (pl := spec.DrawFlowNext.pl) (show VC P0 Try.f41 spec.DrawFlowNext.pl (.n [(.lf .sl), (.lf (.i .i64))]) [code.v] w K noP from Eq.mp (by kernel_rfl) h)
/- spec.DrawFlowAhead -/
def spec.DrawFlowAhead.pl : Pl := (.s (.r (D 3)) (.s (.r [.d, (.c (.o (.lf .p))), .d]) (.s (.r [.d, (.c (.o (.lf .sl))), .d]) (.s (.r [.d, .d, .d, .d, .d, (.c (.o (.lf (.i .i64)))), .d, (.c (.o (.lf (.i .i64)))), .d, .d, .d, .d, (.c (.o (.lf (.i .i64)))), .d, .d, .d]) .z))))
def spec.DrawFlowAhead.vc (code : Sl) (w : World) (K : (Sl) × (Int) × (Int) × Unit → World → Prop) : Prop :=
CallT (.o (.lf .p)) P0 72 [code.v] w fun (t8 : Option Addr) w_ =>
CallT (.o (.lf .sl)) P0 73 [(.pointer t8)] w_ fun (t10 : Sl) w__1 =>
CallT (.o (.lf (.i .i64))) P0 74 [(.pointer t8), (.int .i64 (IntKind.wrap .i64 (((t10.n : Nat) : Int) + 1)))] w__1 fun (t16 : Int) w__2 =>
CallT (.o (.lf (.i .i64))) P0 74 [(.pointer t8), (.int .i64 2)] w__2 fun (t18 : Int) w__3 =>
CallT (.o (.lf (.i .i64))) P0 74 [(.pointer t8), (.int .i64 ((t10.n : Nat) : Int))] w__3 fun (t23 : Int) w__4 =>
K (t10, ((IntKind.wrap .i64 (t16 - t18)), (t23, ()))) w__4
theorem spec.DrawFlowAhead.ok {code : Sl} {w : World} {K : (Sl) × (Int) × (Int) × Unit → World → Prop} (h : spec.DrawFlowAhead.vc code w K) : CallT (.n [(.lf .sl), (.lf (.i .i64)), (.lf (.i .i64))]) P0 44 [code.v] w K :=
  call_of Try.func44 rfl rfl (pl := spec.DrawFlowAhead.pl) (show VC P0 Try.f44 spec.DrawFlowAhead.pl (.n [(.lf .sl), (.lf (.i .i64)), (.lf (.i .i64))]) [code.v] w K noP from Eq.mp (by kernel_rfl) h)
/- spec.DrawFlowBlocks -/
def spec.DrawFlowBlocks.pl : Pl := (.s (.r (D 1)) (.s (.r [.d, (.c (.o (.lf .sl))), .d]) .z))
def spec.DrawFlowBlocks.vc (code : Sl) (w : World) (K : Sl → World → Prop) : Prop :=
CallT (.o (.lf .sl)) P0 76 [code.v] w fun (t4 : Sl) w_ =>
K t4 w_
theorem spec.DrawFlowBlocks.ok {code : Sl} {w : World} {K : Sl → World → Prop} (h : spec.DrawFlowBlocks.vc code w K) : CallT (.o (.lf .sl)) P0 45 [code.v] w K :=
  call_of Try.func45 rfl rfl (pl := spec.DrawFlowBlocks.pl) (show VC P0 Try.f45 spec.DrawFlowBlocks.pl (.o (.lf .sl)) [code.v] w K noP from Eq.mp (by kernel_rfl) h)
/- spec.DrawFlowRound -/
def spec.DrawFlowRound.pl : Pl := (.s (.r (D 1)) (.s (.r [.d, (.c (.o (.lf .sl))), .d]) .z))
def spec.DrawFlowRound.vc (code : Sl) (w : World) (K : Sl → World → Prop) : Prop :=
CallT (.o (.lf .sl)) P0 76 [code.v] w fun (t4 : Sl) w_ =>
K t4 w_
theorem spec.DrawFlowRound.ok {code : Sl} {w : World} {K : Sl → World → Prop} (h : spec.DrawFlowRound.vc code w K) : CallT (.o (.lf .sl)) P0 47 [code.v] w K :=
  call_of Try.func47 rfl rfl (pl := spec.DrawFlowRound.pl) (show VC P0 Try.f47 spec.DrawFlowRound.pl (.o (.lf .sl)) [code.v] w K noP from Eq.mp (by kernel_rfl) h)
/- laws.sgInts -/
def laws.sgInts.pl : Pl := (.s (.r (D 1)) (.s (.s (.r (D 5)) (.c (.s (.r (D 1)) .z) .z)) (.s (.s (.r (D 1)) (.b (.l [(5, (.i .i64))] (.s (.s (.r (D 4)) (.c .z .z)) (.s (.b (.s (.r [.d, .d, .d, (.l (.lf (.i .i64))), .d, .d, .d, (.l (.lf (.i .i64))), .d]) (.c (.s (.r (D 1)) .z) .z))) (.r (D 3))))))) (.s (.r (D 1)) .z))))
def laws.sgInts.vc (a : Sl) (b : Sl) (w : World) (K : Bool → World → Prop) : Prop :=
(((((a.n : Nat) : Int) : Int) != ((b.n : Nat) : Int)) = true → K false w) ∧
(((((a.n : Nat) : Int) : Int) != ((b.n : Nat) : Int)) = false → ∃ (I : Int → World → Prop) (M : Int → World → Nat),
I 0 w ∧
(∀ (i : Int) w_, I i w_ → ∀ _ : Nat → Value,
((decide ((i : Int) < ((a.n : Nat) : Int))) = true → QIx a.a a.n i 1 fun a_t19 =>
QLd (.i .i64) a_t19 (fun w' => Below (World.heap w_).size w_ w') fun (t20 : Int) =>
QIx b.a b.n i 1 fun a_t23 =>
QLd (.i .i64) a_t23 (fun w' => Below (World.heap w_).size w_ w') fun (t24 : Int) =>
∀ w__1, Below (World.heap w_).size w_ w__1 →
(((t20 : Int) != t24) = true → K false w__1) ∧
(((t20 : Int) != t24) = false → (I (IntKind.wrap .i64 (i + 1)) w__1 ∧ M (IntKind.wrap .i64 (i + 1)) w__1 < M i w_))) ∧
((decide ((i : Int) < ((a.n : Nat) : Int))) = false → K true w_)))
theorem laws.sgInts.ok {a : Sl} {b : Sl} {w : World} {K : Bool → World → Prop} (h : laws.sgInts.vc a b w K) : CallT (.o (.lf .b)) P0 42 [a.v, b.v] w K :=
  call_of Try.func42 rfl rfl (pl := laws.sgInts.pl) (show VC P0 Try.f42 laws.sgInts.pl (.o (.lf .b)) [a.v, b.v] w K noP from Eq.mp (by kernel_rfl) h)
/- laws.sgIn -/
def laws.sgIn.pl : Pl := (.s (.r (D 1)) (.s (.s (.r (D 1)) (.b (.l [(5, (.i .i64))] (.s (.s (.r (D 4)) (.c .z .z)) (.s (.b (.s (.r [.d, .d, .d, (.l (.lf (.i .i64))), .d, .d]) (.c (.s (.r (D 1)) .z) .z))) (.r (D 3))))))) (.s (.r (D 1)) .z)))
def laws.sgIn.vc (list : Sl) (n : Int) (w : World) (K : Bool → World → Prop) : Prop :=
∃ (I : Int → World → Prop) (M : Int → World → Nat),
I 0 w ∧
(∀ (i : Int) w_, I i w_ → ∀ _ : Nat → Value,
((decide ((i : Int) < ((list.n : Nat) : Int))) = true → Ix list.a list.n i 1 w_ fun a_t14 w__1 =>
Ld (.i .i64) a_t14 w__1 fun (t15 : Int) w__2 =>
(((t15 : Int) == n) = true → K true w__2) ∧
(((t15 : Int) == n) = false → (I (IntKind.wrap .i64 (i + 1)) w__2 ∧ M (IntKind.wrap .i64 (i + 1)) w__2 < M i w_))) ∧
((decide ((i : Int) < ((list.n : Nat) : Int))) = false → K false w_))
theorem laws.sgIn.ok {list : Sl} {n : Int} {w : World} {K : Bool → World → Prop} (h : laws.sgIn.vc list n w K) : CallT (.o (.lf .b)) P0 46 [list.v, (.int .i64 n)] w K :=
  call_of Try.func46 rfl rfl (pl := laws.sgIn.pl) (show VC P0 Try.f46 laws.sgIn.pl (.o (.lf .b)) [list.v, (.int .i64 n)] w K noP from Eq.mp (by kernel_rfl) h)
/- laws.FnFlowNext -/
def laws.FnFlowNext.pl : Pl := (.s (.r (D 1)) (.s (.s (.r (D 3)) (.c (.s (.r (D 1)) .z) .z)) (.s (.r [.d, (.c (.n [(.lf .sl), (.lf (.i .i64))])), .d, .d, .d, .d, .d]) (.s (.r [.d, .d, (.c (.o (.lf .sl))), .d]) (.s (.j [(38, .b)] (.r [.d, .d, .d, (.c (.o (.lf .sl))), (.c (.o (.lf .b))), .d, (.sp .d), .d, (.c (.o (.lf (.i .i64)))), .d, .d, (.sp .d), .d, .d, .d, (.sp .d), .d, .d, .d, .d, .d]) (.c (.s (.r [.d, .d, .d, (.c (.o (.lf .sl))), (.c (.o (.lf .b))), .d]) .z) .z)) (.s (.s (.r (D 1)) (.b (.l [(6, (.i .i64))] (.s (.s (.r (D 4)) (.c .z .z)) (.s (.b (.s (.r [.d, .d, .d, (.l (.lf (.i .i64))), .d, (.sp .d), .d, .d, .d, (.l (.lf (.i .i64))), .d, .d, .d, .d, (.sp .d), .d, .d, (.sp .d), .d, .d, .d, (.l (.lf (.i .i64))), .d, .d, .d, .d, (.l (.lf (.i .i64))), .d, .d, .d]) (.c (.s (.r (D 1)) .z) .z))) (.r (D 3))))))) (.s (.r [.d, .d, .d, (.sp .d), .d, .d, .d, .d, .d, .d, .d, (.l (.lf (.i .i64))), .d, .d, .d, .d]) .z)))))))
def laws.FnFlowNext.vc (code : Sl) (w : World) (K : Bool → World → Prop) : Prop :=
((decide ((((code.n : Nat) : Int) : Int) > 1048576)) = true → K true w) ∧
((decide ((((code.n : Nat) : Int) : Int) > 1048576)) = false → CallT (.n [(.lf .sl), (.lf (.i .i64))]) P0 41 [code.v] w fun (t12 : (Sl) × (Int) × Unit) w_ =>
CallT (.o (.lf .sl)) P0 32 [t12.1.v, (.int .i64 t12.2.1)] w_ fun (t17 : Sl) w__1 =>
∃ J : Bool → World → Prop,
(CallT (.o (.lf .sl)) P0 31 [t12.1.v, (.int .i64 t12.2.1)] w__1 fun (t21 : Sl) w__2 =>
CallT (.o (.lf .b)) P0 42 [t17.v, t21.v] w__2 fun (t22 : Bool) w__3 =>
((!t22) = true → J true w__3) ∧
((!t22) = false → CallT (.o (.lf (.i .i64))) P0 43 [t12.1.v] w__3 fun (t26 : Int) w__4 =>
(((t26 : Int) != 0) = true → J true w__4) ∧
(((t26 : Int) != 0) = false → ((decide ((t12.2.1 : Int) < 0)) = true → J true w__4) ∧
((decide ((t12.2.1 : Int) < 0)) = false → J (decide ((t12.2.1 : Int) ≥ ((t12.1.n : Nat) : Int))) w__4)))) ∧
(∀ (t38 : Bool) w__5, J t38 w__5 → ∀ _ : Nat → Value,
(t38 = true → CallT (.o (.lf .sl)) P0 31 [t12.1.v, (.int .i64 t12.2.1)] w__5 fun (t42 : Sl) w__6 =>
CallT (.o (.lf .b)) P0 42 [t17.v, t42.v] w__6 fun (t43 : Bool) w__7 =>
K t43 w__7) ∧
(t38 = false → ∃ (I : Int → World → Prop) (M : Int → World → Nat),
I 0 w__5 ∧
(∀ (i : Int) w__8, I i w__8 → ∀ _ : Nat → Value,
((decide ((i : Int) < ((t17.n : Nat) : Int))) = true → QIx t17.a t17.n i 1 fun a_t52 =>
QLd (.i .i64) a_t52 (fun w' => Below (World.heap w__8).size w__8 w') fun (t53 : Int) =>
((decide ((t53 : Int) < 0)) = true → ∀ w__9, Below (World.heap w__8).size w__8 w__9 →
K false w__9) ∧
((decide ((t53 : Int) < 0)) = false → QIx t17.a t17.n i 1 fun a_t58 =>
QLd (.i .i64) a_t58 (fun w' => Below (World.heap w__8).size w__8 w') fun (t59 : Int) =>
((decide ((t59 : Int) ≥ ((t12.1.n : Nat) : Int))) = true → ∀ w__9, Below (World.heap w__8).size w__8 w__9 →
K false w__9) ∧
((decide ((t59 : Int) ≥ ((t12.1.n : Nat) : Int))) = false → ((decide ((i : Int) > 0)) = true → QIx t17.a t17.n i 1 fun a_t70 =>
QLd (.i .i64) a_t70 (fun w' => Below (World.heap w__8).size w__8 w') fun (t71 : Int) =>
QIx t17.a t17.n (IntKind.wrap .i64 (i - 1)) 1 fun a_t75 =>
QLd (.i .i64) a_t75 (fun w' => Below (World.heap w__8).size w__8 w') fun (t76 : Int) =>
∀ w__9, Below (World.heap w__8).size w__8 w__9 →
((decide ((t71 : Int) ≤ t76)) = true → K false w__9) ∧
((decide ((t71 : Int) ≤ t76)) = false → (I (IntKind.wrap .i64 (i + 1)) w__9 ∧ M (IntKind.wrap .i64 (i + 1)) w__9 < M i w__8))) ∧
((decide ((i : Int) > 0)) = false → ∀ w__9, Below (World.heap w__8).size w__8 w__9 →
(I (IntKind.wrap .i64 (i + 1)) w__9 ∧ M (IntKind.wrap .i64 (i + 1)) w__9 < M i w__8))))) ∧
((decide ((i : Int) < ((t17.n : Nat) : Int))) = false → ((decide ((((t17.n : Nat) : Int) : Int) ≤ 2)) = true → Ix t12.1.a t12.1.n t12.2.1 6 w__8 fun a_t89 w__10 =>
Ld (.i .i64) (Addr.add a_t89 0) w__10 fun (t91 : Int) w__11 =>
K (((((t17.n : Nat) : Int) : Int) == 0) == ((t91 : Int) == 20)) w__11) ∧
((decide ((((t17.n : Nat) : Int) : Int) ≤ 2)) = false → K false w__8))))))
theorem laws.FnFlowNext.ok {code : Sl} {w : World} {K : Bool → World → Prop} (h : laws.FnFlowNext.vc code w K) : CallT (.o (.lf .b)) P0 11 [code.v] w K :=
  call_of Try.func11 rfl rfl (pl := laws.FnFlowNext.pl) (show VC P0 Try.f11 laws.FnFlowNext.pl (.o (.lf .b)) [code.v] w K noP from Eq.mp (by kernel_rfl) h)
/- laws.FnFlowOrder -/
def laws.FnFlowOrder.pl : Pl := (.s (.r (D 1)) (.s (.s (.r (D 3)) (.c (.s (.r (D 1)) .z) .z)) (.s (.r [.d, (.c (.n [(.lf .sl), (.lf (.i .i64)), (.lf (.i .i64))])), .d, .d, .d, .d, .d, .d, .d]) (.s (.r [.d, .d, .d, (.c (.o (.lf .b))), .d]) (.j [] (.s (.r [.d, .d, .d, .d, (.c (.o (.lf .b))), .d, (.sp .d), .d, .d, .d]) (.c (.s (.r [.d, .d, .d, .d, (.c (.o (.lf .b))), .d, .d]) .z) .z)) (.s (.s (.r (D 1)) (.b (.l [(7, (.i .i64))] (.s (.s (.r (D 4)) (.c .z .z)) (.s (.b (.s (.r [.d, .d, .d, (.c (.o (.lf .b))), (.sp .d), .d, .d, .d, (.c (.o (.lf .b))), .d, .d]) (.c (.s (.r (D 1)) .z) .z))) (.r (D 3))))))) (.s (.r [.d, .d, .d, (.sp .d), .d, .d, .d, (.c (.o (.lf .b))), .d, .d, .d]) .z)))))))
def laws.FnFlowOrder.vc (code : Sl) (w : World) (K : Bool → World → Prop) : Prop :=
((decide ((((code.n : Nat) : Int) : Int) > 1048576)) = true → K true w) ∧
((decide ((((code.n : Nat) : Int) : Int) > 1048576)) = false → CallT (.n [(.lf .sl), (.lf (.i .i64)), (.lf (.i .i64))]) P0 44 [code.v] w fun (t13 : (Sl) × (Int) × (Int) × Unit) w_ =>
CallT (.o (.lf .b)) P0 30 [t13.1.v, (.int .i64 t13.2.1), (.int .i64 t13.2.2.1)] w_ fun (t20 : Bool) w__1 =>
∃ J : World → Prop,
(CallT (.o (.lf .b)) P0 29 [t13.1.v, (.int .i64 t13.2.1), (.int .i64 t13.2.2.1)] w__1 fun (t25 : Bool) w__2 =>
((!(t20 == t25)) = true → CallT (.o (.lf .b)) P0 29 [t13.1.v, (.int .i64 t13.2.1), (.int .i64 t13.2.2.1)] w__2 fun (t35 : Bool) w__3 =>
K (t20 == t35) w__3) ∧
((!(t20 == t25)) = false → ((!t20) = true → CallT (.o (.lf .b)) P0 29 [t13.1.v, (.int .i64 t13.2.1), (.int .i64 t13.2.2.1)] w__2 fun (t35_1 : Bool) w__4 =>
K (t20 == t35_1) w__4) ∧
((!t20) = false → J w__2))) ∧
(∀  w__5, J w__5 → ∀ _ : Nat → Value,
∃ (I : Int → World → Prop) (M : Int → World → Nat),
I 0 w__5 ∧
(∀ (c : Int) w__6, I c w__6 → ∀ _ : Nat → Value,
((decide ((c : Int) < ((t13.1.n : Nat) : Int))) = true → CallT (.o (.lf .b)) P0 30 [t13.1.v, (.int .i64 c), (.int .i64 t13.2.1)] w__6 fun (t46 : Bool) w__7 =>
(t46 = true → CallT (.o (.lf .b)) P0 30 [t13.1.v, (.int .i64 c), (.int .i64 t13.2.2.1)] w__7 fun (t51 : Bool) w__8 =>
((!t51) = true → K false w__8) ∧
((!t51) = false → (I (IntKind.wrap .i64 (c + 1)) w__8 ∧ M (IntKind.wrap .i64 (c + 1)) w__8 < M c w__6))) ∧
(t46 = false → (I (IntKind.wrap .i64 (c + 1)) w__7 ∧ M (IntKind.wrap .i64 (c + 1)) w__7 < M c w__6))) ∧
((decide ((c : Int) < ((t13.1.n : Nat) : Int))) = false → (((t13.2.1 : Int) == t13.2.2.1) = true → K true w__6) ∧
(((t13.2.1 : Int) == t13.2.2.1) = false → CallT (.o (.lf .b)) P0 30 [t13.1.v, (.int .i64 t13.2.2.1), (.int .i64 t13.2.1)] w__6 fun (t61 : Bool) w__9 =>
K (!t61) w__9)))))
theorem laws.FnFlowOrder.ok {code : Sl} {w : World} {K : Bool → World → Prop} (h : laws.FnFlowOrder.vc code w K) : CallT (.o (.lf .b)) P0 12 [code.v] w K :=
  call_of Try.func12 rfl rfl (pl := laws.FnFlowOrder.pl) (show VC P0 Try.f12 laws.FnFlowOrder.pl (.o (.lf .b)) [code.v] w K noP from Eq.mp (by kernel_rfl) h)
/- laws.FnFlowBlocks -/
def laws.FnFlowBlocks.pl : Pl := (.s (.r (D 1)) (.s (.s (.r (D 3)) (.c (.s (.r (D 1)) .z) .z)) (.s (.r [.d, (.c (.o (.lf .sl))), .d]) (.s (.r [.d, (.c (.o (.lf .sl))), .d]) (.j [] (.s (.r [.d, .d, (.c (.o (.lf .sl))), (.c (.o (.lf .b))), .d, (.sp .d), .d, .d, .d, .d]) (.c (.s (.r [.d, .d, (.c (.o (.lf .sl))), (.c (.o (.lf .b))), .d]) .z) .z)) (.s (.s (.r (D 1)) (.b (.l [(5, (.i .i64))] (.s (.s (.r (D 4)) (.c .z .z)) (.s (.b (.s (.r [.d, .d, (.c (.o (.lf .sl))), .d]) (.s (.r (D 1)) (.b (.l [(7, (.i .i64))] (.s (.s (.r (D 4)) (.c .z .z)) (.s (.b (.s (.r [.d, .d, .d, .d, (.l (.lf (.i .i64))), (.c (.o (.lf .b))), .d, (.sp .d), .d, .d, .d, (.sp .d), .d, .d, .d, (.l (.lf (.i .i64))), .d, .d, .d, .d, .d]) (.c (.s (.r (D 1)) .z) .z))) (.r (D 3))))))))) (.r (D 3))))))) (.s (.r [.d, .d, (.l (.lf (.i .i64))), .d, .d]) .z)))))))
def laws.FnFlowBlocks.vc (code : Sl) (w : World) (K : Bool → World → Prop) : Prop :=
((decide ((((code.n : Nat) : Int) : Int) > 1048576)) = true → K true w) ∧
((decide ((((code.n : Nat) : Int) : Int) > 1048576)) = false → CallT (.o (.lf .sl)) P0 45 [code.v] w fun (t12 : Sl) w_ =>
CallT (.o (.lf .sl)) P0 23 [t12.v] w_ fun (t14 : Sl) w__1 =>
∃ J : World → Prop,
(CallT (.o (.lf .sl)) P0 21 [t12.v] w__1 fun (t17 : Sl) w__2 =>
CallT (.o (.lf .b)) P0 42 [t14.v, t17.v] w__2 fun (t18 : Bool) w__3 =>
((!t18) = true → CallT (.o (.lf .sl)) P0 21 [t12.v] w__3 fun (t27 : Sl) w__4 =>
CallT (.o (.lf .b)) P0 42 [t14.v, t27.v] w__4 fun (t28 : Bool) w__5 =>
K t28 w__5) ∧
((!t18) = false → (((((t14.n : Nat) : Int) : Int) == 0) = true → CallT (.o (.lf .sl)) P0 21 [t12.v] w__3 fun (t27_1 : Sl) w__6 =>
CallT (.o (.lf .b)) P0 42 [t14.v, t27_1.v] w__6 fun (t28_1 : Bool) w__7 =>
K t28_1 w__7) ∧
(((((t14.n : Nat) : Int) : Int) == 0) = false → J w__3))) ∧
(∀  w__8, J w__8 → ∀ _ : Nat → Value,
∃ (I : Int → World → Prop) (M : Int → World → Nat),
I 0 w__8 ∧
(∀ (at_ : Int) w__9, I at_ w__9 → ∀ _ : Nat → Value,
((decide ((at_ : Int) < ((t12.n : Nat) : Int))) = true → CallT (.o (.lf .sl)) P0 32 [t12.v, (.int .i64 at_)] w__9 fun (t37 : Sl) w__10 =>
∃ (I_1 : Int → World → Prop) (M_1 : Int → World → Nat),
I_1 0 w__10 ∧
(∀ (k : Int) w__11, I_1 k w__11 → ∀ _ : Nat → Value,
((decide ((k : Int) < ((t37.n : Nat) : Int))) = true → Ix t37.a t37.n k 1 w__11 fun a_t47 w__12 =>
Ld (.i .i64) a_t47 w__12 fun (t48 : Int) w__13 =>
CallT (.o (.lf .b)) P0 46 [t14.v, (.int .i64 t48)] w__13 fun (t49 : Bool) w__14 =>
((!t49) = true → (((((t37.n : Nat) : Int) : Int) != 1) = true → K false w__14) ∧
(((((t37.n : Nat) : Int) : Int) != 1) = false → Ix t37.a t37.n k 1 w__14 fun a_t58 w__15 =>
Ld (.i .i64) a_t58 w__15 fun (t59 : Int) w__16 =>
(((t59 : Int) != (IntKind.wrap .i64 (at_ + 1))) = true → K false w__16) ∧
(((t59 : Int) != (IntKind.wrap .i64 (at_ + 1))) = false → (I_1 (IntKind.wrap .i64 (k + 1)) w__16 ∧ M_1 (IntKind.wrap .i64 (k + 1)) w__16 < M_1 k w__11)))) ∧
((!t49) = false → (I_1 (IntKind.wrap .i64 (k + 1)) w__14 ∧ M_1 (IntKind.wrap .i64 (k + 1)) w__14 < M_1 k w__11))) ∧
((decide ((k : Int) < ((t37.n : Nat) : Int))) = false → (I (IntKind.wrap .i64 (at_ + 1)) w__11 ∧ M (IntKind.wrap .i64 (at_ + 1)) w__11 < M at_ w__9)))) ∧
((decide ((at_ : Int) < ((t12.n : Nat) : Int))) = false → Ix t14.a t14.n 0 1 w__9 fun a_t66 w__17 =>
Ld (.i .i64) a_t66 w__17 fun (t67 : Int) w__18 =>
K ((t67 : Int) == 0) w__18))))
theorem laws.FnFlowBlocks.ok {code : Sl} {w : World} {K : Bool → World → Prop} (h : laws.FnFlowBlocks.vc code w K) : CallT (.o (.lf .b)) P0 13 [code.v] w K :=
  call_of Try.func13 rfl rfl (pl := laws.FnFlowBlocks.pl) (show VC P0 Try.f13 laws.FnFlowBlocks.pl (.o (.lf .b)) [code.v] w K noP from Eq.mp (by kernel_rfl) h)
/- laws.FnFlowBack -/
def laws.FnFlowBack.pl : Pl := (.s (.r (D 1)) (.s (.s (.r (D 3)) (.c (.s (.r (D 1)) .z) .z)) (.s (.r [.d, (.c (.o (.lf .sl))), .d]) (.s (.r [.d, (.c (.o (.lf .sl))), .d]) (.s (.s (.r [.d, .d, (.c (.o (.lf .sl))), (.c (.o (.lf .b))), .d]) (.c (.s (.r (D 1)) .z) .z)) (.s (.r [.d, (.c (.o (.lf .sl))), .d]) (.s (.s (.r (D 1)) (.b (.l [(6, (.i .i64))] (.s (.s (.r (D 4)) (.c .z .z)) (.s (.b (.s (.r [.d, .d, .d, .d, (.l (.lf (.i .i64))), (.c (.o (.lf .sl))), .d]) (.s (.r (D 1)) (.s (.s (.r (D 1)) (.b (.l [(8, .b), (9, (.i .i64))] (.s (.s (.r (D 4)) (.c .z .z)) (.s (.b (.r [.d, (.sp .d), .d, .d, .d, .d, (.l (.lf (.i .i64))), (.c (.o (.lf .b))), .d, .d])) (.r (D 3))))))) (.s (.r [.d, .d, (.sp .d), .d, .d, .d, .d, (.l (.lf (.i .i64))), (.c (.o (.lf .b))), .d, .d]) (.c (.s (.r (D 1)) .z) .z)))))) (.r (D 3))))))) (.s (.r (D 1)) .z))))))))
def laws.FnFlowBack.vc (code : Sl) (w : World) (K : Bool → World → Prop) : Prop :=
((decide ((((code.n : Nat) : Int) : Int) > 1048576)) = true → K true w) ∧
((decide ((((code.n : Nat) : Int) : Int) > 1048576)) = false → CallT (.o (.lf .sl)) P0 47 [code.v] w fun (t14 : Sl) w_ =>
CallT (.o (.lf .sl)) P0 40 [t14.v] w_ fun (t16 : Sl) w__1 =>
CallT (.o (.lf .sl)) P0 39 [t14.v] w__1 fun (t19 : Sl) w__2 =>
CallT (.o (.lf .b)) P0 42 [t16.v, t19.v] w__2 fun (t20 : Bool) w__3 =>
((!t20) = true → K false w__3) ∧
((!t20) = false → CallT (.o (.lf .sl)) P0 38 [t14.v] w__3 fun (t23 : Sl) w__4 =>
∃ (I : Int → World → Prop) (M : Int → World → Nat),
I 0 w__4 ∧
(∀ (i : Int) w__5, I i w__5 → ∀ _ : Nat → Value,
((decide ((i : Int) < ((t16.n : Nat) : Int))) = true → Ix t16.a t16.n i 1 w__5 fun a_t33 w__6 =>
Ld (.i .i64) a_t33 w__6 fun (t34 : Int) w__7 =>
CallT (.o (.lf .sl)) P0 32 [t14.v, (.int .i64 t34)] w__7 fun (t35 : Sl) w__8 =>
∃ (I_1 : Bool → Int → World → Prop) (M_1 : Bool → Int → World → Nat),
I_1 false 0 w__8 ∧
(∀ (is : Bool) (k : Int) w__9, I_1 is k w__9 → ∀ _ : Nat → Value,
((decide ((k : Int) < ((t35.n : Nat) : Int))) = true → (is = true → (I_1 true (IntKind.wrap .i64 (k + 1)) w__9 ∧ M_1 true (IntKind.wrap .i64 (k + 1)) w__9 < M_1 is k w__9)) ∧
(is = false → Ix t35.a t35.n k 1 w__9 fun a_t47 w__10 =>
Ld (.i .i64) a_t47 w__10 fun (t48 : Int) w__11 =>
CallT (.o (.lf .b)) P0 46 [t16.v, (.int .i64 t48)] w__11 fun (t49 : Bool) w__12 =>
(I_1 t49 (IntKind.wrap .i64 (k + 1)) w__12 ∧ M_1 t49 (IntKind.wrap .i64 (k + 1)) w__12 < M_1 is k w__9))) ∧
((decide ((k : Int) < ((t35.n : Nat) : Int))) = false → ((!is) = true → K false w__9) ∧
((!is) = false → Ix t16.a t16.n i 1 w__9 fun a_t57 w__13 =>
Ld (.i .i64) a_t57 w__13 fun (t58 : Int) w__14 =>
CallT (.o (.lf .b)) P0 46 [t23.v, (.int .i64 t58)] w__14 fun (t59 : Bool) w__15 =>
((!t59) = true → K false w__15) ∧
((!t59) = false → (I (IntKind.wrap .i64 (i + 1)) w__15 ∧ M (IntKind.wrap .i64 (i + 1)) w__15 < M i w__5)))))) ∧
((decide ((i : Int) < ((t16.n : Nat) : Int))) = false → K true w__5))))
theorem laws.FnFlowBack.ok {code : Sl} {w : World} {K : Bool → World → Prop} (h : laws.FnFlowBack.vc code w K) : CallT (.o (.lf .b)) P0 14 [code.v] w K :=
  call_of Try.func14 rfl rfl (pl := laws.FnFlowBack.pl) (show VC P0 Try.f14 laws.FnFlowBack.pl (.o (.lf .b)) [code.v] w K noP from Eq.mp (by kernel_rfl) h)
end Go.Proofs.Ytdgnojjemlfhdaa.V
