/- Texts of one proof, put together in build order by pack.py (the last one states what is proved). -/
import Derived.Laws.BytesArg
import Derived.Laws.Slices
import Derived.Lib.ItoaLen
import Derived.Test.YtkkdboimkbcfnaaDoorX3
/- Verification conditions, printed by this session's own program (wip/vc.py) and checked by the kernel. -/
namespace Go.Proofs.YtkkdboimkbcfnaaDoor.V
open Go Go.RowKit
set_option linter.unusedVariables false
/- spec.l20Open -/
def spec.l20Open.pl : Pl := (.s (.r (D 1)) (.s (.s (.r (D 3)) (.c (.r [.d, (.t (.o (.lf .sl))), .d]) .z)) (.s (.r (D 4)) .z)))
def spec.l20Open.vc (code : Sl) (w : World) (K : Option Addr → World → Prop) : Prop :=
((decide ((((code.n : Nat) : Int) : Int) > 2000)) = true → RunT (.o (.lf .sl)) P0 (Instr.sliceAt 22 code.v none (some (.int .i64 2000)) none) w fun (t7 : Sl) w_ =>
Nw #[t7.v, (.int .i64 0)] 86 w_ fun a_t10 w__1 =>
K (some a_t10) w__1) ∧
((decide ((((code.n : Nat) : Int) : Int) > 2000)) = false → Nw #[code.v, (.int .i64 0)] 86 w fun a_t10_1 w__2 =>
K (some a_t10_1) w__2)
theorem spec.l20Open.ok {code : Sl} {w : World} {K : Option Addr → World → Prop} (h : spec.l20Open.vc code w K) : CallT (.o (.lf .p)) P0 28 [code.v] w K :=
  call_of Tryd.func28 rfl rfl (pl := spec.l20Open.pl) (show VC P0 Tryd.f28 spec.l20Open.pl (.o (.lf .p)) [code.v] w K noP from Eq.mp (by kernel_rfl) h)
/- (spec.l20Rd).pick -/
def spec.l20Rd.pick.pl : Pl := (.s (.r (D 1)) (.s (.r [.d, .d, .n, .d, (.l (.lf (.i .i64))), .d, .n, .d, .d]) (.j [] (.s (.r [.d, .d, (.sp .d), .d, .n, .d, (.l (.lf .sl)), .d, .d, .d]) (.c (.s (.r (D 1)) .z) .z)) (.s (.r [.d, .n, .d, (.l (.lf (.i .i64))), .d, .d]) (.s (.s (.r [.d, .d, .n, .d, (.l (.lf .sl)), .d, .d]) (.c (.s (.r [.d, .n, .d, (.l (.lf .sl)), .d, .d, (.l (.lf (.i .u8))), .d, .d, .d, .d]) .z) .z)) (.s (.r [.d, .n, .d, (.l (.lf .sl)), .d, .d, .n, .d, (.l (.lf .sl)), .d, .d, .d, (.l (.lf (.i .u8))), .d, .d, .d, .n, .d, (.l (.lf .sl)), .d, .d, .d, .d, .n, .d, (.l (.lf .sl)), .d, .d, .d, (.l (.lf (.i .u8))), .d, .d, .d, .d, .d, .d, .d, .d, .n, .d, (.l (.lf .sl)), .d, .d, .d, .d, .d]) (.s (.r (D 5)) (.s (.r (D 4)) .z))))))))
def spec.l20Rd.pick.vc (r : Option Addr) (n : Int) (w : World) (K : Int → World → Prop) : Prop :=
Nc r w fun a_t9 w_ =>
Ld (.i .i64) (Addr.add a_t9 1) w_ fun (t11 : Int) w__1 =>
Nc r w__1 fun a_t13 w__2 =>
St (Addr.add a_t13 1) (.int .i64 (IntKind.wrap .i64 (t11 + 1))) w__2 fun w__3 =>
∃ J : World → Prop,
(((decide ((n : Int) < 1)) = true → K 0 w__3) ∧
((decide ((n : Int) < 1)) = false → Nc r w__3 fun a_t19 w__4 =>
Ld .sl (Addr.add a_t19 0) w__4 fun (t21 : Sl) w__5 =>
(((((t21.n : Nat) : Int) : Int) == 0) = true → K 0 w__5) ∧
(((((t21.n : Nat) : Int) : Int) == 0) = false → J w__5))) ∧
(∀  w__6, J w__6 → ∀ _ : Nat → Value,
Nc r w__6 fun a_t26 w__7 =>
Ld (.i .i64) (Addr.add a_t26 1) w__7 fun (t28 : Int) w__8 =>
Nc r w__8 fun a_t32 w__9 =>
Ld .sl (Addr.add a_t32 0) w__9 fun (t34 : Sl) w__10 =>
((decide (((IntKind.wrap .i64 (t28 - 1)) : Int) < ((t34.n : Nat) : Int))) = true → Nc r w__10 fun a_t38 w__11 =>
Ld .sl (Addr.add a_t38 0) w__11 fun (t40 : Sl) w__12 =>
Ix t40.a t40.n (IntKind.wrap .i64 (t28 - 1)) 1 w__12 fun a_t42 w__13 =>
Ld (.i .u8) a_t42 w__13 fun (t43 : Int) w__14 =>
(n : Int) ≠ 0 ∧ K (Int.tmod (IntKind.wrap .i64 t43) n) w__14) ∧
((decide (((IntKind.wrap .i64 (t28 - 1)) : Int) < ((t34.n : Nat) : Int))) = false → ∃ a_t48, r = some a_t48 ∧ QLd .sl (Addr.add a_t48 0) (fun w' => Below (World.heap w__10).size w__10 w') fun (t50 : Sl) =>
∃ a_t53, r = some a_t53 ∧ QLd .sl (Addr.add a_t53 0) (fun w' => Below (World.heap w__10).size w__10 w') fun (t55 : Sl) =>
(((t55.n : Nat) : Int) : Int) ≠ 0 ∧ QIx t50.a t50.n (Int.tmod (IntKind.wrap .i64 (t28 - 1)) ((t55.n : Nat) : Int)) 1 fun a_t58 =>
QLd (.i .u8) a_t58 (fun w' => Below (World.heap w__10).size w__10 w') fun (t59 : Int) =>
∃ a_t63, r = some a_t63 ∧ QLd .sl (Addr.add a_t63 0) (fun w' => Below (World.heap w__10).size w__10 w') fun (t65 : Sl) =>
∃ a_t70, r = some a_t70 ∧ QLd .sl (Addr.add a_t70 0) (fun w' => Below (World.heap w__10).size w__10 w') fun (t72 : Sl) =>
(((t72.n : Nat) : Int) : Int) ≠ 0 ∧ QIx t65.a t65.n (Int.tmod (IntKind.wrap .i64 ((IntKind.wrap .i64 ((IntKind.wrap .i64 (t28 - 1)) * 7)) + 3)) ((t72.n : Nat) : Int)) 1 fun a_t75 =>
QLd (.i .u8) a_t75 (fun w' => Below (World.heap w__10).size w__10 w') fun (t76 : Int) =>
∃ a_t85, r = some a_t85 ∧ QLd .sl (Addr.add a_t85 0) (fun w' => Below (World.heap w__10).size w__10 w') fun (t87 : Sl) =>
(((t87.n : Nat) : Int) : Int) ≠ 0 ∧ ∀ w__15, Below (World.heap w__10).size w__10 w__15 →
(64 : Int) ≠ 0 ∧ (n : Int) ≠ 0 ∧ K (Int.tmod (iXor .i64 (IntKind.wrap .i64 ((IntKind.wrap .i64 ((IntKind.wrap .i64 ((IntKind.wrap .i64 ((IntKind.wrap .i64 t59) * 131)) + (IntKind.wrap .i64 ((IntKind.wrap .i64 t76) * 1117)))) + (IntKind.wrap .i64 ((IntKind.wrap .i64 (t28 - 1)) * 29)))) + (IntKind.wrap .i64 ((IntKind.wrap .i64 (Int.tdiv (IntKind.wrap .i64 (t28 - 1)) ((t87.n : Nat) : Int))) * 53)))) (IntKind.wrap .i64 (Int.tdiv (IntKind.wrap .i64 ((IntKind.wrap .i64 ((IntKind.wrap .i64 ((IntKind.wrap .i64 ((IntKind.wrap .i64 t59) * 131)) + (IntKind.wrap .i64 ((IntKind.wrap .i64 t76) * 1117)))) + (IntKind.wrap .i64 ((IntKind.wrap .i64 (t28 - 1)) * 29)))) + (IntKind.wrap .i64 ((IntKind.wrap .i64 (Int.tdiv (IntKind.wrap .i64 (t28 - 1)) ((t87.n : Nat) : Int))) * 53)))) 64))) n) w__15))
theorem spec.l20Rd.pick.ok {r : Option Addr} {n : Int} {w : World} {K : Int → World → Prop} (h : spec.l20Rd.pick.vc r n w K) : CallT (.o (.lf (.i .i64))) P0 43 [(.pointer r), (.int .i64 n)] w K :=
  call_of Tryd.func43 rfl rfl (pl := spec.l20Rd.pick.pl) (show VC P0 Tryd.f43 spec.l20Rd.pick.pl (.o (.lf (.i .i64))) [(.pointer r), (.int .i64 n)] w K noP from Eq.mp (by kernel_rfl) h)
/- (spec.l20Rd).one -/
def spec.l20Rd.one.pl : Pl := (.s (.r (D 1)) (.s (.r [.d, .d, .d, .d, (.c (.o (.lf (.i .i64)))), .d, (.l (.lf (.i .i64))), .d]) .z))
def spec.l20Rd.one.vc (r : Option Addr) (list : Sl) (w : World) (K : Int → World → Prop) : Prop :=
CallT (.o (.lf (.i .i64))) P0 43 [(.pointer r), (.int .i64 ((list.n : Nat) : Int))] w fun (t9 : Int) w_ =>
Ix list.a list.n t9 1 w_ fun a_t10 w__1 =>
Ld (.i .i64) a_t10 w__1 fun (t11 : Int) w__2 =>
K t11 w__2
theorem spec.l20Rd.one.ok {r : Option Addr} {list : Sl} {w : World} {K : Int → World → Prop} (h : spec.l20Rd.one.vc r list w K) : CallT (.o (.lf (.i .i64))) P0 58 [(.pointer r), list.v] w K :=
  call_of Tryd.func58 rfl rfl (pl := spec.l20Rd.one.pl) (show VC P0 Tryd.f58 spec.l20Rd.one.pl (.o (.lf (.i .i64))) [(.pointer r), list.v] w K noP from Eq.mp (by kernel_rfl) h)
/- spec.l20Imm -/
def spec.l20Imm.pl : Pl := (.s (.r (D 1)) (.s (.r [.d, .d, (.c (.o (.lf (.i .i64)))), .d]) .z))
def spec.l20Imm.vc (r : Option Addr) (w : World) (K : Int → World → Prop) : Prop :=
Nw #[(.int .i64 0), (.int .i64 1), (.int .i64 2), (.int .i64 3), (.int .i64 7), (.int .i64 8), (.int .i64 15), (.int .i64 31), (.int .i64 100), (.int .i64 255), (.int .i64 65535), (.int .i64 2147483647), (.int .i64 2147483648), (.int .i64 4294967295)] 3 w fun a_t4 w_ =>
CallT (.o (.lf (.i .i64))) P0 58 [(.pointer r), (.slice (some a_t4) 14 14)] w_ fun (t5 : Int) w__1 =>
K t5 w__1
theorem spec.l20Imm.ok {r : Option Addr} {w : World} {K : Int → World → Prop} (h : spec.l20Imm.vc r w K) : CallT (.o (.lf (.i .i64))) P0 109 [(.pointer r)] w K :=
  call_of Tryd.func109 rfl rfl (pl := spec.l20Imm.pl) (show VC P0 Tryd.f109 spec.l20Imm.pl (.o (.lf (.i .i64))) [(.pointer r)] w K noP from Eq.mp (by kernel_rfl) h)
/- spec.l20Alu -/
def spec.l20Alu.pl : Pl := (.s (.r (D 1)) (.s (.r [.d, (.c (.o (.lf (.i .i64)))), .d, .d, .d, (.c (.o (.lf (.i .i64)))), .d, (.c (.o (.lf (.i .i64)))), .d, .d, .d]) (.s (.s (.r [.d, (.c (.o (.lf (.i .i64)))), .d]) (.c (.s (.r [.d, .d, (.c (.o (.lf (.i .i64)))), .d, .d]) (.r (D 2))) .z)) (.s (.r [(.l (.ag (R 6 (.i .i64)))), .d]) .z))))
def spec.l20Alu.vc (r : Option Addr) (w : World) (K : Tup (R 6 (.i .i64)) → World → Prop) : Prop :=
Nw (zc P0 44) 44 w fun a_t2 w_ =>
CallT (.o (.lf (.i .i64))) P0 43 [(.pointer r), (.int .i64 11)] w_ fun (t5 : Int) w__1 =>
Nw #[(.int .i64 0), (.int .i64 6), (.int .i64 7), (.int .i64 8)] 3 w__1 fun a_t8 w__2 =>
CallT (.o (.lf (.i .i64))) P0 58 [(.pointer r), (.slice (some a_t8) 4 4)] w__2 fun (t9 : Int) w__3 =>
CallT (.o (.lf (.i .i64))) P0 109 [(.pointer r)] w__3 fun (t11 : Int) w__4 =>
Nw (zc P0 44) 44 w__4 fun a_x w__5 =>
StA P0 a_x [(.int .i64 (IntKind.wrap .i64 (1 + t5))), (.int .i64 t9), (.int .i64 (-1)), (.int .i64 0), (.int .i64 t11), (.int .i64 0)] w__5 fun w__6 =>
CallT (.o (.lf (.i .i64))) P0 43 [(.pointer r), (.int .i64 2)] w__6 fun (t14 : Int) w__7 =>
(((t14 : Int) == 0) = true → Nw #[(.int .i64 0), (.int .i64 6), (.int .i64 7), (.int .i64 8)] 3 w__7 fun a_t17 w__8 =>
CallT (.o (.lf (.i .i64))) P0 58 [(.pointer r), (.slice (some a_t17) 4 4)] w__8 fun (t18 : Int) w__9 =>
St (Addr.add a_x 2) (.int .i64 t18) w__9 fun w__10 =>
St (Addr.add a_x 4) (.int .i64 0) w__10 fun w__11 =>
LdA (R 6 (.i .i64)) a_x w__11 fun (t21 : Tup (R 6 (.i .i64))) w__12 =>
StA P0 a_t2 (Tup.cells (R 6 (.i .i64)) t21) w__12 fun w__13 =>
LdA (R 6 (.i .i64)) a_t2 w__13 fun r_1 w__14 =>
K r_1 w__13) ∧
(((t14 : Int) == 0) = false → LdA (R 6 (.i .i64)) a_x w__7 fun (t21_1 : Tup (R 6 (.i .i64))) w__15 =>
StA P0 a_t2 (Tup.cells (R 6 (.i .i64)) t21_1) w__15 fun w__16 =>
LdA (R 6 (.i .i64)) a_t2 w__16 fun r_2 w__17 =>
K r_2 w__16)
theorem spec.l20Alu.ok {r : Option Addr} {w : World} {K : Tup (R 6 (.i .i64)) → World → Prop} (h : spec.l20Alu.vc r w K) : CallT (.o (.ag (R 6 (.i .i64)))) P0 110 [(.pointer r)] w K :=
  call_of Tryd.func110 rfl rfl (pl := spec.l20Alu.pl) (show VC P0 Tryd.f110 spec.l20Alu.pl (.o (.ag (R 6 (.i .i64)))) [(.pointer r)] w K noP from Eq.mp (by kernel_rfl) h)
/- spec.l20Lines -/
def spec.l20Lines.pl : Pl := (.s (.r (D 1)) (.s (.r (D 17)) .z))
def spec.l20Lines.vc  (w : World) (K : Sl → World → Prop) : Prop :=
Nw #[(.string ⟨#[109, 111, 118, 32, 114, 48, 32, 49]⟩), (.string ⟨#[101, 120, 105, 116]⟩)] 9 w fun a_t1 w_ =>
Nw #[(.string ⟨#[108, 111, 97, 100, 49, 32, 114, 50, 32, 114, 49, 32, 48]⟩), (.string ⟨#[109, 111, 118, 32, 114, 48, 32, 48]⟩), (.string ⟨#[108, 101, 115, 115, 32, 114, 50, 32, 49, 48, 32, 49]⟩), (.string ⟨#[109, 111, 118, 32, 114, 48, 32, 49]⟩), (.string ⟨#[101, 120, 105, 116]⟩)] 9 w_ fun a_t2 w__1 =>
Nw #[(.string ⟨#[108, 111, 97, 100, 49, 32, 114, 54, 32, 114, 49, 32, 48]⟩), (.string ⟨#[97, 110, 100, 32, 114, 54, 32, 51]⟩), (.string ⟨#[109, 111, 118, 32, 114, 49, 32, 48]⟩), (.string ⟨#[109, 111, 118, 32, 114, 50, 32, 114, 54]⟩), (.string ⟨#[99, 97, 108, 108, 32, 108, 111, 111, 107]⟩), (.string ⟨#[111, 116, 104, 101, 114, 32, 114, 48, 32, 48, 32, 50]⟩), (.string ⟨#[109, 111, 118, 32, 114, 48, 32, 48]⟩), (.string ⟨#[101, 120, 105, 116]⟩), (.string ⟨#[108, 111, 97, 100, 49, 32, 114, 51, 32, 114, 48, 32, 48]⟩), (.string ⟨#[97, 100, 100, 32, 114, 51, 32, 49]⟩), (.string ⟨#[115, 116, 111, 114, 101, 49, 32, 114, 48, 32, 48, 32, 114, 51]⟩), (.string ⟨#[109, 111, 118, 32, 114, 48, 32, 49]⟩), (.string ⟨#[101, 120, 105, 116]⟩)] 9 w__1 fun a_t3 w__2 =>
Nw #[(.string ⟨#[108, 111, 97, 100, 52, 32, 114, 50, 32, 114, 49, 32, 48]⟩), (.string ⟨#[115, 116, 111, 114, 101, 52, 32, 114, 49, 48, 32, 45, 52, 32, 114, 50]⟩), (.string ⟨#[108, 111, 97, 100, 49, 32, 114, 48, 32, 114, 49, 48, 32, 45, 51]⟩), (.string ⟨#[97, 110, 100, 32, 114, 48, 32, 49]⟩), (.string ⟨#[101, 120, 105, 116]⟩)] 9 w__2 fun a_t4 w__3 =>
Nw #[(.string ⟨#[108, 111, 97, 100, 49, 32, 114, 49, 32, 114, 49, 32, 48]⟩), (.string ⟨#[99, 97, 108, 108, 32, 102, 105, 110, 100]⟩), (.string ⟨#[115, 97, 109, 101, 32, 114, 48, 32, 48, 32, 52]⟩), (.string ⟨#[109, 111, 118, 32, 114, 49, 32, 114, 48]⟩), (.string ⟨#[99, 97, 108, 108, 32, 100, 114, 111, 112]⟩), (.string ⟨#[109, 111, 118, 32, 114, 48, 32, 49]⟩), (.string ⟨#[101, 120, 105, 116]⟩), (.string ⟨#[109, 111, 118, 32, 114, 48, 32, 48]⟩), (.string ⟨#[101, 120, 105, 116]⟩)] 9 w__3 fun a_t5 w__4 =>
Nw #[(.string ⟨#[108, 111, 97, 100, 49, 32, 114, 49, 32, 114, 49, 32, 48]⟩), (.string ⟨#[99, 97, 108, 108, 32, 115, 101, 110, 100]⟩), (.string ⟨#[109, 111, 118, 32, 114, 48, 32, 50]⟩), (.string ⟨#[101, 120, 105, 116]⟩)] 9 w__4 fun a_t6 w__5 =>
Nw #[(.string ⟨#[109, 111, 118, 32, 114, 54, 32, 48]⟩), (.string ⟨#[97, 100, 100, 32, 114, 54, 32, 49]⟩), (.string ⟨#[108, 101, 115, 115, 32, 114, 54, 32, 53, 32, 45, 50]⟩), (.string ⟨#[109, 111, 118, 32, 114, 48, 32, 114, 54]⟩), (.string ⟨#[101, 120, 105, 116]⟩)] 9 w__5 fun a_t7 w__6 =>
Nw #[(.string ⟨#[108, 111, 97, 100, 49, 32, 114, 50, 32, 114, 49, 32, 48]⟩), (.string ⟨#[97, 110, 100, 32, 114, 50, 32, 55]⟩), (.string ⟨#[109, 111, 118, 32, 114, 51, 32, 114, 49]⟩), (.string ⟨#[97, 100, 100, 32, 114, 51, 32, 114, 50]⟩), (.string ⟨#[108, 111, 97, 100, 49, 32, 114, 48, 32, 114, 51, 32, 48]⟩), (.string ⟨#[101, 120, 105, 116]⟩)] 9 w__6 fun a_t8 w__7 =>
Nw #[(.string ⟨#[99, 97, 108, 108, 32, 114, 97, 110, 100]⟩), (.string ⟨#[109, 111, 100, 32, 114, 48, 32, 51]⟩), (.string ⟨#[101, 120, 105, 116]⟩)] 9 w__7 fun a_t9 w__8 =>
Nw #[(.string ⟨#[108, 111, 97, 100, 50, 32, 114, 50, 32, 114, 49, 32, 52]⟩), (.string ⟨#[109, 111, 118, 32, 114, 48, 32, 114, 50]⟩), (.string ⟨#[115, 104, 114, 32, 114, 48, 32, 52]⟩), (.string ⟨#[120, 111, 114, 32, 114, 48, 32, 50, 53, 53]⟩), (.string ⟨#[100, 105, 118, 32, 114, 48, 32, 51]⟩), (.string ⟨#[101, 120, 105, 116]⟩)] 9 w__8 fun a_t10 w__9 =>
Nw #[(.string ⟨#[108, 111, 97, 100, 49, 32, 114, 54, 32, 114, 49, 32, 48]⟩), (.string ⟨#[109, 111, 118, 32, 114, 49, 32, 49]⟩), (.string ⟨#[109, 111, 118, 32, 114, 50, 32, 114, 54]⟩), (.string ⟨#[109, 111, 118, 32, 114, 51, 32, 55]⟩), (.string ⟨#[99, 97, 108, 108, 32, 112, 117, 116]⟩), (.string ⟨#[101, 120, 105, 116]⟩)] 9 w__9 fun a_t11 w__10 =>
Nw #[(.string ⟨#[108, 111, 97, 100, 49, 32, 114, 49, 32, 114, 49, 32, 49]⟩), (.string ⟨#[99, 97, 108, 108, 32, 102, 105, 110, 100]⟩), (.string ⟨#[109, 111, 118, 32, 114, 54, 32, 114, 48]⟩), (.string ⟨#[111, 116, 104, 101, 114, 32, 114, 54, 32, 48, 32, 50]⟩), (.string ⟨#[109, 111, 118, 32, 114, 48, 32, 48]⟩), (.string ⟨#[101, 120, 105, 116]⟩), (.string ⟨#[109, 111, 118, 32, 114, 49, 32, 114, 54]⟩), (.string ⟨#[99, 97, 108, 108, 32, 100, 114, 111, 112]⟩), (.string ⟨#[109, 111, 118, 32, 114, 48, 32, 50]⟩), (.string ⟨#[101, 120, 105, 116]⟩)] 9 w__10 fun a_t12 w__11 =>
Nw #[(.string ⟨#[108, 111, 97, 100, 49, 32, 114, 50, 32, 114, 49, 32, 48]⟩), (.string ⟨#[109, 111, 114, 101, 32, 114, 50, 32, 55, 32, 50]⟩), (.string ⟨#[115, 116, 111, 114, 101, 49, 32, 114, 49, 48, 32, 45, 49, 32, 114, 50]⟩), (.string ⟨#[103, 111, 32, 49]⟩), (.string ⟨#[115, 116, 111, 114, 101, 49, 32, 114, 49, 48, 32, 45, 49, 32, 48]⟩), (.string ⟨#[108, 111, 97, 100, 49, 32, 114, 48, 32, 114, 49, 48, 32, 45, 49]⟩), (.string ⟨#[101, 120, 105, 116]⟩)] 9 w__11 fun a_t13 w__12 =>
Nw #[(.string ⟨#[108, 111, 97, 100, 49, 32, 114, 50, 32, 114, 49, 32, 48]⟩), (.string ⟨#[108, 101, 115, 115, 32, 114, 50, 32, 57, 32, 49]⟩), (.string ⟨#[109, 111, 118, 32, 114, 50, 32, 56]⟩), (.string ⟨#[109, 111, 118, 32, 114, 51, 32, 114, 49, 48]⟩), (.string ⟨#[115, 117, 98, 32, 114, 51, 32, 49, 54]⟩), (.string ⟨#[115, 116, 111, 114, 101, 52, 32, 114, 51, 32, 48, 32, 49]⟩), (.string ⟨#[115, 116, 111, 114, 101, 52, 32, 114, 51, 32, 52, 32, 50]⟩), (.string ⟨#[115, 116, 111, 114, 101, 52, 32, 114, 51, 32, 56, 32, 51]⟩), (.string ⟨#[97, 100, 100, 32, 114, 51, 32, 114, 50]⟩), (.string ⟨#[108, 111, 97, 100, 49, 32, 114, 48, 32, 114, 51, 32, 48]⟩), (.string ⟨#[101, 120, 105, 116]⟩)] 9 w__12 fun a_t14 w__13 =>
Nw #[(.string ⟨#[108, 111, 97, 100, 49, 32, 114, 50, 32, 114, 49, 32, 48]⟩), (.string ⟨#[109, 117, 108, 32, 114, 50, 32, 49, 48, 48, 48]⟩), (.string ⟨#[109, 111, 118, 32, 114, 48, 32, 114, 50]⟩), (.string ⟨#[109, 111, 114, 101, 32, 114, 48, 32, 49, 48, 48, 48, 48, 48, 32, 49]⟩), (.string ⟨#[115, 117, 98, 32, 114, 48, 32, 49]⟩), (.string ⟨#[101, 120, 105, 116]⟩)] 9 w__13 fun a_t15 w__14 =>
Nw #[(.slice (some a_t1) 2 2), (.slice (some a_t2) 5 5), (.slice (some a_t3) 13 13), (.slice (some a_t4) 5 5), (.slice (some a_t5) 9 9), (.slice (some a_t6) 4 4), (.slice (some a_t7) 5 5), (.slice (some a_t8) 6 6), (.slice (some a_t9) 3 3), (.slice (some a_t10) 6 6), (.slice (some a_t11) 6 6), (.slice (some a_t12) 10 10), (.slice (some a_t13) 7 7), (.slice (some a_t14) 11 11), (.slice (some a_t15) 6 6)] 68 w__14 fun a_t16 w__15 =>
K ⟨(some a_t16), 15, 15⟩ w__15
theorem spec.l20Lines.ok  {w : World} {K : Sl → World → Prop} (h : spec.l20Lines.vc  w K) : CallT (.o (.lf .sl)) P0 107 [] w K :=
  call_of Tryd.func107 rfl rfl (pl := spec.l20Lines.pl) (show VC P0 Tryd.f107 spec.l20Lines.pl (.o (.lf .sl)) [] w K noP from Eq.mp (by kernel_rfl) h)
/- spec.l20Read -/
def spec.l20Read.pl : Pl := (.s (.r (D 1)) (.s (.r (D 2)) (.s (.s (.r (D 1)) (.b (.l [(3, .sl), (4, (.i .i64))] (.s (.s (.r (D 4)) (.c .z .z)) (.s (.b (.s (.r [.d, .d, .d, (.l (.lf .s)), (.c (.n [(.ag (R 6 (.i .i64))), (.lf .b)])), .d, .d, .d, .d, .d, .d]) (.r [.d, (.l (.ag (R 6 (.i .i64)))), .d, (.t (.o (.lf .sl))), .d]))) (.r (D 3))))))) (.s (.r (D 2)) .z))))
def spec.l20Read.vc (list : Sl) (w : World) (K : Sl → World → Prop) : Prop :=
Nw #[] 44 w fun a_t7 w_ =>
∃ (I : Sl → Int → World → Prop) (M : Sl → Int → World → Nat),
I ⟨(some a_t7), 0, 0⟩ 0 w_ ∧
(∀ (out : Sl) (i : Int) w__1, I out i w__1 → ∀ _ : Nat → Value,
((decide ((i : Int) < ((list.n : Nat) : Int))) = true → Ix list.a list.n i 1 w__1 fun a_t17 w__2 =>
Ld .s a_t17 w__2 fun (t18 : ByteArray) w__3 =>
CallT (.n [(.ag (R 6 (.i .i64))), (.lf .b)]) P0 129 [(.string t18)] w__3 fun (t19 : (Tup (R 6 (.i .i64))) × (Bool) × Unit) w__4 =>
Nw (zc P0 44) 44 w__4 fun a_x w__5 =>
StA P0 a_x (Tup.cells (R 6 (.i .i64)) t19.1) w__5 fun w__6 =>
LdA (R 6 (.i .i64)) a_x w__6 fun (t23 : Tup (R 6 (.i .i64))) w__7 =>
Nw #[(.int .i64 t23.1), (.int .i64 t23.2.1), (.int .i64 t23.2.2.1), (.int .i64 t23.2.2.2.1), (.int .i64 t23.2.2.2.2.1), (.int .i64 t23.2.2.2.2.2.1)] 44 w__7 fun a_t24 w__8 =>
RunT (.o (.lf .sl)) P0 (Builtin.append_ #[37, 37] 37 #[out.v, (.slice (some a_t24) 1 1)]) w__8 fun (t25 : Sl) w__9 =>
(I t25 (IntKind.wrap .i64 (i + 1)) w__9 ∧ M t25 (IntKind.wrap .i64 (i + 1)) w__9 < M out i w__1)) ∧
((decide ((i : Int) < ((list.n : Nat) : Int))) = false → K out w__1))
theorem spec.l20Read.ok {list : Sl} {w : World} {K : Sl → World → Prop} (h : spec.l20Read.vc list w K) : CallT (.o (.lf .sl)) P0 108 [list.v] w K :=
  call_of Tryd.func108 rfl rfl (pl := spec.l20Read.pl) (show VC P0 Tryd.f108 spec.l20Read.pl (.o (.lf .sl)) [list.v] w K noP from Eq.mp (by kernel_rfl) h)
/- spec.l20Make -/
def spec.l20Make.pl : Pl := (.s (.r (D 1)) (.s (.r [.d, (.c (.o (.lf .sl))), .d]) (.s (.r [.d, (.c (.o (.lf (.i .i64)))), .d, .d]) (.s (.b (.l [(3, .sl)] (.s (.s (.r (D 5)) (.c .z .z)) (.b (.s (.r (D 6)) (.s (.r [.d, (.c (.o (.lf (.i .i64))))]) (.b (.j [(29, .b)] (.s (.r (D 2)) (.c .z (.r (D 2)))) (.c (.s (.r [.d, (.c (.o (.lf (.i .i64)))), .d, .d, .d, (.c (.o (.lf (.i .i64)))), .d, (.c (.o (.lf (.i .i64)))), .d, .d, (.c (.o (.lf (.i .i64)))), .d, .d, .d]) (.s (.s (.r [.d, (.c (.o (.lf (.i .i64)))), .d]) (.c (.s (.r [.d, .d, (.c (.o (.lf (.i .i64)))), .d, .d]) (.r (D 2))) .z)) (.r [.d, (.l (.ag (R 6 (.i .i64)))), .d, (.t (.o (.lf .sl))), .d]))) (.s (.r (D 2)) (.c (.r [.d, .d, .d, (.c (.o (.lf (.i .i64)))), .d, .d, (.c (.o (.lf (.i .i64)))), .d, .d, (.c (.o (.lf (.i .i64)))), .d, .d, (.t (.o (.lf .sl))), .d]) (.s (.r (D 2)) (.c (.r [.d, .d, .d, (.c (.o (.lf (.i .i64)))), .d, .d, (.c (.o (.lf (.i .i64)))), .d, .d, (.c (.o (.lf (.i .i64)))), .d, .d, (.c (.o (.lf (.i .i64)))), .d, .d, (.t (.o (.lf .sl))), .d]) (.r [.d, .d, (.c (.o (.ag (R 6 (.i .i64))))), .d, (.t (.o (.lf .sl))), .d])))))))))))))) (.s (.r [.d, .d, .d, (.t (.o (.lf .sl))), .d]) .z)))))
def spec.l20Make.vc (r : Option Addr) (w : World) (K : Sl → World → Prop) : Prop :=
Nw #[(.string ⟨#[109, 111, 118, 32, 114, 48, 32, 49]⟩), (.string ⟨#[108, 111, 97, 100, 49, 32, 114, 54, 32, 114, 49, 32, 48]⟩), (.string ⟨#[108, 111, 97, 100, 52, 32, 114, 55, 32, 114, 49, 32, 52]⟩), (.string ⟨#[109, 111, 118, 32, 114, 56, 32, 53]⟩)] 9 w fun a_t7 w_ =>
CallT (.o (.lf .sl)) P0 108 [(.slice (some a_t7) 4 4)] w_ fun (t8 : Sl) w__1 =>
CallT (.o (.lf (.i .i64))) P0 43 [(.pointer r), (.int .i64 14)] w__1 fun (t10 : Int) w__2 =>
∃ (I : Sl → World → Prop) (M : Sl → World → Nat),
I t8 w__2 ∧
(∀ (out : Sl) w__3, I out w__3 → ∀ _ : Nat → Value,
((decide ((((out.n : Nat) : Int) : Int) < (IntKind.wrap .i64 ((IntKind.wrap .i64 (4 + t10)) + 4)))) = true → CallT (.o (.lf (.i .i64))) P0 43 [(.pointer r), (.int .i64 7)] w__3 fun (t23 : Int) w__4 =>
∃ J : Bool → World → Prop,
((((t23 : Int) == 0) = true → J ((t23 : Int) == 0) w__4) ∧
(((t23 : Int) == 0) = false → J ((t23 : Int) == 1) w__4)) ∧
(∀ (t29 : Bool) w__5, J t29 w__5 → ∀ _ : Nat → Value,
(t29 = true → CallT (.o (.lf (.i .i64))) P0 43 [(.pointer r), (.int .i64 4)] w__5 fun (t33 : Int) w__6 =>
Nw #[(.int .i64 0), (.int .i64 6), (.int .i64 7), (.int .i64 8)] 3 w__6 fun a_t36 w__7 =>
CallT (.o (.lf (.i .i64))) P0 58 [(.pointer r), (.slice (some a_t36) 4 4)] w__7 fun (t37 : Int) w__8 =>
CallT (.o (.lf (.i .i64))) P0 109 [(.pointer r)] w__8 fun (t39 : Int) w__9 =>
CallT (.o (.lf (.i .i64))) P0 43 [(.pointer r), (.int .i64 (IntKind.wrap .i64 ((IntKind.wrap .i64 ((IntKind.wrap .i64 (4 + t10)) + 4)) - ((out.n : Nat) : Int))))] w__9 fun (t42 : Int) w__10 =>
Nw (zc P0 44) 44 w__10 fun a_x w__11 =>
StA P0 a_x [(.int .i64 (IntKind.wrap .i64 (12 + t33))), (.int .i64 t37), (.int .i64 (-1)), (.int .i64 t42), (.int .i64 t39), (.int .i64 0)] w__11 fun w__12 =>
CallT (.o (.lf (.i .i64))) P0 43 [(.pointer r), (.int .i64 3)] w__12 fun (t45 : Int) w__13 =>
(((t45 : Int) == 0) = true → Nw #[(.int .i64 0), (.int .i64 6), (.int .i64 7), (.int .i64 8)] 3 w__13 fun a_t48 w__14 =>
CallT (.o (.lf (.i .i64))) P0 58 [(.pointer r), (.slice (some a_t48) 4 4)] w__14 fun (t49 : Int) w__15 =>
St (Addr.add a_x 2) (.int .i64 t49) w__15 fun w__16 =>
St (Addr.add a_x 4) (.int .i64 0) w__16 fun w__17 =>
LdA (R 6 (.i .i64)) a_x w__17 fun (t53 : Tup (R 6 (.i .i64))) w__18 =>
Nw #[(.int .i64 t53.1), (.int .i64 t53.2.1), (.int .i64 t53.2.2.1), (.int .i64 t53.2.2.2.1), (.int .i64 t53.2.2.2.2.1), (.int .i64 t53.2.2.2.2.2.1)] 44 w__18 fun a_t54 w__19 =>
RunT (.o (.lf .sl)) P0 (Builtin.append_ #[37, 37] 37 #[out.v, (.slice (some a_t54) 1 1)]) w__19 fun (t55 : Sl) w__20 =>
(I t55 w__20 ∧ M t55 w__20 < M out w__3)) ∧
(((t45 : Int) == 0) = false → LdA (R 6 (.i .i64)) a_x w__13 fun (t53_1 : Tup (R 6 (.i .i64))) w__21 =>
Nw #[(.int .i64 t53_1.1), (.int .i64 t53_1.2.1), (.int .i64 t53_1.2.2.1), (.int .i64 t53_1.2.2.2.1), (.int .i64 t53_1.2.2.2.2.1), (.int .i64 t53_1.2.2.2.2.2.1)] 44 w__21 fun a_t54_1 w__22 =>
RunT (.o (.lf .sl)) P0 (Builtin.append_ #[37, 37] 37 #[out.v, (.slice (some a_t54_1) 1 1)]) w__22 fun (t55_1 : Sl) w__23 =>
(I t55_1 w__23 ∧ M t55_1 w__23 < M out w__3))) ∧
(t29 = false → (((t23 : Int) == 2) = true → Nw #[(.int .i64 0), (.int .i64 6), (.int .i64 7), (.int .i64 8)] 3 w__5 fun a_t60 w__24 =>
CallT (.o (.lf (.i .i64))) P0 58 [(.pointer r), (.slice (some a_t60) 4 4)] w__24 fun (t61 : Int) w__25 =>
Nw #[(.int .i64 (-4)), (.int .i64 (-8)), (.int .i64 (-2))] 3 w__25 fun a_t63 w__26 =>
CallT (.o (.lf (.i .i64))) P0 58 [(.pointer r), (.slice (some a_t63) 3 3)] w__26 fun (t64 : Int) w__27 =>
Nw #[(.int .i64 1), (.int .i64 2)] 3 w__27 fun a_t66 w__28 =>
CallT (.o (.lf (.i .i64))) P0 58 [(.pointer r), (.slice (some a_t66) 2 2)] w__28 fun (t67 : Int) w__29 =>
Nw #[(.int .i64 18), (.int .i64 10), (.int .i64 t61), (.int .i64 t64), (.int .i64 0), (.int .i64 t67)] 44 w__29 fun a_t69 w__30 =>
RunT (.o (.lf .sl)) P0 (Builtin.append_ #[37, 37] 37 #[out.v, (.slice (some a_t69) 1 1)]) w__30 fun (t70 : Sl) w__31 =>
(I t70 w__31 ∧ M t70 w__31 < M out w__3)) ∧
(((t23 : Int) == 2) = false → (((t23 : Int) == 3) = true → Nw #[(.int .i64 0), (.int .i64 6), (.int .i64 8)] 3 w__5 fun a_t75 w__32 =>
CallT (.o (.lf (.i .i64))) P0 58 [(.pointer r), (.slice (some a_t75) 3 3)] w__32 fun (t76 : Int) w__33 =>
Nw #[(.int .i64 1), (.int .i64 10), (.int .i64 1)] 3 w__33 fun a_t78 w__34 =>
CallT (.o (.lf (.i .i64))) P0 58 [(.pointer r), (.slice (some a_t78) 3 3)] w__34 fun (t79 : Int) w__35 =>
Nw #[(.int .i64 0), (.int .i64 3), (.int .i64 8)] 3 w__35 fun a_t81 w__36 =>
CallT (.o (.lf (.i .i64))) P0 58 [(.pointer r), (.slice (some a_t81) 3 3)] w__36 fun (t82 : Int) w__37 =>
Nw #[(.int .i64 1), (.int .i64 2), (.int .i64 4)] 3 w__37 fun a_t84 w__38 =>
CallT (.o (.lf (.i .i64))) P0 58 [(.pointer r), (.slice (some a_t84) 3 3)] w__38 fun (t85 : Int) w__39 =>
Nw #[(.int .i64 17), (.int .i64 t76), (.int .i64 t79), (.int .i64 t82), (.int .i64 0), (.int .i64 t85)] 44 w__39 fun a_t87 w__40 =>
RunT (.o (.lf .sl)) P0 (Builtin.append_ #[37, 37] 37 #[out.v, (.slice (some a_t87) 1 1)]) w__40 fun (t88 : Sl) w__41 =>
(I t88 w__41 ∧ M t88 w__41 < M out w__3)) ∧
(((t23 : Int) == 3) = false → CallT (.o (.ag (R 6 (.i .i64)))) P0 110 [(.pointer r)] w__5 fun (t26 : Tup (R 6 (.i .i64))) w__42 =>
Nw #[(.int .i64 t26.1), (.int .i64 t26.2.1), (.int .i64 t26.2.2.1), (.int .i64 t26.2.2.2.1), (.int .i64 t26.2.2.2.2.1), (.int .i64 t26.2.2.2.2.2.1)] 44 w__42 fun a_t27 w__43 =>
RunT (.o (.lf .sl)) P0 (Builtin.append_ #[37, 37] 37 #[out.v, (.slice (some a_t27) 1 1)]) w__43 fun (t28 : Sl) w__44 =>
(I t28 w__44 ∧ M t28 w__44 < M out w__3)))))) ∧
((decide ((((out.n : Nat) : Int) : Int) < (IntKind.wrap .i64 ((IntKind.wrap .i64 (4 + t10)) + 4)))) = false → Nw #[(.int .i64 20), (.int .i64 0), (.int .i64 (-1)), (.int .i64 0), (.int .i64 0), (.int .i64 0)] 44 w__3 fun a_t91 w__45 =>
RunT (.o (.lf .sl)) P0 (Builtin.append_ #[37, 37] 37 #[out.v, (.slice (some a_t91) 1 1)]) w__45 fun (t92 : Sl) w__46 =>
K t92 w__46))
theorem spec.l20Make.ok {r : Option Addr} {w : World} {K : Sl → World → Prop} (h : spec.l20Make.vc r w K) : CallT (.o (.lf .sl)) P0 106 [(.pointer r)] w K :=
  call_of Tryd.func106 rfl rfl (pl := spec.l20Make.pl) (show VC P0 Tryd.f106 spec.l20Make.pl (.o (.lf .sl)) [(.pointer r)] w K noP from Eq.mp (by kernel_rfl) h)
/- spec.l20Prog -/
def spec.l20Prog.pl : Pl := (.s (.r (D 1)) (.s (.r [.d, (.c (.o (.lf .sl))), .d]) (.j [(3, .sl)] (.s (.r [.d, (.c (.o (.lf (.i .i64)))), .d]) (.c (.s (.r [(.c (.o (.lf .sl))), .d]) (.r [.d, .d, .d, .d, (.c (.o (.lf (.i .i64)))), .d, (.l (.lf .sl)), (.c (.o (.lf .sl))), .d])) .z)) (.s (.s (.r [.d, (.c (.o (.lf (.i .i64)))), .d]) (.c (.s (.r [.d, .d, .d, (.c (.o (.lf (.i .i64)))), .d]) (.s (.r [.d, (.c (.o (.lf (.i .i64))))]) (.b (.s (.r (D 2)) (.c (.r [.d, .d, .d, (.c (.o (.lf (.i .i64)))), .d, .d, .d]) (.s (.r (D 2)) (.c (.r [.d, .d, .d, .d, (.c (.o (.lf (.i .i64)))), .d, .d, .d]) (.s (.r (D 2)) (.c (.r [.d, .d, .d, (.c (.o (.lf (.i .i64)))), .d, .d, .d]) (.s (.r (D 2)) (.c (.r [.d, .d, .d, (.c (.o (.lf (.i .i64)))), .d, .d, .d]) (.s (.r (D 2)) (.c (.r [.d, .d, .d, (.c (.o (.lf (.i .i64)))), .d, .d, .d, .d]) (.s (.g [((.g (.o (.lf .sl)) .d), []), (.q, []), (.q, []), ((.g (.o (.lf .sl)) (.t (.o (.lf .sl)))), []), ((.g (.o (.lf .sl)) (.t (.o (.lf .sl)))), [0, 3]), (.q, []), ((.h (.o (.ag (R 6 (.i .i64)))) (.c (.o (.ag (R 6 (.i .i64)))))), []), ((.g (.o (.lf .sl)) .d), [6]), ((.g (.o (.lf .sl)) (.t (.o (.lf .sl)))), [4, 7]), (.q, []), (.q, []), ((.g (.o (.lf .sl)) (.t (.o (.lf .sl)))), []), ((.g (.o (.lf .sl)) (.t (.o (.lf .sl)))), [8, 11]), (.q, [12])] []) .z)))))))))))))) .z)) (.s (.r (D 2)) .z)))))
def spec.l20Prog.vc (r : Option Addr) (w : World) (K : Sl → World → Prop) : Prop :=
CallT (.o (.lf .sl)) P0 106 [(.pointer r)] w fun (t7 : Sl) w_ =>
∃ J : Sl → World → Prop,
(CallT (.o (.lf (.i .i64))) P0 43 [(.pointer r), (.int .i64 2)] w_ fun (t9 : Int) w__1 =>
(((t9 : Int) == 0) = true → CallT (.o (.lf .sl)) P0 107 [] w__1 fun (t11 : Sl) w__2 =>
CallT (.o (.lf (.i .i64))) P0 43 [(.pointer r), (.int .i64 ((t11.n : Nat) : Int))] w__2 fun (t16 : Int) w__3 =>
Ix t11.a t11.n t16 1 w__3 fun a_t17 w__4 =>
Ld .sl a_t17 w__4 fun (t18 : Sl) w__5 =>
CallT (.o (.lf .sl)) P0 108 [t18.v] w__5 fun (t19 : Sl) w__6 =>
J t19 w__6) ∧
(((t9 : Int) == 0) = false → J t7 w__1)) ∧
(∀ (out : Sl) w__7, J out w__7 → ∀ _ : Nat → Value,
CallT (.o (.lf (.i .i64))) P0 43 [(.pointer r), (.int .i64 4)] w__7 fun (t21 : Int) w__8 =>
(((t21 : Int) == 0) = true → CallT (.o (.lf (.i .i64))) P0 43 [(.pointer r), (.int .i64 ((out.n : Nat) : Int))] w__8 fun (t26 : Int) w__9 =>
CallT (.o (.lf (.i .i64))) P0 43 [(.pointer r), (.int .i64 6)] w__9 fun (t28 : Int) w__10 =>
(((t28 : Int) == 0) = true → CallT (.o (.lf (.i .i64))) P0 109 [(.pointer r)] w__10 fun (t47 : Int) w__11 =>
Ix out.a out.n t26 6 w__11 fun a_t48 w__12 =>
St (Addr.add a_t48 4) (.int .i64 t47) w__12 fun w__13 =>
K out w__13) ∧
(((t28 : Int) == 0) = false → (((t28 : Int) == 1) = true → Nw #[(.int .i64 (-1)), (.int .i64 0), (.int .i64 1), (.int .i64 2), (.int .i64 (-2)), (.int .i64 12), (.int .i64 200)] 3 w__10 fun a_t55 w__14 =>
CallT (.o (.lf (.i .i64))) P0 58 [(.pointer r), (.slice (some a_t55) 7 7)] w__14 fun (t56 : Int) w__15 =>
Ix out.a out.n t26 6 w__15 fun a_t57 w__16 =>
St (Addr.add a_t57 3) (.int .i64 t56) w__16 fun w__17 =>
K out w__17) ∧
(((t28 : Int) == 1) = false → (((t28 : Int) == 2) = true → CallT (.o (.lf (.i .i64))) P0 43 [(.pointer r), (.int .i64 12)] w__10 fun (t64 : Int) w__18 =>
Ix out.a out.n t26 6 w__18 fun a_t65 w__19 =>
St (Addr.add a_t65 1) (.int .i64 t64) w__19 fun w__20 =>
K out w__20) ∧
(((t28 : Int) == 2) = false → (((t28 : Int) == 3) = true → CallT (.o (.lf (.i .i64))) P0 43 [(.pointer r), (.int .i64 22)] w__10 fun (t72 : Int) w__21 =>
Ix out.a out.n t26 6 w__21 fun a_t73 w__22 =>
St (Addr.add a_t73 0) (.int .i64 t72) w__22 fun w__23 =>
K out w__23) ∧
(((t28 : Int) == 3) = false → (((t28 : Int) == 4) = true → CallT (.o (.lf (.i .i64))) P0 43 [(.pointer r), (.int .i64 12)] w__10 fun (t80 : Int) w__24 =>
Ix out.a out.n t26 6 w__24 fun a_t82 w__25 =>
St (Addr.add a_t82 2) (.int .i64 (IntKind.wrap .i64 (t80 - 1))) w__25 fun w__26 =>
K out w__26) ∧
(((t28 : Int) == 4) = false → ∃ Sp : World → World → Prop, SpOk Sp w__10 ∧
∃ N : World → Prop, NOk N w__10 ∧
∃ G_t29 : Sl → World → Prop, Kept Sp G_t29 ∧
∃ G_t32 : Sl → World → Prop, Kept Sp G_t32 ∧
∃ G_t33 : Sl → World → Prop, Kept Sp G_t33 ∧
∃ G_t35 : Tup (R 6 (.i .i64)) → World → Prop, Kept Sp G_t35 ∧
∃ G_t36 : Sl → World → Prop, Kept Sp G_t36 ∧
∃ G_t37 : Sl → World → Prop, Kept Sp G_t37 ∧
∃ G_t40 : Sl → World → Prop, Kept Sp G_t40 ∧
∃ G_t41 : Sl → World → Prop, Kept Sp G_t41 ∧
(∀ w__27, Sp w__10 w__27 → Nw #[] 44 w__27 fun a_t29 w__28 =>
GK (.o (.lf .sl)) (Sk Sp N) w__27 G_t29 (.slice (some a_t29) 0 0) w__28) ∧
∀ (t29 : Sl), (∀ w__29, Sp w__10 w__29 → RunT (.o (.lf .sl)) P0 (Instr.sliceAt 37 out.v none (some (.int .i64 t26)) none) w__29 fun (t32 : Sl) w__30 =>
GK (.o (.lf .sl)) (Sk Sp N) w__29 G_t32 t32.v w__30) ∧
∀ (t32_1 : Sl), (∀ w__31, Sp w__10 w__31 → G_t29 t29 w__31 → G_t32 t32_1 w__31 → RunT (.o (.lf .sl)) P0 (Builtin.append_ #[37, 37] 37 #[t29.v, t32_1.v]) w__31 fun (t33 : Sl) w__32 =>
GK (.o (.lf .sl)) (Sk Sp N) w__31 G_t33 t33.v w__32) ∧
∀ (t33_1 : Sl), (∀ w__33, Sp w__10 w__33 → N w__33 → CallT (.o (.ag (R 6 (.i .i64)))) P0 110 [(.pointer r)] w__33 fun (t35 : Tup (R 6 (.i .i64))) w__34 =>
GK (.o (.ag (R 6 (.i .i64)))) Sp w__33 G_t35 (.agg (Tup.cells (R 6 (.i .i64)) t35).toArray) w__34) ∧
∀ (t35_1 : Tup (R 6 (.i .i64))), (∀ w__35, Sp w__10 w__35 → G_t35 t35_1 w__35 → Nw #[(.int .i64 t35_1.1), (.int .i64 t35_1.2.1), (.int .i64 t35_1.2.2.1), (.int .i64 t35_1.2.2.2.1), (.int .i64 t35_1.2.2.2.2.1), (.int .i64 t35_1.2.2.2.2.2.1)] 44 w__35 fun a_t36 w__36 =>
GK (.o (.lf .sl)) (Sk Sp N) w__35 G_t36 (.slice (some a_t36) 1 1) w__36) ∧
∀ (t36 : Sl), (∀ w__37, Sp w__10 w__37 → G_t33 t33_1 w__37 → G_t36 t36 w__37 → RunT (.o (.lf .sl)) P0 (Builtin.append_ #[37, 37] 37 #[t33_1.v, t36.v]) w__37 fun (t37 : Sl) w__38 =>
GK (.o (.lf .sl)) (Sk Sp N) w__37 G_t37 t37.v w__38) ∧
∀ (t37_1 : Sl), (∀ w__39, Sp w__10 w__39 → RunT (.o (.lf .sl)) P0 (Instr.sliceAt 37 out.v (some (.int .i64 t26)) none none) w__39 fun (t40 : Sl) w__40 =>
GK (.o (.lf .sl)) (Sk Sp N) w__39 G_t40 t40.v w__40) ∧
∀ (t40_1 : Sl), (∀ w__41, Sp w__10 w__41 → G_t37 t37_1 w__41 → G_t40 t40_1 w__41 → RunT (.o (.lf .sl)) P0 (Builtin.append_ #[37, 37] 37 #[t37_1.v, t40_1.v]) w__41 fun (t41 : Sl) w__42 =>
GK (.o (.lf .sl)) (Sk Sp N) w__41 G_t41 t41.v w__42) ∧
∀ (t41_1 : Sl), ∀ w__43, Sp w__10 w__43 → G_t29 t29 w__43 → G_t32 t32_1 w__43 → G_t33 t33_1 w__43 → G_t35 t35_1 w__43 → G_t36 t36 w__43 → G_t37 t37_1 w__43 → G_t40 t40_1 w__43 → G_t41 t41_1 w__43 → 
K t41_1 w__43)))))) ∧
(((t21 : Int) == 0) = false → K out w__8))
theorem spec.l20Prog.ok {r : Option Addr} {w : World} {K : Sl → World → Prop} (h : spec.l20Prog.vc r w K) : CallT (.o (.lf .sl)) P0 92 [(.pointer r)] w K :=
  call_of Tryd.func92 rfl rfl (pl := spec.l20Prog.pl) (show VC P0 Tryd.f92 spec.l20Prog.pl (.o (.lf .sl)) [(.pointer r)] w K noP from Eq.mp (by kernel_rfl) h)
/- spec.l1Num -/
def spec.l1Num.pl : Pl := (.s (.r (D 1)) (.s (.r (D 1)) (.s (.s (.r (D 1)) (.b (.l [(3, (.i .i64)), (4, (.i .i64))] (.s (.s (.r (D 4)) (.c .z .z)) (.s (.b (.j [] (.s (.r [.d, .d, .d, .d, (.sp .d), .d, .d, .d, .d, .d, (.sp .d), .d, .d, .d]) (.c (.s (.r (D 1)) .z) .z)) (.r (D 9)))) (.r (D 3))))))) (.s (.s (.r [.d, .d, .d, (.sp .d), .d, .d, .d, (.sp .d), .d, .d, .d, .d, .d]) (.c (.s (.r (D 1)) .z) .z)) (.s (.r (D 2)) .z)))))
def spec.l1Num.vc (s : ByteArray) (w : World) (K : Int → World → Prop) : Prop :=
∃ (I : Int → Int → World → Prop) (M : Int → Int → World → Nat),
I 0 0 w ∧
(∀ (n : Int) (i : Int) w_, I n i w_ → ∀ _ : Nat → Value,
((decide ((i : Int) < (((ByteArray.size s) : Nat) : Int))) = true → ∃ J : World → Prop,
(Sx s i w_ fun t13 w__1 =>
((decide ((t13 : Int) < 48)) = true → K (-1) w__1) ∧
((decide ((t13 : Int) < 48)) = false → Sx s i w__1 fun t18 w__2 =>
((decide ((t18 : Int) > 57)) = true → K (-1) w__2) ∧
((decide ((t18 : Int) > 57)) = false → ((decide ((i : Int) ≥ 10)) = true → K (-1) w__2) ∧
((decide ((i : Int) ≥ 10)) = false → J w__2)))) ∧
(∀  w__3, J w__3 → ∀ _ : Nat → Value,
Sx s i w__3 fun t29 w__4 =>
(I (IntKind.wrap .i64 ((IntKind.wrap .i64 (n * 10)) + (IntKind.wrap .i64 (IntKind.wrap .u8 (t29 - 48))))) (IntKind.wrap .i64 (i + 1)) w__4 ∧ M (IntKind.wrap .i64 ((IntKind.wrap .i64 (n * 10)) + (IntKind.wrap .i64 (IntKind.wrap .u8 (t29 - 48))))) (IntKind.wrap .i64 (i + 1)) w__4 < M n i w_))) ∧
((decide ((i : Int) < (((ByteArray.size s) : Nat) : Int))) = false → ((((((ByteArray.size s) : Nat) : Int) : Int) == 0) = true → K (-1) w_) ∧
((((((ByteArray.size s) : Nat) : Int) : Int) == 0) = false → ((decide (((((ByteArray.size s) : Nat) : Int) : Int) > 1)) = true → Sx s 0 w_ fun t42 w__5 =>
(((t42 : Int) == 48) = true → K (-1) w__5) ∧
(((t42 : Int) == 48) = false → K n w__5)) ∧
((decide (((((ByteArray.size s) : Nat) : Int) : Int) > 1)) = false → K n w_))))
theorem spec.l1Num.ok {s : ByteArray} {w : World} {K : Int → World → Prop} (h : spec.l1Num.vc s w K) : CallT (.o (.lf (.i .i64))) P0 74 [(.string s)] w K :=
  call_of Tryd.func74 rfl rfl (pl := spec.l1Num.pl) (show VC P0 Tryd.f74 spec.l1Num.pl (.o (.lf (.i .i64))) [(.string s)] w K noP from Eq.mp (by kernel_rfl) h)
/- spec.l1Cut -/
def spec.l1Cut.pl : Pl := (.s (.r (D 1)) (.s (.r (D 2)) (.s (.r (D 1)) (.s (.s (.r (D 1)) (.b (.l [(7, .sl), (8, (.i .i64)), (9, (.i .i64))] (.j [] (.s (.r [.d, .d, .d, .d, (.sp .d), .d, .d, .d, .d, .d]) (.c .z .z)) (.s (.b (.s (.r (D 5)) (.c (.s (.r [.d, .d, .d, .d, (.t (.o (.lf .s))), .d, (.t (.o (.lf .sl))), .d]) (.r (D 3))) .z))) (.r (D 3))))))) (.s (.r [.d, .d, .d, (.t (.o (.lf .s))), .d, (.t (.o (.lf .sl))), .d]) .z)))))
def spec.l1Cut.vc (s : ByteArray) (b : Int) (most : Int) (w : World) (K : Sl → World → Prop) : Prop :=
Nw #[] 9 w fun a_t10 w_ =>
∃ (I : Sl → Int → Int → World → Prop) (M : Sl → Int → Int → World → Nat),
I ⟨(some a_t10), 0, 0⟩ 0 0 w_ ∧
(∀ (out : Sl) (from_ : Int) (i : Int) w__1, I out from_ i w__1 → ∀ _ : Nat → Value,
∃ J : World → Prop,
(((decide ((i : Int) < (((ByteArray.size s) : Nat) : Int))) = true → ((decide ((((out.n : Nat) : Int) : Int) < most)) = true → J w__1) ∧
((decide ((((out.n : Nat) : Int) : Int) < most)) = false → RunT (.o (.lf .s)) P0 (Instr.sliceAt 9 (.string s) (some (.int .i64 from_)) none none) w__1 fun (t40 : ByteArray) w__2 =>
Nw #[(.string t40)] 9 w__2 fun a_t41 w__3 =>
RunT (.o (.lf .sl)) P0 (Builtin.append_ #[68, 68] 68 #[out.v, (.slice (some a_t41) 1 1)]) w__3 fun (t42 : Sl) w__4 =>
K t42 w__4)) ∧
((decide ((i : Int) < (((ByteArray.size s) : Nat) : Int))) = false → RunT (.o (.lf .s)) P0 (Instr.sliceAt 9 (.string s) (some (.int .i64 from_)) none none) w__1 fun (t40_1 : ByteArray) w__5 =>
Nw #[(.string t40_1)] 9 w__5 fun a_t41_1 w__6 =>
RunT (.o (.lf .sl)) P0 (Builtin.append_ #[68, 68] 68 #[out.v, (.slice (some a_t41_1) 1 1)]) w__6 fun (t42_1 : Sl) w__7 =>
K t42_1 w__7)) ∧
(∀  w__8, J w__8 → ∀ _ : Nat → Value,
Sx s i w__8 fun t25 w__9 =>
(((t25 : Int) == b) = true → RunT (.o (.lf .s)) P0 (Instr.sliceAt 9 (.string s) (some (.int .i64 from_)) (some (.int .i64 i)) none) w__9 fun (t32 : ByteArray) w__10 =>
Nw #[(.string t32)] 9 w__10 fun a_t33 w__11 =>
RunT (.o (.lf .sl)) P0 (Builtin.append_ #[68, 68] 68 #[out.v, (.slice (some a_t33) 1 1)]) w__11 fun (t34 : Sl) w__12 =>
(I t34 (IntKind.wrap .i64 (i + 1)) (IntKind.wrap .i64 (i + 1)) w__12 ∧ M t34 (IntKind.wrap .i64 (i + 1)) (IntKind.wrap .i64 (i + 1)) w__12 < M out from_ i w__1)) ∧
(((t25 : Int) == b) = false → (I out from_ (IntKind.wrap .i64 (i + 1)) w__9 ∧ M out from_ (IntKind.wrap .i64 (i + 1)) w__9 < M out from_ i w__1))))
theorem spec.l1Cut.ok {s : ByteArray} {b : Int} {most : Int} {w : World} {K : Sl → World → Prop} (h : spec.l1Cut.vc s b most w K) : CallT (.o (.lf .sl)) P0 40 [(.string s), (.int .u8 b), (.int .i64 most)] w K :=
  call_of Tryd.func40 rfl rfl (pl := spec.l1Cut.pl) (show VC P0 Tryd.f40 spec.l1Cut.pl (.o (.lf .sl)) [(.string s), (.int .u8 b), (.int .i64 most)] w K noP from Eq.mp (by kernel_rfl) h)
/- spec.l1Find -/
def spec.l1Find.pl : Pl := (.s (.r (D 1)) (.s (.s (.r (D 1)) (.b (.l [(5, (.i .i64))] (.s (.s (.r (D 4)) (.c .z .z)) (.s (.b (.s (.r [.d, .d, .d, (.l (.lf .s)), .d, .d]) (.c (.s (.r (D 2)) .z) .z))) (.r (D 3))))))) (.s (.r (D 1)) .z)))
def spec.l1Find.vc (list : Sl) (s : ByteArray) (w : World) (K : Int → World → Prop) : Prop :=
∃ (I : Int → World → Prop) (M : Int → World → Nat),
I 0 w ∧
(∀ (i : Int) w_, I i w_ → ∀ _ : Nat → Value,
((decide ((i : Int) < ((list.n : Nat) : Int))) = true → Ix list.a list.n i 1 w_ fun a_t14 w__1 =>
Ld .s a_t14 w__1 fun (t15 : ByteArray) w__2 =>
((ByteArray.toList t15 == ByteArray.toList s) = true → K i w__2) ∧
((ByteArray.toList t15 == ByteArray.toList s) = false → (I (IntKind.wrap .i64 (i + 1)) w__2 ∧ M (IntKind.wrap .i64 (i + 1)) w__2 < M i w_))) ∧
((decide ((i : Int) < ((list.n : Nat) : Int))) = false → K (-1) w_))
theorem spec.l1Find.ok {list : Sl} {s : ByteArray} {w : World} {K : Int → World → Prop} (h : spec.l1Find.vc list s w K) : CallT (.o (.lf (.i .i64))) P0 75 [list.v, (.string s)] w K :=
  call_of Tryd.func75 rfl rfl (pl := spec.l1Find.pl) (show VC P0 Tryd.f75 spec.l1Find.pl (.o (.lf (.i .i64))) [list.v, (.string s)] w K noP from Eq.mp (by kernel_rfl) h)
/- spec.l1Words -/
def spec.l1Words.pl : Pl := (.s (.r (D 1)) (.s (.r (D 2)) .z))
def spec.l1Words.vc  (w : World) (K : Sl → World → Prop) : Prop :=
Nw #[(.string ⟨#[]⟩), (.string ⟨#[109, 111, 118]⟩), (.string ⟨#[97, 100, 100]⟩), (.string ⟨#[115, 117, 98]⟩), (.string ⟨#[109, 117, 108]⟩), (.string ⟨#[97, 110, 100]⟩), (.string ⟨#[111, 114]⟩), (.string ⟨#[120, 111, 114]⟩), (.string ⟨#[115, 104, 108]⟩), (.string ⟨#[115, 104, 114]⟩), (.string ⟨#[100, 105, 118]⟩), (.string ⟨#[109, 111, 100]⟩), (.string ⟨#[115, 97, 109, 101]⟩), (.string ⟨#[111, 116, 104, 101, 114]⟩), (.string ⟨#[108, 101, 115, 115]⟩), (.string ⟨#[109, 111, 114, 101]⟩), (.string ⟨#[103, 111]⟩), (.string ⟨#[108, 111, 97, 100]⟩), (.string ⟨#[115, 116, 111, 114, 101]⟩), (.string ⟨#[99, 97, 108, 108]⟩), (.string ⟨#[101, 120, 105, 116]⟩)] 9 w fun a_t1 w_ =>
K ⟨(some a_t1), 21, 21⟩ w_
theorem spec.l1Words.ok  {w : World} {K : Sl → World → Prop} (h : spec.l1Words.vc  w K) : CallT (.o (.lf .sl)) P0 64 [] w K :=
  call_of Tryd.func64 rfl rfl (pl := spec.l1Words.pl) (show VC P0 Tryd.f64 spec.l1Words.pl (.o (.lf .sl)) [] w K noP from Eq.mp (by kernel_rfl) h)
/- spec.l1Calls -/
def spec.l1Calls.pl : Pl := (.s (.r (D 1)) (.s (.r (D 2)) .z))
def spec.l1Calls.vc  (w : World) (K : Sl → World → Prop) : Prop :=
Nw #[(.string ⟨#[]⟩), (.string ⟨#[108, 111, 111, 107]⟩), (.string ⟨#[112, 117, 116]⟩), (.string ⟨#[102, 105, 110, 100]⟩), (.string ⟨#[100, 114, 111, 112]⟩), (.string ⟨#[114, 97, 110, 100]⟩), (.string ⟨#[115, 101, 110, 100]⟩)] 9 w fun a_t1 w_ =>
K ⟨(some a_t1), 7, 7⟩ w_
theorem spec.l1Calls.ok  {w : World} {K : Sl → World → Prop} (h : spec.l1Calls.vc  w K) : CallT (.o (.lf .sl)) P0 122 [] w K :=
  call_of Tryd.func122 rfl rfl (pl := spec.l1Calls.pl) (show VC P0 Tryd.f122 spec.l1Calls.pl (.o (.lf .sl)) [] w K noP from Eq.mp (by kernel_rfl) h)
/- spec.l1Dec -/
def spec.l1Dec.pl : Pl := (.s (.r (D 1)) (.s (.s (.r (D 2)) (.c (.s (.r (D 1)) .z) .z)) (.s (.s (.r (D 2)) (.c (.s (.r [.d, .d, (.c (.o (.lf .s))), .d, .d]) .z) .z)) (.s (.s (.r (D 2)) (.c (.s (.r [.d, .d, .d, .d, (.t (.o (.lf .s))), .d]) .z) .z)) (.s (.g [(.q, []), (.q, []), ((.g (.o (.lf .s)) (.c (.o (.lf .s)))), []), (.q, []), (.q, []), (.q, []), (.q, []), ((.g (.o (.lf .sl)) .d), []), ((.g (.o (.lf .s)) (.t (.o (.lf .s)))), [7]), ((.g (.o (.lf .s)) .d), [2, 8]), (.q, [9])] []) .z)))))
def spec.l1Dec.vc (n : Int) (w : World) (K : ByteArray → World → Prop) : Prop :=
((decide ((n : Int) < (-9223372036854775807))) = true → K ⟨#[45, 57, 50, 50, 51, 51, 55, 50, 48, 51, 54, 56, 53, 52, 55, 55, 53, 56, 48, 56]⟩ w) ∧
((decide ((n : Int) < (-9223372036854775807))) = false → ((decide ((n : Int) < 0)) = true → CallT (.o (.lf .s)) P0 63 [(.int .i64 (IntKind.wrap .i64 (0 - n)))] w fun (t9 : ByteArray) w_ =>
(((ByteArray.size (⟨#[45]⟩ : ByteArray) + ByteArray.size t9 : Nat) : Int) ≤ IntKind.i64.max) ∧ K ((⟨#[45]⟩ : ByteArray) ++ t9) w_) ∧
((decide ((n : Int) < 0)) = false → ((decide ((n : Int) < 10)) = true → Nw #[(.int .u8 (IntKind.wrap .u8 (IntKind.wrap .i64 (48 + n))))] 5 w fun a_t16 w__1 =>
RunT (.o (.lf .s)) P0 (convert 22 9 (.slice (some a_t16) 1 1)) w__1 fun (t17 : ByteArray) w__2 =>
K t17 w__2) ∧
((decide ((n : Int) < 10)) = false → ∃ Sp : World → World → Prop, SpOk Sp w ∧
∃ G_t20 : ByteArray → World → Prop, Kept Sp G_t20 ∧
∃ G_t25 : Sl → World → Prop, Kept Sp G_t25 ∧
∃ G_t26 : ByteArray → World → Prop, Kept Sp G_t26 ∧
∃ G_t27 : ByteArray → World → Prop, Kept Sp G_t27 ∧
(10 : Int) ≠ 0 ∧ (∀ w__3, Sp w w__3 → CallT (.o (.lf .s)) P0 63 [(.int .i64 (IntKind.wrap .i64 (Int.tdiv n 10)))] w__3 fun (t20 : ByteArray) w__4 =>
GK (.o (.lf .s)) Sp w__3 G_t20 (.string t20) w__4) ∧
∀ (t20_1 : ByteArray), (10 : Int) ≠ 0 ∧ (∀ w__5, Sp w w__5 → Nw #[(.int .u8 (IntKind.wrap .u8 (IntKind.wrap .i64 (48 + (Int.tmod n 10)))))] 5 w__5 fun a_t25 w__6 =>
GK (.o (.lf .sl)) Sp w__5 G_t25 (.slice (some a_t25) 1 1) w__6) ∧
∀ (t25 : Sl), (∀ w__7, Sp w w__7 → G_t25 t25 w__7 → RunT (.o (.lf .s)) P0 (convert 22 9 t25.v) w__7 fun (t26 : ByteArray) w__8 =>
GK (.o (.lf .s)) Sp w__7 G_t26 (.string t26) w__8) ∧
∀ (t26_1 : ByteArray), (∀ w__9, Sp w w__9 → G_t20 t20_1 w__9 → G_t26 t26_1 w__9 → (((ByteArray.size t20_1 + ByteArray.size t26_1 : Nat) : Int) ≤ IntKind.i64.max) ∧ GK (.o (.lf .s)) Sp w__9 G_t27 (.string (t20_1 ++ t26_1)) w__9) ∧
∀ (t27 : ByteArray), ∀ w__10, Sp w w__10 → G_t20 t20_1 w__10 → G_t25 t25 w__10 → G_t26 t26_1 w__10 → G_t27 t27 w__10 → 
K t27 w__10)))
theorem spec.l1Dec.ok {n : Int} {w : World} {K : ByteArray → World → Prop} (h : spec.l1Dec.vc n w K) : CallT (.o (.lf .s)) P0 63 [(.int .i64 n)] w K :=
  call_of Tryd.func63 rfl rfl (pl := spec.l1Dec.pl) (show VC P0 Tryd.f63 spec.l1Dec.pl (.o (.lf .s)) [(.int .i64 n)] w K noP from Eq.mp (by kernel_rfl) h)
/- spec.l1Reg -/
def spec.l1Reg.pl : Pl := (.s (.r (D 1)) (.s (.s (.r (D 2)) (.c (.s (.r [.d, (.c (.o (.lf .s))), .d, .d]) .z) .z)) (.s (.r [.d, (.c (.o (.lf .s))), .d]) .z)))
def spec.l1Reg.vc (src : Int) (imm : Int) (w : World) (K : ByteArray → World → Prop) : Prop :=
((decide ((src : Int) ≥ 0)) = true → CallT (.o (.lf .s)) P0 63 [(.int .i64 src)] w fun (t8 : ByteArray) w_ =>
(((ByteArray.size (⟨#[114]⟩ : ByteArray) + ByteArray.size t8 : Nat) : Int) ≤ IntKind.i64.max) ∧ K ((⟨#[114]⟩ : ByteArray) ++ t8) w_) ∧
((decide ((src : Int) ≥ 0)) = false → CallT (.o (.lf .s)) P0 63 [(.int .i64 imm)] w fun (t11 : ByteArray) w__1 =>
K t11 w__1)
theorem spec.l1Reg.ok {src : Int} {imm : Int} {w : World} {K : ByteArray → World → Prop} (h : spec.l1Reg.vc src imm w K) : CallT (.o (.lf .s)) P0 121 [(.int .i64 src), (.int .i64 imm)] w K :=
  call_of Tryd.func121 rfl rfl (pl := spec.l1Reg.pl) (show VC P0 Tryd.f121 spec.l1Reg.pl (.o (.lf .s)) [(.int .i64 src), (.int .i64 imm)] w K noP from Eq.mp (by kernel_rfl) h)
/- spec.l1Line -/
def spec.l1Line.pl : Pl := (.s (.r (D 2)) (.s (.g [((.g (.o (.lf .sl)) (.c (.o (.lf .sl)))), []), (.q, []), ((.g (.o (.lf (.i .i64))) (.l (.lf (.i .i64)))), []), ((.g (.o (.lf .ad)) .d), [0, 2]), ((.g (.o (.lf .s)) (.l (.lf .s))), [3]), (.q, [4])] []) (.s (.r [.d, (.l (.lf (.i .i64))), (.c (.o (.lf .s))), .d, .d]) (.s (.b (.s (.r [.d, (.l (.lf (.i .i64))), (.c (.o (.lf .b))), .d]) (.c (.s (.r [.d, .d, .d, .d, .d, (.l (.lf (.i .i64))), .d, (.l (.lf (.i .i64))), (.c (.o (.lf .s))), .d, .d]) .z) (.s (.r [.d, (.l (.lf (.i .i64))), (.c (.o (.lf .b))), .d]) (.c (.s (.r [.d, .d, .d, .d, .d, (.l (.lf (.i .i64))), .d, (.l (.lf (.i .i64))), (.c (.o (.lf .s))), .d, .d, .d, (.l (.lf (.i .i64))), (.c (.o (.lf .s))), .d, .d]) .z) (.s (.r [.d, (.l (.lf (.i .i64))), .d, .d]) (.c (.s (.r [.d, .d, .d, (.l (.lf (.i .i64))), (.c (.o (.lf .s))), .d, .d]) .z) (.s (.r [.d, (.l (.lf (.i .i64))), .d, .d]) (.c (.s (.r [.d, .d, (.l (.lf (.i .i64))), (.c (.o (.lf .s))), .d, .d, .d, .d, .d, (.l (.lf (.i .i64))), (.c (.o (.lf .s))), .d, .d, .d, (.l (.lf (.i .i64))), (.c (.o (.lf .s))), .d, .d]) .z) (.s (.r [.d, (.l (.lf (.i .i64))), .d, .d]) (.c (.s (.r [.d, .d, (.l (.lf (.i .i64))), (.c (.o (.lf .s))), .d, .d, .d, .d, .d, (.l (.lf (.i .i64))), (.c (.o (.lf .s))), .d, .d, .d, (.l (.lf (.i .i64))), .d, (.l (.lf (.i .i64))), (.c (.o (.lf .s))), .d, .d]) .z) (.s (.r [.d, (.l (.lf (.i .i64))), .d, .d]) (.c (.s (.g [(.q, []), ((.g (.o (.lf .s)) .d), []), ((.g (.o (.lf .sl)) (.c (.o (.lf .sl)))), []), (.q, []), ((.g (.o (.lf (.i .i64))) (.l (.lf (.i .i64)))), []), ((.g (.o (.lf .ad)) .d), [2, 4]), ((.g (.o (.lf .s)) (.l (.lf .s))), [5]), ((.g (.o (.lf .s)) .d), [1, 6]), (.q, [7])] []) .z) .z))))))))))))) (.s (.r (D 2)) .z)))))
def spec.l1Line.vc (x : Tup (R 6 (.i .i64))) (w : World) (K : ByteArray → World → Prop) : Prop :=
Nw (Tup.cells (R 6 (.i .i64)) x).toArray 44 w fun a_x w_ =>
∃ Sp : World → World → Prop, SpOk Sp w_ ∧
∃ G_t5 : Sl → World → Prop, Kept Sp G_t5 ∧
∃ G_t7 : Int → World → Prop, Kept Sp G_t7 ∧
∃ G_t8 : Addr → World → Prop, Kept Sp G_t8 ∧
∃ G_t9 : ByteArray → World → Prop, Kept Sp G_t9 ∧
(∀ w__1, Sp w_ w__1 → CallT (.o (.lf .sl)) P0 64 [] w__1 fun (t5 : Sl) w__2 =>
GK (.o (.lf .sl)) Sp w__1 G_t5 t5.v w__2) ∧
∀ (t5_1 : Sl), (∀ w__3, Sp w_ w__3 → Ld (.i .i64) (Addr.add a_x 0) w__3 fun (t7 : Int) w__4 =>
GK (.o (.lf (.i .i64))) Sp w__3 G_t7 (.int .i64 t7) w__4) ∧
∀ (t7_1 : Int), (∀ w__5, Sp w_ w__5 → G_t5 t5_1 w__5 → G_t7 t7_1 w__5 → Ix t5_1.a t5_1.n t7_1 1 w__5 fun a_t8 w__6 =>
GK (.o (.lf .ad)) Sp w__5 G_t8 (.pointer (some a_t8)) w__6) ∧
∀ (t8 : Addr), (∀ w__7, Sp w_ w__7 → G_t8 t8 w__7 → Ld .s t8 w__7 fun (t9 : ByteArray) w__8 =>
GK (.o (.lf .s)) Sp w__7 G_t9 (.string t9) w__8) ∧
∀ (t9_1 : ByteArray), ∀ w__9, Sp w_ w__9 → G_t5 t5_1 w__9 → G_t7 t7_1 w__9 → G_t8 t8 w__9 → G_t9 t9_1 w__9 → 
Ld (.i .i64) (Addr.add a_x 1) w__9 fun (t11 : Int) w__10 =>
CallT (.o (.lf .s)) P0 63 [(.int .i64 t11)] w__10 fun (t12 : ByteArray) w__11 =>
(((ByteArray.size (⟨#[32, 114]⟩ : ByteArray) + ByteArray.size t12 : Nat) : Int) ≤ IntKind.i64.max) ∧ Ld (.i .i64) (Addr.add a_x 0) w__11 fun (t16 : Int) w__12 =>
CallT (.o (.lf .b)) P0 120 [(.int .i64 t16)] w__12 fun (t17 : Bool) w__13 =>
(t17 = true → (((ByteArray.size t9_1 + ByteArray.size ((⟨#[32, 114]⟩ : ByteArray) ++ t12) : Nat) : Int) ≤ IntKind.i64.max) ∧ (((ByteArray.size (t9_1 ++ ((⟨#[32, 114]⟩ : ByteArray) ++ t12)) + ByteArray.size (⟨#[32]⟩ : ByteArray) : Nat) : Int) ≤ IntKind.i64.max) ∧ Ld (.i .i64) (Addr.add a_x 2) w__13 fun (t23 : Int) w__14 =>
Ld (.i .i64) (Addr.add a_x 4) w__14 fun (t25 : Int) w__15 =>
CallT (.o (.lf .s)) P0 121 [(.int .i64 t23), (.int .i64 t25)] w__15 fun (t26 : ByteArray) w__16 =>
(((ByteArray.size ((t9_1 ++ ((⟨#[32, 114]⟩ : ByteArray) ++ t12)) ++ (⟨#[32]⟩ : ByteArray)) + ByteArray.size t26 : Nat) : Int) ≤ IntKind.i64.max) ∧ K (((t9_1 ++ ((⟨#[32, 114]⟩ : ByteArray) ++ t12)) ++ (⟨#[32]⟩ : ByteArray)) ++ t26) w__16) ∧
(t17 = false → Ld (.i .i64) (Addr.add a_x 0) w__13 fun (t30 : Int) w__17 =>
CallT (.o (.lf .b)) P0 78 [(.int .i64 t30)] w__17 fun (t31 : Bool) w__18 =>
(t31 = true → (((ByteArray.size t9_1 + ByteArray.size ((⟨#[32, 114]⟩ : ByteArray) ++ t12) : Nat) : Int) ≤ IntKind.i64.max) ∧ (((ByteArray.size (t9_1 ++ ((⟨#[32, 114]⟩ : ByteArray) ++ t12)) + ByteArray.size (⟨#[32]⟩ : ByteArray) : Nat) : Int) ≤ IntKind.i64.max) ∧ QLd (.i .i64) (Addr.add a_x 2) (fun w' => Below (World.heap w__18).size w__18 w') fun (t37 : Int) =>
QLd (.i .i64) (Addr.add a_x 4) (fun w' => Below (World.heap w__18).size w__18 w') fun (t39 : Int) =>
QCl (.o (.lf .s)) P0 121 [(.int .i64 t37), (.int .i64 t39)] (fun w' => Below (World.heap w__18).size w__18 w') fun (t40 : ByteArray) =>
(((ByteArray.size ((t9_1 ++ ((⟨#[32, 114]⟩ : ByteArray) ++ t12)) ++ (⟨#[32]⟩ : ByteArray)) + ByteArray.size t40 : Nat) : Int) ≤ IntKind.i64.max) ∧ (((ByteArray.size (((t9_1 ++ ((⟨#[32, 114]⟩ : ByteArray) ++ t12)) ++ (⟨#[32]⟩ : ByteArray)) ++ t40) + ByteArray.size (⟨#[32]⟩ : ByteArray) : Nat) : Int) ≤ IntKind.i64.max) ∧ QLd (.i .i64) (Addr.add a_x 3) (fun w' => Below (World.heap w__18).size w__18 w') fun (t44 : Int) =>
QCl (.o (.lf .s)) P0 63 [(.int .i64 t44)] (fun w' => Below (World.heap w__18).size w__18 w') fun (t45 : ByteArray) =>
(((ByteArray.size ((((t9_1 ++ ((⟨#[32, 114]⟩ : ByteArray) ++ t12)) ++ (⟨#[32]⟩ : ByteArray)) ++ t40) ++ (⟨#[32]⟩ : ByteArray)) + ByteArray.size t45 : Nat) : Int) ≤ IntKind.i64.max) ∧ ∀ w__19, Below (World.heap w__18).size w__18 w__19 →
K (((((t9_1 ++ ((⟨#[32, 114]⟩ : ByteArray) ++ t12)) ++ (⟨#[32]⟩ : ByteArray)) ++ t40) ++ (⟨#[32]⟩ : ByteArray)) ++ t45) w__19) ∧
(t31 = false → Ld (.i .i64) (Addr.add a_x 0) w__18 fun (t49 : Int) w__20 =>
(((t49 : Int) == 16) = true → (((ByteArray.size t9_1 + ByteArray.size (⟨#[32]⟩ : ByteArray) : Nat) : Int) ≤ IntKind.i64.max) ∧ Ld (.i .i64) (Addr.add a_x 3) w__20 fun (t54 : Int) w__21 =>
CallT (.o (.lf .s)) P0 63 [(.int .i64 t54)] w__21 fun (t55 : ByteArray) w__22 =>
(((ByteArray.size (t9_1 ++ (⟨#[32]⟩ : ByteArray)) + ByteArray.size t55 : Nat) : Int) ≤ IntKind.i64.max) ∧ K ((t9_1 ++ (⟨#[32]⟩ : ByteArray)) ++ t55) w__22) ∧
(((t49 : Int) == 16) = false → Ld (.i .i64) (Addr.add a_x 0) w__20 fun (t59 : Int) w__23 =>
(((t59 : Int) == 17) = true → QLd (.i .i64) (Addr.add a_x 5) (fun w' => Below (World.heap w__23).size w__23 w') fun (t63 : Int) =>
QCl (.o (.lf .s)) P0 63 [(.int .i64 t63)] (fun w' => Below (World.heap w__23).size w__23 w') fun (t64 : ByteArray) =>
(((ByteArray.size t9_1 + ByteArray.size t64 : Nat) : Int) ≤ IntKind.i64.max) ∧ (((ByteArray.size (t9_1 ++ t64) + ByteArray.size ((⟨#[32, 114]⟩ : ByteArray) ++ t12) : Nat) : Int) ≤ IntKind.i64.max) ∧ (((ByteArray.size ((t9_1 ++ t64) ++ ((⟨#[32, 114]⟩ : ByteArray) ++ t12)) + ByteArray.size (⟨#[32, 114]⟩ : ByteArray) : Nat) : Int) ≤ IntKind.i64.max) ∧ QLd (.i .i64) (Addr.add a_x 2) (fun w' => Below (World.heap w__23).size w__23 w') fun (t70 : Int) =>
QCl (.o (.lf .s)) P0 63 [(.int .i64 t70)] (fun w' => Below (World.heap w__23).size w__23 w') fun (t71 : ByteArray) =>
(((ByteArray.size (((t9_1 ++ t64) ++ ((⟨#[32, 114]⟩ : ByteArray) ++ t12)) ++ (⟨#[32, 114]⟩ : ByteArray)) + ByteArray.size t71 : Nat) : Int) ≤ IntKind.i64.max) ∧ (((ByteArray.size ((((t9_1 ++ t64) ++ ((⟨#[32, 114]⟩ : ByteArray) ++ t12)) ++ (⟨#[32, 114]⟩ : ByteArray)) ++ t71) + ByteArray.size (⟨#[32]⟩ : ByteArray) : Nat) : Int) ≤ IntKind.i64.max) ∧ QLd (.i .i64) (Addr.add a_x 3) (fun w' => Below (World.heap w__23).size w__23 w') fun (t75 : Int) =>
QCl (.o (.lf .s)) P0 63 [(.int .i64 t75)] (fun w' => Below (World.heap w__23).size w__23 w') fun (t76 : ByteArray) =>
(((ByteArray.size (((((t9_1 ++ t64) ++ ((⟨#[32, 114]⟩ : ByteArray) ++ t12)) ++ (⟨#[32, 114]⟩ : ByteArray)) ++ t71) ++ (⟨#[32]⟩ : ByteArray)) + ByteArray.size t76 : Nat) : Int) ≤ IntKind.i64.max) ∧ ∀ w__24, Below (World.heap w__23).size w__23 w__24 →
K ((((((t9_1 ++ t64) ++ ((⟨#[32, 114]⟩ : ByteArray) ++ t12)) ++ (⟨#[32, 114]⟩ : ByteArray)) ++ t71) ++ (⟨#[32]⟩ : ByteArray)) ++ t76) w__24) ∧
(((t59 : Int) == 17) = false → Ld (.i .i64) (Addr.add a_x 0) w__23 fun (t80 : Int) w__25 =>
(((t80 : Int) == 18) = true → QLd (.i .i64) (Addr.add a_x 5) (fun w' => Below (World.heap w__25).size w__25 w') fun (t84 : Int) =>
QCl (.o (.lf .s)) P0 63 [(.int .i64 t84)] (fun w' => Below (World.heap w__25).size w__25 w') fun (t85 : ByteArray) =>
(((ByteArray.size t9_1 + ByteArray.size t85 : Nat) : Int) ≤ IntKind.i64.max) ∧ (((ByteArray.size (t9_1 ++ t85) + ByteArray.size ((⟨#[32, 114]⟩ : ByteArray) ++ t12) : Nat) : Int) ≤ IntKind.i64.max) ∧ (((ByteArray.size ((t9_1 ++ t85) ++ ((⟨#[32, 114]⟩ : ByteArray) ++ t12)) + ByteArray.size (⟨#[32]⟩ : ByteArray) : Nat) : Int) ≤ IntKind.i64.max) ∧ QLd (.i .i64) (Addr.add a_x 3) (fun w' => Below (World.heap w__25).size w__25 w') fun (t91 : Int) =>
QCl (.o (.lf .s)) P0 63 [(.int .i64 t91)] (fun w' => Below (World.heap w__25).size w__25 w') fun (t92 : ByteArray) =>
(((ByteArray.size (((t9_1 ++ t85) ++ ((⟨#[32, 114]⟩ : ByteArray) ++ t12)) ++ (⟨#[32]⟩ : ByteArray)) + ByteArray.size t92 : Nat) : Int) ≤ IntKind.i64.max) ∧ (((ByteArray.size ((((t9_1 ++ t85) ++ ((⟨#[32, 114]⟩ : ByteArray) ++ t12)) ++ (⟨#[32]⟩ : ByteArray)) ++ t92) + ByteArray.size (⟨#[32]⟩ : ByteArray) : Nat) : Int) ≤ IntKind.i64.max) ∧ QLd (.i .i64) (Addr.add a_x 2) (fun w' => Below (World.heap w__25).size w__25 w') fun (t96 : Int) =>
QLd (.i .i64) (Addr.add a_x 4) (fun w' => Below (World.heap w__25).size w__25 w') fun (t98 : Int) =>
QCl (.o (.lf .s)) P0 121 [(.int .i64 t96), (.int .i64 t98)] (fun w' => Below (World.heap w__25).size w__25 w') fun (t99 : ByteArray) =>
(((ByteArray.size (((((t9_1 ++ t85) ++ ((⟨#[32, 114]⟩ : ByteArray) ++ t12)) ++ (⟨#[32]⟩ : ByteArray)) ++ t92) ++ (⟨#[32]⟩ : ByteArray)) + ByteArray.size t99 : Nat) : Int) ≤ IntKind.i64.max) ∧ ∀ w__26, Below (World.heap w__25).size w__25 w__26 →
K ((((((t9_1 ++ t85) ++ ((⟨#[32, 114]⟩ : ByteArray) ++ t12)) ++ (⟨#[32]⟩ : ByteArray)) ++ t92) ++ (⟨#[32]⟩ : ByteArray)) ++ t99) w__26) ∧
(((t80 : Int) == 18) = false → Ld (.i .i64) (Addr.add a_x 0) w__25 fun (t103 : Int) w__27 =>
(((t103 : Int) == 19) = true → ∃ Sp_1 : World → World → Prop, SpOk Sp_1 w__27 ∧
∃ G_t106 : ByteArray → World → Prop, Kept Sp_1 G_t106 ∧
∃ G_t107 : Sl → World → Prop, Kept Sp_1 G_t107 ∧
∃ G_t109 : Int → World → Prop, Kept Sp_1 G_t109 ∧
∃ G_t110 : Addr → World → Prop, Kept Sp_1 G_t110 ∧
∃ G_t111 : ByteArray → World → Prop, Kept Sp_1 G_t111 ∧
∃ G_t112 : ByteArray → World → Prop, Kept Sp_1 G_t112 ∧
(∀ w__28, Sp_1 w__27 w__28 → (((ByteArray.size t9_1 + ByteArray.size (⟨#[32]⟩ : ByteArray) : Nat) : Int) ≤ IntKind.i64.max) ∧ GK (.o (.lf .s)) Sp_1 w__28 G_t106 (.string (t9_1 ++ (⟨#[32]⟩ : ByteArray))) w__28) ∧
∀ (t106 : ByteArray), (∀ w__29, Sp_1 w__27 w__29 → CallT (.o (.lf .sl)) P0 122 [] w__29 fun (t107 : Sl) w__30 =>
GK (.o (.lf .sl)) Sp_1 w__29 G_t107 t107.v w__30) ∧
∀ (t107_1 : Sl), (∀ w__31, Sp_1 w__27 w__31 → Ld (.i .i64) (Addr.add a_x 4) w__31 fun (t109 : Int) w__32 =>
GK (.o (.lf (.i .i64))) Sp_1 w__31 G_t109 (.int .i64 t109) w__32) ∧
∀ (t109_1 : Int), (∀ w__33, Sp_1 w__27 w__33 → G_t107 t107_1 w__33 → G_t109 t109_1 w__33 → Ix t107_1.a t107_1.n t109_1 1 w__33 fun a_t110 w__34 =>
GK (.o (.lf .ad)) Sp_1 w__33 G_t110 (.pointer (some a_t110)) w__34) ∧
∀ (t110 : Addr), (∀ w__35, Sp_1 w__27 w__35 → G_t110 t110 w__35 → Ld .s t110 w__35 fun (t111 : ByteArray) w__36 =>
GK (.o (.lf .s)) Sp_1 w__35 G_t111 (.string t111) w__36) ∧
∀ (t111_1 : ByteArray), (∀ w__37, Sp_1 w__27 w__37 → G_t106 t106 w__37 → G_t111 t111_1 w__37 → (((ByteArray.size t106 + ByteArray.size t111_1 : Nat) : Int) ≤ IntKind.i64.max) ∧ GK (.o (.lf .s)) Sp_1 w__37 G_t112 (.string (t106 ++ t111_1)) w__37) ∧
∀ (t112 : ByteArray), ∀ w__38, Sp_1 w__27 w__38 → G_t106 t106 w__38 → G_t107 t107_1 w__38 → G_t109 t109_1 w__38 → G_t110 t110 w__38 → G_t111 t111_1 w__38 → G_t112 t112 w__38 → 
K t112 w__38) ∧
(((t103 : Int) == 19) = false → K t9_1 w__27))))))
theorem spec.l1Line.ok {x : Tup (R 6 (.i .i64))} {w : World} {K : ByteArray → World → Prop} (h : spec.l1Line.vc x w K) : CallT (.o (.lf .s)) P0 99 [(.agg (Tup.cells (R 6 (.i .i64)) x).toArray)] w K :=
  call_of Tryd.func99 rfl rfl (pl := spec.l1Line.pl) (show VC P0 Tryd.f99 spec.l1Line.pl (.o (.lf .s)) [(.agg (Tup.cells (R 6 (.i .i64)) x).toArray)] w K noP from Eq.mp (by kernel_rfl) h)
/- spec.l1Signed -/
def spec.l1Signed.pl : Pl := (.s (.r (D 1)) (.s (.s (.r [.d, .d, .d, (.sp .d), .d, .d, .d, .d]) (.c (.s (.r [.d, (.t (.o (.lf .s))), (.c (.o (.lf (.i .i64)))), .d]) (.s (.s (.r (D 2)) (.c (.s (.r (D 1)) .z) .z)) (.s (.r (D 3)) .z))) .z)) (.s (.r [.d, (.c (.o (.lf (.i .i64)))), .d]) (.s (.s (.r (D 2)) (.c (.s (.r (D 1)) .z) .z)) (.s (.r (D 2)) .z)))))
def spec.l1Signed.vc (s : ByteArray) (w : World) (K : Int → World → Prop) : Prop :=
((decide (((((ByteArray.size s) : Nat) : Int) : Int) > 1)) = true → Sx s 0 w fun t10 w_ =>
(((t10 : Int) == 45) = true → RunT (.o (.lf .s)) P0 (Instr.sliceAt 9 (.string s) (some (.int .i64 1)) none none) w_ fun (t14 : ByteArray) w__1 =>
CallT (.o (.lf (.i .i64))) P0 74 [(.string t14)] w__1 fun (t15 : Int) w__2 =>
((decide ((t15 : Int) < 1)) = true → K 1000 w__2) ∧
((decide ((t15 : Int) < 1)) = false → K (IntKind.wrap .i64 (0 - t15)) w__2)) ∧
(((t10 : Int) == 45) = false → CallT (.o (.lf (.i .i64))) P0 74 [(.string s)] w_ fun (t21 : Int) w__3 =>
((decide ((t21 : Int) < 0)) = true → K 1000 w__3) ∧
((decide ((t21 : Int) < 0)) = false → K t21 w__3))) ∧
((decide (((((ByteArray.size s) : Nat) : Int) : Int) > 1)) = false → CallT (.o (.lf (.i .i64))) P0 74 [(.string s)] w fun (t21_1 : Int) w__4 =>
((decide ((t21_1 : Int) < 0)) = true → K 1000 w__4) ∧
((decide ((t21_1 : Int) < 0)) = false → K t21_1 w__4))
theorem spec.l1Signed.ok {s : ByteArray} {w : World} {K : Int → World → Prop} (h : spec.l1Signed.vc s w K) : CallT (.o (.lf (.i .i64))) P0 167 [(.string s)] w K :=
  call_of Tryd.func167 rfl rfl (pl := spec.l1Signed.pl) (show VC P0 Tryd.f167 spec.l1Signed.pl (.o (.lf (.i .i64))) [(.string s)] w K noP from Eq.mp (by kernel_rfl) h)
/- spec.l1ReadReg -/
def spec.l1ReadReg.pl : Pl := (.s (.r (D 2)) (.s (.s (.r [.d, .d, .d, (.sp .d), .d, .d, .d, .d]) (.c (.s (.r [.d, (.t (.o (.lf .s))), (.c (.o (.lf (.i .i64)))), .d]) (.s (.s (.r (D 2)) (.c (.r (D 1)) .z)) (.s (.r (D 3)) .z))) .z)) (.s (.r [.d, (.c (.o (.lf (.i .i64)))), .d, .d]) .z)))
def spec.l1ReadReg.vc (s : ByteArray) (w : World) (K : (Int) × (Int) × Unit → World → Prop) : Prop :=
((decide (((((ByteArray.size s) : Nat) : Int) : Int) > 1)) = true → Sx s 0 w fun t10 w_ =>
(((t10 : Int) == 114) = true → RunT (.o (.lf .s)) P0 (Instr.sliceAt 9 (.string s) (some (.int .i64 1)) none none) w_ fun (t14 : ByteArray) w__1 =>
CallT (.o (.lf (.i .i64))) P0 74 [(.string t14)] w__1 fun (t15 : Int) w__2 =>
((decide ((t15 : Int) < 0)) = true → K (99, (0, ())) w__2) ∧
((decide ((t15 : Int) < 0)) = false → K (t15, (0, ())) w__2)) ∧
(((t10 : Int) == 114) = false → CallT (.o (.lf (.i .i64))) P0 74 [(.string s)] w_ fun (t20 : Int) w__3 =>
K ((-1), (t20, ())) w__3)) ∧
((decide (((((ByteArray.size s) : Nat) : Int) : Int) > 1)) = false → CallT (.o (.lf (.i .i64))) P0 74 [(.string s)] w fun (t20_1 : Int) w__4 =>
K ((-1), (t20_1, ())) w__4)
theorem spec.l1ReadReg.ok {s : ByteArray} {w : World} {K : (Int) × (Int) × Unit → World → Prop} (h : spec.l1ReadReg.vc s w K) : CallT (.n [(.lf (.i .i64)), (.lf (.i .i64))]) P0 166 [(.string s)] w K :=
  call_of Tryd.func166 rfl rfl (pl := spec.l1ReadReg.pl) (show VC P0 Tryd.f166 spec.l1ReadReg.pl (.n [(.lf (.i .i64)), (.lf (.i .i64))]) [(.string s)] w K noP from Eq.mp (by kernel_rfl) h)
/- spec.l1Read -/
def spec.l1Read.pl : Pl := (.s (.r (D 1)) (.s (.g [((.g (.o (.lf .sl)) (.c (.o (.lf .sl)))), []), (.q, []), ((.g (.o (.lf .ad)) .d), []), ((.g (.o (.lf .s)) (.l (.lf .s))), [2]), ((.g (.o (.lf (.i .i64))) (.c (.o (.lf (.i .i64))))), [0, 3]), ((.g (.o (.ag (R 6 (.i .i64)))) .d), [4]), ((.g (.o (.lf .ad)) .d), [])] [.d]) (.s (.s (.r (D 1)) (.b (.l [(4, (.i .i64))] (.s (.s (.r (D 2)) (.c .z .z)) (.s (.b (.j [(43, .b)] (.r [.d, .d, (.l (.lf .s)), .d, (.c (.o (.lf .s))), .d, .d, (.sp .d), .d, .d, (.l (.lf .s)), .d, (.c (.o (.lf .s))), .d, .d, .d]) (.c (.s (.g [((.g (.o (.lf .sl)) (.c (.o (.lf .sl)))), []), (.q, []), ((.g (.o (.lf .ad)) .d), []), ((.g (.o (.lf .s)) (.l (.lf .s))), [2]), (.q, []), ((.g (.o (.lf .ad)) .d), []), ((.g (.o (.lf .s)) (.l (.lf .s))), [5]), (.q, [6]), (.q, [6]), ((.g (.o (.lf .s)) (.t (.o (.lf .s)))), [3, 6]), ((.g (.o (.lf (.i .i64))) (.c (.o (.lf (.i .i64))))), [0, 9]), (.q, [])] [.d]) (.r (D 3))) .z))) (.r (D 3))))))) (.s (.r (D 3)) (.j [] (.b (.j [(60, .b)] (.r [.d, (.l (.lf (.i .i64))), (.c (.o (.lf .b))), (.sp .d), .d, .d, .d, (.sp .d), .d, (.l (.lf (.i .i64))), (.c (.o (.lf .b))), (.sp .d), .d, .d, .d, .d, .d]) (.c (.s (.r [.d, .d, (.l (.lf .s)), (.c (.n [(.lf (.i .i64)), (.lf (.i .i64))])), .d, .d, .d, .d, .d]) (.s (.r [.d, .d, (.l (.lf .s)), (.c (.n [(.lf (.i .i64)), (.lf (.i .i64))])), .d, .d, .d, .d, .d]) (.s (.r (D 3)) (.s (.r (D 3)) (.s (.r (D 3)) (.s (.r (D 2)) (.c (.r [.d, .d, (.l (.lf .s)), (.c (.o (.lf (.i .i64)))), .d, .d]) .z))))))) (.j [(104, .b)] (.r [.d, (.l (.lf (.i .i64))), .d, (.sp .d), .d, .d, .d, .d]) (.c (.r [.d, .d, (.l (.lf .s)), (.c (.o (.lf (.i .i64)))), .d, .d]) (.j [(117, .b)] (.r [.d, (.l (.lf (.i .i64))), .d, (.sp .d), .d, .d, .d, .d]) (.c (.s (.r [.d, .d, (.l (.lf .s)), (.c (.n [(.lf (.i .i64)), (.lf (.i .i64))])), .d, .d, .d, .d, .d]) (.s (.r [.d, .d, (.l (.lf .s)), (.c (.n [(.lf (.i .i64)), (.lf (.i .i64))])), .d, .d, .d, .d, .d]) (.s (.r (D 3)) (.s (.r (D 3)) (.r [.d, .d, (.l (.lf .s)), (.c (.o (.lf (.i .i64)))), .d, .d]))))) (.j [(148, .b)] (.r [.d, (.l (.lf (.i .i64))), .d, (.sp .d), .d, .d, .d, .d]) (.c (.s (.r [.d, .d, (.l (.lf .s)), (.c (.n [(.lf (.i .i64)), (.lf (.i .i64))])), .d, .d, .d, .d, .d]) (.s (.r [.d, .d, (.l (.lf .s)), (.c (.n [(.lf (.i .i64)), (.lf (.i .i64))])), .d, .d, .d, .d, .d]) (.s (.r (D 3)) (.s (.r [.d, .d, (.l (.lf .s)), (.c (.o (.lf (.i .i64)))), .d, .d]) (.s (.r (D 3)) (.r (D 3))))))) (.s (.r [.d, (.l (.lf (.i .i64))), .d, (.sp .d), .d, .d, .d, .d]) (.c (.g [((.g (.o (.lf .sl)) (.c (.o (.lf .sl)))), []), (.q, []), ((.g (.o (.lf .ad)) .d), []), ((.g (.o (.lf .s)) (.l (.lf .s))), [2]), ((.g (.o (.lf (.i .i64))) (.c (.o (.lf (.i .i64))))), [0, 3]), (.q, [])] [.d]) .z))))))))))) (.s (.r [(.l (.ag (R 6 (.i .i64)))), .d]) .z))))))
def spec.l1Read.vc (w_ : Sl) (w : World) (K : Tup (R 6 (.i .i64)) → World → Prop) : Prop :=
Nw (zc P0 44) 44 w fun a_t2 w__1 =>
∃ Sp : World → World → Prop, SpOk Sp w__1 ∧
∃ G_t18 : Sl → World → Prop, Kept Sp G_t18 ∧
∃ G_t20 : Addr → World → Prop, Kept Sp G_t20 ∧
∃ G_t21 : ByteArray → World → Prop, Kept Sp G_t21 ∧
∃ G_t22 : Int → World → Prop, Kept Sp G_t22 ∧
∃ G_t23 : Tup (R 6 (.i .i64)) → World → Prop, Kept Sp G_t23 ∧
∃ G_x : Addr → World → Prop, Kept Sp G_x ∧
(∀ w__2, Sp w__1 w__2 → CallT (.o (.lf .sl)) P0 64 [] w__2 fun (t18 : Sl) w__3 =>
GK (.o (.lf .sl)) Sp w__2 G_t18 t18.v w__3) ∧
∀ (t18_1 : Sl), (∀ w__4, Sp w__1 w__4 → Ix w_.a w_.n 0 1 w__4 fun a_t20 w__5 =>
GK (.o (.lf .ad)) Sp w__4 G_t20 (.pointer (some a_t20)) w__5) ∧
∀ (t20 : Addr), (∀ w__6, Sp w__1 w__6 → G_t20 t20 w__6 → Ld .s t20 w__6 fun (t21 : ByteArray) w__7 =>
GK (.o (.lf .s)) Sp w__6 G_t21 (.string t21) w__7) ∧
∀ (t21_1 : ByteArray), (∀ w__8, Sp w__1 w__8 → G_t18 t18_1 w__8 → G_t21 t21_1 w__8 → CallT (.o (.lf (.i .i64))) P0 75 [t18_1.v, (.string t21_1)] w__8 fun (t22 : Int) w__9 =>
GK (.o (.lf (.i .i64))) Sp w__8 G_t22 (.int .i64 t22) w__9) ∧
∀ (t22_1 : Int), (∀ w__10, Sp w__1 w__10 → G_t22 t22_1 w__10 → GK (.o (.ag (R 6 (.i .i64)))) Sp w__10 G_t23 (.agg #[(.int .i64 t22_1), (.int .i64 0), (.int .i64 (-1)), (.int .i64 0), (.int .i64 0), (.int .i64 0)]) w__10) ∧
∀ (t23 : Tup (R 6 (.i .i64))), (∀ w__11, Sp w__1 w__11 → Nw (zc P0 44) 44 w__11 fun a_x w__12 =>
GK (.o (.lf .ad)) Sp w__11 G_x (.pointer (some a_x)) w__12) ∧
∀ (x : Addr), ∀ w__13, Sp w__1 w__13 → G_t18 t18_1 w__13 → G_t20 t20 w__13 → G_t21 t21_1 w__13 → G_t22 t22_1 w__13 → G_t23 t23 w__13 → G_x x w__13 → 
StA P0 x (Tup.cells (R 6 (.i .i64)) t23) w__13 fun w__14 =>
∃ (I : Int → World → Prop) (M : Int → World → Nat),
I 1 w__14 ∧
(∀ (size : Int) w__15, I size w__15 → ∀ _ : Nat → Value,
((decide ((size : Int) ≤ 4)) = true → ∃ J : Bool → World → Prop,
(QIx w_.a w_.n 0 1 fun a_t29 =>
QLd .s a_t29 (fun w' => Below (World.heap w__15).size w__15 w') fun (t30 : ByteArray) =>
QCl (.o (.lf .s)) P0 63 [(.int .i64 size)] (fun w' => Below (World.heap w__15).size w__15 w') fun (t32 : ByteArray) =>
(((ByteArray.size (⟨#[108, 111, 97, 100]⟩ : ByteArray) + ByteArray.size t32 : Nat) : Int) ≤ IntKind.i64.max) ∧ ((ByteArray.toList t30 == ByteArray.toList ((⟨#[108, 111, 97, 100]⟩ : ByteArray) ++ t32)) = true → ∀ w__16, Below (World.heap w__15).size w__15 w__16 →
J true w__16) ∧
((ByteArray.toList t30 == ByteArray.toList ((⟨#[108, 111, 97, 100]⟩ : ByteArray) ++ t32)) = false → QIx w_.a w_.n 0 1 fun a_t37 =>
QLd .s a_t37 (fun w' => Below (World.heap w__15).size w__15 w') fun (t38 : ByteArray) =>
QCl (.o (.lf .s)) P0 63 [(.int .i64 size)] (fun w' => Below (World.heap w__15).size w__15 w') fun (t40 : ByteArray) =>
(((ByteArray.size (⟨#[115, 116, 111, 114, 101]⟩ : ByteArray) + ByteArray.size t40 : Nat) : Int) ≤ IntKind.i64.max) ∧ ∀ w__16, Below (World.heap w__15).size w__15 w__16 →
J (ByteArray.toList t38 == ByteArray.toList ((⟨#[115, 116, 111, 114, 101]⟩ : ByteArray) ++ t40)) w__16)) ∧
(∀ (t43 : Bool) w__17, J t43 w__17 → ∀ _ : Nat → Value,
(t43 = true → ∃ Sp_1 : World → World → Prop, SpOk Sp_1 w__17 ∧
∃ G_t44 : Sl → World → Prop, Kept Sp_1 G_t44 ∧
∃ G_t46 : Addr → World → Prop, Kept Sp_1 G_t46 ∧
∃ G_t47 : ByteArray → World → Prop, Kept Sp_1 G_t47 ∧
∃ G_t49 : Addr → World → Prop, Kept Sp_1 G_t49 ∧
∃ G_t50 : ByteArray → World → Prop, Kept Sp_1 G_t50 ∧
∃ G_t53 : ByteArray → World → Prop, Kept Sp_1 G_t53 ∧
∃ G_t54 : Int → World → Prop, Kept Sp_1 G_t54 ∧
(∀ w__18, Sp_1 w__17 w__18 → CallT (.o (.lf .sl)) P0 64 [] w__18 fun (t44 : Sl) w__19 =>
GK (.o (.lf .sl)) Sp_1 w__18 G_t44 t44.v w__19) ∧
∀ (t44_1 : Sl), (∀ w__20, Sp_1 w__17 w__20 → Ix w_.a w_.n 0 1 w__20 fun a_t46 w__21 =>
GK (.o (.lf .ad)) Sp_1 w__20 G_t46 (.pointer (some a_t46)) w__21) ∧
∀ (t46 : Addr), (∀ w__22, Sp_1 w__17 w__22 → G_t46 t46 w__22 → Ld .s t46 w__22 fun (t47 : ByteArray) w__23 =>
GK (.o (.lf .s)) Sp_1 w__22 G_t47 (.string t47) w__23) ∧
∀ (t47_1 : ByteArray), (∀ w__24, Sp_1 w__17 w__24 → Ix w_.a w_.n 0 1 w__24 fun a_t49 w__25 =>
GK (.o (.lf .ad)) Sp_1 w__24 G_t49 (.pointer (some a_t49)) w__25) ∧
∀ (t49 : Addr), (∀ w__26, Sp_1 w__17 w__26 → G_t49 t49 w__26 → Ld .s t49 w__26 fun (t50 : ByteArray) w__27 =>
GK (.o (.lf .s)) Sp_1 w__26 G_t50 (.string t50) w__27) ∧
∀ (t50_1 : ByteArray), (∀ w__28, Sp_1 w__17 w__28 → G_t47 t47_1 w__28 → G_t50 t50_1 w__28 → RunT (.o (.lf .s)) P0 (Instr.sliceAt 9 (.string t47_1) none (some (.int .i64 (IntKind.wrap .i64 ((((ByteArray.size t50_1) : Nat) : Int) - 1)))) none) w__28 fun (t53 : ByteArray) w__29 =>
GK (.o (.lf .s)) Sp_1 w__28 G_t53 (.string t53) w__29) ∧
∀ (t53_1 : ByteArray), (∀ w__30, Sp_1 w__17 w__30 → G_t44 t44_1 w__30 → G_t53 t53_1 w__30 → CallT (.o (.lf (.i .i64))) P0 75 [t44_1.v, (.string t53_1)] w__30 fun (t54 : Int) w__31 =>
GK (.o (.lf (.i .i64))) Sp_1 w__30 G_t54 (.int .i64 t54) w__31) ∧
∀ (t54_1 : Int), ∀ w__32, Sp_1 w__17 w__32 → G_t44 t44_1 w__32 → G_t46 t46 w__32 → G_t47 t47_1 w__32 → G_t49 t49 w__32 → G_t50 t50_1 w__32 → G_t53 t53_1 w__32 → G_t54 t54_1 w__32 → 
St (Addr.add x 0) (.int .i64 t54_1) w__32 fun w__33 =>
St (Addr.add x 5) (.int .i64 size) w__33 fun w__34 =>
(I (IntKind.wrap .i64 (size * 2)) w__34 ∧ M (IntKind.wrap .i64 (size * 2)) w__34 < M size w__15)) ∧
(t43 = false → (I (IntKind.wrap .i64 (size * 2)) w__17 ∧ M (IntKind.wrap .i64 (size * 2)) w__17 < M size w__15)))) ∧
((decide ((size : Int) ≤ 4)) = false → ∃ J_1 : World → Prop,
(∃ J_2 : Bool → World → Prop,
(Ld (.i .i64) (Addr.add x 0) w__15 fun (t62 : Int) w__35 =>
CallT (.o (.lf .b)) P0 120 [(.int .i64 t62)] w__35 fun (t63 : Bool) w__36 =>
(t63 = true → (((((w_.n : Nat) : Int) : Int) == 3) = true → J_2 true w__36) ∧
(((((w_.n : Nat) : Int) : Int) == 3) = false → Ld (.i .i64) (Addr.add x 0) w__36 fun (t70 : Int) w__37 =>
CallT (.o (.lf .b)) P0 78 [(.int .i64 t70)] w__37 fun (t71 : Bool) w__38 =>
(t71 = true → J_2 ((((w_.n : Nat) : Int) : Int) == 4) w__38) ∧
(t71 = false → J_2 false w__38))) ∧
(t63 = false → Ld (.i .i64) (Addr.add x 0) w__36 fun (t70_1 : Int) w__39 =>
CallT (.o (.lf .b)) P0 78 [(.int .i64 t70_1)] w__39 fun (t71_1 : Bool) w__40 =>
(t71_1 = true → J_2 ((((w_.n : Nat) : Int) : Int) == 4) w__40) ∧
(t71_1 = false → J_2 false w__40))) ∧
(∀ (t60 : Bool) w__41, J_2 t60 w__41 → ∀ _ : Nat → Value,
(t60 = true → Ix w_.a w_.n 1 1 w__41 fun a_t79 w__42 =>
Ld .s a_t79 w__42 fun (t80 : ByteArray) w__43 =>
CallT (.n [(.lf (.i .i64)), (.lf (.i .i64))]) P0 166 [(.string t80)] w__43 fun (t81 : (Int) × (Int) × Unit) w__44 =>
Ix w_.a w_.n 2 1 w__44 fun a_t86 w__45 =>
Ld .s a_t86 w__45 fun (t87 : ByteArray) w__46 =>
CallT (.n [(.lf (.i .i64)), (.lf (.i .i64))]) P0 166 [(.string t87)] w__46 fun (t88 : (Int) × (Int) × Unit) w__47 =>
St (Addr.add x 1) (.int .i64 t81.1) w__47 fun w__48 =>
St (Addr.add x 2) (.int .i64 t88.1) w__48 fun w__49 =>
St (Addr.add x 4) (.int .i64 t88.2.1) w__49 fun w__50 =>
(((((w_.n : Nat) : Int) : Int) == 4) = true → Ix w_.a w_.n 3 1 w__50 fun a_t100 w__51 =>
Ld .s a_t100 w__51 fun (t101 : ByteArray) w__52 =>
CallT (.o (.lf (.i .i64))) P0 167 [(.string t101)] w__52 fun (t102 : Int) w__53 =>
St (Addr.add x 3) (.int .i64 t102) w__53 fun w__54 =>
J_1 w__54) ∧
(((((w_.n : Nat) : Int) : Int) == 4) = false → J_1 w__50)) ∧
(t60 = false → ∃ J_3 : Bool → World → Prop,
(Ld (.i .i64) (Addr.add x 0) w__41 fun (t106 : Int) w__55 =>
(((t106 : Int) == 16) = true → J_3 ((((w_.n : Nat) : Int) : Int) == 2) w__55) ∧
(((t106 : Int) == 16) = false → J_3 false w__55)) ∧
(∀ (t104 : Bool) w__56, J_3 t104 w__56 → ∀ _ : Nat → Value,
(t104 = true → Ix w_.a w_.n 1 1 w__56 fun a_t113 w__57 =>
Ld .s a_t113 w__57 fun (t114 : ByteArray) w__58 =>
CallT (.o (.lf (.i .i64))) P0 167 [(.string t114)] w__58 fun (t115 : Int) w__59 =>
St (Addr.add x 3) (.int .i64 t115) w__59 fun w__60 =>
J_1 w__60) ∧
(t104 = false → ∃ J_4 : Bool → World → Prop,
(Ld (.i .i64) (Addr.add x 0) w__56 fun (t119 : Int) w__61 =>
(((t119 : Int) == 17) = true → J_4 ((((w_.n : Nat) : Int) : Int) == 4) w__61) ∧
(((t119 : Int) == 17) = false → J_4 false w__61)) ∧
(∀ (t117 : Bool) w__62, J_4 t117 w__62 → ∀ _ : Nat → Value,
(t117 = true → Ix w_.a w_.n 1 1 w__62 fun a_t127 w__63 =>
Ld .s a_t127 w__63 fun (t128 : ByteArray) w__64 =>
CallT (.n [(.lf (.i .i64)), (.lf (.i .i64))]) P0 166 [(.string t128)] w__64 fun (t129 : (Int) × (Int) × Unit) w__65 =>
Ix w_.a w_.n 2 1 w__65 fun a_t134 w__66 =>
Ld .s a_t134 w__66 fun (t135 : ByteArray) w__67 =>
CallT (.n [(.lf (.i .i64)), (.lf (.i .i64))]) P0 166 [(.string t135)] w__67 fun (t136 : (Int) × (Int) × Unit) w__68 =>
St (Addr.add x 1) (.int .i64 t129.1) w__68 fun w__69 =>
St (Addr.add x 2) (.int .i64 t136.1) w__69 fun w__70 =>
Ix w_.a w_.n 3 1 w__70 fun a_t144 w__71 =>
Ld .s a_t144 w__71 fun (t145 : ByteArray) w__72 =>
CallT (.o (.lf (.i .i64))) P0 167 [(.string t145)] w__72 fun (t146 : Int) w__73 =>
St (Addr.add x 3) (.int .i64 t146) w__73 fun w__74 =>
J_1 w__74) ∧
(t117 = false → ∃ J_5 : Bool → World → Prop,
(Ld (.i .i64) (Addr.add x 0) w__62 fun (t150 : Int) w__75 =>
(((t150 : Int) == 18) = true → J_5 ((((w_.n : Nat) : Int) : Int) == 4) w__75) ∧
(((t150 : Int) == 18) = false → J_5 false w__75)) ∧
(∀ (t148 : Bool) w__76, J_5 t148 w__76 → ∀ _ : Nat → Value,
(t148 = true → Ix w_.a w_.n 1 1 w__76 fun a_t158 w__77 =>
Ld .s a_t158 w__77 fun (t159 : ByteArray) w__78 =>
CallT (.n [(.lf (.i .i64)), (.lf (.i .i64))]) P0 166 [(.string t159)] w__78 fun (t160 : (Int) × (Int) × Unit) w__79 =>
Ix w_.a w_.n 3 1 w__79 fun a_t165 w__80 =>
Ld .s a_t165 w__80 fun (t166 : ByteArray) w__81 =>
CallT (.n [(.lf (.i .i64)), (.lf (.i .i64))]) P0 166 [(.string t166)] w__81 fun (t167 : (Int) × (Int) × Unit) w__82 =>
St (Addr.add x 1) (.int .i64 t160.1) w__82 fun w__83 =>
Ix w_.a w_.n 2 1 w__83 fun a_t173 w__84 =>
Ld .s a_t173 w__84 fun (t174 : ByteArray) w__85 =>
CallT (.o (.lf (.i .i64))) P0 167 [(.string t174)] w__85 fun (t175 : Int) w__86 =>
St (Addr.add x 3) (.int .i64 t175) w__86 fun w__87 =>
St (Addr.add x 2) (.int .i64 t167.1) w__87 fun w__88 =>
St (Addr.add x 4) (.int .i64 t167.2.1) w__88 fun w__89 =>
J_1 w__89) ∧
(t148 = false → Ld (.i .i64) (Addr.add x 0) w__76 fun (t183 : Int) w__90 =>
(((t183 : Int) == 19) = true → (((((w_.n : Nat) : Int) : Int) == 2) = true → ∃ Sp_2 : World → World → Prop, SpOk Sp_2 w__90 ∧
∃ G_t189 : Sl → World → Prop, Kept Sp_2 G_t189 ∧
∃ G_t191 : Addr → World → Prop, Kept Sp_2 G_t191 ∧
∃ G_t192 : ByteArray → World → Prop, Kept Sp_2 G_t192 ∧
∃ G_t193 : Int → World → Prop, Kept Sp_2 G_t193 ∧
(∀ w__91, Sp_2 w__90 w__91 → CallT (.o (.lf .sl)) P0 122 [] w__91 fun (t189 : Sl) w__92 =>
GK (.o (.lf .sl)) Sp_2 w__91 G_t189 t189.v w__92) ∧
∀ (t189_1 : Sl), (∀ w__93, Sp_2 w__90 w__93 → Ix w_.a w_.n 1 1 w__93 fun a_t191 w__94 =>
GK (.o (.lf .ad)) Sp_2 w__93 G_t191 (.pointer (some a_t191)) w__94) ∧
∀ (t191 : Addr), (∀ w__95, Sp_2 w__90 w__95 → G_t191 t191 w__95 → Ld .s t191 w__95 fun (t192 : ByteArray) w__96 =>
GK (.o (.lf .s)) Sp_2 w__95 G_t192 (.string t192) w__96) ∧
∀ (t192_1 : ByteArray), (∀ w__97, Sp_2 w__90 w__97 → G_t189 t189_1 w__97 → G_t192 t192_1 w__97 → CallT (.o (.lf (.i .i64))) P0 75 [t189_1.v, (.string t192_1)] w__97 fun (t193 : Int) w__98 =>
GK (.o (.lf (.i .i64))) Sp_2 w__97 G_t193 (.int .i64 t193) w__98) ∧
∀ (t193_1 : Int), ∀ w__99, Sp_2 w__90 w__99 → G_t189 t189_1 w__99 → G_t191 t191 w__99 → G_t192 t192_1 w__99 → G_t193 t193_1 w__99 → 
St (Addr.add x 4) (.int .i64 t193_1) w__99 fun w__100 =>
J_1 w__100) ∧
(((((w_.n : Nat) : Int) : Int) == 2) = false → J_1 w__90)) ∧
(((t183 : Int) == 19) = false → J_1 w__90)))))))))) ∧
(∀  w__101, J_1 w__101 → ∀ _ : Nat → Value,
LdA (R 6 (.i .i64)) x w__101 fun (t195 : Tup (R 6 (.i .i64))) w__102 =>
StA P0 a_t2 (Tup.cells (R 6 (.i .i64)) t195) w__102 fun w__103 =>
LdA (R 6 (.i .i64)) a_t2 w__103 fun r w__104 =>
K r w__103)))
theorem spec.l1Read.ok {w_ : Sl} {w : World} {K : Tup (R 6 (.i .i64)) → World → Prop} (h : spec.l1Read.vc w_ w K) : CallT (.o (.ag (R 6 (.i .i64)))) P0 154 [w_.v] w K :=
  call_of Tryd.func154 rfl rfl (pl := spec.l1Read.pl) (show VC P0 Tryd.f154 spec.l1Read.pl (.o (.ag (R 6 (.i .i64)))) [w_.v] w K noP from Eq.mp (by kernel_rfl) h)
/- spec.LineGet -/
def spec.LineGet.pl : Pl := (.s (.r (D 2)) (.s (.r [.d, (.c (.o (.lf .sl))), (.c (.o (.ag (R 6 (.i .i64))))), .d, .d]) (.s (.s (.r [(.l (.ag (R 6 (.i .i64)))), (.c (.o (.lf .b))), .d, (.sp .d), (.l (.ag (R 6 (.i .i64)))), (.c (.o (.lf .s))), .d, .d, .d]) (.c (.s (.r (D 3)) .z) .z)) (.s (.r [(.l (.ag (R 6 (.i .i64)))), .d, .d]) .z))))
def spec.LineGet.vc (s : ByteArray) (w : World) (K : (Tup (R 6 (.i .i64))) × (Bool) × Unit → World → Prop) : Prop :=
Nw (zc P0 44) 44 w fun a_t2 w_ =>
CallT (.o (.lf .sl)) P0 40 [(.string s), (.int .u8 32), (.int .i64 5)] w_ fun (t6 : Sl) w__1 =>
CallT (.o (.ag (R 6 (.i .i64)))) P0 154 [t6.v] w__1 fun (t7 : Tup (R 6 (.i .i64))) w__2 =>
Nw (zc P0 44) 44 w__2 fun a_x w__3 =>
StA P0 a_x (Tup.cells (R 6 (.i .i64)) t7) w__3 fun w__4 =>
LdA (R 6 (.i .i64)) a_x w__4 fun (t8 : Tup (R 6 (.i .i64))) w__5 =>
CallT (.o (.lf .b)) P0 77 [(.agg (Tup.cells (R 6 (.i .i64)) t8).toArray)] w__5 fun (t9 : Bool) w__6 =>
((!t9) = true → StA P0 a_t2 [(.int .i64 0), (.int .i64 0), (.int .i64 0), (.int .i64 0), (.int .i64 0), (.int .i64 0)] w__6 fun w__7 =>
LdA (R 6 (.i .i64)) a_t2 w__7 fun r w__8 =>
K (r, (false, ())) w__7) ∧
((!t9) = false → LdA (R 6 (.i .i64)) a_x w__6 fun (t12 : Tup (R 6 (.i .i64))) w__9 =>
CallT (.o (.lf .s)) P0 99 [(.agg (Tup.cells (R 6 (.i .i64)) t12).toArray)] w__9 fun (t13 : ByteArray) w__10 =>
((!(ByteArray.toList t13 == ByteArray.toList s)) = true → StA P0 a_t2 [(.int .i64 0), (.int .i64 0), (.int .i64 0), (.int .i64 0), (.int .i64 0), (.int .i64 0)] w__10 fun w__11 =>
LdA (R 6 (.i .i64)) a_t2 w__11 fun r_1 w__12 =>
K (r_1, (false, ())) w__11) ∧
((!(ByteArray.toList t13 == ByteArray.toList s)) = false → LdA (R 6 (.i .i64)) a_x w__10 fun (t18 : Tup (R 6 (.i .i64))) w__13 =>
StA P0 a_t2 (Tup.cells (R 6 (.i .i64)) t18) w__13 fun w__14 =>
LdA (R 6 (.i .i64)) a_t2 w__14 fun r_2 w__15 =>
K (r_2, (true, ())) w__14))
theorem spec.LineGet.ok {s : ByteArray} {w : World} {K : (Tup (R 6 (.i .i64))) × (Bool) × Unit → World → Prop} (h : spec.LineGet.vc s w K) : CallT (.n [(.ag (R 6 (.i .i64))), (.lf .b)]) P0 129 [(.string s)] w K :=
  call_of Tryd.func129 rfl rfl (pl := spec.LineGet.pl) (show VC P0 Tryd.f129 spec.LineGet.pl (.n [(.ag (R 6 (.i .i64))), (.lf .b)]) [(.string s)] w K noP from Eq.mp (by kernel_rfl) h)
/- spec.DrawProgForm -/
def spec.DrawProgForm.pl : Pl := (.s (.r (D 1)) (.s (.r [.d, (.c (.o (.lf .p))), .d]) (.s (.r [.d, (.c (.o (.lf .sl))), .d]) (.s (.s (.r [.d, (.c (.o (.lf (.i .i64))))]) (.b (.s (.r (D 2)) (.c (.s (.r [.d, .d, .d, .d, (.t (.o (.lf .sl))), .d]) .z) (.s (.r (D 2)) (.c (.b (.l [(4, .sl)] (.s (.s (.r [.d, .d, .d, (.c (.o (.lf (.i .i64)))), .d, .d]) (.c .z .z)) (.b (.r [.d, .d, .d, (.t (.o (.lf .sl))), .d]))))) (.s (.r (D 2)) (.c (.s (.r (D 1)) .z) .z)))))))) (.s (.r (D 2)) .z)))))
def spec.DrawProgForm.vc (code : Sl) (w : World) (K : Sl → World → Prop) : Prop :=
CallT (.o (.lf .p)) P0 28 [code.v] w fun (t6 : Option Addr) w_ =>
CallT (.o (.lf .sl)) P0 92 [(.pointer t6)] w_ fun (t8 : Sl) w__1 =>
CallT (.o (.lf (.i .i64))) P0 43 [(.pointer t6), (.int .i64 8)] w__1 fun (t10 : Int) w__2 =>
(((t10 : Int) == 0) = true → RunT (.o (.lf .sl)) P0 (Instr.sliceAt 37 t8.v none (some (.int .i64 (IntKind.wrap .i64 (((t8.n : Nat) : Int) - 1)))) none) w__2 fun (t17 : Sl) w__3 =>
K t17 w__3) ∧
(((t10 : Int) == 0) = false → (((t10 : Int) == 1) = true → ∃ (I : Sl → World → Prop) (M : Sl → World → Nat),
I t8 w__2 ∧
(∀ (list : Sl) w__4, I list w__4 → ∀ _ : Nat → Value,
CallT (.o (.lf (.i .i64))) P0 43 [(.pointer t6), (.int .i64 2)] w__4 fun (t23 : Int) w__5 =>
((decide ((((list.n : Nat) : Int) : Int) < (IntKind.wrap .i64 (48 + t23)))) = true → Nw #[(.int .i64 20), (.int .i64 0), (.int .i64 (-1)), (.int .i64 0), (.int .i64 0), (.int .i64 0)] 44 w__5 fun a_t28 w__6 =>
RunT (.o (.lf .sl)) P0 (Builtin.append_ #[37, 37] 37 #[list.v, (.slice (some a_t28) 1 1)]) w__6 fun (t29 : Sl) w__7 =>
(I t29 w__7 ∧ M t29 w__7 < M list w__4)) ∧
((decide ((((list.n : Nat) : Int) : Int) < (IntKind.wrap .i64 (48 + t23)))) = false → K list w__5))) ∧
(((t10 : Int) == 1) = false → (((t10 : Int) == 2) = true → K ⟨none, 0, 0⟩ w__2) ∧
(((t10 : Int) == 2) = false → K t8 w__2)))
theorem spec.DrawProgForm.ok {code : Sl} {w : World} {K : Sl → World → Prop} (h : spec.DrawProgForm.vc code w K) : CallT (.o (.lf .sl)) P0 57 [code.v] w K :=
  call_of Tryd.func57 rfl rfl (pl := spec.DrawProgForm.pl) (show VC P0 Tryd.f57 spec.DrawProgForm.pl (.o (.lf .sl)) [code.v] w K noP from Eq.mp (by kernel_rfl) h)
/- laws.sgIn -/
def laws.sgIn.pl : Pl := (.s (.r (D 1)) (.s (.s (.r (D 1)) (.b (.l [(5, (.i .i64))] (.s (.s (.r (D 4)) (.c .z .z)) (.s (.b (.s (.r [.d, .d, .d, (.l (.lf (.i .i64))), .d, .d]) (.c (.s (.r (D 1)) .z) .z))) (.r (D 3))))))) (.s (.r (D 1)) .z)))
def laws.sgIn.vc (list : Sl) (n : Int) (w : World) (K : Bool → World → Prop) : Prop :=
∃ (I : Int → World → Prop) (M : Int → World → Nat),
I 0 w ∧
(∀ (i : Int) w_, I i w_ → ∀ _ : Nat → Value,
((decide ((i : Int) < ((list.n : Nat) : Int))) = true → Ix list.a list.n i 1 w_ fun a_t14 w__1 =>
Ld (.i .i64) a_t14 w__1 fun (t15 : Int) w__2 =>
(((t15 : Int) == n) = true → K true w__2) ∧
(((t15 : Int) == n) = false → (I (IntKind.wrap .i64 (i + 1)) w__2 ∧ M (IntKind.wrap .i64 (i + 1)) w__2 < M i w_))) ∧
((decide ((i : Int) < ((list.n : Nat) : Int))) = false → K false w_))
theorem laws.sgIn.ok {list : Sl} {n : Int} {w : World} {K : Bool → World → Prop} (h : laws.sgIn.vc list n w K) : CallT (.o (.lf .b)) P0 26 [list.v, (.int .i64 n)] w K :=
  call_of Tryd.func26 rfl rfl (pl := laws.sgIn.pl) (show VC P0 Tryd.f26 laws.sgIn.pl (.o (.lf .b)) [list.v, (.int .i64 n)] w K noP from Eq.mp (by kernel_rfl) h)
end Go.Proofs.YtkkdboimkbcfnaaDoor.V

/- Contracts: places that are led to, on both sides. -/
namespace Go.Proofs.YtkkdboimkbcfnaaDoor.V
open Go Go.RowKit
set_option linter.unusedVariables false
set_option linter.unusedSimpArgs false
/-- An op leads from one place to another that is not left out. -/
def Step (l : List Ins) (but x y : Int) : Prop := ∃ i, 0 ≤ x ∧ l[x.toNat]? = some i ∧ y ∈ nextX x i ∧ y ≠ but
inductive Pth (l : List Ins) (but a : Int) : Int → Prop
  | one {y : Int} : Step l but a y → Pth l but a y
  | more {x y : Int} : Pth l but a x → Step l but x y → Pth l but a y
theorem Pth.head {l : List Ins} {but a c : Int} (h : Pth l but a c) : ∃ y, Step l but a y ∧ (c = y ∨ Pth l but y c) := by
  induction h with
  | one h => exact ⟨_, h, .inl rfl⟩
  | more h1 h2 ih =>
    obtain ⟨y, hy, h | h⟩ := ih
    · subst h; exact ⟨_, hy, .inr (.one h2)⟩
    · exact ⟨y, hy, .inr (.more h h2)⟩
theorem Pth.cons {l : List Ins} {but a y c : Int} (h : Step l but a y) (h2 : Pth l but y c) : Pth l but a c := by
  induction h2 with
  | one h' => exact .more (.one h) h'
  | more _ h' ih => exact .more ih h'
theorem formP_last {l : List Ins} (h : formP l = 0) {x : Ins} (hx : l[l.length - 1]? = some x) : x.op = 20 ∨ x.op = 16 := by
  have h1 := formGo_end (all := l) h
  have h2 := formP_size h
  rw [endP_last (by omega) hx] at h1
  split at h1
  · simp at h1
  · omega
theorem nextX_in {l : List Ins} (h : formP l = 0) {i : Nat} {x : Ins} (hx : l[i]? = some x) {y : Int} (hy : y ∈ nextX i x) : 0 ≤ y ∧ y < l.length := by
  have hi := lt_of_get hx
  have hn : x.op ≠ 20 → x.op ≠ 16 → i + 1 < l.length := fun h20 h16 => by
    rcases Nat.lt_or_ge (i + 1) l.length with h1 | h1
    · exact h1
    · have : i = l.length - 1 := by omega
      have := formP_last h (this ▸ hx)
      omega
  have ht : goesP x → 0 ≤ tgt i x ∧ tgt i x ≤ (l.length : Int) - 1 := fun hg => formP_tgt h hx hg
  unfold nextX at hy
  split at hy
  · simp at hy
  · rename_i h20
    split at hy
    · rename_i h16
      simp at hy; have := ht (by unfold goesP; omega); omega
    · rename_i h16
      have := hn h20 h16
      split at hy
      · rename_i hj
        have := ht (by unfold goesP; omega)
        split at hy
        · simp at hy; omega
        · split at hy <;> (simp at hy; omega)
      · simp at hy; omega
theorem Step.rng {l : List Ins} (h : formP l = 0) {but x y : Int} (hs : Step l but x y) : 0 ≤ y ∧ y < l.length := by
  obtain ⟨i, h0, hi, hy, _⟩ := hs
  have := nextX_in h hi (y := y)
  rw [show ((x.toNat : Nat) : Int) = x by omega] at this
  exact this hy
theorem Pth.rng {l : List Ins} (h : formP l = 0) {but x y : Int} (hs : Pth l but x y) : 0 ≤ y ∧ y < l.length := by
  cases hs with
  | one h1 => exact h1.rng h
  | more _ h1 => exact h1.rng h
/-- What a spreading does to a set. -/
structure Spr (l : List Ins) (but a : Int) (S S' : List Int) : Prop where
  sub : ∀ x ∈ S, x ∈ S'
  sound : ∀ x ∈ S', x ∈ S ∨ Pth l but a x
  clos : ∀ x, (x = a ∨ (x ∈ S' ∧ x ∉ S)) → ∀ y, Step l but x y → y ∈ S'
theorem Spr.all {l : List Ins} {but a : Int} {S S' : List Int} (h : Spr l but a S S') (hS : ∀ x ∈ S, x = a) (x : Int) : x ∈ S' ↔ x ∈ S ∨ Pth l but a x := by
  refine ⟨h.sound x, ?_⟩
  rintro (hx | hx)
  · exact h.sub x hx
  · induction hx with
    | one h1 => exact h.clos a (.inl rfl) _ h1
    | more _ h2 ih =>
      rename_i z y _
      by_cases hz : z ∈ S
      · exact h.clos z (.inl (hS z hz)) _ h2
      · exact h.clos z (.inr ⟨ih, hz⟩) _ h2
theorem ins_all {p : Int → Prop} {y : Int} {S : List Int} (h : ∀ z ∈ S, p z) (hy : p y) : ∀ z ∈ ins y S, p z := fun z hz => by
  rcases mem_ins.1 hz with h1 | h1
  · subst h1; exact hy
  · exact h z h1
theorem SetM.cells {B : Nat} {w : World} {m : Option Nat} {S : List Int} (h : SetM B w m S) {b : Nat} (hb : m = some b) {o : Nat} {v : Value} (hc : w.cell? ⟨b, o, none⟩ = some v) : False := by
  obtain ⟨b', D, hb', _, ⟨es, clock, hh, _⟩, _⟩ := h
  rw [hb] at hb'
  simp only [Option.some.injEq] at hb'; subst hb'
  simp [World.cell?, hh] at hc
section
variable {α : Type} {k : Kd α} {w w' : World} {s : Sl} {xs : List α} {B : Nat} {m : Option Nat} {S : List Int}
theorem SlR.keptM (h : SlR k w s xs) (hm : SetM B w m S) (hg : w.grownBy w' m) (hp : 0 < k.ls.length) : SlR k w' s xs := by
  by_cases hne : xs = []
  · exact ⟨h.1, h.2.1, h.2.2.1, .inl hne⟩
  · refine h.kept2 hg fun b o hb e => ?_
    obtain ⟨x, hx⟩ := get_some (l := xs) (k := 0) (List.length_pos_iff.2 hne)
    obtain ⟨b', o', ha, hA⟩ := h.at hx
    rw [ha] at hb
    simp only [Option.some.injEq, Addr.mk.injEq, and_true] at hb
    have hl := k.cells_length x
    have := hA 0 _ (List.getElem?_eq_getElem (by omega))
    exact hm.cells (by rw [e, ← hb.1]) this
theorem WrS.keptM {t : TypeId} {B' : Nat} (h : WrS k t B' w s xs) (hm : SetM B w m S) (hg : w.grownBy w' m) : WrS k t B' w' s xs := by
  refine h.kept hg fun b hb e => ?_
  rcases h.2.2.2 with h0 | ⟨b', o, cur, ha, _, hh, _⟩
  · simp [Sl.bk, h0.1] at e
  · simp only [Sl.bk, ha, Option.map_some, Option.some.injEq] at e
    subst e
    obtain ⟨b2, D, hb', _, ⟨es, clock, hh', _⟩, _⟩ := hm
    rw [hb] at hb'
    simp only [Option.some.injEq] at hb'; subst hb'
    rw [hh] at hh'; simp at hh'
end
section
variable {w : World} {s : Sl} {l : List Ins}
/-- Op 0 leads here. -/
def Rch (l : List Ins) (x : Int) : Prop := x = 0 ∨ Pth l (-1) 0 x
theorem Rch.rng (hq : formP l = 0) {x : Int} (h : Rch l x) : 0 ≤ x ∧ x < l.length := by
  rcases h with rfl | h
  · have := (formP_size hq).1; omega
  · exact h.rng hq
open Classical in
noncomputable def flowReach (l : List Ins) : List Int := if formP l ≠ 0 then [] else picks l.length fun i => decide (Rch l i)
theorem flowReach_length (l : List Ins) : (flowReach l).length ≤ 48 := by
  unfold flowReach
  split
  · simp
  · rename_i h
    have h1 := formP_size (l := l) (Classical.not_not.1 h)
    exact Nat.le_trans (picks_le _ _) h1.2
/-- What spec.l12Reach marks. -/
def RchF (l : List Ins) (a but x : Int) : Prop := a ≠ but ∧ (x = a ∨ Pth l but a x)
end
end Go.Proofs.YtkkdboimkbcfnaaDoor.V

/- Contracts: FlowReach, FlowAhead, FlowRound on both sides. -/
namespace Go.Proofs.YtkkdboimkbcfnaaDoor.V
open Go Go.RowKit
set_option linter.unusedVariables false
set_option linter.unusedSimpArgs false
section
variable {w : World} {s : Sl} {l : List Ins}
/-- Each way to b goes over a. -/
def Ahead (l : List Ins) (a b : Int) : Prop := formP l = 0 ∧ Rch l a ∧ Rch l b ∧ (a = b ∨ a = 0 ∨ ¬ (b = 0 ∨ Pth l a 0 b))
open Classical in
noncomputable def flowRound (l : List Ins) : List Int := if formP l ≠ 0 then [] else picks l.length fun i => decide (Rch l i ∧ Pth l (-1) i i)
theorem flowRound_length (l : List Ins) : (flowRound l).length ≤ 48 := by
  unfold flowRound
  split
  · simp
  · rename_i h
    have h1 := formP_size (l := l) (Classical.not_not.1 h)
    exact Nat.le_trans (picks_le _ _) h1.2
theorem getElem_flowReach {k : Nat} {x : Int} (h : (flowReach l)[k]? = some x) : formP l = 0 ∧ Rch l x := by
  have := List.mem_of_getElem? h
  unfold flowReach at this
  split at this
  · simp at this
  · rename_i hq
    obtain ⟨i, rfl, _, hi⟩ := mem_picks.1 this
    exact ⟨Classical.not_not.1 hq, by simpa using hi⟩
end
end Go.Proofs.YtkkdboimkbcfnaaDoor.V

/- Contracts: texts of ops, as far as the draws ask: each comes to its end, and what it hands back is well formed. -/
namespace Go.Proofs.YtkkdboimkbcfnaaDoor.V
open Go Go.RowKit
set_option linter.unusedVariables false
set_option linter.unusedSimpArgs false
theorem sxAny {s : ByteArray} {i : Int} {w : World} {K : Int → World → Prop} (h0 : 0 ≤ i) (h1 : i < s.size) (hk : ∀ b : Int, 0 ≤ b → b ≤ 255 → K b w) : Sx s i w K := by
  have hi : i.toNat < s.size := by omega
  refine ⟨h0, s[i.toNat], by rw [getElem?_pos s i.toNat hi], hk _ (by omega) ?_⟩
  have := (s[i.toNat]).toNat_lt
  omega
theorem elS : El P0 68 9 kS 16 := ⟨by kernel_rfl, ⟨_, _, Option.eq_some_of_isSome (by kernel_rfl), Option.eq_some_of_isSome (by kernel_rfl), by kernel_rfl, by kernel_rfl, by kernel_rfl⟩, by decide, by intro l hl; simp [kS] at hl; simp [hl]⟩
theorem uStr : P0.underlying 9 = some .string := by kernel_rfl
/-- A string of one byte. -/
def b1 (x : Int) : ByteArray := strOfNums [x]
theorem b1_size (x : Int) : (b1 x).size = 1 := rfl
theorem conv1 {w : World} {b : Nat} {x : Int} {t : TypeId} {K : ByteArray → World → Prop} (h : w.heap[b]? = some (.cells #[.int .u8 x] t (0, 0))) (hk : K (b1 x) w) :
    RunT (.o (.lf .s)) P0 (convert 22 9 (.slice (some ⟨b, 0, none⟩) 1 1)) w K := by
  have hr := run_convert_bytes_arg (P := P0) w 22 5 (by kernel_rfl) (by kernel_rfl) b 0 1 1 [x] rfl (fun i hi => by
    obtain rfl : i = 0 := by omega
    rw [cell_of h]; rfl) 9 uStr
  exact ⟨_, w, hr, hk⟩
/-- A number's figures. -/
def decN (n : Nat) : ByteArray := if n < 10 then b1 (48 + (n : Int)) else decN (n / 10) ++ b1 (48 + ((n % 10 : Nat) : Int))
termination_by n
decreasing_by omega
theorem decN_size : ∀ (k n : Nat), n < 10 ^ (k + 1) → (decN n).size ≤ k + 1
  | 0, n, h => by rw [decN, if_pos (by simpa using h)]; rw [b1_size]; omega
  | k + 1, n, h => by
    rw [decN]
    split
    · rw [b1_size]; omega
    · rw [ByteArray.size_append, b1_size]
      have := decN_size k (n / 10) (by rw [Nat.pow_succ] at h; omega)
      omega
/-- A number as it is written. -/
def dec (n : Int) : ByteArray := if n < 0 then (⟨#[45]⟩ : ByteArray) ++ decN (-n).toNat else decN n.toNat
theorem dec_size {n : Int} (h : -1000000000000000000 < n ∧ n < 1000000000000000000) : (dec n).size ≤ 19 := by
  unfold dec
  split
  · rw [ByteArray.size_append]
    have := decN_size 17 (-n).toNat (by have : (10 : Nat) ^ (17 + 1) = 1000000000000000000 := by decide
                                        omega)
    show 1 + _ ≤ 19
    omega
  · have := decN_size 17 n.toNat (by have : (10 : Nat) ^ (17 + 1) = 1000000000000000000 := by decide
                                     omega)
    omega
theorem u8_of {x : Int} (h0 : 0 ≤ x) (h1 : x ≤ 255) : IntKind.wrap .u8 x = x := by
  rw [IntKind.wrap_u8]; omega
section
variable {w : World} {s : ByteArray}
theorem spec.l1Num.c {K : Int → World → Prop} (hs : s.size < 4611686018427387904) (hk : ∀ n, K n w) : CallT (.o (.lf (.i .i64))) P0 74 [.string s] w K := by
  refine spec.l1Num.ok ⟨fun n i w' => ∃ k : Nat, i = k ∧ k ≤ s.size ∧ w' = w, fun _ i _ => s.size - i.toNat, ⟨0, rfl, by omega, rfl⟩, ?_⟩
  rintro n i w1 ⟨k, rfl, hk1, rfl⟩ _
  refine And.intro (fun hlt => ?_) (fun hge => ?_)
  · simp only [decide_eq_true_eq] at hlt
    refine ⟨fun w' => w' = w1, ?_, ?_⟩
    · refine sxAny (by omega) (by omega) fun b hb0 hb1 => ?_
      refine And.intro (fun _ => hk _) (fun _ => ?_)
      refine sxAny (by omega) (by omega) fun b hb0 hb1 => ?_
      exact And.intro (fun _ => hk _) (fun _ => And.intro (fun _ => hk _) (fun _ => rfl))
    · rintro w2 rfl _
      refine sxAny (by omega) (by omega) fun b hb0 hb1 => ?_
      rw [i64_of (n := (k : Int) + 1) (by omega) (by omega)]
      exact ⟨⟨k + 1, by omega, by omega, rfl⟩, by simp only; omega⟩
  · refine And.intro (fun _ => hk _) (fun h0 => ?_)
    refine And.intro (fun h1 => ?_) (fun _ => hk _)
    simp only [decide_eq_true_eq] at h1
    refine sxAny (by omega) (by omega) fun b hb0 hb1 => ?_
    exact And.intro (fun _ => hk _) (fun _ => hk _)
theorem spec.l1Find.c {l : Sl} {xs : List ByteArray} {K : Int → World → Prop} (h : SlR kS w l xs) (hk : ∀ n, K n w) : CallT (.o (.lf (.i .i64))) P0 75 [l.v, .string s] w K := by
  have hn := h.len; have hm := h.max
  refine spec.l1Find.ok ⟨fun i w' => ∃ k : Nat, i = k ∧ k ≤ xs.length ∧ w' = w, fun i _ => xs.length - i.toNat, ⟨0, rfl, by omega, rfl⟩, ?_⟩
  rintro i w1 ⟨k, rfl, hk1, rfl⟩ _
  refine And.intro (fun hlt => ?_) (fun hge => hk _)
  simp only [decide_eq_true_eq] at hlt
  obtain ⟨x, hx⟩ := get_some (l := xs) (k := k) (by omega)
  refine ixL h (i := k) (by omega) (x := x) (by simpa using hx) rfl (l := .s) (v := x) rfl ?_
  refine And.intro (fun _ => hk _) (fun _ => ?_)
  rw [i64_of (n := (k : Int) + 1) (by omega) (by omega)]
  exact ⟨⟨k + 1, by omega, by omega, rfl⟩, by simp only; omega⟩
theorem spec.l1Words.c {K : Sl → World → Prop} (hk : ∀ r w' xs, Below w.heap.size w w' → SlR kS w' r xs → xs.length = 21 → (∀ y ∈ xs, y.size ≤ 8) → K r w') : CallT (.o (.lf .sl)) P0 64 [] w K := by
  refine spec.l1Words.ok (nw fun w1 hb hs hc => ?_)
  refine hk _ _ _ hb (OwnS.lit (k := kS) (B := 0) (xs := [_, _, _, _, _, _, _, _, _, _, _, _, _, _, _, _, _, _, _, _, _]) (Nat.zero_le _) hc rfl rfl (by simp [maxLen])).read rfl ?_
  decide
theorem spec.l1Calls.c {K : Sl → World → Prop} (hk : ∀ r w' xs, Below w.heap.size w w' → SlR kS w' r xs → xs.length = 7 → (∀ y ∈ xs, y.size ≤ 8) → K r w') : CallT (.o (.lf .sl)) P0 122 [] w K := by
  refine spec.l1Calls.ok (nw fun w1 hb hs hc => ?_)
  refine hk _ _ _ hb (OwnS.lit (k := kS) (B := 0) (xs := [_, _, _, _, _, _, _]) (Nat.zero_le _) hc rfl rfl (by simp [maxLen])).read rfl ?_
  decide
end
theorem spBelow (w : World) : SpOk (fun a b : World => Below a.heap.size a b) w := ⟨fun a => Below.refl _ _, fun a b c h1 h2 => h1.trans (h2.mono h1.size), Below.drew (Below.refl _ _)⟩
theorem keptT {Sp : World → World → Prop} {α : Type} {p : α → Prop} : Kept Sp (fun x _ => p x) := fun _ _ _ h _ => h
theorem gk {r : Rs} {Sp : World → World → Prop} {w1 : World} {G : r.T → World → Prop} {w' : World} (x : r.T) (h : Sp w1 w') (hG : G x w') : GK r Sp w1 G (r.emb x) w' := ⟨x, rfl, h, hG⟩
theorem spec.l1Dec.c' : ∀ (m : Nat) {n : Int} {w : World} {K : ByteArray → World → Prop}, n.toNat = m → 0 ≤ n → n ≤ 1000000000000000000 → (∀ w', Below w.heap.size w w' → K (decN m) w') → CallT (.o (.lf .s)) P0 63 [.int .i64 n] w K := by
  intro m
  induction m using Nat.strongRecOn with
  | _ m ih =>
    intro n w K hm h0 h1 hk
    refine spec.l1Dec.ok (And.intro (fun h => by simp only [decide_eq_true_eq] at h; omega) (fun _ => And.intro (fun h => by simp only [decide_eq_true_eq] at h; omega) (fun _ => And.intro (fun h => ?_) (fun h => ?_))))
    · simp only [decide_eq_true_eq] at h
      rw [i64_of (by omega) (by omega), u8_of (by omega) (by omega)]
      refine nw fun w1 hb hs hc => conv1 hc (kof (hk w1 hb) ?_)
      rw [decN, if_pos (by omega), show ((m : Nat) : Int) = n by omega]
    · simp only [decide_eq_false_iff_not] at h
      have hd : decN m = decN (m / 10) ++ b1 (48 + ((m % 10 : Nat) : Int)) := by rw [decN, if_neg (by omega)]
      have hsz := decN_size 19 (m / 10) (by have : (10 : Nat) ^ (19 + 1) = 100000000000000000000 := by decide
                                            omega)
      have hmod : 48 + Int.tmod n 10 = 48 + ((m % 10 : Nat) : Int) := by rw [Int.tmod_eq_emod_of_nonneg h0]; omega
      refine ⟨fun a b => Below a.heap.size a b, spBelow w, fun r _ => r = decN (m / 10), keptT, fun t w' => ∃ b, t = ⟨some ⟨b, 0, none⟩, 1, 1⟩ ∧ w'.heap[b]? = some (.cells #[.int .u8 (48 + ((m % 10 : Nat) : Int))] 5 (0, 0)), ?_, fun r _ => r = b1 (48 + ((m % 10 : Nat) : Int)), keptT, fun r _ => r = decN m, keptT, by decide, fun w1 hb1 => ?_, ?_⟩
      · rintro t a b ⟨bb, rfl, hh⟩ hab
        exact ⟨bb, rfl, (hab.block _ (Array.getElem?_eq_some_iff.1 hh).1).trans hh⟩
      · have hq : IntKind.wrap .i64 (Int.tdiv n 10) = n / 10 := by
          rw [Int.tdiv_eq_ediv_of_nonneg h0]; exact i64_of (by omega) (by omega)
        rw [hq]
        exact ih (m / 10) (by omega) (by omega) (by omega) (by omega) fun w' hb => ⟨_, rfl, hb, rfl⟩
      · intro t20
        refine ⟨by decide, fun w1 hb1 => ?_, ?_⟩
        · rw [hmod, i64_of (by omega) (by omega), u8_of (by omega) (by omega)]
          exact nw fun w2 hb hs hc => ⟨⟨some ⟨w1.heap.size, 0, none⟩, 1, 1⟩, rfl, hb, _, rfl, hc⟩
        · intro t25
          refine ⟨fun w1 hb1 hG => ?_, ?_⟩
          · obtain ⟨b, rfl, hc⟩ := hG
            exact conv1 hc ⟨_, rfl, Below.refl _ _, rfl⟩
          · intro t26
            refine ⟨fun w1 hb1 h20 h26 => ?_, ?_⟩
            · rw [h20, h26]
              refine ⟨?_, _, rfl, Below.refl _ _, hd.symm⟩
              have : IntKind.i64.max = 9223372036854775807 := rfl
              rw [b1_size]; omega
            · intro t27 w' hb' _ _ _ h27
              exact kof (hk _ hb') h27.symm
theorem spec.l1Dec.c {n : Int} {w : World} {K : ByteArray → World → Prop} (h : -1000000000000000000 < n ∧ n < 1000000000000000000) (hk : ∀ w', Below w.heap.size w w' → K (dec n) w') : CallT (.o (.lf .s)) P0 63 [.int .i64 n] w K := by
  rcases Int.lt_or_le n 0 with h0 | h0
  · have hsz := decN_size 17 (-n).toNat (by have : (10 : Nat) ^ (17 + 1) = 1000000000000000000 := by decide
                                            omega)
    refine spec.l1Dec.ok (And.intro (fun h => by simp only [decide_eq_true_eq] at h; omega) (fun _ => And.intro (fun _ => ?_) (fun h => by simp only [decide_eq_false_iff_not] at h; omega)))
    rw [i64_of (by omega) (by omega)]
    refine spec.l1Dec.c' _ rfl (by omega) (by omega) fun w1 hb => ⟨?_, kof (hk w1 hb) ?_⟩
    · have : IntKind.i64.max = 9223372036854775807 := rfl
      rw [show (0 - n).toNat = (-n).toNat by omega]
      show ((1 + _ : Nat) : Int) ≤ _
      omega
    · unfold dec; rw [if_pos h0, show (0 - n).toNat = (-n).toNat by omega]
  · exact spec.l1Dec.c' _ rfl h0 (by omega) fun w1 hb => kof (hk w1 hb) (by unfold dec; rw [if_neg (by omega)])
theorem imax : IntKind.i64.max = 9223372036854775807 := rfl
/-- A register, or a number, as it is written. -/
def regS (src imm : Int) : ByteArray := if 0 ≤ src then (⟨#[114]⟩ : ByteArray) ++ dec src else dec imm
theorem regS_size {src imm : Int} (h1 : -1 ≤ src ∧ src ≤ 1000) (h2 : 0 ≤ imm ∧ imm ≤ 4294967295) : (regS src imm).size ≤ 20 := by
  unfold regS
  split
  · rw [ByteArray.size_append]
    have := dec_size (n := src) (by omega)
    show 1 + _ ≤ 20
    omega
  · have := dec_size (n := imm) (by omega); omega
theorem spec.l1Reg.c {src imm : Int} {w : World} {K : ByteArray → World → Prop} (h1 : -1 ≤ src ∧ src ≤ 1000) (h2 : 0 ≤ imm ∧ imm ≤ 4294967295) (hk : ∀ w', Below w.heap.size w w' → K (regS src imm) w') : CallT (.o (.lf .s)) P0 121 [.int .i64 src, .int .i64 imm] w K := by
  refine spec.l1Reg.ok (And.intro (fun h => ?_) (fun h => ?_))
  · simp only [decide_eq_true_eq] at h
    have := dec_size (n := src) (by omega)
    refine spec.l1Dec.c (by omega) fun w1 hb => ⟨?_, kof (hk w1 hb) (by unfold regS; rw [if_pos (by omega)])⟩
    rw [imax]; show ((1 + _ : Nat) : Int) ≤ _; omega
  · simp only [decide_eq_false_iff_not] at h
    exact spec.l1Dec.c (by omega) fun w1 hb => kof (hk w1 hb) (by unfold regS; rw [if_neg (by omega)])
theorem szS (a b : ByteArray) (n : Nat) (h : a.size + b.size ≤ n) (hn : n ≤ 1000) : ((a.size + b.size : Nat) : Int) ≤ IntKind.i64.max := by rw [imax]; omega
set_option maxHeartbeats 2000000 in
theorem spec.l1Line.c {x : Ins} {w : World} {K : ByteArray → World → Prop} (hp : InsP x) (hk : ∀ r w', Below w.heap.size w w' → K r w') : CallT (.o (.lf .s)) P0 99 [.agg (Tup.cells (R 6 (.i .i64)) x.t).toArray] w K := by
  have hop : 1 ≤ x.op ∧ x.op ≤ 20 := by have := hp.2.2.2.2; grind [BareP, szP]
  have hdst := hp.1
  have hsrc := hp.2.1
  have hoff := hp.2.2.1
  have himm := hp.2.2.2.1
  have hsize : (x.op = 17 ∨ x.op = 18) → 0 ≤ x.size ∧ x.size ≤ 4 := by have := hp.2.2.2.2; grind [BareP, szP]
  have hcall : x.op = 19 → 1 ≤ x.imm ∧ x.imm ≤ 6 := by have := hp.2.2.2.2; grind [BareP, szP]
  refine spec.l1Line.ok (nwIns fun w1 hb1 hs1 hc1 => ?_)
  have at1 : ∀ {w' : World}, Below w1.heap.size w1 w' → w'.heap[w.heap.size]? = some (.cells x.cs 44 (0, 0)) := fun hb => (hb.block _ (by omega)).trans hc1
  refine ⟨fun a b => Below a.heap.size a b, spBelow w1, fun r w' => ∃ xs, SlR kS w' r xs ∧ xs.length = 21 ∧ ∀ y ∈ xs, y.size ≤ 8, ?_, fun v _ => v = x.op, keptT, fun a w' => ∃ y : ByteArray, w'.cell? a = some (.string y) ∧ y.size ≤ 8, ?_, fun y _ => y.size ≤ 8, keptT, fun w2 hb2 => ?_, fun t5 => ⟨fun w2 hb2 => ?_, fun t7 => ⟨fun w2 hb2 h5 h7 => ?_, fun t8 => ⟨fun w2 hb2 h8 => ?_, fun t9 w2 hb2 _ _ _ h9 => ?_⟩⟩⟩⟩
  · rintro r a b ⟨xs, h, hr⟩ hab; exact ⟨xs, h.below hab, hr⟩
  · rintro r a b ⟨y, h, hr⟩ hab; exact ⟨y, by rw [hab.cell (World.block_lt_of_cell? a _ h)]; exact h, hr⟩
  · exact spec.l1Words.c fun r w3 xs hb3 hr hl hy => ⟨r, rfl, hb3, xs, hr, hl, hy⟩
  · exact ldB (at1 hb2) (x := x.op) rfl ⟨x.op, rfl, Below.refl _ _, rfl⟩
  · obtain ⟨xs, hr, hl, hy⟩ := h5
    subst h7
    obtain ⟨y, hyx⟩ := get_some (l := xs) (k := x.op.toNat) (by omega)
    refine ixR hr (by omega) hyx rfl fun b o hA => ⟨⟨b, o, none⟩, rfl, Below.refl _ _, y, ?_, hy y (List.mem_of_getElem? hyx)⟩
    exact hA 0 (.string y) rfl
  · obtain ⟨y, hc, hy⟩ := h8
    exact ⟨y, hc, y, rfl, Below.refl _ _, hy⟩
  · have bb2 : Below w.heap.size w w2 := hb1.trans (hb2.mono hb1.size)
    have hs12 := hb2.size
    have ddst := dec_size (n := x.dst) (by omega)
    have dsrc := dec_size (n := x.src) (by omega)
    have doff := dec_size (n := x.off) (by omega)
    have dimm := dec_size (n := x.imm) (by omega)
    have dreg := regS_size (src := x.src) (imm := x.imm) (by omega) himm
    have kk : ∀ {w' : World} (r : ByteArray), Below w2.heap.size w2 w' → K r w' := fun r hb => hk _ _ (bb2.trans (hb.mono bb2.size))
    have c2 : ∀ {w' : World}, Below w2.heap.size w2 w' → w'.heap[w.heap.size]? = some (.cells x.cs 44 (0, 0)) := fun hb => at1 (hb2.trans (hb.mono hb2.size))
    have s1 : (⟨#[32]⟩ : ByteArray).size = 1 := rfl
    have s2 : (⟨#[32, 114]⟩ : ByteArray).size = 2 := rfl
    have qdec : ∀ (n : Int) {C : World → Prop} {K : ByteArray → Prop}, (-1000000000000000000 < n ∧ n < 1000000000000000000) → (∀ w4 w5, C w4 → Below w4.heap.size w4 w5 → C w5) → K (dec n) → QCl (.o (.lf .s)) P0 63 [.int .i64 n] C K :=
      fun n C K hn hC hK => qcl _ (fun w4 hb4 => spec.l1Dec.c hn fun w5 hb5 => ⟨rfl, hC _ _ hb4 hb5⟩) hK
    have qreg : ∀ {C : World → Prop} {K : ByteArray → Prop}, (∀ w4 w5, C w4 → Below w4.heap.size w4 w5 → C w5) → K (regS x.src x.imm) → QCl (.o (.lf .s)) P0 121 [.int .i64 x.src, .int .i64 x.imm] C K :=
      fun {C K} hC hK => qcl _ (fun w4 hb4 => spec.l1Reg.c (by omega) himm fun w5 hb5 => ⟨rfl, hC _ _ hb4 hb5⟩) hK
    have cl : ∀ {w3 : World} (w4 w5 : World), Below w3.heap.size w3 w4 → Below w4.heap.size w4 w5 → Below w3.heap.size w3 w5 := fun w4 w5 h1 h2 => h1.trans (h2.mono h1.size)
    refine ldB (c2 (Below.refl _ _)) (x := x.dst) rfl ?_
    refine spec.l1Dec.c (by omega) fun w3 hb3 => ⟨szS _ _ 30 (by rw [s2]; omega) (by omega), ?_⟩
    refine ldB (c2 hb3) (x := x.op) rfl (spec.l1Alu.c ?_)
    refine And.intro (fun _ => ?_) (fun _ => ?_)
    · refine ⟨szS _ _ 50 (by (try simp only [ByteArray.size_append, s1, s2]); omega) (by omega), szS _ _ 60 (by (try simp only [ByteArray.size_append, s1, s2]); omega) (by omega), ?_⟩
      refine ldB (c2 hb3) (x := x.src) rfl (ldB (c2 hb3) (x := x.imm) rfl ?_)
      refine spec.l1Reg.c (by omega) himm fun w4 hb4 => ⟨szS _ _ 100 (by (try simp only [ByteArray.size_append, s1, s2]); omega) (by omega), kk _ (hb3.trans (hb4.mono hb3.size))⟩
    · refine ldB (c2 hb3) (x := x.op) rfl (spec.l1Jump.c ?_)
      refine And.intro (fun _ => ?_) (fun _ => ?_)
      · refine ⟨szS _ _ 50 (by (try simp only [ByteArray.size_append, s1, s2]); omega) (by omega), szS _ _ 60 (by (try simp only [ByteArray.size_append, s1, s2]); omega) (by omega), ?_⟩
        refine qldB (c2 hb3) (x := x.src) rfl ?_
        refine qldB (c2 hb3) (x := x.imm) rfl ?_
        refine qreg cl ?_
        refine ⟨szS _ _ 100 (by (try simp only [ByteArray.size_append, s1, s2]); omega) (by omega), szS _ _ 100 (by (try simp only [ByteArray.size_append, s1, s2]); omega) (by omega), ?_⟩
        refine qldB (c2 hb3) (x := x.off) rfl ?_
        refine qdec x.off (by omega) cl ⟨szS _ _ 200 (by (try simp only [ByteArray.size_append, s1, s2]); omega) (by omega), fun w4 hb4 => kk _ (hb3.trans (hb4.mono hb3.size))⟩
      · refine ldB (c2 hb3) (x := x.op) rfl ?_
        refine And.intro (fun _ => ?_) (fun _ => ?_)
        · refine ⟨szS _ _ 50 (by (try simp only [ByteArray.size_append, s1, s2]); omega) (by omega), ldB (c2 hb3) (x := x.off) rfl ?_⟩
          exact spec.l1Dec.c (by omega) fun w4 hb4 => ⟨szS _ _ 100 (by (try simp only [ByteArray.size_append, s1, s2]); omega) (by omega), kk _ (hb3.trans (hb4.mono hb3.size))⟩
        · refine ldB (c2 hb3) (x := x.op) rfl ?_
          refine And.intro (fun h17 => ?_) (fun _ => ?_)
          · simp only [beq_iff_eq] at h17
            have hz := hsize (.inl h17)
            have dsz := dec_size (n := x.size) (by omega)
            refine qldB (c2 hb3) (x := x.size) rfl ?_
            refine qdec x.size (by omega) cl ?_
            refine ⟨szS _ _ 50 (by (try simp only [ByteArray.size_append, s1, s2]); omega) (by omega), szS _ _ 100 (by (try simp only [ByteArray.size_append, s1, s2]); omega) (by omega), szS _ _ 100 (by (try simp only [ByteArray.size_append, s1, s2]); omega) (by omega), ?_⟩
            refine qldB (c2 hb3) (x := x.src) rfl ?_
            refine qdec x.src (by omega) cl ?_
            refine ⟨szS _ _ 200 (by (try simp only [ByteArray.size_append, s1, s2]); omega) (by omega), szS _ _ 200 (by (try simp only [ByteArray.size_append, s1, s2]); omega) (by omega), ?_⟩
            refine qldB (c2 hb3) (x := x.off) rfl ?_
            refine qdec x.off (by omega) cl ⟨szS _ _ 200 (by (try simp only [ByteArray.size_append, s1, s2]); omega) (by omega), fun w4 hb4 => kk _ (hb3.trans (hb4.mono hb3.size))⟩
          · refine ldB (c2 hb3) (x := x.op) rfl ?_
            refine And.intro (fun h18 => ?_) (fun _ => ?_)
            · simp only [beq_iff_eq] at h18
              have hz := hsize (.inr h18)
              have dsz := dec_size (n := x.size) (by omega)
              refine qldB (c2 hb3) (x := x.size) rfl ?_
              refine qdec x.size (by omega) cl ?_
              refine ⟨szS _ _ 50 (by (try simp only [ByteArray.size_append, s1, s2]); omega) (by omega), szS _ _ 100 (by (try simp only [ByteArray.size_append, s1, s2]); omega) (by omega), szS _ _ 100 (by (try simp only [ByteArray.size_append, s1, s2]); omega) (by omega), ?_⟩
              refine qldB (c2 hb3) (x := x.off) rfl ?_
              refine qdec x.off (by omega) cl ?_
              refine ⟨szS _ _ 200 (by (try simp only [ByteArray.size_append, s1, s2]); omega) (by omega), szS _ _ 200 (by (try simp only [ByteArray.size_append, s1, s2]); omega) (by omega), ?_⟩
              refine qldB (c2 hb3) (x := x.src) rfl ?_
              refine qldB (c2 hb3) (x := x.imm) rfl ?_
              refine qreg cl ⟨szS _ _ 200 (by (try simp only [ByteArray.size_append, s1, s2]); omega) (by omega), fun w4 hb4 => kk _ (hb3.trans (hb4.mono hb3.size))⟩
            · refine ldB (c2 hb3) (x := x.op) rfl ?_
              refine And.intro (fun h19 => ?_) (fun _ => kk _ hb3)
              simp only [beq_iff_eq] at h19
              have hci := hcall h19
              refine ⟨fun a b => Below a.heap.size a b, spBelow w3, fun r _ => r.size ≤ 20, keptT, fun r w' => ∃ xs, SlR kS w' r xs ∧ xs.length = 7 ∧ ∀ y ∈ xs, y.size ≤ 8, ?_, fun v _ => v = x.imm, keptT, fun a w' => ∃ y : ByteArray, w'.cell? a = some (.string y) ∧ y.size ≤ 8, ?_, fun y _ => y.size ≤ 8, keptT, fun y _ => True, keptT,
                fun w4 hb4 => ⟨szS _ _ 50 (by simp only [s1]; omega) (by omega), _, rfl, Below.refl _ _, by simp only [ByteArray.size_append, s1]; omega⟩, fun t106 => ⟨fun w4 hb4 => ?_, fun t107 => ⟨fun w4 hb4 => ?_, fun t109 => ⟨fun w4 hb4 h107 h109 => ?_, fun t110 => ⟨fun w4 hb4 h110 => ?_, fun t111 => ⟨fun w4 hb4 h106 h111 => ?_, fun t112 w4 hb4 _ _ _ _ _ _ => kk _ (hb3.trans (hb4.mono hb3.size))⟩⟩⟩⟩⟩⟩
              · rintro r a b ⟨xs, h, hr⟩ hab; exact ⟨xs, h.below hab, hr⟩
              · rintro r a b ⟨y, h, hr⟩ hab; exact ⟨y, by rw [hab.cell (World.block_lt_of_cell? a _ h)]; exact h, hr⟩
              · exact spec.l1Calls.c fun r w5 xs hb5 hr hl hy => ⟨r, rfl, hb5, xs, hr, hl, hy⟩
              · exact ldB (c2 (hb3.trans (hb4.mono hb3.size))) (x := x.imm) rfl ⟨x.imm, rfl, Below.refl _ _, rfl⟩
              · obtain ⟨xs, hr, hl, hy⟩ := h107
                subst h109
                obtain ⟨y, hyx⟩ := get_some (l := xs) (k := x.imm.toNat) (by omega)
                refine ixR hr (by omega) hyx rfl fun b o hA => ⟨⟨b, o, none⟩, rfl, Below.refl _ _, y, ?_, hy y (List.mem_of_getElem? hyx)⟩
                exact hA 0 (.string y) rfl
              · obtain ⟨y, hc, hy⟩ := h110
                exact ⟨y, hc, y, rfl, Below.refl _ _, hy⟩
              · exact ⟨szS _ _ 50 (by omega) (by omega), _, rfl, Below.refl _ _, trivial⟩
end Go.Proofs.YtkkdboimkbcfnaaDoor.V

/- Contracts: how lines of ops are read, as far as the draws ask. -/
namespace Go.Proofs.YtkkdboimkbcfnaaDoor.V
open Go Go.RowKit
set_option linter.unusedVariables false
set_option linter.unusedSimpArgs false
section
variable {w : World} {s : ByteArray}
/-- A part of a text. -/
theorem sub {lo hi : Option Int} {a b : Int} (hlo : a = lo.getD 0) (hhi : b = hi.getD (s.size : Int)) (h0 : 0 ≤ a) (h1 : a ≤ b) (h2 : b ≤ s.size) (h3 : s.size < 4611686018427387904) {K : ByteArray → World → Prop} (hk : ∀ r : ByteArray, (r.size : Int) = b - a → K r w) :
    RunT (.o (.lf .s)) P0 (Instr.sliceAt 9 (.string s) (lo.map (.int .i64)) (hi.map (.int .i64)) none) w K := by
  have hu := uStr
  have hs : ∀ i j : Nat, i ≤ j → j ≤ s.size → (s.extract i j).size = j - i := fun i j h1 h2 => by rw [ByteArray.size_extract]; omega
  cases lo with
  | none =>
    cases hi with
    | none =>
      simp only [Option.getD_none] at hlo hhi
      refine ⟨s, w, ?_, hk s (by omega)⟩
      simp [Instr.sliceAt, Instr.slice, underlying, hu, Instr.sliceBounds, Instr.sliceBound, asIntOf]
      rfl
    | some h =>
      simp only [Option.getD_none, Option.getD_some] at hlo hhi
      subst hlo hhi
      refine ⟨s.extract 0 b.toNat, w, ?_, hk _ (by rw [hs _ _ (by omega) (by omega)]; omega)⟩
      simp [Instr.sliceAt, Instr.slice, underlying, hu, Instr.sliceBounds, Instr.sliceBound, asIntOf, h1, h2]
      rfl
  | some l =>
    cases hi with
    | none =>
      simp only [Option.getD_none, Option.getD_some] at hlo hhi
      subst hlo hhi
      refine ⟨s.extract a.toNat s.size, w, ?_, hk _ (by rw [hs _ _ (by omega) (by omega)]; omega)⟩
      simp [Instr.sliceAt, Instr.slice, underlying, hu, Instr.sliceBounds, Instr.sliceBound, asIntOf, h0, h1]
      rfl
    | some h =>
      simp only [Option.getD_some] at hlo hhi
      subst hlo hhi
      refine ⟨s.extract a.toNat b.toNat, w, ?_, hk _ (by rw [hs _ _ (by omega) (by omega)]; omega)⟩
      have hb0 : 0 ≤ b := by omega
      have hmx : a ≤ max b 0 := by omega
      simp [Instr.sliceAt, Instr.slice, underlying, hu, Instr.sliceBounds, Instr.sliceBound, asIntOf, h0, h1, h2, hb0, hmx]
      rfl
theorem spec.l1Signed.c {K : Int → World → Prop} (hs : s.size < 4611686018427387904) (hk : ∀ n, K n w) : CallT (.o (.lf (.i .i64))) P0 167 [.string s] w K := by
  refine spec.l1Signed.ok (And.intro (fun h => ?_) (fun _ => spec.l1Num.c hs fun n => And.intro (fun _ => hk _) (fun _ => hk _)))
  simp only [decide_eq_true_eq] at h
  refine sxAny (by omega) (by omega) fun b _ _ => ?_
  refine And.intro (fun _ => ?_) (fun _ => spec.l1Num.c hs fun n => And.intro (fun _ => hk _) (fun _ => hk _))
  refine sub (lo := some 1) (hi := none) (a := 1) (b := s.size) rfl rfl (by omega) (by omega) (by omega) hs fun r hr => ?_
  exact spec.l1Num.c (by omega) fun n => And.intro (fun _ => hk _) (fun _ => hk _)
theorem spec.l1ReadReg.c {K : (Int × Int × Unit) → World → Prop} (hs : s.size < 4611686018427387904) (hk : ∀ n, K n w) : CallT (.n [(.lf (.i .i64)), (.lf (.i .i64))]) P0 166 [.string s] w K := by
  refine spec.l1ReadReg.ok (And.intro (fun h => ?_) (fun _ => spec.l1Num.c hs fun n => hk _))
  simp only [decide_eq_true_eq] at h
  refine sxAny (by omega) (by omega) fun b _ _ => ?_
  refine And.intro (fun _ => ?_) (fun _ => spec.l1Num.c hs fun n => hk _)
  refine sub (lo := some 1) (hi := none) (a := 1) (b := s.size) rfl rfl (by omega) (by omega) (by omega) hs fun r hr => ?_
  exact spec.l1Num.c (by omega) fun n => And.intro (fun _ => hk _) (fun _ => hk _)
theorem spec.l1Cut.c {b most : Int} {K : Sl → World → Prop} (hs : s.size < 4611686018427387904) (hm : 0 ≤ most ∧ most ≤ 1000) (hk : ∀ r w' xs, Below w.heap.size w w' → SlR kS w' r xs → 1 ≤ xs.length → (∀ y ∈ xs, y.size ≤ s.size) → K r w') :
    CallT (.o (.lf .sl)) P0 40 [.string s, .int .u8 b, .int .i64 most] w K := by
  refine spec.l1Cut.ok (nw fun w0 hb0 hs0 hc0 => ?_)
  have ho0 : OwnS kS 9 w.heap.size w0 ⟨some ⟨w.heap.size, 0, none⟩, 0, 0⟩ [] := OwnS.lit (Nat.le_refl _) hc0 rfl rfl (by simp)
  refine ⟨fun out fr i w' => ∃ (k f : Nat) (xs : List ByteArray), i = k ∧ fr = f ∧ f ≤ k ∧ k ≤ s.size ∧ OwnS kS 9 w.heap.size w' out xs ∧ (∀ y ∈ xs, y.size ≤ s.size) ∧ (xs.length : Int) ≤ most ∧ Below w.heap.size w w', fun _ _ i _ => s.size - i.toNat,
    ⟨0, 0, [], rfl, rfl, by omega, by omega, ho0, by simp, by simpa using hm.1, hb0⟩, ?_⟩
  rintro out fr i w1 ⟨k, f, xs, rfl, rfl, hfk, hks, ho, hy, hl, hb1⟩ _
  have hn := ho.len
  have last : RunT (.o (.lf .s)) P0 (Instr.sliceAt 9 (.string s) (some (.int .i64 (f : Int))) none none) w1 fun (t40 : ByteArray) w2 =>
      Nw #[(.string t40)] 9 w2 fun a w3 => RunT (.o (.lf .sl)) P0 (Builtin.append_ #[68, 68] 68 #[out.v, (.slice (some a) 1 1)]) w3 fun (t42 : Sl) w4 => K t42 w4 := by
    refine sub (lo := some (f : Int)) (hi := none) (a := f) (b := s.size) rfl rfl (by omega) (by omega) (by omega) hs fun r hr => ?_
    refine ap1 elS ho r rfl (by omega) (by omega) hb1.size fun o' w' ho' hg' _ => ?_
    refine hk o' w' _ (hb1.grown hg' hb1.size (fun b hb => (ho.blk hb).1)) ho'.read (by simp) (fun y hyy => ?_)
    rcases List.mem_append.1 hyy with h | h
    · exact hy y h
    · simp at h; subst h; omega
  refine ⟨fun w' => w' = w1 ∧ k < s.size ∧ (xs.length : Int) < most, ?_, ?_⟩
  · refine And.intro (fun h1 => And.intro (fun h2 => ?_) (fun _ => last)) (fun _ => last)
    simp only [decide_eq_true_eq] at h1 h2
    exact ⟨rfl, by omega, by omega⟩
  · rintro w2 ⟨rfl, hlt, hlm⟩ _
    refine sxAny (by omega) (by omega) fun c _ _ => ?_
    rw [i64_of (n := (k : Int) + 1) (by omega) (by omega)]
    refine And.intro (fun _ => ?_) (fun _ => ?_)
    · refine sub (lo := some (f : Int)) (hi := some (k : Int)) (a := f) (b := k) rfl rfl (by omega) (by omega) (by omega) hs fun r hr => ?_
      refine ap1 elS ho r rfl (by omega) (by omega) hb1.size fun o' w' ho' hg' _ => ?_
      refine ⟨⟨k + 1, k + 1, _, by omega, by omega, by omega, by omega, ho', fun y hyy => ?_, by simp; omega, hb1.grown hg' hb1.size (fun b hb => (ho.blk hb).1)⟩, by simp only; omega⟩
      rcases List.mem_append.1 hyy with h | h
      · exact hy y h
      · simp at h; subst h; omega
    · exact ⟨⟨k + 1, f, xs, by omega, rfl, by omega, by omega, ho, hy, hl, hb1⟩, by simp only; omega⟩
end
end Go.Proofs.YtkkdboimkbcfnaaDoor.V

/- Contracts: how a line of an op is read, as far as the draws ask. -/
namespace Go.Proofs.YtkkdboimkbcfnaaDoor.V
open Go Go.RowKit
set_option linter.unusedVariables false
set_option linter.unusedSimpArgs false
/-- An op lies in a block. -/
def InsAt (b : Nat) (w : World) : Prop := ∃ y : Ins, w.heap[b]? = some (.cells y.cs 44 (0, 0))
theorem stIns {b : Nat} {w : World} (h : InsAt b w) {j : Nat} (hj : j < 6) (n : Int) {K : World → Prop} (hk : ∀ w', w.grownBy w' (some b) → w'.heap.size = w.heap.size → InsAt b w' → K w') : St (Addr.add ⟨b, 0, none⟩ j) (.int .i64 n) w K := by
  obtain ⟨y, hy⟩ := h
  refine stB hy rfl (by simp [Ins.cs]; omega) fun w' hg hs hc => hk w' hg hs ?_
  match j, hj with
  | 0, _ => exact ⟨{ y with op := n }, hc⟩
  | 1, _ => exact ⟨{ y with dst := n }, hc⟩
  | 2, _ => exact ⟨{ y with src := n }, hc⟩
  | 3, _ => exact ⟨{ y with off := n }, hc⟩
  | 4, _ => exact ⟨{ y with imm := n }, hc⟩
  | 5, _ => exact ⟨{ y with size := n }, hc⟩
theorem loop_len (s : ByteArray) : ∀ (m i : Nat) (r : List UInt8), s.size - i = m → i ≤ s.size → (ByteArray.toList.loop s i r).length = r.length + (s.size - i)
  | 0, i, r, hm, hi => by rw [ByteArray.toList.loop, if_neg (by omega)]; simp; omega
  | m + 1, i, r, hm, hi => by rw [ByteArray.toList.loop, if_pos (by omega), loop_len s m (i + 1) _ (by omega) (by omega)]; simp only [List.length_cons]; omega
theorem list_len (s : ByteArray) : s.toList.length = s.size := by have := loop_len s s.size 0 [] (by omega) (by omega); simpa [ByteArray.toList] using this
/-- The state of the read: the op's block, and the block of the result. -/
def Z1 (w : World) (bx : Nat) (w' : World) : Prop := Below w.heap.size w w' ∧ InsAt bx w' ∧ w'.heap[w.heap.size]? = some (.cells (zc P0 44) 44 (0, 0)) ∧ w.heap.size < bx
section
variable {w w' : World} {bx : Nat}
theorem Z1.below (h : Z1 w bx w') {w2 : World} (hb : Below w'.heap.size w' w2) : Z1 w bx w2 := by
  obtain ⟨h1, ⟨y, hy⟩, h3, h4⟩ := h
  exact ⟨h1.trans (hb.mono h1.size), ⟨y, (hb.block _ (Array.getElem?_eq_some_iff.1 hy).1).trans hy⟩, (hb.block _ (Array.getElem?_eq_some_iff.1 h3).1).trans h3, h4⟩
theorem Z1.st (h : Z1 w bx w') {j : Nat} (hj : j < 6) (n : Int) {K : World → Prop} (hk : ∀ w2, Z1 w bx w2 → K w2) : St (Addr.add ⟨bx, 0, none⟩ j) (.int .i64 n) w' K := by
  refine stIns h.2.1 hj n fun w2 hg hs hi => hk w2 ⟨h.1.grown hg h.1.size (fun b hb => by simp only [Option.some.injEq] at hb; have := h.2.2.2; omega), hi, ?_, h.2.2.2⟩
  exact (hg.block _ (Array.getElem?_eq_some_iff.1 h.2.2.1).1 (by simp only [ne_eq, Option.some.injEq]; have := h.2.2.2; omega)).trans h.2.2.1
theorem Z1.ld (h : Z1 w bx w') {j : Nat} (hj : j < 6) {K : Int → World → Prop} (hk : ∀ n, K n w') : Ld (.i .i64) (Addr.add ⟨bx, 0, none⟩ j) w' K := by
  obtain ⟨h1, ⟨y, hy⟩, h3, h4⟩ := h
  match j, hj with
  | 0, _ => exact ldB hy (x := y.op) rfl (hk _)
  | 1, _ => exact ldB hy (x := y.dst) rfl (hk _)
  | 2, _ => exact ldB hy (x := y.src) rfl (hk _)
  | 3, _ => exact ldB hy (x := y.off) rfl (hk _)
  | 4, _ => exact ldB hy (x := y.imm) rfl (hk _)
  | 5, _ => exact ldB hy (x := y.size) rfl (hk _)
end
def insOf (t : Tup (R 6 (.i .i64))) : Ins := ⟨t.1, t.2.1, t.2.2.1, t.2.2.2.1, t.2.2.2.2.1, t.2.2.2.2.2.1⟩
theorem stA6 {b : Nat} {w : World} {cs : Array Value} (h : w.heap[b]? = some (.cells cs 44 (0, 0))) (hs : cs.toList.length = 6) (y : Ins) {K : World → Prop} (hk : ∀ w', w.grownBy w' (some b) → w'.heap.size = w.heap.size → w'.heap[b]? = some (.cells y.cs 44 (0, 0)) → K w') :
    StA P0 ⟨b, 0, none⟩ (Tup.cells (R 6 (.i .i64)) y.t) w K := by
  obtain ⟨w', hr, hg, hsz, hh⟩ := run_storeCells_at' P0 (b := b) (t := 44) (Tup.cells (R 6 (.i .i64)) y.t) 0 [] cs.toList w (oneCell_cells kIns (by intro l hl; simp [kIns] at hl; simp [hl]) y) rfl hs (by simpa using h)
  exact ⟨w', hr, hk w' hg hsz hh⟩
theorem insOf_t (t : Tup (R 6 (.i .i64))) : (insOf t).t = t := rfl
set_option maxHeartbeats 4000000 in
theorem spec.l1Read.c {s : Sl} {xs : List ByteArray} {w : World} {K : Tup (R 6 (.i .i64)) → World → Prop} (h : SlR kS w s xs) (hl : 1 ≤ xs.length) (hsz : ∀ y ∈ xs, y.size < 1099511627776) (hk : ∀ (x : Ins) w', Below w.heap.size w w' → K x.t w') :
    CallT (.o (.ag (R 6 (.i .i64)))) P0 154 [s.v] w K := by
  have hn := h.len; have hmax := h.max
  refine spec.l1Read.ok (nw fun w1 hb1 hs1 hc1 => ?_)
  have word : ∀ {w' : World} (i : Nat), Below w.heap.size w w' → i < xs.length → ∃ y, xs[i]? = some y ∧ y.size < 1099511627776 ∧ SlR kS w' s xs := fun i hb hi => by
    obtain ⟨y, hy⟩ := get_some (l := xs) (k := i) hi
    exact ⟨y, hy, hsz y (List.mem_of_getElem? hy), h.below hb⟩
  obtain ⟨y0, hy0, hz0, _⟩ := word 0 (Below.refl _ _) (by omega)
  have aty : ∀ (y : ByteArray), Kept (fun a b : World => Below a.heap.size a b) (fun (a : Addr) w' => w'.cell? a = some (.string y)) := fun y x a b h hab => by
    have h : a.cell? x = some (.string y) := h
    show b.cell? x = some (.string y)
    rw [Below.cell hab (World.block_lt_of_cell? a _ h)]; exact h
  have rows : ∀ n : Nat, Kept (fun a b : World => Below a.heap.size a b) (fun (r : Sl) w' => ∃ xs, SlR kS w' r xs) := fun n r a b ⟨xs, h⟩ hab => ⟨xs, h.below hab⟩
  have ix : ∀ {w' : World} (i : Nat) {y : ByteArray} {Kx : Addr → World → Prop}, Below w.heap.size w w' → xs[i]? = some y → (∀ a, w'.cell? a = some (.string y) → Kx a w') → Ix s.a s.n (i : Int) 1 w' Kx := fun i y Kx hb hy hK =>
    ixR (h.below hb) (i := i) (by omega) (x := y) (by simpa using hy) rfl fun b o hA => hK _ (hA 0 (.string y) rfl)
  have zlen : (zc P0 44).size = 6 := by have := zIns; simpa using this
  refine ⟨fun a b => Below a.heap.size a b, spBelow w1, fun r w' => ∃ xs, SlR kS w' r xs, rows 0, fun a w' => w'.cell? a = some (.string y0), aty y0, fun v _ => v = y0, keptT, fun _ _ => True, keptT, fun _ _ => True, keptT, fun a w' => ∃ bx, a = ⟨bx, 0, none⟩ ∧ w.heap.size < bx ∧ w'.heap[bx]? = some (.cells (zc P0 44) 44 (0, 0)), ?_,
    fun w2 hb2 => ?_, fun t18 => ⟨fun w2 hb2 => ?_, fun t20 => ⟨fun w2 hb2 h20 => ?_, fun t21 => ⟨fun w2 hb2 h18 h21 => ?_, fun t22 => ⟨fun w2 hb2 h22 => ?_, fun t23 => ⟨fun w2 hb2 => ?_, fun x w2 hb2 _ _ _ _ _ hx => ?_⟩⟩⟩⟩⟩⟩
  · rintro a x y ⟨bx, rfl, h1, h2⟩ hab
    exact ⟨bx, rfl, h1, (Below.block hab _ (Array.getElem?_eq_some_iff.1 h2).1).trans h2⟩
  · exact spec.l1Words.c fun r w3 ys hb3 hr _ _ => ⟨r, rfl, hb3, ys, hr⟩
  · exact ix 0 (hb1.trans (Below.mono hb2 hb1.size)) hy0 fun a ha => ⟨a, rfl, Below.refl _ _, ha⟩
  · exact ⟨y0, h20, y0, rfl, Below.refl _ _, rfl⟩
  · obtain ⟨ys, hr⟩ := h18
    exact spec.l1Find.c hr fun n => ⟨n, rfl, Below.refl _ _, trivial⟩
  · exact ⟨(⟨t22, 0, -1, 0, 0, 0⟩ : Ins).t, rfl, Below.refl _ _, trivial⟩
  · exact nw fun w3 hb3 hs3 hc3 => ⟨⟨w2.heap.size, 0, none⟩, rfl, hb3, w2.heap.size, rfl, by have := Below.size hb2; omega, hc3⟩
  · obtain ⟨bx, rfl, hbx, hcx⟩ := hx
    have bb2 : Below w.heap.size w w2 := hb1.trans (Below.mono hb2 hb1.size)
    have hz2 : w2.heap[w.heap.size]? = some (.cells (zc P0 44) 44 (0, 0)) := (Below.block hb2 _ (by omega)).trans hc1
    refine stA6 (y := insOf t23) hcx zIns fun w3 hg3 hs3 hh3 => ?_
    have z3 : Z1 w bx w3 := ⟨bb2.grown hg3 bb2.size (fun b hb => by simp only [Option.some.injEq] at hb; omega), ⟨_, hh3⟩, ?_, hbx⟩
    rotate_left
    · exact (hg3.block _ (Array.getElem?_eq_some_iff.1 hz2).1 (by simp only [ne_eq, Option.some.injEq]; omega)).trans hz2
    have zix : ∀ {w' : World} (i : Nat) {Kx : ByteArray → World → Prop}, Z1 w bx w' → i < xs.length → (∀ y : ByteArray, y.size < 4611686018427387904 → Kx y w') → Ix s.a s.n (i : Int) 1 w' fun a w2 => Ld .s a w2 Kx := fun i Kx hz hi hK => by
      obtain ⟨y, hy, hyz, hr⟩ := word i hz.1 hi
      exact ixL hr (i := i) (by omega) (x := y) (by simpa using hy) rfl (l := .s) (v := y) rfl (hK y (by omega))
    refine ⟨fun size w' => Z1 w bx w' ∧ (size = 1 ∨ size = 2 ∨ size = 4 ∨ size = 8), fun size _ => 8 - size.toNat, ⟨z3, .inl rfl⟩, ?_⟩
    rintro size w4 ⟨z4, hsize⟩ _
    have x4 : ∀ {w' : World}, Below w4.heap.size w4 w' → Z1 w bx w' := fun hb => z4.below hb
    have h4 : SlR kS w4 s xs := h.below z4.1
    have cl : ∀ w5 w6 : World, Below w4.heap.size w4 w5 → Below w5.heap.size w5 w6 → Below w4.heap.size w4 w6 := fun w5 w6 h5 h6 => h5.trans (h6.mono h5.size)
    refine And.intro (fun hlt => ?_) (fun _ => ?_)
    · simp only [decide_eq_true_eq] at hlt
      have next : IntKind.wrap .i64 (size * 2) = size * 2 := i64_of (by omega) (by omega)
      have dsz := dec_size (n := size) (by omega)
      have s4 : (⟨#[108, 111, 97, 100]⟩ : ByteArray).size = 4 := rfl
      have s5 : (⟨#[115, 116, 111, 114, 101]⟩ : ByteArray).size = 5 := rfl
      refine ⟨fun b w' => Z1 w bx w' ∧ (b = true → 1 ≤ y0.size), ?_, ?_⟩
      · refine qixL h4 (i := 0) (by omega) (x := y0) (by simpa using hy0) rfl (l := .s) (v := y0) rfl ?_
        refine qcl _ (fun w5 hb5 => spec.l1Dec.c (by omega) fun w6 hb6 => ⟨rfl, cl _ _ hb5 hb6⟩) ?_
        refine ⟨szS _ _ 50 (by rw [s4]; omega) (by omega), fun he w5 hb5 => ⟨x4 hb5, fun _ => ?_⟩, fun _ => ?_⟩
        · have := congrArg List.length (beq_iff_eq.1 he)
          rw [list_len, list_len, ByteArray.size_append, s4] at this
          omega
        · refine qixL h4 (i := 0) (by omega) (x := y0) (by simpa using hy0) rfl (l := .s) (v := y0) rfl ?_
          refine qcl _ (fun w5 hb5 => spec.l1Dec.c (by omega) fun w6 hb6 => ⟨rfl, cl _ _ hb5 hb6⟩) ?_
          refine ⟨szS _ _ 50 (by rw [s5]; omega) (by omega), fun w5 hb5 => ⟨x4 hb5, fun he => ?_⟩⟩
          have := congrArg List.length (beq_iff_eq.1 he)
          rw [list_len, list_len, ByteArray.size_append, s5] at this
          omega
      · rintro b w5 ⟨z5, hb5⟩ _
        refine And.intro (fun ht => ?_) (fun _ => ?_)
        · have hy1 := hb5 ht
          refine ⟨fun a b => Below a.heap.size a b, spBelow w5, fun r w' => ∃ xs, SlR kS w' r xs, rows 0, fun a w' => w'.cell? a = some (.string y0), aty y0, fun v _ => v = y0, keptT, fun a w' => w'.cell? a = some (.string y0), aty y0, fun v _ => v = y0, keptT, fun v _ => v.size < 4611686018427387904, keptT, fun _ _ => True, keptT, fun w6 hb6 => ?_,
            fun t44 => ⟨fun w6 hb6 => ?_, fun t46 => ⟨fun w6 hb6 h46 => ?_, fun t47 => ⟨fun w6 hb6 => ?_, fun t49 => ⟨fun w6 hb6 h49 => ?_, fun t50 => ⟨fun w6 hb6 h47 h50 => ?_, fun t53 => ⟨fun w6 hb6 h44 h53 => ?_, fun t54 w6 hb6 _ _ _ _ _ _ _ => ?_⟩⟩⟩⟩⟩⟩⟩
          · exact spec.l1Words.c fun r w3 ys hb3 hr _ _ => ⟨r, rfl, hb3, ys, hr⟩
          · exact ix 0 (z5.below hb6).1 hy0 fun a ha => ⟨a, rfl, Below.refl _ _, ha⟩
          · exact ⟨y0, h46, y0, rfl, Below.refl _ _, rfl⟩
          · exact ix 0 (z5.below hb6).1 hy0 fun a ha => ⟨a, rfl, Below.refl _ _, ha⟩
          · exact ⟨y0, h49, y0, rfl, Below.refl _ _, rfl⟩
          · subst h47 h50
            rw [i64_of (n := (t50.size : Int) - 1) (by omega) (by omega)]
            exact sub (lo := none) (hi := some ((t50.size : Int) - 1)) (a := 0) (b := (t50.size : Int) - 1) rfl rfl (by omega) (by omega) (by omega) (by omega) fun r hr => ⟨r, rfl, Below.refl _ _, by omega⟩
          · obtain ⟨ys, hr⟩ := h44
            exact spec.l1Find.c hr fun n => ⟨n, rfl, Below.refl _ _, trivial⟩
          · refine (z5.below hb6).st (by omega) _ fun w7 z7 => z7.st (by omega) _ fun w8 z8 => ?_
            rw [next]
            exact ⟨⟨z8, by omega⟩, by simp only; omega⟩
        · rw [next]
          exact ⟨⟨z5, by omega⟩, by simp only; omega⟩
    · have rr : ∀ {i : Nat} {w5 : World} {Kx : (Int × Int × Unit) → World → Prop}, Z1 w bx w5 → i < xs.length → (∀ n, Kx n w5) → Ix s.a s.n (i : Int) 1 w5 fun a w2 => Ld .s a w2 fun y w3 => CallT (.n [(.lf (.i .i64)), (.lf (.i .i64))]) P0 166 [.string y] w3 Kx :=
        fun {i} {w5} {Kx} hz hi hK => zix i hz hi fun y hy => spec.l1ReadReg.c hy hK
      have rs : ∀ {i : Nat} {w5 : World} {Kx : Int → World → Prop}, Z1 w bx w5 → i < xs.length → (∀ n, Kx n w5) → Ix s.a s.n (i : Int) 1 w5 fun a w2 => Ld .s a w2 fun y w3 => CallT (.o (.lf (.i .i64))) P0 167 [.string y] w3 Kx :=
        fun {i} {w5} {Kx} hz hi hK => zix i hz hi fun y hy => spec.l1Signed.c hy hK
      refine ⟨fun w' => Z1 w bx w', ⟨fun b w' => Z1 w bx w' ∧ (b = true → xs.length = 3 ∨ xs.length = 4), ?_, ?_⟩, ?_⟩
      · refine z4.ld (by omega) fun n => spec.l1Alu.c ?_
        have c4 : ((s.n : Int) == 4) = true → xs.length = 3 ∨ xs.length = 4 := fun h => by simp only [beq_iff_eq] at h; omega
        refine And.intro (fun _ => And.intro (fun h3 => ⟨z4, fun _ => ?_⟩) (fun _ => ?_)) (fun _ => ?_)
        · simp only [beq_iff_eq] at h3; omega
        · exact z4.ld (by omega) fun n => spec.l1Jump.c (And.intro (fun _ => ⟨z4, c4⟩) (fun _ => ⟨z4, fun h => by simp at h⟩))
        · exact z4.ld (by omega) fun n => spec.l1Jump.c (And.intro (fun _ => ⟨z4, c4⟩) (fun _ => ⟨z4, fun h => by simp at h⟩))
      · rintro b w5 ⟨z5, hb5⟩ _
        refine And.intro (fun ht => ?_) (fun _ => ?_)
        · have hl3 := hb5 ht
          refine rr (i := 1) z5 (by omega) fun n1 => ?_
          refine rr (i := 2) z5 (by omega) fun n2 => ?_
          refine z5.st (by omega) _ fun w6 z6 => z6.st (by omega) _ fun w7 z7 => z7.st (by omega) _ fun w8 z8 => ?_
          refine And.intro (fun h4 => ?_) (fun _ => z8)
          simp only [beq_iff_eq] at h4
          exact rs (i := 3) z8 (by omega) fun n3 => z8.st (by omega) _ fun w9 z9 => z9
        · refine ⟨fun b w' => Z1 w bx w' ∧ (b = true → xs.length = 2), ?_, ?_⟩
          · exact z5.ld (by omega) fun n => And.intro (fun _ => ⟨z5, fun h => by simp only [beq_iff_eq] at h; omega⟩) (fun _ => ⟨z5, fun h => by simp at h⟩)
          · rintro b w6 ⟨z6, hb6⟩ _
            refine And.intro (fun ht => ?_) (fun _ => ?_)
            · have hl2 := hb6 ht
              exact rs (i := 1) z6 (by omega) fun n1 => z6.st (by omega) _ fun w7 z7 => z7
            · refine ⟨fun b w' => Z1 w bx w' ∧ (b = true → xs.length = 4), ?_, ?_⟩
              · exact z6.ld (by omega) fun n => And.intro (fun _ => ⟨z6, fun h => by simp only [beq_iff_eq] at h; omega⟩) (fun _ => ⟨z6, fun h => by simp at h⟩)
              · rintro b w7 ⟨z7, hb7⟩ _
                refine And.intro (fun ht => ?_) (fun _ => ?_)
                · have hl4 := hb7 ht
                  refine rr (i := 1) z7 (by omega) fun n1 => ?_
                  refine rr (i := 2) z7 (by omega) fun n2 => ?_
                  refine z7.st (by omega) _ fun w8 z8 => z8.st (by omega) _ fun w9 z9 => ?_
                  exact rs (i := 3) z9 (by omega) fun n3 => z9.st (by omega) _ fun w10 z10 => z10
                · refine ⟨fun b w' => Z1 w bx w' ∧ (b = true → xs.length = 4), ?_, ?_⟩
                  · exact z7.ld (by omega) fun n => And.intro (fun _ => ⟨z7, fun h => by simp only [beq_iff_eq] at h; omega⟩) (fun _ => ⟨z7, fun h => by simp at h⟩)
                  · rintro b w8 ⟨z8, hb8⟩ _
                    refine And.intro (fun ht => ?_) (fun _ => ?_)
                    · have hl4 := hb8 ht
                      refine rr (i := 1) z8 (by omega) fun n1 => ?_
                      refine rr (i := 3) z8 (by omega) fun n2 => ?_
                      refine z8.st (by omega) _ fun w9 z9 => ?_
                      refine rs (i := 2) z9 (by omega) fun n3 => ?_
                      exact z9.st (by omega) _ fun w10 z10 => z10.st (by omega) _ fun w11 z11 => z11.st (by omega) _ fun w12 z12 => z12
                    · refine z8.ld (by omega) fun n => And.intro (fun _ => And.intro (fun h2 => ?_) (fun _ => z8)) (fun _ => z8)
                      simp only [beq_iff_eq] at h2
                      obtain ⟨y1, hy1, hz1, _⟩ := word 1 z8.1 (by omega)
                      refine ⟨fun a b => Below a.heap.size a b, spBelow w8, fun r w' => ∃ xs, SlR kS w' r xs, rows 0, fun a w' => w'.cell? a = some (.string y1), aty y1, fun v _ => v = y1, keptT, fun _ _ => True, keptT, fun w9 hb9 => ?_, fun t189 => ⟨fun w9 hb9 => ?_, fun t191 => ⟨fun w9 hb9 h191 => ?_, fun t192 => ⟨fun w9 hb9 h189 h192 => ?_, fun t193 w9 hb9 _ _ _ _ => ?_⟩⟩⟩⟩
                      · exact spec.l1Calls.c fun r w3 ys hb3 hr _ _ => ⟨r, rfl, hb3, ys, hr⟩
                      · exact ix 1 (z8.below hb9).1 hy1 fun a ha => ⟨a, rfl, Below.refl _ _, ha⟩
                      · exact ⟨y1, h191, y1, rfl, Below.refl _ _, rfl⟩
                      · obtain ⟨ys, hr⟩ := h189
                        exact spec.l1Find.c hr fun n => ⟨n, rfl, Below.refl _ _, trivial⟩
                      · exact (z8.below hb9).st (by omega) _ fun w10 z10 => z10
      · rintro w5 ⟨hb5, ⟨y, hy⟩, hz5, hlt5⟩ _
        refine ldAB (x := y.t) hy rfl ?_
        refine stA6 (y := y) hz5 zIns fun w6 hg6 hs6 hh6 => ?_
        refine ldAB (x := y.t) hh6 rfl ?_
        exact hk y w6 (hb5.grown hg6 hb5.size (fun b hb => by simp only [Option.some.injEq] at hb; omega))
end Go.Proofs.YtkkdboimkbcfnaaDoor.V

/- Contracts: a line as an op, and the reader of the draws. -/
namespace Go.Proofs.YtkkdboimkbcfnaaDoor.V
open Go Go.RowKit
set_option linter.unusedVariables false
set_option linter.unusedSimpArgs false
theorem nwStT {t : Tup (R 6 (.i .i64))} {w : World} {K : Addr → World → Prop}
    (hk : ∀ w', Below w.heap.size w w' → w'.heap.size = w.heap.size + 1 → w'.heap[w.heap.size]? = some (.cells (insOf t).cs 44 (0, 0)) → K ⟨w.heap.size, 0, none⟩ w') :
    Nw (zc P0 44) 44 w (fun a w' => StA P0 a (Tup.cells (R 6 (.i .i64)) t) w' (K a)) := nwStIns (x := insOf t) hk
theorem spec.LineGet.c {s : ByteArray} {w : World} {K : Tup (R 6 (.i .i64)) × Bool × Unit → World → Prop} (hs : s.size < 1099511627776) (hk : ∀ (x : Ins) (b : Bool) w', Below w.heap.size w w' → K (x.t, b, ()) w') :
    CallT (.n [(.ag (R 6 (.i .i64))), (.lf .b)]) P0 129 [.string s] w K := by
  refine spec.LineGet.ok (nw fun w1 hb1 hs1 hc1 => ?_)
  refine spec.l1Cut.c (by omega) (by omega) fun r w2 xs hb2 hr hl hsz => ?_
  refine spec.l1Read.c hr hl (fun y hy => by have := hsz y hy; omega) fun x w3 hb3 => ?_
  refine nwStIns (x := x) fun w4 hb4 hs4 hc4 => ?_
  refine ldAB (x := x.t) hc4 rfl ?_
  refine spec.l1InsOk.c (x := x) fun w5 hb5 => ?_
  have g2 := hb2.size
  have g3 := hb3.size
  have g4 := hb4.size
  have g5 := hb5.size
  have b15 : Below w1.heap.size w1 w5 := ((hb2.trans (hb3.mono g2)).trans (hb4.mono (by omega))).trans (hb5.mono (by omega))
  have c5 : w5.heap[w3.heap.size]? = some (.cells x.cs 44 (0, 0)) := (hb5.block _ (by omega)).trans hc4
  have fin : ∀ {w6 : World} (y : Ins) (b : Bool), Below w1.heap.size w1 w6 → StA P0 ⟨w.heap.size, 0, none⟩ (Tup.cells (R 6 (.i .i64)) y.t) w6 fun w7 => LdA (R 6 (.i .i64)) ⟨w.heap.size, 0, none⟩ w7 fun r w8 => K (r, b, ()) w7 := by
    intro w6 y b hb6
    have z6 := (hb6.block _ (by omega)).trans hc1
    refine stA6 (y := y) z6 zIns fun w7 hg7 hs7 hh7 => ?_
    refine ldAB (x := y.t) hh7 rfl ?_
    have b16 : Below w.heap.size w w6 := hb1.trans (hb6.mono hb1.size)
    exact hk y b w7 (b16.grown hg7 b16.size (fun b hb => by simp only [Option.some.injEq] at hb; omega))
  refine And.intro (fun _ => fin ⟨0, 0, 0, 0, 0, 0⟩ false b15) (fun hp => ?_)
  simp only [Bool.not_eq_false', decide_eq_true_eq] at hp
  refine ldAB (x := x.t) c5 rfl ?_
  refine spec.l1Line.c hp fun y w6 hb6 => ?_
  have b16 := b15.trans (hb6.mono b15.size)
  refine And.intro (fun _ => fin ⟨0, 0, 0, 0, 0, 0⟩ false b16) (fun _ => ?_)
  refine ldAB (x := x.t) ((hb6.block _ (by omega)).trans c5) rfl ?_
  exact fin x true b16
theorem SlR.kept3 {α : Type} {k : Kd α} {w w' : World} {s : Sl} {xs : List α} {row : Option Nat} (h : SlR k w s xs) (hg : w.grownBy w' row) (hb : xs ≠ [] → ∀ b o, s.a = some ⟨b, o, none⟩ → row ≠ some b) : SlR k w' s xs := by
  by_cases hx : xs = []
  · exact ⟨h.1, h.2.1, h.2.2.1, .inl hx⟩
  · exact h.kept2 hg (hb hx)
/-- The reader. -/
def RdS (B br m : Nat) (w : World) : Prop := ∃ (s : Sl) (bs : List Int) (p : Nat), w.heap[br]? = some (.cells #[s.v, .int .i64 p] 86 (0, 0)) ∧ SlR kU8 w s bs ∧ (bs ≠ [] → ∀ b o, s.a = some ⟨b, o, none⟩ → b < B) ∧ B ≤ br ∧ (∀ x ∈ bs, 0 ≤ x ∧ x ≤ 255) ∧ p ≤ m
section
variable {B br m : Nat} {w : World}
theorem RdS.lt (h : RdS B br m w) : br < w.heap.size := by
  obtain ⟨s, bs, p, hc, _⟩ := h
  exact (Array.getElem?_eq_some_iff.1 hc).1
theorem RdS.more {m' : Nat} (h : RdS B br m w) (hm : m ≤ m') : RdS B br m' w := by
  obtain ⟨s, bs, p, h1, h2, h3, h4, h5, h6⟩ := h
  exact ⟨s, bs, p, h1, h2, h3, h4, h5, by omega⟩
theorem RdS.kept {w' : World} {row : Option Nat} (h : RdS B br m w) (hg : w.grownBy w' row) (hr : ∀ b, row = some b → br < b) : RdS B br m w' := by
  have hlt := h.lt
  obtain ⟨s, bs, p, h1, h2, h3, h4, h5, h6⟩ := h
  refine ⟨s, bs, p, (hg.block br hlt (fun e => by have := hr br e.symm; omega)).trans h1, h2.kept3 hg (fun hne b o ha e => by have := hr b e; have := h3 hne b o ha; omega), h3, h4, h5, h6⟩
theorem RdS.below {w' : World} (h : RdS B br m w) (hb : Below w.heap.size w w') : RdS B br m w' := h.kept (grown_of_below hb) (by simp)
theorem grown_any {w w' : World} {row : Option Nat} (h : Below w.heap.size w w') : w.grownBy w' row := ⟨h.os, h.tape, h.output, h.size, fun k hk _ => h.block k hk⟩
theorem ixor_nonneg {a b : Int} (ha : 0 ≤ a ∧ a < 9223372036854775808) (hb : 0 ≤ b ∧ b < 9223372036854775808) : 0 ≤ iXor .i64 a b := by
  unfold iXor
  have e : ∀ x : Int, 0 ≤ x ∧ x < 9223372036854775808 → (BitVec.ofInt 64 x).toNat < 2 ^ 63 := fun x hx => by rw [BitVec.toNat_ofInt]; omega
  have h1 : (BitVec.ofInt 64 a ^^^ BitVec.ofInt 64 b).toNat < 2 ^ 63 := by
    rw [BitVec.toNat_xor]; exact Nat.xor_lt_two_pow (e a ha) (e b hb)
  show 0 ≤ IntKind.wrap .i64 ((BitVec.ofInt 64 a ^^^ BitVec.ofInt 64 b).toNat : Int)
  rw [i64_of (by omega) (by omega)]
  omega
theorem tmod_in {x n : Int} (hx : 0 ≤ x) (hn : 1 ≤ n) : 0 ≤ Int.tmod x n ∧ Int.tmod x n < n := by
  rw [Int.tmod_eq_emod_of_nonneg hx]
  exact ⟨Int.emod_nonneg _ (by omega), Int.emod_lt_of_pos _ (by omega)⟩
theorem spec.l20Rd.pick.c {n : Int} {K : Int → World → Prop} (h : RdS B br m w) (hm : m ≤ 1000000000) (hn : 1 ≤ n) (hk : ∀ x w', 0 ≤ x → x < n → w.grownBy w' (some br) → RdS B br (m + 1) w' → K x w') :
    CallT (.o (.lf (.i .i64))) P0 43 [.pointer (some ⟨br, 0, none⟩), .int .i64 n] w K := by
  obtain ⟨s, bs, p, h1, h2, h3, h4, h5, h6⟩ := h
  refine spec.l20Rd.pick.ok ⟨_, rfl, ldB h1 (x := (p : Int)) rfl ⟨_, rfl, ?_⟩⟩
  rw [i64_of (n := (p : Int) + 1) (by omega) (by omega)]
  refine stB h1 rfl (by simp) fun w1 hg1 hs1 hc1 => ?_
  have hc1 : w1.heap[br]? = some (.cells #[s.v, .int .i64 ((p + 1 : Nat) : Int)] 86 (0, 0)) := hc1
  have hs1 : SlR kU8 w1 s bs := h2.kept3 hg1 (fun hne b o ha e => by have := h3 hne b o ha; simp only [Option.some.injEq] at e; omega)
  have hR : RdS B br (m + 1) w1 := ⟨s, bs, p + 1, hc1, hs1, h3, h4, h5, by omega⟩
  have hlen := hs1.len
  have hmax := hs1.max
  refine ⟨fun w' => w' = w1 ∧ 1 ≤ bs.length, And.intro (fun h0 => hk _ _ (by omega) (by omega) hg1 hR) (fun _ => ⟨_, rfl, ldB hc1 (x := s) rfl (And.intro (fun h0 => hk _ _ (by omega) (by omega) hg1 hR) (fun h0 => ⟨rfl, ?_⟩))⟩), ?_⟩
  · simp only [beq_eq_false_iff_ne, ne_eq] at h0; omega
  rintro w2 ⟨rfl, hb1⟩ _
  refine ⟨_, rfl, ldB hc1 (x := ((p + 1 : Nat) : Int)) rfl ⟨_, rfl, ldB hc1 (x := s) rfl ?_⟩⟩
  rw [i64_of (n := ((p + 1 : Nat) : Int) - 1) (by omega) (by omega)]
  have hp : ((p + 1 : Nat) : Int) - 1 = (p : Int) := by omega
  rw [hp]
  have byte : ∀ {i : Nat}, i < bs.length → ∃ y, bs[i]? = some y ∧ 0 ≤ y ∧ y ≤ 255 := fun {i} hi => by
    obtain ⟨y, hy⟩ := get_some (l := bs) (k := i) hi
    exact ⟨y, hy, h5 y (List.mem_of_getElem? hy)⟩
  refine And.intro (fun hlt => ?_) (fun hge => ?_)
  · simp only [decide_eq_true_eq] at hlt
    obtain ⟨y, hy, hy0, hy1⟩ := byte (i := p) (by omega)
    refine ⟨_, rfl, ldB hc1 (x := s) rfl ?_⟩
    refine ixL hs1 (i := p) (by omega) (x := y) (by simpa using hy) rfl (l := .i .u8) (v := y) rfl ?_
    rw [i64_of (n := y) (by omega) (by omega)]
    have := tmod_in hy0 hn
    exact ⟨by omega, hk _ _ this.1 this.2 hg1 hR⟩
  · have hnz : ((s.n : Nat) : Int) ≠ 0 := by omega
    have t1 := tmod_in (x := (p : Int)) (n := (s.n : Int)) (by omega) (by omega)
    have hq7 : IntKind.wrap .i64 (IntKind.wrap .i64 ((p : Int) * 7) + 3) = (p : Int) * 7 + 3 := by
      rw [i64_of (n := (p : Int) * 7) (by omega) (by omega), i64_of (by omega) (by omega)]
    have t2 := tmod_in (x := (p : Int) * 7 + 3) (n := (s.n : Int)) (by omega) (by omega)
    obtain ⟨y1, hy1, hy10, hy11⟩ := byte (i := (Int.tmod (p : Int) (s.n : Int)).toNat) (by omega)
    obtain ⟨y2, hy2, hy20, hy21⟩ := byte (i := (Int.tmod ((p : Int) * 7 + 3) (s.n : Int)).toNat) (by omega)
    rw [hq7]
    refine ⟨_, rfl, ?_⟩
    refine qldB hc1 (x := s) rfl ?_
    refine ⟨_, rfl, ?_⟩
    refine qldB hc1 (x := s) rfl ⟨hnz, ?_⟩
    refine qixL hs1 t1.1 hy1 rfl (l := .i .u8) (v := y1) rfl ?_
    refine ⟨_, rfl, ?_⟩
    refine qldB hc1 (x := s) rfl ?_
    refine ⟨_, rfl, ?_⟩
    refine qldB hc1 (x := s) rfl ⟨hnz, ?_⟩
    refine qixL hs1 t2.1 hy2 rfl (l := .i .u8) (v := y2) rfl ?_
    refine ⟨_, rfl, ?_⟩
    refine qldB hc1 (x := s) rfl ⟨hnz, fun w3 hb3 => ⟨by omega, by omega, ?_⟩⟩
    have hq : 0 ≤ Int.tdiv (p : Int) (s.n : Int) ∧ Int.tdiv (p : Int) (s.n : Int) ≤ p := by
      rw [Int.tdiv_eq_ediv_of_nonneg (by omega)]
      exact ⟨Int.ediv_nonneg (by omega) (by omega), Int.ediv_le_self _ (by omega)⟩
    generalize Int.tdiv (p : Int) (s.n : Int) = q at hq
    rw [i64_of (n := y1) (by omega) (by omega), i64_of (n := y2) (by omega) (by omega), i64_of (n := y1 * 131) (by omega) (by omega), i64_of (n := y2 * 1117) (by omega) (by omega), i64_of (n := y1 * 131 + y2 * 1117) (by omega) (by omega),
      i64_of (n := (p : Int) * 29) (by omega) (by omega), i64_of (n := y1 * 131 + y2 * 1117 + (p : Int) * 29) (by omega) (by omega), i64_of (n := q) (by omega) (by omega), i64_of (n := q * 53) (by omega) (by omega), i64_of (n := y1 * 131 + y2 * 1117 + (p : Int) * 29 + q * 53) (by omega) (by omega)]
    have hd : 0 ≤ Int.tdiv (y1 * 131 + y2 * 1117 + (p : Int) * 29 + q * 53) 64 ∧ Int.tdiv (y1 * 131 + y2 * 1117 + (p : Int) * 29 + q * 53) 64 ≤ y1 * 131 + y2 * 1117 + (p : Int) * 29 + q * 53 := by
      rw [Int.tdiv_eq_ediv_of_nonneg (by omega)]; omega
    generalize Int.tdiv (y1 * 131 + y2 * 1117 + (p : Int) * 29 + q * 53) 64 = d at hd
    rw [i64_of (n := d) (by omega) (by omega)]
    have hx := ixor_nonneg (a := y1 * 131 + y2 * 1117 + (p : Int) * 29 + q * 53) (b := d) (by omega) (by omega)
    have := tmod_in hx hn
    exact hk _ _ this.1 this.2 (grown_trans hg1 (grown_any hb3)) (hR.below hb3)
end
end Go.Proofs.YtkkdboimkbcfnaaDoor.V

/- Contracts: the draws of programs. -/
namespace Go.Proofs.YtkkdboimkbcfnaaDoor.V
open Go Go.RowKit
set_option linter.unusedVariables false
set_option linter.unusedSimpArgs false
section
variable {B br m : Nat} {w : World}
theorem keepB {w' : World} {b : Nat} {o : Obj} (h : w.heap[b]? = some o) (hg : w.grownBy w' (some br)) (hne : br < b) : w'.heap[b]? = some o :=
  (hg.block b (Array.getElem?_eq_some_iff.1 h).1 (by simp only [ne_eq, Option.some.injEq]; omega)).trans h
theorem spec.l20Rd.one.c {l : Sl} {xs : List Int} {K : Int → World → Prop} (h : RdS B br m w) (hm : m ≤ 1000000000) (hl : SlR kI w l xs) (h1 : 1 ≤ xs.length) (hb : ∀ b o, l.a = some ⟨b, o, none⟩ → b ≠ br)
    (hk : ∀ x w', x ∈ xs → w.grownBy w' (some br) → RdS B br (m + 1) w' → K x w') : CallT (.o (.lf (.i .i64))) P0 58 [.pointer (some ⟨br, 0, none⟩), l.v] w K := by
  have hn := hl.len
  refine spec.l20Rd.one.ok (spec.l20Rd.pick.c h hm (by omega) fun x w1 h0 hx hg hr => ?_)
  have hl1 := hl.kept2 hg (fun b o ha e => hb b o ha (by simpa using e.symm))
  obtain ⟨y, hy⟩ := get_some (l := xs) (k := x.toNat) (by omega)
  exact ixL hl1 h0 hy rfl (l := .i .i64) (v := y) rfl (hk y w1 (List.mem_of_getElem? hy) hg hr)
theorem oneLit {cs : Array Value} {xs : List Int} {n : Nat} {K : Int → World → Prop} (h : RdS B br m w) (hm : m ≤ 1000000000) (hcs : cs.toList = xs.flatMap kI.cells) (hn : n = xs.length) (h1 : 1 ≤ xs.length ∧ xs.length ≤ 100)
    (hk : ∀ x w', x ∈ xs → w.grownBy w' (some br) → RdS B br (m + 1) w' → K x w') : Nw cs 3 w fun a w1 => CallT (.o (.lf (.i .i64))) P0 58 [.pointer (some ⟨br, 0, none⟩), .slice (some a) n n] w1 K := by
  refine nw fun w1 hb hs hc => ?_
  have hl : OwnS kI 3 w.heap.size w1 ⟨some ⟨w.heap.size, 0, none⟩, n, n⟩ xs := OwnS.lit (Nat.le_refl _) hc hn hcs (by simp only [maxLen]; omega)
  have hlt := h.lt
  refine spec.l20Rd.one.c (l := ⟨some ⟨w.heap.size, 0, none⟩, n, n⟩) (h.below hb) hm hl.read h1.1 (fun b o e => ?_) fun x w2 hx hg hr => hk x w2 hx (grown_trans (grown_any hb) hg) hr
  simp only [Option.some.injEq, Addr.mk.injEq] at e
  omega
theorem spec.l20Imm.c {K : Int → World → Prop} (h : RdS B br m w) (hm : m ≤ 1000000000) (hk : ∀ x w', w.grownBy w' (some br) → RdS B br (m + 1) w' → K x w') : CallT (.o (.lf (.i .i64))) P0 109 [.pointer (some ⟨br, 0, none⟩)] w K :=
  spec.l20Imm.ok (oneLit (xs := [0, 1, 2, 3, 7, 8, 15, 31, 100, 255, 65535, 2147483647, 2147483648, 4294967295]) h hm rfl rfl (by decide) fun x w' _ hg hr => hk x w' hg hr)
/-- Good rows of lines, of new memory. -/
def GoodT (H : Nat) (w : World) (t : Sl) : Prop := (∃ xs, SlR kS w t xs ∧ 2 ≤ xs.length ∧ xs.length ≤ 13 ∧ ∀ y ∈ xs, y.size ≤ 100) ∧ ∀ b, t.bk = some b → H ≤ b
theorem GoodT.below {H : Nat} {w' : World} {t : Sl} (h : GoodT H w t) (hb : Below w.heap.size w w') : GoodT H w' t := by
  obtain ⟨⟨xs, h1, h2⟩, h3⟩ := h; exact ⟨⟨xs, h1.below hb, h2⟩, h3⟩
theorem lnStep {H : Nat} {rows : List Sl} {cs : Array Value} {xs : List ByteArray} {n : Nat} (hH : H ≤ w.heap.size) (hR : ∀ t ∈ rows, GoodT H w t) (hcs : cs.toList = xs.flatMap kS.cells) (hn : n = xs.length) (hx : 2 ≤ xs.length ∧ xs.length ≤ 13 ∧ ∀ y ∈ xs, y.size ≤ 100) {K : Addr → World → Prop}
    (hk : ∀ w' a, H ≤ w'.heap.size → Below w.heap.size w w' → (∀ t ∈ rows ++ [⟨some a, n, n⟩], GoodT H w' t) → K a w') : Nw cs 9 w K := by
  refine nw fun w1 hb hs hc => hk w1 _ (by omega) hb fun t ht => ?_
  rcases List.mem_append.1 ht with ht | ht
  · exact (hR t ht).below hb
  · simp only [List.mem_singleton] at ht
    subst ht
    exact ⟨⟨xs, (OwnS.lit (k := kS) (B := 0) (Nat.zero_le _) hc hn hcs (by simp only [maxLen]; omega)).read, hx⟩, fun b hb => by simp only [Sl.bk, Option.map_some, Option.some.injEq] at hb; omega⟩
theorem grown_new {w w1 w2 : World} {row : Option Nat} {b : Nat} (h : w.grownBy w1 row) (h2 : w1.grownBy w2 (some b)) (hb : w.heap.size ≤ b) : w.grownBy w2 row :=
  ⟨h2.os.trans h.os, h2.tape.trans h.tape, h2.output.trans h.output, Nat.le_trans h.size h2.size, fun k hk hne => (h2.block k (Nat.lt_of_lt_of_le hk h.size) (by simp only [ne_eq, Option.some.injEq]; omega)).trans (h.block k hk hne)⟩
theorem spec.l20Alu.c {K : Tup (R 6 (.i .i64)) → World → Prop} (h : RdS B br m w) (hm : m ≤ 900000000) (hk : ∀ (x : Ins) w', w.grownBy w' (some br) → RdS B br (m + 5) w' → K x.t w') : CallT (.o (.ag (R 6 (.i .i64)))) P0 110 [.pointer (some ⟨br, 0, none⟩)] w K := by
  have hlt := h.lt
  refine spec.l20Alu.ok (nw fun w1 b1 s1 c1 => ?_)
  refine spec.l20Rd.pick.c (h.below b1) (by omega) (by omega) fun t5 w2 _ _ g2 r2 => ?_
  refine oneLit (xs := [0, 6, 7, 8]) r2 (by omega) rfl rfl (by decide) fun t9 w3 _ g3 r3 => ?_
  refine spec.l20Imm.c r3 (by omega) fun t11 w4 g4 r4 => ?_
  refine nwStIns (x := ⟨IntKind.wrap .i64 (1 + t5), t9, -1, 0, t11, 0⟩) fun w5 b5 s5 c5 => ?_
  refine spec.l20Rd.pick.c (r4.below b5) (by omega) (by omega) fun t14 w6 _ _ g6 r6 => ?_
  have g14 : w1.grownBy w4 (some br) := grown_trans (grown_trans g2 g3) g4
  have g16 : w1.grownBy w6 (some br) := grown_trans (grown_trans g14 (grown_any b5)) g6
  have hs14 := g14.size
  have c6 := keepB c5 g6 (by omega)
  have z6 := keepB c1 g16 (by omega)
  have G16 : w.grownBy w6 (some br) := grown_trans (grown_any b1) g16
  have fin : ∀ {w7 : World} (y : Ins), w.grownBy w7 (some br) → RdS B br (m + 5) w7 → w7.heap[w4.heap.size]? = some (.cells y.cs 44 (0, 0)) → w7.heap[w.heap.size]? = some (.cells (zc P0 44) 44 (0, 0)) →
      LdA (R 6 (.i .i64)) ⟨w4.heap.size, 0, none⟩ w7 fun t8 w8 => StA P0 ⟨w.heap.size, 0, none⟩ (Tup.cells (R 6 (.i .i64)) t8) w8 fun w9 => LdA (R 6 (.i .i64)) ⟨w.heap.size, 0, none⟩ w9 fun r w10 => K r w9 := by
    intro w7 y g7 r7 c7 z7
    refine ldAB (x := y.t) c7 rfl ?_
    refine stA6 (y := y) z7 zIns fun w8 g8 _ c8 => ?_
    refine ldAB (x := y.t) c8 rfl ?_
    exact hk y w8 (grown_new g7 g8 (Nat.le_refl _)) (r7.kept g8 (fun b hb => by simp only [Option.some.injEq] at hb; omega))
  refine And.intro (fun _ => ?_) (fun _ => fin _ G16 (r6.more (by omega)) c6 z6)
  refine oneLit (xs := [0, 6, 7, 8]) r6 (by omega) rfl rfl (by decide) fun t18 w7 _ g7 r7 => ?_
  have c7 := keepB c6 g7 (by omega)
  have z7 := keepB z6 g7 (by omega)
  refine stB c7 rfl (by simp [Ins.cs]) fun w8 g8 s8 c8 => ?_
  refine stB c8 rfl (by simp [Ins.cs]) fun w9 g9 s9 c9 => ?_
  have G9 : w.grownBy w9 (some br) := grown_new (grown_new (grown_trans G16 g7) g8 (by omega)) g9 (by omega)
  have r9 : RdS B br (m + 5) w9 := (r7.kept g8 (fun b hb => by simp only [Option.some.injEq] at hb; omega)).kept g9 (fun b hb => by simp only [Option.some.injEq] at hb; omega)
  refine fin ⟨IntKind.wrap .i64 (1 + t5), t9, t18, 0, 0, 0⟩ G9 r9 c9 ?_
  have z8 := (g8.block _ (Array.getElem?_eq_some_iff.1 z7).1 (by simp only [ne_eq, Option.some.injEq]; omega)).trans z7
  exact (g9.block _ (Array.getElem?_eq_some_iff.1 z8).1 (by simp only [ne_eq, Option.some.injEq]; omega)).trans z8
set_option maxHeartbeats 1000000 in
theorem spec.l20Lines.c {K : Sl → World → Prop} (hk : ∀ r w' rows, Below w.heap.size w w' → SlR kSl w' r rows → rows.length = 15 → (∀ t ∈ rows, GoodT w.heap.size w' t) → (∀ b, r.bk = some b → w.heap.size ≤ b) → K r w') : CallT (.o (.lf .sl)) P0 107 [] w K := by
  refine spec.l20Lines.ok ?_
  refine lnStep (H := w.heap.size) (rows := []) (xs := [_, _]) (n := 2) (Nat.le_refl _) (by simp) rfl rfl (by decide) fun w1 a1 H1 b1 R1 => ?_
  refine lnStep (xs := [_, _, _, _, _]) (n := 5) H1 R1 rfl rfl (by decide) fun w2 a2 H2 b2 R2 => ?_
  refine lnStep (xs := [_, _, _, _, _, _, _, _, _, _, _, _, _]) (n := 13) H2 R2 rfl rfl (by decide) fun w3 a3 H3 b3 R3 => ?_
  refine lnStep (xs := [_, _, _, _, _]) (n := 5) H3 R3 rfl rfl (by decide) fun w4 a4 H4 b4 R4 => ?_
  refine lnStep (xs := [_, _, _, _, _, _, _, _, _]) (n := 9) H4 R4 rfl rfl (by decide) fun w5 a5 H5 b5 R5 => ?_
  refine lnStep (xs := [_, _, _, _]) (n := 4) H5 R5 rfl rfl (by decide) fun w6 a6 H6 b6 R6 => ?_
  refine lnStep (xs := [_, _, _, _, _]) (n := 5) H6 R6 rfl rfl (by decide) fun w7 a7 H7 b7 R7 => ?_
  refine lnStep (xs := [_, _, _, _, _, _]) (n := 6) H7 R7 rfl rfl (by decide) fun w8 a8 H8 b8 R8 => ?_
  refine lnStep (xs := [_, _, _]) (n := 3) H8 R8 rfl rfl (by decide) fun w9 a9 H9 b9 R9 => ?_
  refine lnStep (xs := [_, _, _, _, _, _]) (n := 6) H9 R9 rfl rfl (by decide) fun w10 a10 H10 b10 R10 => ?_
  refine lnStep (xs := [_, _, _, _, _, _]) (n := 6) H10 R10 rfl rfl (by decide) fun w11 a11 H11 b11 R11 => ?_
  refine lnStep (xs := [_, _, _, _, _, _, _, _, _, _]) (n := 10) H11 R11 rfl rfl (by decide) fun w12 a12 H12 b12 R12 => ?_
  refine lnStep (xs := [_, _, _, _, _, _, _]) (n := 7) H12 R12 rfl rfl (by decide) fun w13 a13 H13 b13 R13 => ?_
  refine lnStep (xs := [_, _, _, _, _, _, _, _, _, _, _]) (n := 11) H13 R13 rfl rfl (by decide) fun w14 a14 H14 b14 R14 => ?_
  refine lnStep (xs := [_, _, _, _, _, _]) (n := 6) H14 R14 rfl rfl (by decide) fun w15 a15 H15 b15 R15 => ?_
  refine nw fun w16 b16 s16 c16 => ?_
  have mono : ∀ {u v : World}, Below w.heap.size w u → Below u.heap.size u v → Below w.heap.size w v := fun h1 h2 => h1.trans (h2.mono h1.size)
  refine hk _ _ _ (mono (mono (mono (mono (mono (mono (mono (mono (mono (mono (mono (mono (mono (mono (mono b1 b2) b3) b4) b5) b6) b7) b8) b9) b10) b11) b12) b13) b14) b15) b16) (OwnS.lit (k := kSl) (B := 0) (xs := [⟨some a1, 2, 2⟩, ⟨some a2, 5, 5⟩, ⟨some a3, 13, 13⟩, ⟨some a4, 5, 5⟩, ⟨some a5, 9, 9⟩, ⟨some a6, 4, 4⟩, ⟨some a7, 5, 5⟩, ⟨some a8, 6, 6⟩, ⟨some a9, 3, 3⟩, ⟨some a10, 6, 6⟩, ⟨some a11, 6, 6⟩, ⟨some a12, 10, 10⟩, ⟨some a13, 7, 7⟩, ⟨some a14, 11, 11⟩, ⟨some a15, 6, 6⟩]) (Nat.zero_le _) c16 rfl rfl (by simp [maxLen])).read rfl (fun t ht => ?_) fun b hb => ?_
  · exact (R15 t (by simpa using ht)).below b16
  · simp only [Sl.bk, Option.map_some, Option.some.injEq] at hb; omega
theorem elIns : El P0 37 44 kIns 48 := ⟨by kernel_rfl, ⟨_, _, Option.eq_some_of_isSome (by kernel_rfl), Option.eq_some_of_isSome (by kernel_rfl), by kernel_rfl, by kernel_rfl, by kernel_rfl⟩, by decide, by intro l hl; simp [kIns] at hl; simp [hl]⟩
theorem spec.l20Read.c {l : Sl} {xs : List ByteArray} {K : Sl → World → Prop} (hl : SlR kS w l xs) (hn : xs.length ≤ 100) (hy : ∀ y ∈ xs, y.size ≤ 100) (hk : ∀ r w' ys, Below w.heap.size w w' → OwnS kIns 44 w.heap.size w' r ys → ys.length = xs.length → K r w') :
    CallT (.o (.lf .sl)) P0 108 [l.v] w K := by
  have hln := hl.len
  refine spec.l20Read.ok (nw fun w0 hb0 hs0 hc0 => ?_)
  have ho0 : OwnS kIns 44 w.heap.size w0 ⟨some ⟨w.heap.size, 0, none⟩, 0, 0⟩ [] := OwnS.lit (Nat.le_refl _) hc0 rfl rfl (by simp [maxLen])
  refine ⟨fun out i w' => ∃ (k : Nat) (ys : List Ins), i = k ∧ k ≤ xs.length ∧ OwnS kIns 44 w.heap.size w' out ys ∧ ys.length = k ∧ Below w.heap.size w w', fun _ i _ => xs.length - i.toNat, ⟨0, [], rfl, by omega, ho0, rfl, hb0⟩, ?_⟩
  rintro out i w1 ⟨k, ys, rfl, hk1, ho, hyl, hb1⟩ _
  refine And.intro (fun hlt => ?_) (fun hge => ?_)
  · simp only [decide_eq_true_eq] at hlt
    obtain ⟨x, hx⟩ := get_some (l := xs) (k := k) (by omega)
    refine ixL (hl.below hb1) (i := k) (by omega) (x := x) (by simpa using hx) rfl (l := .s) (v := x) rfl ?_
    refine spec.LineGet.c (by have := hy x (List.mem_of_getElem? hx); omega) fun y b w2 hb2 => ?_
    refine nwStIns (x := y) fun w3 hb3 hs3 hc3 => ?_
    refine ldAB (x := y.t) hc3 rfl ?_
    have hg2 := hb2.size
    have bb3 : Below w1.heap.size w1 w3 := hb2.trans (hb3.mono hg2)
    have bb : Below w.heap.size w w3 := hb1.trans (bb3.mono hb1.size)
    refine ap1 elIns (ho.below bb3) y rfl (by omega) (by omega) bb.size fun o' w' ho' hg' _ => ?_
    rw [i64_of (n := (k : Int) + 1) (by omega) (by omega)]
    exact ⟨⟨k + 1, ys ++ [y], by omega, by omega, ho', by simp; omega, bb.grown hg' bb.size (fun b hb => ((ho.below bb3).blk hb).1)⟩, by simp only; omega⟩
  · simp only [decide_eq_false_iff_not] at hge
    exact hk _ _ ys hb1 ho (by omega)
end
end Go.Proofs.YtkkdboimkbcfnaaDoor.V

/- Contracts: the draws of programs, and rows whose cells stay numbers. -/
namespace Go.Proofs.YtkkdboimkbcfnaaDoor.V
open Go Go.RowKit
set_option linter.unusedVariables false
set_option linter.unusedSimpArgs false
theorem chooseL {α : Type} {p : Nat → α → Prop} : ∀ (n : Nat), (∀ i, i < n → ∃ x, p i x) → ∃ l : List α, l.length = n ∧ ∀ i x, l[i]? = some x → p i x
  | 0, _ => ⟨[], rfl, by simp⟩
  | n + 1, h => by
    obtain ⟨l, hl, hp⟩ := chooseL n fun i hi => h i (by omega)
    obtain ⟨x, hx⟩ := h n (by omega)
    refine ⟨l ++ [x], by simp [hl], fun i y hy => ?_⟩
    rcases Nat.lt_trichotomy i n with hi | hi | hi
    · rw [List.getElem?_append_left (by omega)] at hy; exact hp i y hy
    · subst hi; rw [List.getElem?_append_right (by omega)] at hy; simp [hl] at hy; subst hy; exact hx
    · rw [List.getElem?_eq_none (by simp; omega)] at hy; simp at hy
section
variable {α : Type} {k : Kd α} {t : TypeId} {B : Nat} {w w' : World} {s : Sl} {xs : List α} {i : Int} {sz : Nat}
theorem take_flat {ys : List α} {cur : List Value} (hp : 0 < k.ls.length) (h : ∀ i x, ys[i]? = some x → ∀ j v, (k.cells x)[j]? = some v → cur[i * k.ls.length + j]? = some v) : cur.take (ys.flatMap k.cells).length = ys.flatMap k.cells := by
  refine List.ext_getElem? fun p => ?_
  rw [List.getElem?_take]
  split
  · rename_i hlt
    rw [flat_length] at hlt
    have hq : p / k.ls.length < ys.length := Nat.div_lt_of_lt_mul (by rw [Nat.mul_comm]; exact hlt)
    have hr : p % k.ls.length < k.ls.length := Nat.mod_lt _ hp
    have hy : ys[p / k.ls.length]? = some ys[p / k.ls.length] := List.getElem?_eq_getElem hq
    have hv : (k.cells ys[p / k.ls.length])[p % k.ls.length]? = some ((k.cells ys[p / k.ls.length])[p % k.ls.length]'(by rw [k.cells_length]; exact hr)) := List.getElem?_eq_getElem _
    have h1 := flat_get k ys _ _ hy _ _ hv
    have h2 := h _ _ hy _ _ hv
    have hj : p / k.ls.length * k.ls.length + p % k.ls.length = p := by rw [Nat.mul_comm]; exact Nat.div_add_mod _ _
    rw [hj] at h1 h2
    rw [h1, h2]
  · rename_i hge
    rw [List.getElem?_eq_none (by omega)]
theorem take_flat' {ys : List α} {cur : List Value} {n : Nat} (hp : 0 < k.ls.length) (hn : n = ys.length) (h : ∀ i x, ys[i]? = some x → ∀ j v, (k.cells x)[j]? = some v → cur[i * k.ls.length + j]? = some v) : cur.take (n * k.ls.length) = ys.flatMap k.cells := by
  have := take_flat hp h
  rwa [flat_length, ← hn] at this
/-- Cells that are numbers stay numbers. -/
def Ip (H : Nat) (a b : World) : Prop := ∀ g, H ≤ g → ∀ cur t, a.heap[g]? = some (.cells cur t (0, 0)) → ∃ cur', b.heap[g]? = some (.cells cur' t (0, 0)) ∧ cur'.size = cur.size ∧ ∀ (i : Nat) (n : Int), cur[i]? = some (.int .i64 n) → ∃ n', cur'[i]? = some (.int .i64 n')
theorem Ip.refl (H : Nat) (a : World) : Ip H a a := fun g _ cur t h => ⟨cur, h, rfl, fun i n hi => ⟨n, hi⟩⟩
theorem Ip.trans {H : Nat} {a b c : World} (h1 : Ip H a b) (h2 : Ip H b c) : Ip H a c := fun g hg cur t h => by
  obtain ⟨c1, hc1, hs1, hi1⟩ := h1 g hg cur t h
  obtain ⟨c2, hc2, hs2, hi2⟩ := h2 g hg c1 t hc1
  exact ⟨c2, hc2, by omega, fun i n hi => by obtain ⟨n1, h1⟩ := hi1 i n hi; exact hi2 i n1 h1⟩
theorem Ip.of_same {H : Nat} {a b : World} (h : ∀ g, H ≤ g → g < a.heap.size → b.heap[g]? = a.heap[g]?) : Ip H a b := fun g hg cur t hc =>
  ⟨cur, (h g hg (Array.getElem?_eq_some_iff.1 hc).1).trans hc, rfl, fun i n hi => ⟨n, hi⟩⟩
/-- A kind of whole numbers. -/
structure KN (k : Kd α) : Prop where
  all : ∀ l ∈ k.ls, l = .i .i64
  pos : 0 < k.ls.length
  sur : ∀ t : Tup k.ls, ∃ y, k.t y = t
theorem tup_ints : ∀ (ls : List Lf), (∀ l ∈ ls, l = .i .i64) → ∀ vs : Nat → Int, ∃ t : Tup ls, ∀ j, j < ls.length → (Tup.cells ls t)[j]? = some (.int .i64 (vs j))
  | [], _, _ => ⟨(), by simp⟩
  | l :: ls, h, vs => by
    obtain rfl := h l List.mem_cons_self
    obtain ⟨t, ht⟩ := tup_ints ls (fun l' hl' => h l' (List.mem_cons_of_mem _ hl')) (fun j => vs (j + 1))
    refine ⟨(vs 0, t), fun j hj => ?_⟩
    cases j with
    | zero => rfl
    | succ j => simpa [Tup.cells] using ht j (by simpa using hj)
theorem cells_ints : ∀ (ls : List Lf), (∀ l ∈ ls, l = .i .i64) → ∀ (t : Tup ls) (j : Nat) (v : Value), (Tup.cells ls t)[j]? = some v → ∃ n, v = .int .i64 n
  | [], _, _, j, v, h => by simp [Tup.cells] at h
  | l :: ls, h, t, j, v, hv => by
    obtain rfl := h l List.mem_cons_self
    cases j with
    | zero => simp only [Tup.cells, List.getElem?_cons_zero, Option.some.injEq] at hv; exact ⟨_, hv.symm⟩
    | succ j => exact cells_ints ls (fun l' hl' => h l' (List.mem_cons_of_mem _ hl')) t.2 j v (by simpa [Tup.cells] using hv)
/-- What was owned is owned, with other numbers. -/
theorem OwnS.ip (hk : KN k) (h : OwnS k t B w s xs) (hi : Ip B w w') : ∃ ys, ys.length = xs.length ∧ OwnS k t B w' s ys := by
  rcases h.2.2 with ⟨hv, hn⟩ | ⟨g, cap, cur, hv, hB, hg, hnc, hcm, hcs, ht⟩
  · have hx : xs = [] := List.eq_nil_of_length_eq_zero (by rw [← h.1]; exact hn)
    subst hx
    exact ⟨[], rfl, h.1, by rw [hn]; simp, .inl ⟨hv, hn⟩⟩
  · obtain ⟨cur', hg', hs', hint⟩ := hi g hB cur t hg
    have hcell : ∀ (i : Nat) (x : α), xs[i]? = some x → ∀ j, j < k.ls.length → ∃ n : Int, cur[i * k.ls.length + j]? = some (.int .i64 n) := by
      intro i x hx j hj
      have hv : (k.cells x)[j]? = some ((k.cells x)[j]'(by rw [k.cells_length]; exact hj)) := List.getElem?_eq_getElem _
      obtain ⟨n, hn⟩ := cells_ints k.ls hk.all (k.t x) j _ hv
      have h1 := flat_get k xs i x hx j _ hv
      rw [← ht, List.getElem?_take] at h1
      split at h1
      · refine ⟨n, ?_⟩
        rw [← hn]; simpa using h1
      · simp at h1
    obtain ⟨ys, hyl, hy⟩ := chooseL (p := fun i y => ∀ j v, (k.cells y)[j]? = some v → cur'[i * k.ls.length + j]? = some v) xs.length (fun i hi => by
      obtain ⟨x, hx⟩ := get_some (l := xs) (k := i) hi
      have h1 : ∀ j, ∃ n : Int, j < k.ls.length → cur'[i * k.ls.length + j]? = some (.int .i64 n) := fun j => by
        by_cases hj : j < k.ls.length
        · obtain ⟨n, hn⟩ := hcell i x hx j hj
          obtain ⟨n', hn'⟩ := hint _ n hn
          exact ⟨n', fun _ => hn'⟩
        · exact ⟨0, fun h => absurd h hj⟩
      obtain ⟨t, ht⟩ := tup_ints k.ls hk.all (fun j => (h1 j).choose)
      obtain ⟨y, rfl⟩ := hk.sur t
      refine ⟨y, fun j v hv => ?_⟩
      have hj : j < k.ls.length := by have := lt_of_get hv; rw [k.cells_length] at this; exact this
      have h2 : (k.cells y)[j]? = _ := ht j hj
      rw [h2] at hv
      simp only [Option.some.injEq] at hv
      rw [← hv]
      exact (h1 j).choose_spec hj)
    refine ⟨ys, hyl, by rw [hyl]; exact h.1, by rw [flat_length, hyl, h.1], .inr ⟨g, cap, cur', hv, hB, hg', hnc, hcm, by omega, take_flat' hk.pos (by rw [hyl]; exact h.1) fun i x hx j v hv => by simpa using hy i x hx j v hv⟩⟩
theorem heap_setRow {w : World} {g : Nat} {cur vs : Array Value} {t : TypeId} (h : w.heap[g]? = some (.cells cur t (0, 0))) : (w.setRow g vs).heap[g]? = some (.cells vs t (0, 0)) := by
  simp [World.setRow, Array.getElem?_modify, h]
theorem heap_setRow_ne {w : World} {g j : Nat} {vs : Array Value} (h : j ≠ g) : (w.setRow g vs).heap[j]? = w.heap[j]? := by
  simp [World.setRow, Array.getElem?_modify, Ne.symm h]
theorem RunT.and {r : Rs} {P : Program} {sm : Sem Value} {K : r.T → World → Prop} {I : World → Prop} (h : RunT r P sm w K) (hI : ∀ v w', sm.run P w = .ok v w' → I w') : RunT r P sm w (fun x w' => K x w' ∧ I w') := by
  obtain ⟨x, w', hr, hk⟩ := h
  exact ⟨x, w', hr, hk, hI _ _ hr⟩
/-- What an append leaves of numbers. -/
theorem ap_ip {P : Program} {tS tR : TypeId} {bytes : Nat} (hE : El P tS t k bytes) (hk : KN k) {H : Nat} (h : OwnS k t B w s xs) {x : Sl} {ys : List α} (hx : SlR k w x ys) (hb : (xs.length + ys.length) * bytes ≤ 140737488355328) (hm : xs.length + ys.length ≤ 140737488355328) :
    ∀ v w', (Builtin.append_ #[tS, tS] tR #[.slice s.a s.n s.c, .slice x.a x.n x.c]).run P w = .ok v w' → Ip H w w' := by
  intro v w' hr
  obtain ⟨i, z, hi, hz, hsz, hby, hzs⟩ := hE.info
  by_cases hne : ys = []
  · subst hne
    have hxn : x.n = 0 := by rw [hx.1]; rfl
    have hr' : (Builtin.append_ #[tS, tS] tR #[.slice s.a s.n s.c, .slice x.a x.n x.c]).run P w = .ok (.slice s.a s.n s.c) w := by
      rw [hxn]
      have hc := h.cap
      cases hxa : x.a <;> cases hsa : s.a <;> simp [Builtin.append_, run_underlying hE.elem, sizeOf, typeInfo, hi, Builtin.lenOf, Builtin.firstCells, hc.1, storeCells, loadCells, loadCellsFrom]
    rw [hr'] at hr
    simp only [Result.ok.injEq] at hr
    rw [← hr.2]; exact Ip.refl _ _
  · rcases hx.2.2.2 with h0 | ⟨b, o, ha, hat⟩
    · exact absurd h0 hne
    · have hnews : ∀ j u, (ys.flatMap k.cells)[j]? = some u → w.cell? ((⟨b, o, none⟩ : Addr).add j) = some u := by
        intro j u hu
        have hjl : j < ys.length * k.ls.length := by
          rcases Nat.lt_or_ge j (ys.length * k.ls.length) with h | h
          · exact h
          · rw [List.getElem?_eq_none (by rw [flat_length]; exact h)] at hu; simp at hu
        have hq : j / k.ls.length < ys.length := Nat.div_lt_of_lt_mul (by rw [Nat.mul_comm]; exact hjl)
        have hr : j % k.ls.length < k.ls.length := Nat.mod_lt _ hE.pos
        have hy : ys[j / k.ls.length]? = some ys[j / k.ls.length] := List.getElem?_eq_getElem hq
        have hv : (k.cells ys[j / k.ls.length])[j % k.ls.length]? = some ((k.cells ys[j / k.ls.length])[j % k.ls.length]'(by rw [k.cells_length]; exact hr)) := List.getElem?_eq_getElem _
        have h1 := flat_get k ys _ _ hy _ _ hv
        have hj : j / k.ls.length * k.ls.length + j % k.ls.length = j := by rw [Nat.mul_comm]; exact Nat.div_add_mod _ _
        rw [hj, hu] at h1
        simp only [Option.some.injEq] at h1
        have h2 := hat _ _ hy _ _ hv
        rw [← h1, Nat.add_assoc, hj] at h2
        rw [add_mk]
        exact h2
      have h1 : ∀ u ∈ ys.flatMap k.cells, u.oneCell' = true := by
        intro u hu
        obtain ⟨y, _, hy⟩ := List.mem_flatMap.1 hu
        exact oneCell_cells k hE.one y u hy
      have hint : ∀ (j : Nat) u, (ys.flatMap k.cells)[j]? = some u → ∃ n : Int, u = .int .i64 n := by
        intro j u hu
        obtain ⟨y, _, hy⟩ := List.mem_flatMap.1 (List.mem_of_getElem? hu)
        obtain ⟨q, hq⟩ := List.getElem?_of_mem hy
        exact cells_ints k.ls hk.all (k.t y) q u hq
      have hxn : 0 < x.n := by rw [hx.1]; exact List.length_pos_iff.2 hne
      have hlen : (ys.flatMap k.cells).length = x.n * i.size := by rw [flat_length, hx.1, hsz]
      rw [ha] at hr
      rcases h.2.2 with ⟨hv, hn⟩ | ⟨g, cap, cur, hv, hBg, hg, hnc, hcm, hcs, htake⟩
      · rw [hv, run_append_nil (P := P) w tS tR t i z hE.elem hi hz ⟨b, o, none⟩ x.n x.c _ hlen hnews hxn (by rw [hx.1]; omega) (by
          rw [hx.1, hby]
          have : ys.length * bytes ≤ (xs.length + ys.length) * bytes := Nat.mul_le_mul_right _ (by omega)
          omega)] at hr
        simp only [Result.ok.injEq] at hr
        rw [← hr.2]
        exact Ip.of_same fun j _ hj => (((Below.refl w.heap.size w).drew).alloc (Nat.le_refl _) _).block j hj
      · rw [hv] at hr
        by_cases hroom : s.n + x.n ≤ cap
        · have hfit : s.n * i.size + (ys.flatMap k.cells).length ≤ cur.size := by rw [hlen, hcs, ← Nat.add_mul, hsz]; exact Nat.mul_le_mul_right _ hroom
          rw [run_append_room (P := P) w tS tR t i hE.elem hi g s.n cap cur hg ⟨b, o, none⟩ x.n x.c _ hlen hnews h1 hroom hfit] at hr
          simp only [Result.ok.injEq] at hr
          rw [← hr.2]
          intro q _ cq tq hq
          by_cases hqg : q = g
          · subst hqg
            rw [hg] at hq
            simp only [Option.some.injEq, Obj.cells.injEq] at hq
            obtain ⟨rfl, rfl, _⟩ := hq
            have e0 : (cur.toList.take (s.n * i.size)).length = s.n * i.size := by rw [List.length_take, Array.length_toList]; omega
            refine ⟨_, heap_setRow hg, ?_, fun p n hp => ?_⟩
            · simp only [List.size_toArray, List.length_append, List.length_drop, e0, Array.length_toList]; omega
            rw [List.getElem?_toArray]
            rcases Nat.lt_or_ge p (s.n * i.size) with h2 | h2
            · refine ⟨n, ?_⟩
              rw [List.append_assoc, List.getElem?_append_left (by omega), List.getElem?_take, if_pos h2]
              simpa using hp
            · rw [List.append_assoc, List.getElem?_append_right (by omega), e0]
              rcases Nat.lt_or_ge (p - s.n * i.size) (ys.flatMap k.cells).length with h3 | h3
              · rw [List.getElem?_append_left h3]
                obtain ⟨n', hn'⟩ := hint _ _ (List.getElem?_eq_getElem h3)
                exact ⟨n', by rw [List.getElem?_eq_getElem h3, hn']⟩
              · refine ⟨n, ?_⟩
                rw [List.getElem?_append_right h3, List.getElem?_drop, show s.n * i.size + (ys.flatMap k.cells).length + (p - s.n * i.size - (ys.flatMap k.cells).length) = p by omega]
                simpa using hp
          · exact ⟨cq, by rw [heap_setRow_ne hqg]; exact hq, rfl, fun i n hi => ⟨n, hi⟩⟩
        · have holds : ∀ j u, (xs.flatMap k.cells)[j]? = some u → w.cell? ((⟨g, 0, none⟩ : Addr).add j) = some u := h.2.cells (g := g) (by rw [hv]; rfl)
          rw [run_append_grow (P := P) w tS tR t i z hE.elem hi hz ⟨g, 0, none⟩ s.n cap (xs.flatMap k.cells) (by rw [flat_length, h.1, hsz]) holds ⟨b, o, none⟩ x.n x.c _ hlen hnews (by omega) (by rw [h.1, hx.1]; omega) (growslice_fits (by omega) (by rw [h.1, hx.1, hby]; exact hb))] at hr
          simp only [Result.ok.injEq] at hr
          rw [← hr.2]
          exact Ip.of_same fun j _ hj => (((Below.refl w.heap.size w).drew).alloc (Nat.le_refl _) _).block j hj
/-- Write a field of an element of what is owned. -/
theorem ixOwF (h : OwnS k t B w s xs) (hi : 0 ≤ i) {x : α} (hx : xs[i.toNat]? = some x) (hsz : sz = k.ls.length) {j : Nat} (hj : j < k.ls.length) {v : Value} (hv : v.oneCell' = true) (y : α) (hy : k.cells y = (k.cells x).set j v) {K : World → Prop}
    (hK : ∀ w', OwnS k t B w' s (xs.set i.toNat y) → w.grownBy w' s.bk → w'.heap.size = w.heap.size → K w') : Ix s.a s.n i sz w (fun a w1 => St (Addr.add a j) v w1 K) := by
  have hl := lt_of_get hx
  rcases h.2.2 with ⟨_, hn⟩ | ⟨g, cap, cur, hvv, hB, hg, hnc, hcm, hcs, ht⟩
  · rw [h.1] at hn; omega
  simp only [Value.slice.injEq] at hvv
  have hc : ∀ i x, xs[i]? = some x → ∀ j v, (k.cells x)[j]? = some v → cur[0 + i * k.ls.length + j]? = some v := fun i x hi j v hm => by
    have hm := flat_get k xs i x hi j v hm
    rw [← ht, List.getElem?_take] at hm
    split at hm
    · simpa using hm
    · simp at hm
  have hcap : (i.toNat + 1) * k.ls.length ≤ cap * k.ls.length := Nat.mul_le_mul_right _ (by rw [h.1] at hnc; omega)
  rw [Nat.succ_mul] at hcap
  subst hsz
  refine ⟨_, hvv.1, hi, by rw [h.1]; omega, hv, ⟨cur[i.toNat * k.ls.length + j]'(by omega), ?_⟩, ?_, ?_⟩
  · rw [add_mk, add_mk, cell_of hg, Nat.zero_add]; exact Array.getElem?_eq_getElem _
  · simp [add_mk, World.frozen?, hg]
  · rw [add_mk, add_mk]
    have hu := upd (cur' := cur.setIfInBounds (0 + i.toNat * k.ls.length + j) v) (y := y) hc (i := i.toNat) ?_ ?_
    · refine hK _ ⟨by simpa using h.1, by rw [flat_length]; simp [h.1], .inr ⟨g, cap, _, by simp [hvv], hB, setCell_heap hg v, hnc, hcm, by simpa using hcs, take_flat' (by omega) (by simpa using h.1) fun i x hx j v hv => by have h2 := hu i x hx j v hv; rw [Nat.zero_add (i * _)] at h2; rw [Array.getElem?_toList]; exact h2⟩⟩ (by simpa [Sl.bk, hvv.1] using grown_setCell w g _ v) (by simp)
    · intro j' u hu
      rw [hy] at hu
      by_cases he : j' = j
      · subst he
        rw [List.getElem?_set_self (by rw [k.cells_length]; exact hj)] at hu
        rw [Array.getElem?_setIfInBounds_self_of_lt (by omega)]; exact hu
      · rw [List.getElem?_set_ne (by omega)] at hu
        rw [Array.getElem?_setIfInBounds_ne (by omega)]
        exact hc _ _ hx _ _ hu
    · intro p hp
      exact Array.getElem?_setIfInBounds_ne (by omega)
end
theorem knIns : KN kIns := ⟨by intro l hl; simp [kIns] at hl; exact hl, by decide, fun t => ⟨insOf t, rfl⟩⟩
end Go.Proofs.YtkkdboimkbcfnaaDoor.V

/- Contracts: the draws of programs. -/
namespace Go.Proofs.YtkkdboimkbcfnaaDoor.V
open Go Go.RowKit
set_option linter.unusedVariables false
set_option linter.unusedSimpArgs false
theorem grown_newO {w w1 w2 : World} {row row2 : Option Nat} (h : w.grownBy w1 row) (h2 : w1.grownBy w2 row2) (hb : ∀ b, row2 = some b → w.heap.size ≤ b) : w.grownBy w2 row :=
  ⟨h2.os.trans h.os, h2.tape.trans h.tape, h2.output.trans h.output, Nat.le_trans h.size h2.size, fun k hk hne => (h2.block k (Nat.lt_of_lt_of_le hk h.size) (fun e => by have := hb k e.symm; omega)).trans (h.block k hk hne)⟩
section
variable {B br m : Nat} {w : World}
theorem OwnS.keptBr {α : Type} {k : Kd α} {t : TypeId} {B' : Nat} {w1 w2 : World} {s : Sl} {xs : List α} (ho : OwnS k t B' w1 s xs) (hg : w1.grownBy w2 (some br)) (h : br < B') : OwnS k t B' w2 s xs :=
  ho.kept hg (fun b hb e => by simp only [Option.some.injEq] at hb; have := (ho.blk e).1; omega)
theorem RdS.keptO {α : Type} {k : Kd α} {t : TypeId} {B' : Nat} {w1 w2 : World} {s : Sl} {xs : List α} (h : RdS B br m w1) (ho : OwnS k t B' w1 s xs) (hg : w1.grownBy w2 (Value.slice s.a s.n s.c).ownBlock) (hb : br < B') : RdS B br m w2 :=
  h.kept hg (fun b e => by have := (ho.blk e).1; omega)
def MkI (B br m : Nat) (w : World) (t : Int) (out : Sl) (w' : World) : Prop :=
  ∃ ys, OwnS kIns 44 w.heap.size w' out ys ∧ 4 ≤ ys.length ∧ (ys.length : Int) ≤ t + 8 ∧ RdS B br (m + 1 + 8 * (ys.length - 4)) w' ∧ w.grownBy w' (some br)
set_option maxHeartbeats 1000000 in
theorem spec.l20Make.c {K : Sl → World → Prop} (h : RdS B br m w) (hm : m ≤ 800000000) (hk : ∀ r w' ys, w.grownBy w' (some br) → RdS B br (m + 200) w' → OwnS kIns 44 w.heap.size w' r ys → 1 ≤ ys.length → ys.length ≤ 40 → K r w') :
    CallT (.o (.lf .sl)) P0 106 [.pointer (some ⟨br, 0, none⟩)] w K := by
  have hlt := h.lt
  refine spec.l20Make.ok (nw fun w1 b1 s1 c1 => ?_)
  have hl : OwnS kS 9 w.heap.size w1 ⟨some ⟨w.heap.size, 0, none⟩, 4, 4⟩ [_, _, _, _] := OwnS.lit (Nat.le_refl _) c1 rfl rfl (by simp [maxLen])
  refine spec.l20Read.c (l := ⟨some ⟨w.heap.size, 0, none⟩, 4, 4⟩) hl.read (by simp) (by decide) fun r0 w2 ys0 b2 ho2 hl2 => ?_
  have g2 : w.grownBy w2 (some br) := grown_trans (grown_any b1) (grown_any b2)
  refine spec.l20Rd.pick.c ((h.below b1).below b2) (by omega) (by omega) fun t10 w3 p0 p1 g3 r3 => ?_
  have hN : IntKind.wrap .i64 (IntKind.wrap .i64 (4 + t10) + 4) = t10 + 8 := by rw [i64_of (n := 4 + t10) (by omega) (by omega), i64_of (by omega) (by omega)]; omega
  simp only [List.length_cons, List.length_nil] at hl2
  refine ⟨MkI B br m w t10, fun out _ => 40 - out.n, ⟨ys0, (ho2.low b1.size).keptBr g3 hlt, by omega, by omega, r3.more (by omega), grown_trans g2 g3⟩, ?_⟩
  rintro out w4 ⟨ys, ho, hl4, hln, hr, hg⟩ _
  have hn := ho.len
  rw [hN]
  have app : ∀ {w5 : World} {K' : Sl → World → Prop} (y : Ins) (p : Nat), w4.grownBy w5 (some br) → RdS B br p w5 →
      (∀ o' w7, OwnS kIns 44 w.heap.size w7 o' (ys ++ [y]) → RdS B br p w7 → w.grownBy w7 (some br) → K' o' w7) →
      Nw y.cs 44 w5 fun a w6 => RunT (.o (.lf .sl)) P0 (Builtin.append_ #[37, 37] 37 #[.slice out.a out.n out.c, .slice (some a) 1 1]) w6 K' := by
    intro w5 K' y p g5 r5 hk'
    have o5 := ho.keptBr g5 hlt
    have G5 := grown_trans hg g5
    refine ap1 elIns o5 y rfl (by omega) (by omega) G5.size fun o' w6 o6 g6 _ => ?_
    exact hk' o' w6 o6 (r5.keptO o5 g6 hlt) (grown_newO G5 g6 (fun b hb => (o5.blk hb).1))
  refine And.intro (fun hlt' => ?_) (fun hge => ?_)
  · simp only [decide_eq_true_eq] at hlt'
    have fin : ∀ {w5 : World} (y : Ins), w4.grownBy w5 (some br) → RdS B br (m + 1 + 8 * (ys.length - 4) + 8) w5 →
        Nw y.cs 44 w5 fun a w6 => RunT (.o (.lf .sl)) P0 (Builtin.append_ #[37, 37] 37 #[.slice out.a out.n out.c, .slice (some a) 1 1]) w6 fun o' w7 => MkI B br m w t10 o' w7 ∧ 40 - o'.n < 40 - out.n := by
      intro w5 y g5 r5
      refine app y _ g5 r5 fun o' w7 o7 r7 g7 => ?_
      have hl7 := o7.len
      simp only [List.length_append, List.length_cons, List.length_nil] at hl7
      exact ⟨⟨ys ++ [y], o7, by simp; omega, by simp; omega, r7.more (by simp; omega), g7⟩, by omega⟩
    refine spec.l20Rd.pick.c hr (by omega) (by omega) fun t23 w5 q0 q1 g5 r5 => ?_
    refine ⟨fun _ w' => w' = w5, And.intro (fun _ => rfl) (fun _ => rfl), ?_⟩
    rintro t29 w6 rfl _
    refine And.intro (fun _ => ?_) (fun _ => ?_)
    · refine spec.l20Rd.pick.c r5 (by omega) (by omega) fun t33 w7 _ _ g7 r7 => ?_
      refine oneLit (xs := [0, 6, 7, 8]) r7 (by omega) rfl rfl (by decide) fun t37 w8 _ g8 r8 => ?_
      refine spec.l20Imm.c r8 (by omega) fun t39 w9 g9 r9 => ?_
      rw [i64_of (n := t10 + 8 - ((out.n : Nat) : Int)) (by omega) (by omega)]
      refine spec.l20Rd.pick.c r9 (by omega) (by omega) fun t42 w10 _ _ g10 r10 => ?_
      have g410 : w4.grownBy w10 (some br) := grown_trans (grown_trans (grown_trans (grown_trans g5 g7) g8) g9) g10
      refine nwStIns (x := ⟨IntKind.wrap .i64 (12 + t33), t37, -1, t42, t39, 0⟩) fun w11 b11 s11 c11 => ?_
      refine spec.l20Rd.pick.c (r10.below b11) (by omega) (by omega) fun t45 w12 _ _ g12 r12 => ?_
      have c12 := keepB c11 g12 (by have := g410.size; have := hr.lt; omega)
      have g412 : w4.grownBy w12 (some br) := grown_trans (grown_trans g410 (grown_any b11)) g12
      have hs10 := g410.size
      have hbr4 := hr.lt
      refine And.intro (fun _ => ?_) (fun _ => ?_)
      · refine oneLit (xs := [0, 6, 7, 8]) r12 (by omega) rfl rfl (by decide) fun t49 w13 _ g13 r13 => ?_
        have c13 := keepB c12 g13 (by omega)
        refine stB c13 rfl (by simp [Ins.cs]) fun w14 g14 s14 c14 => ?_
        refine stB c14 rfl (by simp [Ins.cs]) fun w15 g15 s15 c15 => ?_
        have G15 : w4.grownBy w15 (some br) := grown_new (grown_new (grown_trans g412 g13) g14 (by omega)) g15 (by omega)
        have r15 := (r13.kept g14 (fun b hb => by simp only [Option.some.injEq] at hb; omega)).kept g15 (fun b hb => by simp only [Option.some.injEq] at hb; omega)
        have c15' : w15.heap[w10.heap.size]? = some (.cells (Ins.cs ⟨IntKind.wrap .i64 (12 + t33), t37, t49, t42, 0, 0⟩) 44 (0, 0)) := c15
        refine ldAB (x := Ins.t ⟨IntKind.wrap .i64 (12 + t33), t37, t49, t42, 0, 0⟩) c15' rfl ?_
        exact fin ⟨IntKind.wrap .i64 (12 + t33), t37, t49, t42, 0, 0⟩ G15 (r15.more (by omega))
      · refine ldAB (x := Ins.t ⟨IntKind.wrap .i64 (12 + t33), t37, -1, t42, t39, 0⟩) c12 rfl ?_
        exact fin ⟨IntKind.wrap .i64 (12 + t33), t37, -1, t42, t39, 0⟩ g412 (r12.more (by omega))
    · refine And.intro (fun _ => ?_) (fun _ => And.intro (fun _ => ?_) (fun _ => ?_))
      · refine oneLit (xs := [0, 6, 7, 8]) r5 (by omega) rfl rfl (by decide) fun t61 w7 _ g7 r7 => ?_
        refine oneLit (xs := [-4, -8, -2]) r7 (by omega) rfl rfl (by decide) fun t64 w8 _ g8 r8 => ?_
        refine oneLit (xs := [1, 2]) r8 (by omega) rfl rfl (by decide) fun t67 w9 _ g9 r9 => ?_
        exact fin ⟨18, 10, t61, t64, 0, t67⟩ (grown_trans (grown_trans (grown_trans g5 g7) g8) g9) (r9.more (by omega))
      · refine oneLit (xs := [0, 6, 8]) r5 (by omega) rfl rfl (by decide) fun t76 w7 _ g7 r7 => ?_
        refine oneLit (xs := [1, 10, 1]) r7 (by omega) rfl rfl (by decide) fun t79 w8 _ g8 r8 => ?_
        refine oneLit (xs := [0, 3, 8]) r8 (by omega) rfl rfl (by decide) fun t82 w9 _ g9 r9 => ?_
        refine oneLit (xs := [1, 2, 4]) r9 (by omega) rfl rfl (by decide) fun t85 w10 _ g10 r10 => ?_
        exact fin ⟨17, t76, t79, t82, 0, t85⟩ (grown_trans (grown_trans (grown_trans (grown_trans g5 g7) g8) g9) g10) (r10.more (by omega))
      · refine spec.l20Alu.c r5 (by omega) fun x w7 g7 r7 => ?_
        exact fin x (grown_trans g5 g7) (r7.more (by omega))
  · refine app ⟨20, 0, -1, 0, 0, 0⟩ _ (grown_refl _ _) hr fun o' w7 o7 r7 g7 => ?_
    exact hk o' w7 _ g7 (r7.more (by omega)) o7 (by simp) (by simp; omega)
/-- A part of a row. -/
theorem slcR {α : Type} {k : Kd α} {P : Program} {tS e : TypeId} (hu : P.underlying tS = some (.slice e)) (hs : szOf P e = some k.ls.length) {w : World} {s : Sl} {xs : List α} (h : SlR k w s xs) {lo hi mx : Option Int} {l h' m : Nat}
    (hlo : lo.getD 0 = l) (hhi : hi.getD s.n = h') (hmx : mx.getD s.c = m) (hm2 : mx.isSome = true → hi.isSome = true) (h1 : l ≤ h') (h2 : h' ≤ m) (h3 : m ≤ s.c) (h4 : h' ≤ s.n) {K : Sl → World → Prop}
    (hk : ∀ r : Sl, r.n = h' - l → r.c = m - l → SlR k w r ((xs.take h').drop l) → (∀ b, r.bk = some b → s.bk = some b) → K r w) :
    RunT (.o (.lf .sl)) P (Instr.sliceAt tS s.v (lo.map (.int .i64)) (hi.map (.int .i64)) (mx.map (.int .i64))) w K := by
  have hrun : (Instr.sliceAt tS s.v (lo.map (.int .i64)) (hi.map (.int .i64)) (mx.map (.int .i64))).run P w = .ok (.slice (if m = l then s.a else s.a.map (·.add (l * k.ls.length))) (h' - l) (m - l)) w := by
    have ho : ∀ (x : Option Int) (d a : Nat), x.getD (d : Int) = (a : Int) → (x = none ∧ a = d) ∨ x = some (a : Int) := by
      intro x d a hx
      cases x with
      | none => left; simp only [Option.getD_none] at hx; exact ⟨rfl, by omega⟩
      | some y => right; simp only [Option.getD_some] at hx; rw [hx]
    rcases ho lo 0 l hlo with ⟨rfl, rfl⟩ | rfl <;> rcases ho hi s.n h' hhi with ⟨rfl, rfl⟩ | rfl <;> rcases ho mx s.c m hmx with ⟨rfl, rfl⟩ | rfl <;>
      first
      | (have hx := hm2 rfl; simp at hx; done)
      | simp [Instr.sliceAt, Instr.slice, Sl.v, underlying, hu, Instr.sliceBounds, Instr.sliceBound, asIntOf, run_sizeOf hs, h1, h2, h3, h4]
  refine ⟨⟨if m = l then s.a else s.a.map (·.add (l * k.ls.length)), h' - l, m - l⟩, w, hrun, hk _ rfl rfl ?_ ?_⟩
  · have hn := h.1
    refine ⟨by rw [List.length_drop, List.length_take]; simp only; omega, by simp only; omega, by have := h.2.2.1; simp only; omega, ?_⟩
    rcases h.2.2.2 with h0 | ⟨b, o, ha, hat⟩
    · left; rw [h0]; simp
    · by_cases hml : m = l
      · left
        apply List.eq_nil_of_length_eq_zero
        rw [List.length_drop, List.length_take]; omega
      · refine .inr ⟨b, o + l * k.ls.length, ?_, fun i x hx => ?_⟩
        · simp only
          rw [if_neg hml, ha, Option.map_some, add_mk]
        · rw [List.getElem?_drop, List.getElem?_take] at hx
          split at hx
          · have := hat _ _ hx
            rw [Nat.add_mul, ← Nat.add_assoc] at this
            exact this
          · simp at hx
  · intro b hb
    simp only [Sl.bk] at hb ⊢
    split at hb
    · exact hb
    · cases hsa : s.a with
      | none => rw [hsa] at hb; simp at hb
      | some a =>
        rw [hsa] at hb
        simp only [Option.map_some, Option.some.injEq] at hb ⊢
        rw [← hb]
        unfold Addr.add
        split <;> rfl
theorem spec.l20Open.c {code : Sl} {bs : List Int} {K : Option Addr → World → Prop} (h : SlR kU8 w code bs) (hb : ∀ x ∈ bs, 0 ≤ x ∧ x ≤ 255) (hk : ∀ w', Below w.heap.size w w' → RdS w.heap.size w.heap.size 0 w' → K (some ⟨w.heap.size, 0, none⟩) w') :
    CallT (.o (.lf .p)) P0 28 [code.v] w K := by
  have hn := h.len
  have blk : ∀ {s : Sl} {xs : List Int}, SlR kU8 w s xs → xs ≠ [] → ∀ b o, s.a = some ⟨b, o, none⟩ → b < w.heap.size := by
    intro s xs hs hne b o ha
    rcases hs.2.2.2 with h0 | ⟨b', o', ha', hat⟩
    · exact absurd h0 hne
    · rw [ha] at ha'
      simp only [Option.some.injEq, Addr.mk.injEq] at ha'
      obtain ⟨x, hx⟩ := get_some (l := xs) (k := 0) (List.length_pos_iff.2 hne)
      have := hat 0 x hx 0 (.int .u8 x) rfl
      have := World.block_lt_of_cell? w _ this
      simp only at this; omega
  have fin : ∀ {s : Sl} {xs : List Int}, SlR kU8 w s xs → (∀ x ∈ xs, 0 ≤ x ∧ x ≤ 255) → Nw #[s.v, .int .i64 0] 86 w fun a w1 => K (some a) w1 := by
    intro s xs hs hx
    exact nw fun w1 b1 s1 c1 => hk w1 b1 ⟨s, xs, 0, c1, hs.below b1, blk hs, Nat.le_refl _, hx, by omega⟩
  refine spec.l20Open.ok (And.intro (fun hgt => ?_) (fun _ => fin h hb))
  simp only [decide_eq_true_eq] at hgt
  refine slcR (k := kU8) (e := 5) (by kernel_rfl) (by kernel_rfl) h (lo := none) (hi := some 2000) (mx := none) (l := 0) (h' := 2000) (m := code.c) rfl rfl rfl (by simp) (by omega) (by have := h.2.1; omega) (by omega) (by omega) fun r _ _ hr _ => ?_
  refine fin hr fun x hx => hb x (List.mem_of_mem_take (by simpa using hx))
end
end Go.Proofs.YtkkdboimkbcfnaaDoor.V

/- Contracts: a drawn program, and the draws of the flow's laws. -/
namespace Go.Proofs.YtkkdboimkbcfnaaDoor.V
open Go Go.RowKit
set_option linter.unusedVariables false
set_option linter.unusedSimpArgs false
/-- What may become of the world in a region that appends to rows of its own beside a draw. -/
structure SpD (H br : Nat) (R : World → Prop) (a b : World) : Prop where
  os : b.os = a.os
  tape : b.tape = a.tape
  output : b.output = a.output
  size : a.heap.size ≤ b.heap.size
  low : ∀ k, k < H → k ≠ br → b.heap[k]? = a.heap[k]?
  ip : Ip H a b
  rd : R a → R b
theorem SpD.refl (H br : Nat) (R : World → Prop) (a : World) : SpD H br R a a := ⟨rfl, rfl, rfl, Nat.le_refl _, fun _ _ _ => rfl, Ip.refl _ _, id⟩
theorem SpD.trans {H br : Nat} {R : World → Prop} {a b c : World} (h1 : SpD H br R a b) (h2 : SpD H br R b c) : SpD H br R a c :=
  ⟨h2.os.trans h1.os, h2.tape.trans h1.tape, h2.output.trans h1.output, Nat.le_trans h1.size h2.size, fun k hk hne => (h2.low k hk hne).trans (h1.low k hk hne), h1.ip.trans h2.ip, fun h => h2.rd (h1.rd h)⟩
theorem SpD.grown {H br : Nat} {R : World → Prop} {a b : World} (h : SpD H br R a b) (hH : H = a.heap.size) : a.grownBy b (some br) :=
  ⟨h.os, h.tape, h.output, h.size, fun k hk hne => h.low k (by omega) (fun e => hne (by rw [e]))⟩
section
variable {B br m : Nat} {w : World}
theorem spD_ok (w : World) : SpOk (SpD w.heap.size br (RdS B br m)) w := by
  refine ⟨fun a => SpD.refl _ _ _ a, fun a b c h1 h2 => h1.trans h2, ?_⟩
  have hb : Below w.heap.size w w.drew := (Below.refl _ _).drew
  exact ⟨rfl, rfl, rfl, Nat.le_refl _, fun k _ _ => rfl, Ip.of_same fun g _ _ => rfl, fun h => h.below hb⟩
/-- A step beside the draw. -/
theorem sk_step {H : Nat} {a b : World} {row : Option Nat} {m1 m2 : Nat} (hg : a.grownBy b row) (hH : H ≤ a.heap.size) (hr : ∀ g, row = some g → H ≤ g) (hi : Ip H a b) (hbr : br < H) : Sk (SpD H br (RdS B br m1)) (RdS B br m2) a b := by
  refine ⟨⟨hg.os, hg.tape, hg.output, hg.size, fun k hk hne => hg.block k (by omega) (fun e => by have := hr k e.symm; omega), hi, fun h => h.kept hg (fun b hb => by have := hr b hb; omega)⟩, fun h => h.kept hg (fun b hb => by have := hr b hb; omega)⟩
theorem sk_below {H : Nat} {a b : World} {m1 m2 : Nat} (hb : Below a.heap.size a b) (hH : H ≤ a.heap.size) (hbr : br < H) : Sk (SpD H br (RdS B br m1)) (RdS B br m2) a b :=
  sk_step (row := none) (grown_of_below hb) hH (by simp) (Ip.of_same fun g _ hg => hb.block g hg) hbr
end
section
variable {α : Type} {k : Kd α} {t : TypeId} {H br n : Nat} {R : World → Prop} {w : World}
/-- Some row of so many elements, owned. -/
def IO (k : Kd α) (t : TypeId) (H n : Nat) (x : Sl) (w : World) : Prop := ∃ zs, zs.length = n ∧ OwnS k t H w x zs
/-- Some row of so many elements, of old memory. -/
def RO (k : Kd α) (H br n : Nat) (x : Sl) (w : World) : Prop := ∃ zs, zs.length = n ∧ SlR k w x zs ∧ ∀ b, x.bk = some b → b < H ∧ b ≠ br
theorem kept_IO (hk : KN k) : Kept (SpD H br R) (IO k t H n) := by
  rintro x a b ⟨zs, hl, ho⟩ hab
  obtain ⟨ys, hyl, hy⟩ := ho.ip hk hab.ip
  exact ⟨ys, by omega, hy⟩
theorem kept_RO : Kept (SpD H br R) (RO k H br n) := by
  rintro x a b ⟨zs, hl, ho, hx⟩ hab
  refine ⟨zs, hl, ⟨ho.1, ho.2.1, ho.2.2.1, ?_⟩, hx⟩
  rcases ho.2.2.2 with h0 | ⟨g, o, ha, hat⟩
  · exact .inl h0
  · refine .inr ⟨g, o, ha, fun i x hi j v hj => ?_⟩
    have h1 := hat i x hi j v hj
    have h2 := hx g (by simp [Sl.bk, ha])
    unfold World.cell? at h1 ⊢
    simp only at h1 ⊢
    rw [hab.low g h2.1 h2.2]; exact h1
end
section
variable {B br m : Nat} {w : World}
def PgJ (B br m : Nat) (w : World) (out : Sl) (w' : World) : Prop := ∃ ys, w.grownBy w' (some br) ∧ RdS B br (m + 210) w' ∧ OwnS kIns 44 w.heap.size w' out ys ∧ 1 ≤ ys.length ∧ ys.length ≤ 40
set_option maxHeartbeats 2000000 in
theorem spec.l20Prog.c {K : Sl → World → Prop} (h : RdS B br m w) (hm : m ≤ 700000000) (hk : ∀ r w' ys, w.grownBy w' (some br) → RdS B br (m + 300) w' → OwnS kIns 44 w.heap.size w' r ys → 1 ≤ ys.length → ys.length ≤ 41 → K r w') :
    CallT (.o (.lf .sl)) P0 92 [.pointer (some ⟨br, 0, none⟩)] w K := by
  have hlt := h.lt
  refine spec.l20Prog.ok (spec.l20Make.c h (by omega) fun r0 w1 ys0 g1 r1 o1 n1 n1' => ?_)
  refine ⟨PgJ B br m w, ?_, ?_⟩
  · refine spec.l20Rd.pick.c r1 (by omega) (by omega) fun t9 w2 _ _ g2 r2 => ?_
    have G2 := grown_trans g1 g2
    refine And.intro (fun _ => ?_) (fun _ => ⟨ys0, G2, r2.more (by omega), o1.keptBr g2 hlt, n1, n1'⟩)
    refine spec.l20Lines.c fun r w3 rows b3 hrows hlen hgood hbk => ?_
    have hrn := hrows.len
    have hH2 := r2.lt
    refine spec.l20Rd.pick.c (r2.below b3) (by omega) (by omega) fun t16 w4 k0 k1 g4 r4 => ?_
    have hsz3 := b3.size
    have hsz2 := G2.size
    obtain ⟨row, hrow⟩ := get_some (l := rows) (k := t16.toNat) (by omega)
    obtain ⟨⟨txt, ht1, ht2, ht3, ht4⟩, hbt⟩ := hgood row (List.mem_of_getElem? hrow)
    have G4 : w.grownBy w4 (some br) := grown_trans (grown_trans G2 (grown_any b3)) g4
    refine ixL (hrows.kept2 g4 (fun b o ha e => by have := hbk b (by simp [Sl.bk, ha]); simp only [Option.some.injEq] at e; omega)) k0 hrow rfl (l := .sl) (v := row) rfl ?_
    refine spec.l20Read.c (ht1.kept2 g4 (fun b o ha e => by have := hbt b (by simp [Sl.bk, ha]); simp only [Option.some.injEq] at e; omega)) (by omega) ht4 fun o' w5 zs b5 o5 hl5 => ?_
    have hsz4 := G4.size
    exact ⟨zs, grown_trans G4 (grown_any b5), (r4.below b5).more (by omega), o5.low hsz4, by omega, by omega⟩
  · rintro out w7 ⟨ys, g7, r7, o7, ny, ny'⟩ _
    have hon := o7.len
    have hoc := o7.cap
    refine spec.l20Rd.pick.c r7 (by omega) (by omega) fun t21 w8 _ _ g8 r8 => ?_
    have G8 := grown_trans g7 g8
    have o8 := o7.keptBr g8 hlt
    refine And.intro (fun _ => ?_) (fun _ => hk _ _ ys G8 (r8.more (by omega)) o8 ny (by omega))
    refine spec.l20Rd.pick.c r8 (by omega) (by omega) fun t26 w9 k0 k1 g9 r9 => ?_
    refine spec.l20Rd.pick.c r9 (by omega) (by omega) fun t28 w10 _ _ g10 r10 => ?_
    have G10 := grown_trans (grown_trans G8 g9) g10
    have o10 := (o8.keptBr g9 hlt).keptBr g10 hlt
    obtain ⟨x, hx⟩ := get_some (l := ys) (k := t26.toNat) (by omega)
    have stf : ∀ {w11 : World} (j : Nat) (v : Int) (y : Ins), w10.grownBy w11 (some br) → RdS B br (m + 250) w11 → j < 6 → kIns.cells y = (kIns.cells x).set j (.int .i64 v) → Ix out.a out.n t26 6 w11 fun a w12 => St (Addr.add a j) (.int .i64 v) w12 fun w13 => K out w13 := by
      intro w11 j v y g11 r11 hj hy
      have o11 := o10.keptBr g11 hlt
      refine ixOwF o11 k0 hx rfl hj rfl y hy fun w12 o12 g12 _ => ?_
      rw [← ob_bk] at g12
      exact hk out w12 _ (grown_newO (grown_trans G10 g11) g12 (fun b hb => (o11.blk hb).1)) ((r11.keptO o11 g12 hlt).more (by omega)) o12 (by simpa using ny) (by simp; omega)
    refine And.intro (fun _ => ?_) (fun _ => And.intro (fun _ => ?_) (fun _ => And.intro (fun _ => ?_) (fun _ => And.intro (fun _ => ?_) (fun _ => And.intro (fun _ => ?_) (fun _ => ?_)))))
    · exact spec.l20Imm.c r10 (by omega) fun v w11 g11 r11 => stf 4 v { x with imm := v } g11 (r11.more (by omega)) (by omega) rfl
    · exact oneLit (xs := [-1, 0, 1, 2, -2, 12, 200]) r10 (by omega) rfl rfl (by decide) fun v w11 _ g11 r11 => stf 3 v { x with off := v } g11 (r11.more (by omega)) (by omega) rfl
    · exact spec.l20Rd.pick.c r10 (by omega) (by omega) fun v w11 _ _ g11 r11 => stf 1 v { x with dst := v } g11 (r11.more (by omega)) (by omega) rfl
    · exact spec.l20Rd.pick.c r10 (by omega) (by omega) fun v w11 _ _ g11 r11 => stf 0 v { x with op := v } g11 (r11.more (by omega)) (by omega) rfl
    · exact spec.l20Rd.pick.c r10 (by omega) (by omega) fun v w11 _ _ g11 r11 => stf 2 (IntKind.wrap .i64 (v - 1)) { x with src := IntKind.wrap .i64 (v - 1) } g11 (r11.more (by omega)) (by omega) rfl
    · have hbr : br < w10.heap.size := r10.lt
      have hoR := o10.read
      have hobk : ∀ b, out.bk = some b → b < w10.heap.size ∧ b ≠ br := fun b hb => by have := o10.blk ((ob_bk _).trans hb); exact ⟨this.2, by omega⟩
      have hkn : t26.toNat ≤ ys.length := by omega
      refine ⟨SpD w10.heap.size br (RdS B br (m + 260)), spD_ok w10, RdS B br (m + 255), (r10.below (Below.refl _ _).drew).more (by omega),
        IO kIns 44 w10.heap.size 0, kept_IO knIns, RO kIns w10.heap.size br t26.toNat, kept_RO, IO kIns 44 w10.heap.size t26.toNat, kept_IO knIns, fun _ _ => True, keptT, IO kIns 44 w10.heap.size 1, kept_IO knIns,
        IO kIns 44 w10.heap.size (t26.toNat + 1), kept_IO knIns, RO kIns w10.heap.size br (ys.length - t26.toNat), kept_RO, IO kIns 44 w10.heap.size (ys.length + 1), kept_IO knIns, ?_⟩
      have app : ∀ {w11 : World} {s x : Sl} {n1 n2 : Nat}, SpD w10.heap.size br (RdS B br (m + 260)) w10 w11 → IO kIns 44 w10.heap.size n1 s w11 → (∃ zs, zs.length = n2 ∧ SlR kIns w11 x zs) → n1 + n2 ≤ 100 →
          RunT (.o (.lf .sl)) P0 (Builtin.append_ #[37, 37] 37 #[.slice s.a s.n s.c, .slice x.a x.n x.c]) w11 fun t w12 => GK (.o (.lf .sl)) (Sk (SpD w10.heap.size br (RdS B br (m + 260))) (RdS B br (m + 255))) w11 (IO kIns 44 w10.heap.size (n1 + n2)) t.v w12 := by
        rintro w11 s x n1 n2 hsp ⟨zs, hz, ho⟩ ⟨us, hu, hx⟩ hle
        have h1 := apS (tR := 37) elIns ho hx (by omega) (by omega) hsp.size (K := fun s' w' => OwnS kIns 44 w10.heap.size w' s' (zs ++ us) ∧ w11.grownBy w' (Value.slice s.a s.n s.c).ownBlock) (fun s' w' h1 h2 _ _ => ⟨h1, h2⟩)
        obtain ⟨t, w12, hr, ⟨h2, h3⟩, h4⟩ := h1.and (I := Ip w10.heap.size w11) (ap_ip elIns knIns ho hx (by omega) (by omega))
        exact ⟨t, w12, hr, t, rfl, sk_step h3 hsp.size (fun g hg => (ho.blk hg).1) h4 hbr, _, by simp [hz, hu], h2⟩
      have hRO : ∀ {w11 : World} {r : Sl} {n : Nat}, (∃ zs, zs.length = n ∧ SlR kIns w11 r zs) → (∀ b, r.bk = some b → out.bk = some b) → RO kIns w10.heap.size br n r w11 := by
        rintro w11 r n ⟨zs, hz, hr⟩ hb
        exact ⟨zs, hz, hr, fun b h => hobk b (hb b h)⟩
      have outR : ∀ {w11 : World}, SpD w10.heap.size br (RdS B br (m + 260)) w10 w11 → ∃ zs, zs.length = ys.length ∧ SlR kIns w11 out zs := fun hsp => by
        obtain ⟨zs, hz, hr, _⟩ := kept_RO (k := kIns) (H := w10.heap.size) (br := br) (n := ys.length) (R := RdS B br (m + 260)) out w10 _ ⟨ys, rfl, hoR, hobk⟩ hsp
        exact ⟨zs, hz, hr⟩
      have hsz10 := G10.size
      refine ⟨fun w11 hsp => ?_, fun t29 => ⟨fun w11 hsp => ?_, fun t32 => ⟨fun w11 hsp f29 f32 => ?_, fun t33 => ⟨fun w11 hsp hN => ?_, fun t35 => ⟨fun w11 hsp f35 => ?_, fun t36 => ⟨fun w11 hsp f33 f36 => ?_, fun t37 => ⟨fun w11 hsp => ?_, fun t40 => ⟨fun w11 hsp f37 f40 => ?_, fun t41 w11 hsp _ _ _ _ _ _ _ f41 => ?_⟩⟩⟩⟩⟩⟩⟩⟩
      · exact nw fun w12 b12 s12 c12 => ⟨⟨some ⟨w11.heap.size, 0, none⟩, 0, 0⟩, rfl, sk_below b12 hsp.size hbr, [], rfl, OwnS.lit hsp.size c12 rfl rfl (by simp)⟩
      · obtain ⟨zs, hz, hr⟩ := outR hsp
        refine slcR (k := kIns) (e := 44) (by kernel_rfl) (by kernel_rfl) hr (lo := none) (hi := some t26) (mx := none) (l := 0) (h' := t26.toNat) (m := out.c) rfl (by simp; omega) rfl (by simp) (by omega) (by omega) (by omega) (by omega) fun r _ _ hr2 hb2 => ?_
        exact ⟨r, rfl, sk_below (Below.refl _ _) hsp.size hbr, hRO ⟨_, by simp; omega, hr2⟩ hb2⟩
      · obtain ⟨zs, hz, hr, _⟩ := f32
        have := app (x := t32) (n2 := t26.toNat) hsp f29 ⟨zs, hz, hr⟩ (by omega)
        rw [Nat.zero_add] at this
        exact this
      · refine spec.l20Alu.c hN (by omega) fun x w12 g12 r12 => ?_
        have hbb : Ip w10.heap.size w11 w12 := Ip.of_same fun g hg hg2 => g12.block g hg2 (fun e => by simp only [Option.some.injEq] at e; omega)
        exact ⟨x.t, rfl, ⟨g12.os, g12.tape, g12.output, g12.size, fun k hk hne => g12.block k (by have := hsp.size; omega) (fun e => hne (by simpa using e)), hbb, fun _ => r12.more (by omega)⟩, trivial⟩
      · exact nw fun w12 b12 s12 c12 => ⟨⟨some ⟨w11.heap.size, 0, none⟩, 1, 1⟩, rfl, sk_below b12 hsp.size hbr, [insOf t35], rfl, OwnS.lit hsp.size c12 rfl rfl (by simp [maxLen])⟩
      · obtain ⟨zs, hz, ho⟩ := f36
        exact app (x := t36) (n2 := 1) hsp f33 ⟨zs, hz, ho.read⟩ (by omega)
      · obtain ⟨zs, hz, hr⟩ := outR hsp
        refine slcR (k := kIns) (e := 44) (by kernel_rfl) (by kernel_rfl) hr (lo := some t26) (hi := none) (mx := none) (l := t26.toNat) (h' := out.n) (m := out.c) (by simp; omega) rfl rfl (by simp) (by omega) (by omega) (by omega) (by omega) fun r _ _ hr2 hb2 => ?_
        exact ⟨r, rfl, sk_below (Below.refl _ _) hsp.size hbr, hRO ⟨_, by simp; omega, hr2⟩ hb2⟩
      · obtain ⟨zs, hz, hr, _⟩ := f40
        have := app (x := t40) (n2 := ys.length - t26.toNat) hsp f37 ⟨zs, hz, hr⟩ (by omega)
        rw [show t26.toNat + 1 + (ys.length - t26.toNat) = ys.length + 1 by omega] at this
        exact this
      · obtain ⟨zs, hz, ho⟩ := f41
        exact hk t41 w11 zs (grown_trans G10 (hsp.grown rfl)) ((hsp.rd (r10.more (by omega))).more (by omega)) (ho.low hsz10) (by omega) (by omega)
end
end Go.Proofs.YtkkdboimkbcfnaaDoor.V

/- Contracts: the draws of rules. -/
namespace Go.Proofs.YtkkdboimkbcfnaaDoor.V
open Go Go.RowKit
set_option linter.unusedVariables false
set_option linter.unusedSimpArgs false
section
variable {B br m : Nat} {w : World}
def RlI (B br m : Nat) (w : World) (n : Int) (out : Sl) (w' : World) : Prop :=
  ∃ (c : Nat) (ys : List Rule), n = c ∧ ys.length + c ≤ 6 ∧ OwnS kRule 53 w.heap.size w' out ys ∧ RdS B br (m + 1 + 10 * ys.length) w' ∧ w.grownBy w' (some br)
theorem knRule : KN kRule := ⟨by intro l hl; simp [kRule, List.mem_replicate] at hl; exact hl, by decide, fun t => ⟨⟨t.1, t.2.1, t.2.2.1, t.2.2.2.1, t.2.2.2.2.1⟩, rfl⟩⟩
set_option maxHeartbeats 2000000 in
theorem spec.l20Rules.c {K : Sl → World → Prop} (h : RdS B br m w) (hm : m ≤ 800000000) (hk : ∀ r w' ys, w.grownBy w' (some br) → RdS B br (m + 100) w' → OwnS kRule 53 w.heap.size w' r ys → ys.length ≤ 6 → K r w') :
    CallT (.o (.lf .sl)) P0 27 [.pointer (some ⟨br, 0, none⟩)] w K := by
  have hlt := h.lt
  refine spec.l20Rules.ok (nw fun w1 b1 s1 c1 => ?_)
  have ho1 : OwnS kRule 53 w.heap.size w1 ⟨some ⟨w.heap.size, 0, none⟩, 0, 0⟩ [] := OwnS.lit (k := kRule) (B := w.heap.size) (xs := []) (n := 0) (Nat.le_refl _) c1 rfl rfl (by simp)
  refine oneLit (xs := [0, 1, 2, 3, 4, 6]) (h.below b1) (by omega) rfl rfl (by decide) fun n0 w2 hn0 g2 r2 => ?_
  have hn06 : 0 ≤ n0 ∧ n0 ≤ 6 := by simp at hn0; omega
  have G2 : w.grownBy w2 (some br) := grown_trans (grown_any b1) g2
  refine ⟨fun out n w' => RlI B br m w n out w', fun _ n _ => n.toNat, ⟨n0.toNat, [], by omega, by simp; omega, ho1.keptBr g2 hlt, r2.more (by simp), G2⟩, ?_⟩
  rintro out n w3 ⟨c, ys, rfl, hc, o3, r3, G3⟩ _
  have hon := o3.len
  refine And.intro (fun hpos => ?_) (fun hpos => ?_)
  · simp only [decide_eq_true_eq] at hpos
    have hc1 : 1 ≤ c := by omega
    refine oneLit (xs := [0, 0, 1, 2, 11]) r3 (by omega) rfl rfl (by decide) fun t17 w5 _ g5 r5 => ?_
    refine spec.l20Rd.pick.c r5 (by omega) (by omega) fun t19 w6 _ _ g6 r6 => ?_
    refine oneLit (xs := [0, 1, 2, 3, 7, 9, 10, 200, 254, 255]) r6 (by omega) rfl rfl (by decide) fun t23 w8 _ g8 r8 => ?_
    refine spec.l20Rd.pick.c r8 (by omega) (by omega) fun t25 w9 _ _ g9 r9 => ?_
    have g39 : w3.grownBy w9 (some br) := grown_trans (grown_trans (grown_trans g5 g6) g8) g9
    have o9 := o3.keptBr g39 hlt
    have G9 : w.grownBy w9 (some br) := grown_trans G3 g39
    refine nwStRule (x := ⟨t17, IntKind.wrap .i64 (12 + t19), t23, t25, 0⟩) fun w10 b10 s10 c10 => ?_
    have r10 := r9.below b10
    have o10 := o9.below b10
    have hH := G9.size
    have G10 : w.grownBy w10 (some br) := grown_trans G9 (grown_any b10)
    refine ldB c10 (j := 3) (x := t25) rfl ?_
    have ei : IntKind.wrap .i64 ((c : Int) - 1) = ((c - 1 : Nat) : Int) := by rw [i64_of (by omega) (by omega)]; omega
    have fin : ∀ {w15 : World} (y : Rule), w.grownBy w15 (some br) → RdS B br (m + 1 + 10 * ys.length + 9) w15 → OwnS kRule 53 w.heap.size w15 out ys → w15.heap[w9.heap.size]? = some (.cells y.cs 53 (0, 0)) →
        LdA (R 5 (.i .i64)) ⟨w9.heap.size, 0, none⟩ w15 fun (t35 : Tup (R 5 (.i .i64))) w16 => Nw #[(.int .i64 t35.1), (.int .i64 t35.2.1), (.int .i64 t35.2.2.1), (.int .i64 t35.2.2.2.1), (.int .i64 t35.2.2.2.2.1)] 53 w16 fun a_t36 w17 =>
        RunT (.o (.lf .sl)) P0 (Builtin.append_ #[23, 23] 23 #[out.v, (.slice (some a_t36) 1 1)]) w17 fun (t37 : Sl) w18 =>
        (RlI B br m w (IntKind.wrap .i64 ((c : Int) - 1)) t37 w18 ∧ (IntKind.wrap .i64 ((c : Int) - 1)).toNat < (c : Int).toNat) := by
      intro w15 y g15 r15 o15 c15
      refine ldAB (x := y.t) c15 rfl ?_
      refine ap1 elRule o15 y rfl (by omega) (by omega) g15.size fun out2 w18 o18 g18 _ => ?_
      rw [ei]
      refine ⟨⟨c - 1, ys ++ [y], rfl, by simp; omega, o18, (r15.keptO o15 g18 hlt).more (by simp; omega), grown_newO g15 g18 (fun b hb => (o15.blk hb).1)⟩, ?_⟩
      simp only [Int.toNat_natCast]; omega
    refine And.intro (fun _ => ?_) (fun _ => fin _ G10 (r10.more (by omega)) o10 c10)
    refine oneLit (xs := [0, 1, 2, 3, 7, 9, 4294967295]) r10 (by omega) rfl rfl (by decide) fun t32 w14 _ g14 r14 => ?_
    have hbr9 : br < w9.heap.size := by omega
    have c14 := keepB c10 g14 hbr9
    refine stB c14 rfl (by simp [Rule.cs]) fun w15 g15 s15 c15 => ?_
    refine fin ⟨t17, IntKind.wrap .i64 (12 + t19), t23, t25, t32⟩ (grown_new (grown_trans G10 g14) g15 (by omega)) ((r14.kept g15 (fun b hb => by simp only [Option.some.injEq] at hb; omega)).more (by omega)) ((o10.keptBr g14 hlt).kept g15 (fun b hb e => by simp only [Option.some.injEq] at hb; have := (o9.blk e).2; omega)) c15
  · have hc0 : c = 0 := by simp at hpos; omega
    subst hc0
    refine ⟨fun t w' => ∃ ys' : List Rule, (t = true → 1 ≤ ys.length) ∧ OwnS kRule 53 w.heap.size w' out ys ∧ RdS B br (m + 70) w' ∧ w.grownBy w' (some br), ?_, ?_⟩
    · refine And.intro (fun hp => ?_) (fun _ => ⟨[], fun h => by simp at h, o3, r3.more (by omega), G3⟩)
      have hp' : 1 ≤ ys.length := by simp only [decide_eq_true_eq] at hp; omega
      exact spec.l20Rd.pick.c r3 (by omega) (by omega) fun t43 w4 _ _ g4 r4 => ⟨[], fun _ => hp', o3.keptBr g4 hlt, r4.more (by omega), grown_trans G3 g4⟩
    · rintro t w4 ⟨_, hy, o4, r4, G4⟩ _
      refine And.intro (fun ht => ?_) (fun _ => hk out w4 ys G4 (r4.more (by omega)) o4 (by omega))
      have hy1 := hy ht
      refine spec.l20Rd.pick.c r4 (by omega) (by omega) fun t49 w5 k0 k1 g5 r5 => ?_
      refine spec.l20Rd.pick.c r5 (by omega) (by omega) fun t51 w6 _ _ g6 r6 => ?_
      have o6 := (o4.keptBr g5 hlt).keptBr g6 hlt
      have G6 : w.grownBy w6 (some br) := grown_trans (grown_trans G4 g5) g6
      obtain ⟨x, hx⟩ := get_some (l := ys) (k := t49.toNat) (by omega)
      have stf : ∀ {w11 : World} (j : Nat) (v : Int) (y : Rule), w6.grownBy w11 (some br) → RdS B br (m + 80) w11 → j < 5 → kRule.cells y = (kRule.cells x).set j (.int .i64 v) → Ix out.a out.n t49 5 w11 fun a w12 => St (Addr.add a j) (.int .i64 v) w12 fun w13 => K out w13 := by
        intro w11 j v y g11 r11 hj hy
        have o11 := o6.keptBr g11 hlt
        refine ixOwF o11 k0 hx rfl hj rfl y hy fun w12 o12 g12 _ => ?_
        rw [← ob_bk] at g12
        exact hk out w12 _ (grown_newO (grown_trans G6 g11) g12 (fun b hb => (o11.blk hb).1)) ((r11.keptO o11 g12 hlt).more (by omega)) o12 (by simp; omega)
      refine And.intro (fun _ => ?_) (fun _ => And.intro (fun _ => ?_) (fun _ => And.intro (fun _ => ?_) (fun _ => ?_)))
      · exact oneLit (xs := [-1, 12]) r6 (by omega) rfl rfl (by decide) fun v w11 _ g11 r11 => stf 0 v { x with at_ := v } g11 (r11.more (by omega)) (by omega) rfl
      · exact oneLit (xs := [-1, 256]) r6 (by omega) rfl rfl (by decide) fun v w11 _ g11 r11 => stf 2 v { x with num := v } g11 (r11.more (by omega)) (by omega) rfl
      · exact oneLit (xs := [11, 16]) r6 (by omega) rfl rfl (by decide) fun v w11 _ g11 r11 => stf 1 v { x with op := v } g11 (r11.more (by omega)) (by omega) rfl
      · exact stf 4 5 { x with key := 5 } (grown_refl _ _) (r6.more (by omega)) (by omega) rfl
end
section
variable {w : World} {code : Sl} {bs : List Int}
end
end Go.Proofs.YtkkdboimkbcfnaaDoor.V

/- Contracts: figures, cuts and words, in the reference and in the program. -/
namespace Go.Proofs.YtkkdboimkbcfnaaDoor.V
open Go Go.RowKit
set_option linter.unusedVariables false
set_option linter.unusedSimpArgs false
/-- All old memory stays. -/
def StR (a b : World) : Prop := Below a.heap.size a b
theorem stOk (w : World) : SpOk StR w := ⟨fun a => Below.refl _ _, fun a b c h1 h2 => h1.trans (h2.mono h1.size), (Below.refl _ _).drew⟩
/-- An address that holds this. -/
def AtW (vs : List Value) (a : Addr) (w : World) : Prop := ∃ b o, a = ⟨b, o, none⟩ ∧ b < w.heap.size ∧ At w b o vs
theorem keptAw {vs : List Value} : Kept StR (AtW vs) := by
  rintro a x z ⟨b, o, h1, h2, h3⟩ hxz
  have hxz : Below x.heap.size x z := hxz
  refine ⟨b, o, h1, Nat.lt_of_lt_of_le h2 hxz.size, fun m v hv => ?_⟩
  rw [← h3 m v hv]
  unfold World.cell?
  simp only
  rw [hxz.block b h2]
theorem keptOw {α : Type} {k : Kd α} {t : TypeId} {B : Nat} {xs : List α} : Kept StR (fun s w' => OwnS k t B w' s xs) := fun s a b h hs => h.below hs
theorem keptSl {α : Type} {k : Kd α} {xs : List α} : Kept StR (fun s w' => SlR k w' s xs) := fun s a b h hs => h.below hs
theorem szB {a b : By} (h : a.length + b.length ≤ 4611686018427387904) : (((bs a).size + (bs b).size : Nat) : Int) ≤ IntKind.i64.max := by
  rw [bs_size, bs_size, show IntKind.i64.max = 9223372036854775807 from rfl]; omega
theorem convE {t : TypeId} {B : Nat} {w : World} {s : Sl} {xs : List Int} (h : OwnS kU8 t B w s xs) {K : ByteArray → World → Prop} (hk : K (strOfNums xs) w) : RunT (.o (.lf .s)) P0 (convert 22 9 s.v) w K := by
  have hn := h.1
  rcases h.2.2 with ⟨hv, h0⟩ | ⟨g, cap, cur, hv, hBg, hg, hnc, hcm, hcs, htake⟩
  · have hx : xs = [] := by
      cases xs with
      | nil => rfl
      | cons x xs => rw [h0] at hn; simp at hn
    have hr := run_convert_bytes_nil (P := P0) w 22 5 (by kernel_rfl) (by kernel_rfl) 0 0 9 (by kernel_rfl)
    subst hx
    exact ⟨_, w, by unfold Sl.v; rw [hv]; exact hr, hk⟩
  · have holds : ∀ j u, (xs.flatMap kU8.cells)[j]? = some u → w.cell? ((⟨g, 0, none⟩ : Addr).add j) = some u := h.2.cells (g := g) (by rw [hv]; rfl)
    have hr := run_convert_bytes_arg (P := P0) w 22 5 (by kernel_rfl) (by kernel_rfl) g 0 s.n cap xs hn.symm (fun i hi => by
      obtain ⟨x, hx⟩ := get_some (l := xs) (k := i) (by omega)
      have hf := flat_get kU8 xs i x hx 0 (.int .u8 x) rfl
      have := holds _ _ hf
      rw [add_mk] at this
      rw [List.getD_eq_getElem?_getD, hx]
      have e : i * kU8.ls.length + 0 = i := by show i * 1 + 0 = i; omega
      rw [e] at this
      exact this) 9 (by kernel_rfl)
    exact ⟨_, w, by unfold Sl.v; rw [hv]; exact hr, hk⟩
theorem extB (l : By) (f k : Nat) : (bs l).extract f k = bs ((l.drop f).take (k - f)) := by
  apply ByteArray.ext
  apply Array.ext'
  simp [bs, ByteArray.data_extract, List.extract_eq_take_drop]
section
variable {w : World}
theorem slS {l : By} {lo hi : Option Int} {f k : Nat} (hlo : lo.getD 0 = f) (hhi : hi.getD l.length = k) (h1 : f ≤ k) (h2 : k ≤ l.length) {K : ByteArray → World → Prop} (hk : K (bs ((l.drop f).take (k - f))) w) :
    RunT (.o (.lf .s)) P0 (Instr.sliceAt 9 (.string (bs l)) (lo.map (.int .i64)) (hi.map (.int .i64)) none) w K := by
  have hu : P0.underlying 9 = some .string := by kernel_rfl
  have hz := bs_size l
  refine ⟨_, w, ?_, hk⟩
  rw [← extB]
  have ho : ∀ (x : Option Int) (d a : Nat), x.getD (d : Int) = (a : Int) → (x = none ∧ a = d) ∨ x = some (a : Int) := by
    intro x d a hx
    cases x with
    | none => left; simp only [Option.getD_none] at hx; exact ⟨rfl, by omega⟩
    | some y => right; simp only [Option.getD_some] at hx; rw [hx]
  rcases ho lo 0 f hlo with ⟨rfl, rfl⟩ | rfl <;> rcases ho hi l.length k hhi with ⟨rfl, rfl⟩ | rfl <;>
    simp [Instr.sliceAt, Instr.slice, underlying, hu, Instr.sliceBounds, Instr.sliceBound, asIntOf, hz, h1, h2, Rs.emb, Ty.emb, Lf.emb] <;> (rw [extB]; simp)
theorem dec_of (n : Int) (h : 0 ≤ n) (h2 : n < 10) : strOfNums [IntKind.wrap .u8 (IntKind.wrap .i64 (48 + n))] = bs (Lib.itoa n) := by
  have e1 : IntKind.wrap .i64 (48 + n) = 48 + n := by rw [i64_of (by omega) (by omega)]
  have e2 : IntKind.wrap .u8 (48 + n) = 48 + n := by simp only [IntKind.wrap, IntKind.bits, IntKind.signed]; simp; omega
  rw [e1, e2]
  unfold Lib.itoa
  rw [if_neg (by omega), dec_small (by omega)]
  show bs [UInt8.ofNat (48 + n).toNat] = _
  congr 3; omega
theorem itoa_step {n : Int} (h : 10 ≤ n) : Lib.itoa n = Lib.itoa (n / 10) ++ Lib.itoa (n % 10) := by
  unfold Lib.itoa
  rw [if_neg (by omega), if_neg (by omega), if_neg (by omega), dec_big (u := n.toNat) (by omega), dec_small (u := (n % 10).toNat) (by omega)]
  have e1 : (n / 10).toNat = n.toNat / 10 := by omega
  have e2 : (n % 10).toNat = n.toNat % 10 := by omega
  rw [e1, e2]
theorem itoa_len {n : Int} (h0 : -9223372036854775808 ≤ n) (h1 : n ≤ 9223372036854775807) : (Lib.itoa n).length ≤ 21 := Lib.itoa_length_le n h0 h1
set_option maxHeartbeats 1000000 in
theorem spec.l1Dec.t' : ∀ (m : Nat) {w : World} {n : Int} {K : ByteArray → World → Prop}, n.natAbs ≤ m → -9223372036854775807 ≤ n → n ≤ 9223372036854775807 → (∀ w', Below w.heap.size w w' → K (bs (Lib.itoa n)) w') → 0 ≤ n → CallT (.o (.lf .s)) P0 63 [.int .i64 n] w K := by
  intro m
  induction m using Nat.strongRecOn with
  | _ m ih =>
    intro w n K hm h0 h1 hk hn
    refine spec.l1Dec.ok ?_
    unfold spec.l1Dec.vc
    refine And.intro (fun hc => by simp only [decide_eq_true_eq] at hc; omega) (fun _ => And.intro (fun hc => by simp only [decide_eq_true_eq] at hc; omega) (fun _ => And.intro (fun h10 => ?_) (fun h10 => ?_)))
    · simp only [decide_eq_true_eq] at h10
      refine nw fun w1 b1 s1 c1 => ?_
      have o1 : OwnS kU8 5 w.heap.size w1 ⟨some ⟨w.heap.size, 0, none⟩, 1, 1⟩ [IntKind.wrap .u8 (IntKind.wrap .i64 (48 + n))] := OwnS.lit (k := kU8) (B := w.heap.size) (n := 1) (Nat.le_refl _) c1 rfl rfl (by simp [maxLen])
      refine convE o1 ?_
      rw [dec_of n hn h10]
      exact hk w1 b1
    · simp only [decide_eq_false_iff_not] at h10
      have ed : Int.tdiv n 10 = n / 10 := Int.tdiv_eq_ediv_of_nonneg hn
      have em : Int.tmod n 10 = n % 10 := Int.tmod_eq_emod_of_nonneg hn
      have ew : IntKind.wrap .i64 (n / 10) = n / 10 := by rw [i64_of (by omega) (by omega)]
      refine ⟨StR, stOk w, eqG (bs (Lib.itoa (n / 10))), keptE, fun s w' => OwnS kU8 5 0 w' s [IntKind.wrap .u8 (IntKind.wrap .i64 (48 + n % 10))], keptOw, eqG (bs (Lib.itoa (n % 10))), keptE, eqG (bs (Lib.itoa n)), keptE, by omega, ?_⟩
      refine ⟨fun w' hs => ?_, fun t20 => ⟨by omega, fun w' hs => ?_, fun t25 => ⟨fun w' hs f25 => ?_, fun t26 => ⟨fun w' hs f20 f26 => ?_, fun t27 w' hs _ _ _ f27 => ?_⟩⟩⟩⟩
      · rw [ed, ew]
        exact ih (n / 10).natAbs (by omega) (Nat.le_refl _) (by omega) (by omega) (fun w'' hb => gkE rfl hb) (by omega)
      · rw [em]
        refine nw fun w1 b1 s1 c1 => ⟨⟨some ⟨w'.heap.size, 0, none⟩, 1, 1⟩, rfl, b1, OwnS.lit (k := kU8) (n := 1) (Nat.zero_le _) c1 rfl rfl (by simp [maxLen])⟩
      · refine convE f25 ?_
        rw [dec_of (n % 10) (by omega) (by omega)]
        exact gkE rfl (Below.refl _ _)
      · cases f20; cases f26
        have l1 := itoa_len (n := n / 10) (by omega) (by omega)
        have l2 := itoa_len (n := n % 10) (by omega) (by omega)
        refine ⟨szB (by omega), ?_⟩
        rw [bs_app, ← itoa_step (by omega)]
        exact gkE rfl (Below.refl _ _)
      · cases f27
        exact hk w' hs
theorem spec.l1Dec.t {n : Int} {K : ByteArray → World → Prop} (h0 : -9223372036854775807 ≤ n) (h1 : n ≤ 9223372036854775807) (hk : ∀ w', Below w.heap.size w w' → K (bs (Lib.itoa n)) w') : CallT (.o (.lf .s)) P0 63 [.int .i64 n] w K := by
  by_cases hn : 0 ≤ n
  · exact spec.l1Dec.t' n.natAbs (Nat.le_refl _) h0 h1 hk hn
  · refine spec.l1Dec.ok ?_
    unfold spec.l1Dec.vc
    refine And.intro (fun hc => by simp only [decide_eq_true_eq] at hc; omega) (fun _ => And.intro (fun _ => ?_) (fun hc => by simp only [decide_eq_false_iff_not] at hc; omega))
    have ew : IntKind.wrap .i64 (0 - n) = -n := by rw [i64_of (by omega) (by omega)]; omega
    rw [ew]
    refine spec.l1Dec.t' (-n).natAbs (Nat.le_refl _) (by omega) (by omega) (fun w' hb => ?_) (by omega)
    have l1 := itoa_len (n := -n) (by omega) (by omega)
    refine ⟨szB (a := [45]) (by simp; omega), ?_⟩
    have e : (⟨#[45]⟩ : ByteArray) ++ bs (Lib.itoa (-n)) = bs (Lib.itoa n) := by
      rw [show (⟨#[45]⟩ : ByteArray) = bs [45] from rfl, bs_app]
      congr 1
      unfold Lib.itoa
      rw [if_neg (by omega), if_pos (by omega)]
      have : (-n).toNat = n.natAbs := by omega
      rw [this]; rfl
    rw [e]; exact hk w' hb
end
end Go.Proofs.YtkkdboimkbcfnaaDoor.V

/- Contracts: numbers of words, cuts, words in lists. -/
namespace Go.Proofs.YtkkdboimkbcfnaaDoor.V
open Go Go.RowKit
set_option linter.unusedVariables false
set_option linter.unusedSimpArgs false
theorem getB (l : By) (i : Nat) : (bs l)[i]? = l[i]? := by
  by_cases h : i < l.length
  · rw [getElem?_pos (bs l) i (by rw [bs_size]; exact h), List.getElem?_eq_getElem h]; rfl
  · rw [getElem?_neg (bs l) i (by rw [bs_size]; exact h), List.getElem?_eq_none (by omega)]
theorem sxB {l : By} {i : Int} {b : UInt8} {w : World} {K : Int → World → Prop} (hi : 0 ≤ i) (h : l[i.toNat]? = some b) (hk : K (b.toNat : Int) w) : Sx (bs l) i w K := ⟨hi, b, by rw [getB]; exact h, hk⟩
theorem figN_lt : ∀ l : By, Fig l → figN l < 10 ^ l.length := by
  intro l
  suffices h : ∀ (m : Nat) (l : By), l.length = m → Fig l → figN l < 10 ^ m from fun hf => h _ l rfl hf
  intro m
  induction m with
  | zero => intro l hl _; rw [List.eq_nil_of_length_eq_zero hl]; simp [figN]
  | succ m ih =>
    intro l hl hf
    have hne : l ≠ [] := fun e => by rw [e] at hl; simp at hl
    have he := (List.dropLast_concat_getLast hne).symm
    rw [he, figN_app]
    have h1 := ih l.dropLast (by simp; omega) (fun c hc => hf c (List.dropLast_subset _ hc))
    have h2 := hf _ (List.getLast_mem hne)
    rw [Nat.pow_succ]; omega
section
variable {w : World}
theorem spec.l1Num.t {l : By} {K : Int → World → Prop} (hl : l.length ≤ 281474976710656) (hk : ∀ r : Int, (∀ u : Nat, u < 10000000000 → l = Lib.decDigits u → r = u) → K r w) : CallT (.o (.lf (.i .i64))) P0 74 [.string (bs l)] w K := by
  refine spec.l1Num.ok ?_
  unfold spec.l1Num.vc
  rw [bs_size]
  refine ⟨fun n i w' => ∃ k : Nat, i = k ∧ k ≤ l.length ∧ w' = w ∧ ∀ u : Nat, u < 10000000000 → l = Lib.decDigits u → n = figN (l.take k), fun _ i _ => l.length - i.toNat, ⟨0, rfl, by omega, rfl, fun _ _ _ => by simp [figN]⟩, ?_⟩
  rintro n i w' ⟨k, rfl, hk1, rfl, hn⟩ _
  have hlen : ∀ u : Nat, u < 10000000000 → l = Lib.decDigits u → l.length ≤ 10 := fun u hu he => by rw [he]; exact dec_len u 9 (by omega)
  refine And.intro (fun hlt => ?_) (fun hge => ?_)
  · simp only [decide_eq_true_eq] at hlt
    obtain ⟨c, hc⟩ := get_some (l := l) (k := k) (by omega)
    have hfig : ∀ u : Nat, u < 10000000000 → l = Lib.decDigits u → 48 ≤ c.toNat ∧ c.toNat ≤ 57 := fun u _ he => dec_fig u c (he ▸ List.mem_of_getElem? hc)
    have hcn := c.toNat_lt
    refine ⟨fun w'' => w'' = w', ?_, ?_⟩
    · refine sxB (by omega) (by simpa using hc) (And.intro (fun h => hk _ fun u hu he => ?_) (fun _ => sxB (by omega) (by simpa using hc) (And.intro (fun h => hk _ fun u hu he => ?_) (fun _ => And.intro (fun h => hk _ fun u hu he => ?_) (fun _ => rfl)))))
      · have := hfig u hu he; simp only [decide_eq_true_eq] at h; omega
      · have := hfig u hu he; simp only [decide_eq_true_eq] at h; omega
      · have := hlen u hu he; simp only [decide_eq_true_eq] at h; omega
    · rintro w'' rfl _
      refine sxB (by omega) (by simpa using hc) ?_
      have ei : IntKind.wrap .i64 ((k : Int) + 1) = ((k + 1 : Nat) : Int) := by rw [i64_of (by omega) (by omega)]; omega
      rw [ei]
      refine ⟨⟨k + 1, rfl, by omega, rfl, fun u hu he => ?_⟩, by simp only [Int.toNat_natCast]; omega⟩
      have hf := hfig u hu he
      have e0 := hn u hu he
      have hlt2 := figN_lt (l.take k) (fun x hx => dec_fig u x (he ▸ List.mem_of_mem_take hx))
      have hkl : (l.take k).length = k := by rw [List.length_take]; omega
      have hp : 10 ^ k ≤ 10 ^ 10 := Nat.pow_le_pow_right (by omega) (by have := hlen u hu he; omega)
      rw [hkl] at hlt2
      have e1 : l.take (k + 1) = l.take k ++ [c] := by rw [List.take_add_one, hc]; rfl
      rw [e1, figN_app, e0]
      have e2 : IntKind.wrap .u8 ((c.toNat : Int) - 48) = (c.toNat : Int) - 48 := by simp only [IntKind.wrap, IntKind.bits, IntKind.signed]; simp; omega
      rw [e2, i64_of (n := (figN (l.take k) : Int) * 10) (by omega) (by omega), i64_of (n := (c.toNat : Int) - 48) (by omega) (by omega), i64_of (by omega) (by omega)]
      omega
  · simp only [decide_eq_false_iff_not] at hge
    have hkk : k = l.length := by omega
    subst hkk
    rw [List.take_length] at hn
    have hfin : ∀ u : Nat, u < 10000000000 → l = Lib.decDigits u → n = u := fun u hu he => by rw [hn u hu he, he, figN_dec]
    refine And.intro (fun h => hk _ fun u hu he => ?_) (fun h0 => And.intro (fun h1 => ?_) (fun _ => hk _ hfin))
    · exfalso
      have h' : l.length = 0 := by simp at h; simp [h]
      exact dec_ne u (by rw [← he]; exact List.eq_nil_of_length_eq_zero h')
    · simp only [decide_eq_true_eq] at h1
      obtain ⟨c, hc⟩ := get_some (l := l) (k := 0) (by omega)
      refine sxB (by omega) (by simpa using hc) (And.intro (fun h => hk _ fun u hu he => ?_) (fun _ => hk _ hfin))
      exfalso
      obtain ⟨c', r, hd⟩ := List.exists_cons_of_ne_nil (dec_ne u)
      have hcc : c' = c := by rw [he, hd] at hc; simpa using hc
      have h48 : c' = 48 := by rw [hcc]; apply UInt8.toNat_inj.1; simp at h; show c.toNat = 48; omega
      have := dec_head u c' r hd h48
      rw [he, hd, this] at h1
      simp at h1
set_option maxHeartbeats 1000000 in
theorem spec.l1Cut.t {l : By} {c : UInt8} {most : Nat} {K : Sl → World → Prop} (hl : l.length ≤ 1099511627776) (hm : most ≤ 1099511627776) (hk : ∀ s w', Below w.heap.size w w' → OwnS kS 9 w.heap.size w' s ((cutN c most l).map bs) → K s w') :
    CallT (.o (.lf .sl)) P0 40 [.string (bs l), .int .u8 (c.toNat : Int), .int .i64 (most : Int)] w K := by
  refine spec.l1Cut.ok (nw fun w1 b1 s1 c1 => ?_)
  rw [bs_size]
  have ho1 : OwnS kS 9 w.heap.size w1 ⟨some ⟨w.heap.size, 0, none⟩, 0, 0⟩ [] := OwnS.lit (k := kS) (B := w.heap.size) (xs := []) (n := 0) (Nat.le_refl _) c1 rfl rfl (by simp)
  refine ⟨fun out fr i w' => ∃ (f k : Nat) (zs : List By), fr = f ∧ i = k ∧ f ≤ k ∧ k ≤ l.length ∧ zs.length ≤ most ∧ zs.length ≤ f ∧ c ∉ (l.drop f).take (k - f) ∧ zs ++ cutN c (most - zs.length) (l.drop f) = cutN c most l ∧ OwnS kS 9 w.heap.size w' out (zs.map bs) ∧ Below w.heap.size w w',
    fun _ _ i _ => l.length - i.toNat, ⟨0, 0, [], rfl, rfl, by omega, by omega, by simp, by simp, by simp, by simp, ho1, b1⟩, ?_⟩
  rintro out fr i w2 ⟨f, k, zs, rfl, rfl, hfk, hkl, hzm, hzf, hno, hcut, o2, b2⟩ _
  have hn := o2.len
  rw [List.length_map] at hn
  have last : zs ++ [l.drop f] = cutN c most l → RunT (.o (.lf .s)) P0 (Instr.sliceAt 9 (.string (bs l)) (some (.int .i64 (f : Int))) none none) w2 fun (t40 : ByteArray) w3 =>
      Nw #[(.string t40)] 9 w3 fun a w4 => RunT (.o (.lf .sl)) P0 (Builtin.append_ #[68, 68] 68 #[out.v, (.slice (some a) 1 1)]) w4 fun (t42 : Sl) w5 => K t42 w5 := by
    intro hz
    refine slS (lo := some (f : Int)) (hi := none) (f := f) (k := l.length) rfl rfl (by omega) (Nat.le_refl _) ?_
    have e : (l.drop f).take (l.length - f) = l.drop f := List.take_of_length_le (by simp)
    rw [e]
    refine ap1 elS o2 (bs (l.drop f)) rfl (by rw [List.length_map]; omega) (by rw [List.length_map]; omega) b2.size fun s w3 o3 g3 _ => ?_
    refine hk s w3 (b2.grown g3 b2.size (fun b hb => (o2.blk hb).1)) ?_
    rw [← hz, List.map_append]; exact o3
  refine ⟨fun w' => w' = w2 ∧ k < l.length ∧ zs.length < most, ?_, ?_⟩
  · refine And.intro (fun hlt => And.intro (fun h2 => ⟨rfl, ?_, ?_⟩) (fun h2 => last ?_)) (fun hge => last ?_)
    · simp only [decide_eq_true_eq] at hlt; omega
    · simp only [decide_eq_true_eq] at h2; omega
    · simp only [decide_eq_false_iff_not] at h2
      have : most - zs.length = 0 := by omega
      rw [this] at hcut; exact hcut
    · simp only [decide_eq_false_iff_not] at hge
      have e : (l.drop f).take (k - f) = l.drop f := List.take_of_length_le (by simp; omega)
      rw [e] at hno
      rw [cutN_no _ hno] at hcut; exact hcut
  · rintro w3 ⟨rfl, hk2, hz2⟩ _
    obtain ⟨b, hb⟩ := get_some (l := l) (k := k) (by omega)
    refine sxB (by omega) (by simpa using hb) ?_
    have hd : l.drop f = (l.drop f).take (k - f) ++ b :: l.drop (k + 1) := by
      conv => lhs; rw [← List.take_append_drop (k - f) (l.drop f)]
      congr 1
      rw [List.drop_drop, show f + (k - f) = k by omega]
      exact (getElem?_drop_cons hb)
    have ei : IntKind.wrap .i64 ((k : Int) + 1) = ((k + 1 : Nat) : Int) := by rw [i64_of (by omega) (by omega)]; omega
    rw [ei]
    refine And.intro (fun he => ?_) (fun he => ?_)
    · have hbc : b = c := by simp only [beq_iff_eq] at he; exact UInt8.toNat_inj.1 (by omega)
      subst hbc
      refine slS (lo := some (f : Int)) (hi := some (k : Int)) (f := f) (k := k) rfl rfl hfk (by omega) ?_
      refine ap1 elS o2 (bs ((l.drop f).take (k - f))) rfl (by rw [List.length_map]; omega) (by rw [List.length_map]; omega) b2.size fun s w3 o3 g3 _ => ?_
      refine ⟨⟨k + 1, k + 1, zs ++ [(l.drop f).take (k - f)], rfl, rfl, Nat.le_refl _, by omega, by simp; omega, by simp; omega, by simp, ?_, by rw [List.map_append]; exact o3, b2.grown g3 b2.size (fun b hb => (o2.blk hb).1)⟩, by simp only [Int.toNat_natCast]; omega⟩
      rw [← hcut]
      have hm1 : most - zs.length = (most - (zs.length + 1)) + 1 := by omega
      rw [hm1]
      conv => rhs; rw [hd]
      rw [cutN_app _ _ hno]
      simp [List.append_assoc]
    · have hbc : b ≠ c := fun e => by rw [e] at he; simp at he
      refine ⟨⟨f, k + 1, zs, rfl, rfl, by omega, by omega, hzm, hzf, ?_, hcut, o2, b2⟩, by simp only [Int.toNat_natCast]; omega⟩
      have e : (l.drop f).take (k + 1 - f) = (l.drop f).take (k - f) ++ [b] := by
        rw [show k + 1 - f = (k - f) + 1 by omega, List.take_add_one]
        congr 1
        rw [List.getElem?_drop, show f + (k - f) = k by omega, hb]; rfl
      rw [e]
      simp only [List.mem_append, List.mem_singleton, not_or]
      exact ⟨hno, fun e => hbc e.symm⟩
theorem idx_at {zs : List ByteArray} {x : ByteArray} {k : Nat} {z : ByteArray} (h : zs[k]? = some z) : Lib.idxFromS (zs.drop k) x k = if z = x then (k : Int) else Lib.idxFromS (zs.drop (k + 1)) x (k + 1) := by
  rw [getElem?_drop_cons h, Lib.idxFromS]
theorem spec.l1Find.t {s : Sl} {zs : List ByteArray} {x : ByteArray} {K : Int → World → Prop} (h : SlR kS w s zs) (hk : K (Lib.idxOfS zs x) w) : CallT (.o (.lf (.i .i64))) P0 75 [s.v, .string x] w K := by
  have hn := h.len; have hm := h.max
  refine spec.l1Find.ok ⟨fun i w' => ∃ k : Nat, i = k ∧ k ≤ zs.length ∧ w' = w ∧ Lib.idxFromS (zs.drop k) x k = Lib.idxOfS zs x, fun i _ => zs.length - i.toNat, ⟨0, rfl, by omega, rfl, rfl⟩, ?_⟩
  rintro i w1 ⟨k, rfl, hk1, rfl, he⟩ _
  refine And.intro (fun hlt => ?_) (fun hge => ?_)
  · simp only [decide_eq_true_eq] at hlt
    obtain ⟨z, hz⟩ := get_some (l := zs) (k := k) (by omega)
    have ha := idx_at (x := x) hz
    refine ixL h (i := (k : Int)) (by omega) (x := z) (by simpa using hz) rfl (l := .s) (v := z) rfl ?_
    refine And.intro (fun hq => ?_) (fun hq => ?_)
    · have e : z = x := by
        have : z.toList = x.toList := by simpa using hq
        rw [ByteArray.toList_eq, ByteArray.toList_eq] at this
        rw [← bs_of z, ← bs_of x, this]
      rw [if_pos e] at ha
      rw [← ha, he]; exact hk
    · have e : z ≠ x := fun e => by rw [e] at hq; simp at hq
      rw [if_neg e] at ha
      have ei : IntKind.wrap .i64 ((k : Int) + 1) = ((k + 1 : Nat) : Int) := by rw [i64_of (by omega) (by omega)]; omega
      rw [ei]
      exact ⟨⟨k + 1, rfl, by omega, rfl, by rw [← ha, he]⟩, by simp only [Int.toNat_natCast]; omega⟩
  · simp only [decide_eq_false_iff_not] at hge
    rw [List.drop_eq_nil_of_le (by omega)] at he
    have : (-1 : Int) = Lib.idxOfS zs x := he
    rw [this]; exact hk
theorem index.c {s : Sl} {zs : List ByteArray} {x : ByteArray} {K : Int → World → Prop} (h : SlR kS w s zs) (hk : K (Lib.idxOfS zs x) w) : CallT (.o (.lf (.i .i64))) P0 73 [s.v, .string x] w K := by
  have hn := h.len; have hm := h.max
  rcases h.2.2.2 with h0 | ⟨b, o, ha, hat⟩
  · subst h0
    have e : s.v = .slice s.a 0 s.c := by unfold Sl.v; rw [hn]; rfl
    rw [e]
    exact (Tryd.slices_Index_string_empty s.a s.c x w).mono fun e w' ⟨he, hw⟩ => ⟨_, he, by rw [hw]; exact hk⟩
  · have e : s.v = .slice (some ⟨b, o, none⟩) zs.length s.c := by unfold Sl.v; rw [hn, ha]
    rw [e]
    have := Tryd.slices_Index_string b o zs.length s.c zs x w (Nat.le_refl _) (by omega) (fun j hj => by
      obtain ⟨z, hz⟩ := get_some (l := zs) (k := j) hj
      have h1 := hat j z hz 0 (.string z) rfl
      rw [List.getD_eq_getElem?_getD, hz]
      have e : o + j * kS.ls.length + 0 = o + j := by show o + j * 1 + 0 = o + j; omega
      rw [e] at h1
      exact h1)
    refine this.mono fun e w' ⟨he, hw⟩ => ⟨_, he, ?_⟩
    rw [hw, List.take_length]; exact hk
end
end Go.Proofs.YtkkdboimkbcfnaaDoor.V

/- Contracts: the line of a rule, in the reference and in the program. -/
namespace Go.Proofs.YtkkdboimkbcfnaaDoor.V
open Go Go.RowKit
set_option linter.unusedVariables false
set_option linter.unusedSimpArgs false
def opW : List By := [[], [109, 111, 118], [97, 100, 100], [115, 117, 98], [109, 117, 108], [97, 110, 100], [111, 114], [120, 111, 114], [115, 104, 108], [115, 104, 114], [100, 105, 118], [109, 111, 100], [115, 97, 109, 101], [111, 116, 104, 101, 114], [108, 101, 115, 115], [109, 111, 114, 101], [103, 111], [108, 111, 97, 100], [115, 116, 111, 114, 101], [99, 97, 108, 108], [101, 120, 105, 116]]
def vW : List By := [[100, 114, 111, 112], [107, 101, 101, 112], [115, 101, 110, 100]]
/-- The word of an op; of a verdict. -/
def opA (n : Int) : By := opW.getD n.toNat []
def vA (n : Int) : By := vW.getD n.toNat []
/-- The words of a rule's line. -/
def wordsR (r : Rule) : List By := [98, 121, 116, 101] :: Lib.itoa r.at_ :: opA r.op :: Lib.itoa r.num :: vA r.verdict :: (if r.verdict = 2 then [Lib.itoa r.key] else [])
def lineL (r : Rule) : By := joinW 32 (wordsR r)
def textL (L : List Rule) : By := L.flatMap fun r => lineL r ++ [10]
theorem itoa_fig {n : Int} (h : 0 ≤ n) : Lib.itoa n = Lib.decDigits n.toNat := by unfold Lib.itoa; rw [if_neg (by omega)]
theorem fig_no {l : By} (h : Fig l) {c : UInt8} (hc : c.toNat < 48) : c ∉ l := fun hm => by have := h c hm; omega
theorem op_no {n : Int} (h : 12 ≤ n ∧ n ≤ 15) {c : UInt8} (hc : c.toNat < 48) : c ∉ opA n := by
  have hx : ∀ k : Nat, 12 ≤ k → k ≤ 15 → ∀ x ∈ opW.getD k [], 97 ≤ x.toNat := by
    intro k h1 h2
    obtain rfl | rfl | rfl | rfl : k = 12 ∨ k = 13 ∨ k = 14 ∨ k = 15 := by omega
    all_goals decide
  intro hm
  have := hx n.toNat (by omega) (by omega) c hm
  omega
theorem v_no {n : Int} (h : 0 ≤ n ∧ n ≤ 2) {c : UInt8} (hc : c.toNat < 48) : c ∉ vA n := by
  have hx : ∀ k : Nat, k ≤ 2 → ∀ x ∈ vW.getD k [], 97 ≤ x.toNat := by
    intro k h2
    obtain rfl | rfl | rfl : k = 0 ∨ k = 1 ∨ k = 2 := by omega
    all_goals decide
  intro hm
  have := hx n.toNat (by omega) c hm
  omega
theorem words_no {r : Rule} (h : RuleP r) {c : UInt8} (hc : c.toNat < 48) : ∀ w ∈ wordsR r, c ∉ w := by
  intro w hw
  simp only [wordsR, List.mem_cons] at hw
  have hd : ∀ n : Int, 0 ≤ n → c ∉ Lib.itoa n := fun n hn => by rw [itoa_fig hn]; exact fig_no (dec_fig _) hc
  rcases hw with rfl | rfl | rfl | rfl | rfl | hw
  · intro hm
    have hx : ∀ x ∈ ([98, 121, 116, 101] : By), 97 ≤ x.toNat := by decide
    have := hx c hm; omega
  · exact hd _ h.1.1
  · exact op_no h.2.1 hc
  · exact hd _ h.2.2.1.1
  · exact v_no h.2.2.2.1 hc
  · split at hw
    · simp only [List.mem_singleton] at hw
      subst hw; exact hd _ h.2.2.2.2.1.1
    · simp at hw
theorem join_no {c d : UInt8} (hcd : c ≠ d) : ∀ {ws : List By}, (∀ w ∈ ws, c ∉ w) → c ∉ joinW d ws
  | [], _ => by simp [joinW]
  | [w], h => h w List.mem_cons_self
  | w :: x :: xs, h => by
    rw [joinW_cons (by simp)]
    simp only [List.mem_append, List.mem_cons, not_or]
    exact ⟨h w List.mem_cons_self, hcd, join_no hcd (fun y hy => h y (List.mem_cons_of_mem _ hy))⟩
theorem line_no {r : Rule} (h : RuleP r) : (10 : UInt8) ∉ lineL r := join_no (by decide) (words_no h (by decide))
theorem op_len (k : Nat) : (opW.getD k []).length ≤ 5 := by
  by_cases h : k < 21
  · have hx : ∀ j < 21, (opW.getD j []).length ≤ 5 := by decide
    exact hx k h
  · rw [List.getD_eq_getElem?_getD, List.getElem?_eq_none (by simp [opW]; omega)]; simp
theorem v_len (k : Nat) : (vW.getD k []).length ≤ 4 := by
  by_cases h : k < 3
  · have hx : ∀ j < 3, (vW.getD j []).length ≤ 4 := by decide
    exact hx k h
  · rw [List.getD_eq_getElem?_getD, List.getElem?_eq_none (by simp [vW]; omega)]; simp
theorem op_lenA (n : Int) : (opA n).length ≤ 5 := op_len _
theorem v_lenA (n : Int) : (vA n).length ≤ 4 := v_len _
theorem line_len {r : Rule} (h : RuleP r) : (lineL r).length ≤ 100 := by
  have h1 := itoa_len (n := r.at_) (by have := h.1; omega) (by have := h.1; omega)
  have h2 := itoa_len (n := r.num) (by have := h.2.2.1; omega) (by have := h.2.2.1; omega)
  have h3 := itoa_len (n := r.key) (by have := h.2.2.2.2.1; omega) (by have := h.2.2.2.2.1; omega)
  have h4 := op_lenA r.op
  have h5 := v_lenA r.verdict
  unfold lineL wordsR
  split
  · simp [joinW]; omega
  · simp [joinW]; omega
/-- What a line begins with. -/
def headL (r : Rule) : By := (((([98, 121, 116, 101, 32] ++ Lib.itoa r.at_) ++ [32]) ++ opA r.op) ++ [32]) ++ Lib.itoa r.num ++ [32] ++ vA r.verdict
theorem line_head (r : Rule) : lineL r = headL r ++ (if r.verdict = 2 then 32 :: Lib.itoa r.key else []) := by
  unfold lineL wordsR headL
  split <;> simp [joinW]
section
variable {w : World}
theorem spec.l1Words.t {K : Sl → World → Prop} (hk : ∀ r w', Below w.heap.size w w' → OwnS kS 9 w.heap.size w' r (opW.map bs) → K r w') : CallT (.o (.lf .sl)) P0 64 [] w K :=
  spec.l1Words.ok (nw fun w1 b1 s1 c1 => hk _ w1 b1 (OwnS.lit (k := kS) (xs := opW.map bs) (n := 21) (Nat.le_refl _) c1 rfl rfl (by simp [maxLen])))
theorem spec.l9Words.t {K : Sl → World → Prop} (hk : ∀ r w', Below w.heap.size w w' → OwnS kS 9 w.heap.size w' r (vW.map bs) → K r w') : CallT (.o (.lf .sl)) P0 65 [] w K :=
  spec.l9Words.ok (nw fun w1 b1 s1 c1 => hk _ w1 b1 (OwnS.lit (k := kS) (xs := vW.map bs) (n := 3) (Nat.le_refl _) c1 rfl rfl (by simp [maxLen])))
theorem impl.verdictWords.t {K : Sl → World → Prop} (hk : ∀ r w', Below w.heap.size w w' → OwnS kS 9 w.heap.size w' r (vW.map bs) → K r w') : CallT (.o (.lf .sl)) P0 61 [] w K :=
  impl.verdictWords.ok (nw fun w1 b1 s1 c1 => hk _ w1 b1 (OwnS.lit (k := kS) (xs := vW.map bs) (n := 3) (Nat.le_refl _) c1 rfl rfl (by simp [maxLen])))
/-- A word of a row of words. -/
theorem wordAt {s : Sl} {ws : List By} {B : Nat} {i : Int} {sz : Nat} {K : Addr → World → Prop} (h : OwnS kS 9 B w s (ws.map bs)) (h0 : 0 ≤ i) (h1 : i.toNat < ws.length) (hsz : sz = 1) (hk : ∀ a, AtW [.string (bs (ws.getD i.toNat []))] a w → K a w) : Ix s.a s.n i sz w K := by
  obtain ⟨x, hx⟩ := get_some (l := ws) (k := i.toNat) h1
  have hm : (ws.map bs)[i.toNat]? = some (bs x) := by rw [List.getElem?_map, hx]; rfl
  have hg : ws.getD i.toNat [] = x := by rw [List.getD_eq_getElem?_getD, hx]; rfl
  refine ixRb h.read h0 hm hsz fun b o hb hA => hk _ ⟨b, o, rfl, bk_lt h.read hm (v := .string (bs x)) rfl hb, ?_⟩
  rw [hg]; exact hA
theorem wordLd {x : ByteArray} {a : Addr} {K : ByteArray → World → Prop} (h : AtW [.string x] a w) (hk : K x w) : Ld .s a w K := by
  obtain ⟨b, o, rfl, _, hA⟩ := h
  exact ⟨x, hA 0 (.string x) rfl, hk⟩
set_option maxHeartbeats 2000000 in
theorem spec.l9Line.t {r : Rule} {K : ByteArray → World → Prop} (hp : RuleP r) (hk : ∀ w', Below w.heap.size w w' → K (bs (lineL r ++ [10])) w') : CallT (.o (.lf .s)) P0 33 [.agg (Tup.cells (R 5 (.i .i64)) r.t).toArray] w K := by
  have h1 := itoa_len (n := r.at_) (by have := hp.1; omega) (by have := hp.1; omega)
  have h2 := itoa_len (n := r.num) (by have := hp.2.2.1; omega) (by have := hp.2.2.1; omega)
  have h3 := itoa_len (n := r.key) (by have := hp.2.2.2.2.1; omega) (by have := hp.2.2.2.2.1; omega)
  have h4 := op_lenA r.op
  have h5 := v_lenA r.verdict
  have hop := hp.2.1
  have hve := hp.2.2.2.1
  refine spec.l9Line.ok (nwRule fun w1 b1 s1 c1 => ?_)
  have cc : ∀ {w' : World}, StR w1 w' → w'.heap[w.heap.size]? = _ := fun hs => (hs.block _ (by omega)).trans c1
  refine ⟨StR, stOk w1, eqG r.at_, keptE, eqG (bs (Lib.itoa r.at_)), keptE, eqG (bs ([98, 121, 116, 101, 32] ++ Lib.itoa r.at_)), keptE, eqG (bs (([98, 121, 116, 101, 32] ++ Lib.itoa r.at_) ++ [32])), keptE, fun s w' => OwnS kS 9 0 w' s (opW.map bs), keptOw, eqG r.op, keptE,
    AtW [.string (bs (opA r.op))], keptAw, eqG (bs (opA r.op)), keptE, eqG (bs ((([98, 121, 116, 101, 32] ++ Lib.itoa r.at_) ++ [32]) ++ opA r.op)), keptE, eqG (bs (((([98, 121, 116, 101, 32] ++ Lib.itoa r.at_) ++ [32]) ++ opA r.op) ++ [32])), keptE,
    eqG r.num, keptE, eqG (bs (Lib.itoa r.num)), keptE, eqG (bs (((([98, 121, 116, 101, 32] ++ Lib.itoa r.at_) ++ [32]) ++ opA r.op) ++ [32] ++ Lib.itoa r.num)), keptE, eqG (bs (((([98, 121, 116, 101, 32] ++ Lib.itoa r.at_) ++ [32]) ++ opA r.op) ++ [32] ++ Lib.itoa r.num ++ [32])), keptE,
    fun s w' => OwnS kS 9 0 w' s (vW.map bs), keptOw, eqG r.verdict, keptE, AtW [.string (bs (vA r.verdict))], keptAw, eqG (bs (vA r.verdict)), keptE, eqG (bs (headL r)), keptE, ?_⟩
  refine ⟨fun w' hs => ?_, fun t5 => ⟨fun w' hs f5 => ?_, fun t6 => ⟨fun w' hs f6 => ?_, fun t7 => ⟨fun w' hs f7 => ?_, fun t8 => ⟨fun w' hs => ?_, fun t9 => ⟨fun w' hs => ?_, fun t11 => ⟨fun w' hs f9 f11 => ?_, fun t12 => ⟨fun w' hs f12 => ?_, fun t13 => ⟨fun w' hs f8 f13 => ?_, fun t14 => ⟨fun w' hs f14 => ?_, fun t15 => ⟨fun w' hs => ?_, fun t17 => ⟨fun w' hs f17 => ?_, fun t18 => ⟨fun w' hs f15 f18 => ?_, fun t19 => ⟨fun w' hs f19 => ?_, fun t20 => ⟨fun w' hs => ?_, fun t21 => ⟨fun w' hs => ?_, fun t23 => ⟨fun w' hs f21 f23 => ?_, fun t24 => ⟨fun w' hs f24 => ?_, fun t25 => ⟨fun w' hs f20 f25 => ?_, fun t26 w2 hs g5 g6 g7 g8 g9 g11 g12 g13 g14 g15 g17 g18 g19 g20 g21 g23 g24 g25 g26 => ?_⟩⟩⟩⟩⟩⟩⟩⟩⟩⟩⟩⟩⟩⟩⟩⟩⟩⟩⟩
  · exact ldB (cc hs) (x := r.at_) rfl (gkE rfl (Below.refl _ _))
  · cases f5; exact spec.l1Dec.t (by have := hp.1; omega) (by have := hp.1; omega) fun w'' hb => gkE rfl hb
  · cases f6; exact ⟨szB (a := [98, 121, 116, 101, 32]) (by simp; omega), gkE (congrArg Value.string (bs_app _ _)) (Below.refl _ _)⟩
  · cases f7; exact ⟨szB (b := [32]) (by simp; omega), gkE (congrArg Value.string (bs_app _ _)) (Below.refl _ _)⟩
  · exact spec.l1Words.t fun s w'' hb ho => ⟨s, rfl, hb, ho.low (Nat.zero_le _)⟩
  · exact ldB (cc hs) (j := 1) (x := r.op) rfl (gkE rfl (Below.refl _ _))
  · cases f11
    exact wordAt f9 (by omega) (by simp [opW]; omega) rfl fun a ha => ⟨a, rfl, Below.refl _ _, ha⟩
  · exact wordLd f12 (gkE rfl (Below.refl _ _))
  · cases f8; cases f13; exact ⟨szB (by simp; omega), gkE (congrArg Value.string (bs_app _ _)) (Below.refl _ _)⟩
  · cases f14; exact ⟨szB (b := [32]) (by simp; omega), gkE (congrArg Value.string (bs_app _ _)) (Below.refl _ _)⟩
  · exact ldB (cc hs) (j := 2) (x := r.num) rfl (gkE rfl (Below.refl _ _))
  · cases f17; exact spec.l1Dec.t (by have := hp.2.2.1; omega) (by have := hp.2.2.1; omega) fun w'' hb => gkE rfl hb
  · cases f15; cases f18; exact ⟨szB (by simp; omega), gkE (congrArg Value.string (bs_app _ _)) (Below.refl _ _)⟩
  · cases f19; exact ⟨szB (b := [32]) (by simp; omega), gkE (congrArg Value.string (bs_app _ _)) (Below.refl _ _)⟩
  · exact spec.l9Words.t fun s w'' hb ho => ⟨s, rfl, hb, ho.low (Nat.zero_le _)⟩
  · exact ldB (cc hs) (j := 3) (x := r.verdict) rfl (gkE rfl (Below.refl _ _))
  · cases f23
    exact wordAt f21 (by omega) (by simp [vW]; omega) rfl fun a ha => ⟨a, rfl, Below.refl _ _, ha⟩
  · exact wordLd f24 (gkE rfl (Below.refl _ _))
  · cases f20; cases f25; exact ⟨szB (by simp; omega), gkE (congrArg Value.string (bs_app _ _)) (Below.refl _ _)⟩
  · cases g26
    have b2 : Below w.heap.size w w2 := b1.trans ((hs : Below _ _ _).mono b1.size)
    have hh : (headL r).length ≤ 60 := by unfold headL; simp; omega
    refine ldB (cc hs) (j := 3) (x := r.verdict) rfl (And.intro (fun hv => ?_) (fun hv => ?_))
    · have hv2 : r.verdict = 2 := by simpa using hv
      refine ⟨szB (b := [32]) (by simp; omega), ldB (cc hs) (j := 4) (x := r.key) rfl (spec.l1Dec.t (by have := hp.2.2.2.2.1; omega) (by have := hp.2.2.2.2.1; omega) fun w3 b3 => ?_)⟩
      rw [show (⟨#[32]⟩ : ByteArray) = bs [32] from rfl, show (⟨#[10]⟩ : ByteArray) = bs [10] from rfl, bs_app, bs_app, bs_app]
      refine ⟨szB (by simp; omega), szB (by simp; omega), ?_⟩
      have e : headL r ++ [32] ++ Lib.itoa r.key ++ [10] = lineL r ++ [10] := by rw [line_head, if_pos hv2]; simp
      rw [e]; exact hk w3 (b2.trans (b3.mono b2.size))
    · have hv2 : ¬ r.verdict = 2 := by simpa using hv
      refine ⟨szB (b := [10]) (by simp; omega), ?_⟩
      rw [show (⟨#[10]⟩ : ByteArray) = bs [10] from rfl, bs_app]
      have e : headL r ++ [10] = lineL r ++ [10] := by rw [line_head, if_neg hv2]; simp
      rw [e]; exact hk w2 b2
end
end Go.Proofs.YtkkdboimkbcfnaaDoor.V

/- Contracts: rules are written, in the reference and in the program. -/
namespace Go.Proofs.YtkkdboimkbcfnaaDoor.V
open Go Go.RowKit
set_option linter.unusedVariables false
set_option linter.unusedSimpArgs false
/-- Words as a tuple. -/
def tupS : (l : List By) → Tup (R l.length .s)
  | [] => ()
  | x :: xs => (bs x, tupS xs)
theorem tupS_cells : ∀ l : List By, Tup.cells (R l.length .s) (tupS l) = l.map fun x => Value.string (bs x)
  | [] => rfl
  | x :: xs => by
    show Lf.emb .s (bs x) :: Tup.cells (R xs.length .s) (tupS xs) = _
    rw [tupS_cells xs]; rfl
def opT : Tup (R 21 .s) := tupS opW
def op0 : Tup (R 21 .s) := tupS (List.replicate 21 [])
theorem opT_cells : Tup.cells (R 21 .s) opT = opW.map fun x => Value.string (bs x) := tupS_cells opW
theorem zOps : zc P0 87 = (Tup.cells (R 21 .s) op0).toArray := by kernel_rfl
section
variable {w : World}
theorem impl.opWords.t {K : Tup (R 21 .s) → World → Prop} (hk : ∀ w', Below w.heap.size w w' → K opT w') : CallT (.o (.ag (R 21 .s))) P0 60 [] w K := by
  refine impl.opWords.ok ?_
  unfold impl.opWords.vc
  rw [zOps]
  refine nw fun w1 b1 s1 c1 => ?_
  obtain ⟨w2, hr, hg, hsz, hh⟩ := run_storeCells_at' P0 (b := w.heap.size) (t := 87) (Tup.cells (R 21 .s) opT) 0 [] (Tup.cells (R 21 .s) op0) w1 (by rw [opT_cells]; intro v hv; simp only [List.mem_map] at hv; obtain ⟨x, _, rfl⟩ := hv; rfl) rfl rfl (by simpa using c1)
  refine ⟨w2, hr, ldAB (by simpa using hh) rfl (hk w2 (b1.grown hg b1.size (fun g hg => by simp only [Option.some.injEq] at hg; omega)))⟩
theorem ixAgg {t e : TypeId} {n : Nat} {cs : Array Value} {i : Int} {v : ByteArray} (hu : P0.underlying t = some (.array n e)) (hs : szOf P0 e = some 1) (ha : aggT P0 e = some false) (h0 : 0 ≤ i) (h1 : i.toNat < n) (hv : cs[i.toNat]? = some (.string v)) {K : ByteArray → World → Prop} (hk : K v w) :
    RunT (.o (.lf .s)) P0 (Instr.index t (.agg cs) (.int .i64 i)) w K := by
  refine ⟨v, w, ?_, hk⟩
  have hlt : i < n := by omega
  simp [Instr.index, asIntOf, underlying, hu, h0, hlt, run_sizeOf hs, part, run_isAgg ha, hv, Rs.emb, Ty.emb, Lf.emb]
theorem uOps : P0.underlying 87 = some (.array 21 9) := by kernel_rfl
theorem opIx {i : Int} (h0 : 0 ≤ i) (h1 : i ≤ 20) {K : ByteArray → World → Prop} (hk : K (bs (opA i)) w) : RunT (.o (.lf .s)) P0 (Instr.index 87 (.agg (Tup.cells (R 21 .s) opT).toArray) (.int .i64 i)) w K := by
  refine ixAgg (n := 21) (e := 9) uOps (by kernel_rfl) (by kernel_rfl) h0 (by omega) ?_ hk
  rw [opT_cells]
  obtain ⟨x, hx⟩ := get_some (l := opW) (k := i.toNat) (by simp [opW]; omega)
  have : opA i = x := by unfold opA; rw [List.getD_eq_getElem?_getD, hx]; rfl
  rw [this]
  simp [hx]
set_option maxHeartbeats 2000000 in
theorem impl.Rule.text.t {r : Rule} {K : ByteArray → World → Prop} (ht : Tb w) (hp : RuleP r) (hk : ∀ w', Below w.heap.size w w' → K (bs (lineL r ++ [10])) w') : CallT (.o (.lf .s)) P0 30 [.agg (Tup.cells (R 5 (.i .i64)) r.t).toArray] w K := by
  have h1 := itoa_len (n := r.at_) (by have := hp.1; omega) (by have := hp.1; omega)
  have h2 := itoa_len (n := r.num) (by have := hp.2.2.1; omega) (by have := hp.2.2.1; omega)
  have h3 := itoa_len (n := r.key) (by have := hp.2.2.2.2.1; omega) (by have := hp.2.2.2.2.1; omega)
  have h4 := op_lenA r.op
  have h5 := v_lenA r.verdict
  have hop := hp.2.1
  have hve := hp.2.2.2.1
  refine impl.Rule.text.ok (nwRule fun w1 b1 s1 c1 => ?_)
  have ht1 := ht.below b1
  have cc : ∀ {w' : World}, StR w1 w' → w'.heap[w.heap.size]? = _ := fun hs => (hs.block _ (by omega)).trans c1
  refine ⟨StR, stOk w1, eqG r.at_, keptE, eqG (bs (Lib.itoa r.at_)), keptE, eqG (bs ([98, 121, 116, 101, 32] ++ Lib.itoa r.at_)), keptE, eqG (bs (([98, 121, 116, 101, 32] ++ Lib.itoa r.at_) ++ [32])), keptE, eqG opT, keptE, eqG r.op, keptE,
    eqG (bs (opA r.op)), keptE, eqG (bs ((([98, 121, 116, 101, 32] ++ Lib.itoa r.at_) ++ [32]) ++ opA r.op)), keptE, eqG (bs (((([98, 121, 116, 101, 32] ++ Lib.itoa r.at_) ++ [32]) ++ opA r.op) ++ [32])), keptE,
    eqG r.num, keptE, eqG (bs (Lib.itoa r.num)), keptE, eqG (bs (((([98, 121, 116, 101, 32] ++ Lib.itoa r.at_) ++ [32]) ++ opA r.op) ++ [32] ++ Lib.itoa r.num)), keptE, eqG (bs (((([98, 121, 116, 101, 32] ++ Lib.itoa r.at_) ++ [32]) ++ opA r.op) ++ [32] ++ Lib.itoa r.num ++ [32])), keptE,
    fun s w' => OwnS kS 9 0 w' s (vW.map bs), keptOw, eqG r.verdict, keptE, AtW [.string (bs (vA r.verdict))], keptAw, eqG (bs (vA r.verdict)), keptE, eqG (bs (headL r)), keptE, ?_⟩
  refine ⟨fun w' hs => ?_, fun t5 => ⟨fun w' hs f5 => ?_, fun t6 => ⟨fun w' hs f6 => ?_, fun t7 => ⟨fun w' hs f7 => ?_, fun t8 => ⟨fun w' hs => ?_, fun t9 => ⟨fun w' hs => ?_, fun t11 => ⟨fun w' hs f9 f11 => ?_, fun t13 => ⟨fun w' hs f8 f13 => ?_, fun t14 => ⟨fun w' hs f14 => ?_, fun t15 => ⟨fun w' hs => ?_, fun t17 => ⟨fun w' hs f17 => ?_, fun t18 => ⟨fun w' hs f15 f18 => ?_, fun t19 => ⟨fun w' hs f19 => ?_, fun t20 => ⟨fun w' hs => ?_, fun t21 => ⟨fun w' hs => ?_, fun t23 => ⟨fun w' hs f21 f23 => ?_, fun t24 => ⟨fun w' hs f24 => ?_, fun t25 => ⟨fun w' hs f20 f25 => ?_, fun t26 w2 hs g5 g6 g7 g8 g9 g11 g13 g14 g15 g17 g18 g19 g20 g21 g23 g24 g25 g26 => ?_⟩⟩⟩⟩⟩⟩⟩⟩⟩⟩⟩⟩⟩⟩⟩⟩⟩⟩
  · exact ldB (cc hs) (x := r.at_) rfl (gkE rfl (Below.refl _ _))
  · cases f5; exact itoa.c (ht1.below hs) (by have := hp.1; omega) (by have := hp.1; omega) fun w'' hb => gkE rfl hb
  · cases f6; exact ⟨szB (a := [98, 121, 116, 101, 32]) (by simp; omega), gkE (congrArg Value.string (bs_app _ _)) (Below.refl _ _)⟩
  · cases f7; exact ⟨szB (b := [32]) (by simp; omega), gkE (congrArg Value.string (bs_app _ _)) (Below.refl _ _)⟩
  · exact impl.opWords.t fun w'' hb => gkE rfl hb
  · exact ldB (cc hs) (j := 1) (x := r.op) rfl (gkE rfl (Below.refl _ _))
  · cases f9; cases f11
    exact opIx (by omega) (by omega) (gkE rfl (Below.refl _ _))
  · cases f8; cases f13; exact ⟨szB (by simp; omega), gkE (congrArg Value.string (bs_app _ _)) (Below.refl _ _)⟩
  · cases f14; exact ⟨szB (b := [32]) (by simp; omega), gkE (congrArg Value.string (bs_app _ _)) (Below.refl _ _)⟩
  · exact ldB (cc hs) (j := 2) (x := r.num) rfl (gkE rfl (Below.refl _ _))
  · cases f17; exact itoa.c (ht1.below hs) (by have := hp.2.2.1; omega) (by have := hp.2.2.1; omega) fun w'' hb => gkE rfl hb
  · cases f15; cases f18; exact ⟨szB (by simp; omega), gkE (congrArg Value.string (bs_app _ _)) (Below.refl _ _)⟩
  · cases f19; exact ⟨szB (b := [32]) (by simp; omega), gkE (congrArg Value.string (bs_app _ _)) (Below.refl _ _)⟩
  · exact impl.verdictWords.t fun s w'' hb ho => ⟨s, rfl, hb, ho.low (Nat.zero_le _)⟩
  · exact ldB (cc hs) (j := 3) (x := r.verdict) rfl (gkE rfl (Below.refl _ _))
  · cases f23
    exact wordAt f21 (by omega) (by simp [vW]; omega) rfl fun a ha => ⟨a, rfl, Below.refl _ _, ha⟩
  · exact wordLd f24 (gkE rfl (Below.refl _ _))
  · cases f20; cases f25; exact ⟨szB (by simp; omega), gkE (congrArg Value.string (bs_app _ _)) (Below.refl _ _)⟩
  · cases g26
    have b2 : Below w.heap.size w w2 := b1.trans ((hs : Below _ _ _).mono b1.size)
    have hh : (headL r).length ≤ 60 := by unfold headL; simp; omega
    refine ldB (cc hs) (j := 3) (x := r.verdict) rfl (And.intro (fun hv => ?_) (fun hv => ?_))
    · have hv2 : r.verdict = 2 := by simpa using hv
      refine ldB (cc hs) (j := 4) (x := r.key) rfl (itoa.c (ht1.below hs) (by have := hp.2.2.2.2.1; omega) (by have := hp.2.2.2.2.1; omega) fun w3 b3 => ?_)
      rw [show (⟨#[32]⟩ : ByteArray) = bs [32] from rfl, show (⟨#[10]⟩ : ByteArray) = bs [10] from rfl, bs_app, bs_app, bs_app]
      refine ⟨szB (by simp; omega), szB (by simp; omega), szB (by simp; omega), ?_⟩
      have e : headL r ++ ([32] ++ Lib.itoa r.key) ++ [10] = lineL r ++ [10] := by rw [line_head, if_pos hv2]; simp
      rw [e]; exact hk w3 (b2.trans (b3.mono b2.size))
    · have hv2 : ¬ r.verdict = 2 := by simpa using hv
      refine ⟨szB (b := [10]) (by simp; omega), ?_⟩
      rw [show (⟨#[10]⟩ : ByteArray) = bs [10] from rfl, bs_app]
      have e : headL r ++ [10] = lineL r ++ [10] := by rw [line_head, if_neg hv2]; simp
      rw [e]; exact hk w2 b2
end
/-- What is written of rules. -/
def putL (L : List Rule) : By := if RulesP L then textL L else []
theorem text_len : ∀ {L : List Rule}, (∀ x ∈ L, RuleP x) → (textL L).length ≤ 101 * L.length
  | [], _ => by simp [textL]
  | x :: xs, h => by
    have h1 := line_len (h x List.mem_cons_self)
    have h2 := text_len (L := xs) (fun y hy => h y (List.mem_cons_of_mem _ hy))
    have e : textL (x :: xs) = (lineL x ++ [10]) ++ textL xs := rfl
    rw [e]; simp; omega
theorem text_take {L : List Rule} {k : Nat} {x : Rule} (h : L[k]? = some x) : textL (L.take (k + 1)) = textL (L.take k) ++ (lineL x ++ [10]) := by
  rw [List.take_add_one, h]; simp [textL]
section
variable {w : World} {s : Sl} {L : List Rule}
theorem spec.RulesPut.t {K : ByteArray → World → Prop} (h : SlR kRule w s L) (hk : ∀ w', Below w.heap.size w w' → K (bs (putL L)) w') : CallT (.o (.lf .s)) P0 10 [s.v] w K := by
  have hn := h.len
  have hmx := h.max
  refine spec.RulesPut.ok ⟨fun out i w' => ∃ k : Nat, i = k ∧ k ≤ L.length ∧ (RulesP L ∨ k = 0) ∧ out = bs (textL (L.take k)) ∧ Below w.heap.size w w', fun _ i _ => L.length - i.toNat, ⟨0, rfl, by omega, .inr rfl, rfl, Below.refl _ _⟩, ?_⟩
  rintro out i w1 ⟨k, rfl, hk1, hor, rfl, b1⟩ _
  refine And.intro (fun hlt => ?_) (fun hge => ?_)
  · simp only [decide_eq_true_eq] at hlt
    refine spec.l9Ok.c (h.below b1) fun w2 b2' => ?_
    have b2 := b1.trans (b2'.mono b1.size)
    refine And.intro (fun hp => ?_) (fun hp => ?_)
    · have hp : RulesP L := by simpa using hp
      obtain ⟨x, hx⟩ := get_some (l := L) (k := k) (by omega)
      have hxp := hp.2 x (List.mem_of_getElem? hx)
      refine ixA (h.below b2) (i := k) (by omega) (x := x) (by simpa using hx) rfl ?_
      refine spec.l9Line.t (r := x) hxp fun w3 b3' => ?_
      have hl6 := hp.1
      have h1 := text_len (L := L.take k) (fun y hy => hp.2 y (List.mem_of_mem_take hy))
      have h2 := line_len hxp
      rw [List.length_take] at h1
      refine ⟨szB (by simp; omega), ?_⟩
      have ei : IntKind.wrap .i64 ((k : Int) + 1) = ((k + 1 : Nat) : Int) := by rw [i64_of (by omega) (by omega)]; omega
      rw [ei, bs_app, ← text_take hx]
      exact ⟨⟨k + 1, rfl, by omega, .inl hp, rfl, b2.trans (b3'.mono b2.size)⟩, by simp only [Int.toNat_natCast]; omega⟩
    · have hp : ¬ RulesP L := by simpa using hp
      have hk0 : k = 0 := hor.resolve_left hp
      subst hk0
      have e : putL L = textL (L.take 0) := by unfold putL; rw [if_neg hp]; rfl
      rw [← e]; exact hk w2 b2
  · simp only [decide_eq_false_iff_not] at hge
    have e : putL L = textL (L.take k) := by
      have hkl : L.take k = L := List.take_of_length_le (by omega)
      rw [hkl]
      rcases hor with hp | h0
      · unfold putL; rw [if_pos hp]
      · have : L = [] := List.eq_nil_of_length_eq_zero (by omega)
        subst this
        unfold putL; split <;> rfl
    rw [← e]; exact hk w1 b1
theorem impl.RulesPut.t {K : ByteArray → World → Prop} (ht : Tb w) (h : SlR kRule w s L) (hk : ∀ w', Below w.heap.size w w' → K (bs (putL L)) w') : CallT (.o (.lf .s)) P0 9 [s.v] w K := by
  have hn := h.len
  have hmx := h.max
  refine impl.RulesPut.ok (impl.RulesOk.c h fun w1 b1 => ?_)
  refine And.intro (fun hp => ?_) (fun hp => ?_)
  · have hp : ¬ RulesP L := by simpa using hp
    have e : bs (putL L) = ⟨#[]⟩ := by unfold putL; rw [if_neg hp]; rfl
    rw [← e]; exact hk w1 b1
  · have hp : RulesP L := by simpa using hp
    rw [zBd]
    refine nw fun w2 b2' s2 c2 => ?_
    have b2 := b1.trans (b2'.mono b1.size)
    have hB : w.heap.size ≤ w1.heap.size := b1.size
    have d2 : Bd w.heap.size w1.heap.size [] w2 := Bd.new hB c2
    have hl6 := hp.1
    refine ⟨fun i w' => ∃ k : Nat, i = k ∧ k ≤ L.length ∧ Bd w.heap.size w1.heap.size (textL (L.take k)) w' ∧ Below w.heap.size w w', fun i _ => L.length - i.toNat, ⟨0, rfl, by omega, d2, b2⟩, ?_⟩
    rintro i w3 ⟨k, rfl, hk1, d3, b3⟩ _
    refine And.intro (fun hlt => ?_) (fun hge => ?_)
    · simp only [decide_eq_true_eq] at hlt
      obtain ⟨x, hx⟩ := get_some (l := L) (k := k) (by omega)
      have hxp := hp.2 x (List.mem_of_getElem? hx)
      refine ixA (h.below b3) (i := k) (by omega) (x := x) (by simpa using hx) rfl ?_
      refine nwStRule (x := x) fun w4 b4' s4 c4 => ?_
      have b4 := b3.trans (b4'.mono b3.size)
      refine ldAB c4 (x := x.t) rfl (impl.Rule.text.t (ht.below b4) hxp fun w5 b5' => ?_)
      have b5 := b4.trans (b5'.mono b4.size)
      have h1 := text_len (L := L.take k) (fun y hy => hp.2 y (List.mem_of_mem_take hy))
      have h2 := line_len hxp
      rw [List.length_take] at h1
      refine write.c ((d3.below b4').below b5') (by simp; omega) b5.size fun r w6 d6 b6 => ?_
      have ei : IntKind.wrap .i64 ((k : Int) + 1) = ((k + 1 : Nat) : Int) := by rw [i64_of (by omega) (by omega)]; omega
      rw [ei]
      rw [← text_take hx] at d6
      exact ⟨⟨k + 1, rfl, by omega, d6, b5.trans b6⟩, by simp only [Int.toNat_natCast]; omega⟩
    · simp only [decide_eq_false_iff_not] at hge
      have hkl : L.take k = L := List.take_of_length_le (by omega)
      rw [hkl] at d3
      refine string.c d3 b3.size fun w4 b4 => ?_
      have e : putL L = textL L := by unfold putL; rw [if_pos hp]
      rw [← e]; exact hk w4 (b3.trans b4)
end
end Go.Proofs.YtkkdboimkbcfnaaDoor.V

/- Plain laws: lines of rules are read back. -/
namespace Go.Proofs.YtkkdboimkbcfnaaDoor.V
open Go Go.RowKit
set_option linter.unusedVariables false
set_option linter.unusedSimpArgs false
theorem wordsR_ne (r : Rule) : wordsR r ≠ [] := by unfold wordsR; simp
theorem wordsR_len (r : Rule) : (wordsR r).length = if r.verdict = 2 then 6 else 5 := by unfold wordsR; split <;> simp
theorem line_words {r : Rule} (h : RuleP r) : cutN 32 6 (lineL r) = wordsR r :=
  cutN_join 6 (wordsR_ne r) (by rw [wordsR_len]; split <;> omega) (words_no h (by decide))
theorem opIdx {n : Int} (h : 12 ≤ n ∧ n ≤ 15) : Lib.idxOfS (opW.map bs) (bs (opA n)) = n := by
  obtain rfl | rfl | rfl | rfl : n = 12 ∨ n = 13 ∨ n = 14 ∨ n = 15 := by omega
  all_goals decide
theorem vIdx {n : Int} (h : 0 ≤ n ∧ n ≤ 2) : Lib.idxOfS (vW.map bs) (bs (vA n)) = n := by
  obtain rfl | rfl | rfl : n = 0 ∨ n = 1 ∨ n = 2 := by omega
  all_goals decide
theorem itoa_num {n : Int} (h : 0 ≤ n) : (figN (Lib.itoa n) : Int) = n := by rw [itoa_fig h, figN_dec]; omega
/-- What a rule's words say. -/
def RdW (ws : List By) (r : Rule) : Prop := ∀ x, RuleP x → ws = wordsR x → r = x
theorem words_inj {x y : Rule} (hx : RuleP x) (hy : RuleP y) (h : wordsR x = wordsR y) : x = y := by
  have hl := congrArg List.length h
  rw [wordsR_len, wordsR_len] at hl
  have e1 : Lib.itoa x.at_ = Lib.itoa y.at_ := by have := congrArg (fun l => l[1]?) h; simpa [wordsR] using this
  have e2 : opA x.op = opA y.op := by have := congrArg (fun l => l[2]?) h; simpa [wordsR] using this
  have e3 : Lib.itoa x.num = Lib.itoa y.num := by have := congrArg (fun l => l[3]?) h; simpa [wordsR] using this
  have e4 : vA x.verdict = vA y.verdict := by have := congrArg (fun l => l[4]?) h; simpa [wordsR] using this
  have a1 : x.at_ = y.at_ := by rw [← itoa_num hx.1.1, ← itoa_num hy.1.1, e1]
  have a2 : x.op = y.op := by rw [← opIdx hx.2.1, ← opIdx hy.2.1, e2]
  have a3 : x.num = y.num := by rw [← itoa_num hx.2.2.1.1, ← itoa_num hy.2.2.1.1, e3]
  have a4 : x.verdict = y.verdict := by rw [← vIdx hx.2.2.2.1, ← vIdx hy.2.2.2.1, e4]
  have a5 : x.key = y.key := by
    by_cases hv : x.verdict = 2
    · have hv' : y.verdict = 2 := by omega
      have e5 : Lib.itoa x.key = Lib.itoa y.key := by have := congrArg (fun l => l[5]?) h; simpa [wordsR, hv, hv'] using this
      rw [← itoa_num hx.2.2.2.2.1.1, ← itoa_num hy.2.2.2.2.1.1, e5]
    · have h1 := hx.2.2.2.2.2.resolve_right hv
      have h2 := hy.2.2.2.2.2.resolve_right (by omega)
      omega
  rcases x with ⟨x0, x1, x2, x3, x4⟩
  rcases y with ⟨y0, y1, y2, y3, y4⟩
  simp only at a1 a2 a3 a4 a5
  rw [a1, a2, a3, a4, a5]
theorem line_inj {x y : Rule} (hx : RuleP x) (hy : RuleP y) (h : lineL x = lineL y) : x = y := by
  refine words_inj hx hy ?_
  rw [← line_words hx, ← line_words hy, h]
theorem join_cut (c : UInt8) : ∀ (k : Nat) (l : By), joinW c (cutN c k l) = l
  | 0, l => rfl
  | k + 1, l => by
    unfold cutN
    cases h : cut1 c l with
    | none => rfl
    | some p =>
      obtain ⟨a, b⟩ := p
      obtain ⟨h1, _⟩ := cut1_some h
      simp only
      have hne : cutN c k b ≠ [] := by cases k with | zero => simp [cutN] | succ k => unfold cutN; split <;> simp
      rw [joinW_cons hne, join_cut c k b, ← h1]
theorem text_join : ∀ {L : List Rule}, L ≠ [] → textL L = joinW 10 (L.map lineL) ++ [10]
  | [], h => absurd rfl h
  | [x], _ => by simp [textL, joinW]
  | x :: y :: ys, _ => by
    have h1 := text_join (L := y :: ys) (by simp)
    have e : textL (x :: y :: ys) = (lineL x ++ [10]) ++ textL (y :: ys) := rfl
    have e2 : joinW 10 ((x :: y :: ys).map lineL) = lineL x ++ 10 :: joinW 10 ((y :: ys).map lineL) := rfl
    rw [e, h1, e2]
    simp only [List.append_assoc, List.cons_append, List.nil_append]
theorem text_lines {L : List Rule} (hp : ∀ x ∈ L, RuleP x) (hne : L ≠ []) {k : Nat} (hk : L.length ≤ k + 1) : cutN 10 k (textL L).dropLast = L.map lineL := by
  rw [text_join hne, List.dropLast_concat]
  refine cutN_join k (by simpa using hne) (by simpa using hk) (fun w hw => ?_)
  obtain ⟨x, hx, rfl⟩ := List.mem_map.1 hw
  exact line_no (hp x hx)
theorem text_ne {L : List Rule} (h : L ≠ []) : textL L ≠ [] := by rw [text_join h]; simp
theorem text_last {L : List Rule} (h : L ≠ []) : (textL L).getLast? = some 10 := by rw [text_join h]; simp
theorem map_inj {X Y : List Rule} (hx : ∀ x ∈ X, RuleP x) (hy : ∀ x ∈ Y, RuleP x) (h : X.map lineL = Y.map lineL) : X = Y := by
  have hl := congrArg List.length h
  simp only [List.length_map] at hl
  refine List.ext_getElem? fun i => ?_
  have hi := congrArg (fun l => l[i]?) h
  simp only [List.getElem?_map] at hi
  cases h1 : X[i]? with
  | none => cases h2 : Y[i]? with
    | none => rfl
    | some y => rw [h1, h2] at hi; simp at hi
  | some x => cases h2 : Y[i]? with
    | none => rw [h1, h2] at hi; simp at hi
    | some y =>
      rw [h1, h2] at hi
      simp only [Option.map_some, Option.some.injEq] at hi
      rw [line_inj (hx x (List.mem_of_getElem? h1)) (hy y (List.mem_of_getElem? h2)) hi]
theorem text_inj {X Y : List Rule} (hx : ∀ x ∈ X, RuleP x) (hy : ∀ x ∈ Y, RuleP x) (h : textL X = textL Y) : X = Y := by
  by_cases h1 : X = []
  · by_cases h2 : Y = []
    · rw [h1, h2]
    · exact absurd (by rw [← h, h1]; rfl) (text_ne h2)
  · by_cases h2 : Y = []
    · exact absurd (by rw [h, h2]; rfl) (text_ne h1)
    · refine map_inj hx hy ?_
      rw [← text_lines hx h1 (k := X.length + Y.length) (by omega), ← text_lines hy h2 (k := X.length + Y.length) (by omega), h]
theorem text_drop {L : List Rule} {k : Nat} {x : Rule} (h : L[k]? = some x) : textL (L.drop k) = lineL x ++ 10 :: textL (L.drop (k + 1)) := by
  rw [getElem?_drop_cons h]; simp [textL]
end Go.Proofs.YtkkdboimkbcfnaaDoor.V
