/- The tied row of FnExactAsmPut: where the listed variables of the library's are as its text lays them, it returns true and leaves its input as it was, whatever the input. PRINTED by rowt.py out of the law of the same name. -/
import Derived.Shelf.Strings.BuilderK
import Derived.Test.YtkkdboimkbcfnaaDoorRows
import Derived.Test.YtkkdboimkbcfnaaDoorCards
import Derived.Test.YtkkdboimkbcfnaaDoorTie
import Derived.Lay
import Derived.SevenTiedAt
import Derived.Test.YtkkdboimkbcfnaaDoorY4
/- Verification conditions, printed by this session's own program (wip/vc.py) and checked by the kernel. -/
namespace Go.Proofs.YtkkdboimkbcfnaaDoor.V
open Go Go.RowKit
set_option linter.unusedVariables false
/- impl.marks -/
def impl.marks.pl : Pl := (.s (.r (D 1)) (.s (.r [(.t (.o (.lf .m))), .d]) (.s (.s (.r (D 3)) (.b (.l [(9, (.i .i64))] (.s (.r (D 1)) (.s (.c .z .z) (.s (.b (.s (.r [.d, .d, (.l (.ag (R 6 (.i .i64)))), .d, .d, .d]) (.s (.r [.d, (.l (.lf (.i .i64))), (.c (.o (.lf .b)))]) (.c (.r [.d, .d, .d, (.c (.o (.lf (.i .i64)))), .u]) .z)))) (.r (D 2)))))))) (.s (.r [.d, (.c (.o (.lf .sl))), .d]) .z))))
def impl.marks.vc (list : Sl) (w : World) (K : Sl → World → Prop) : Prop :=
RunT (.o (.lf .m)) P0 (Instr.makeMap 104 none) w fun (t6 : Option Nat) w_ =>
∃ (I : Int → World → Prop) (M : Int → World → Nat),
I 0 w_ ∧
(∀ (t9 : Int) w__1, I t9 w__1 → ∀ _ : Nat → Value,
((decide ((t9 : Int) < ((list.n : Nat) : Int))) = true → Ix list.a list.n t9 6 w__1 fun a_t12 w__2 =>
LdA (R 6 (.i .i64)) a_t12 w__2 fun (t13 : Tup (R 6 (.i .i64))) w__3 =>
Nw (zc P0 44) 44 w__3 fun a_x w__4 =>
StA P0 a_x (Tup.cells (R 6 (.i .i64)) t13) w__4 fun w__5 =>
Ld (.i .i64) (Addr.add a_x 0) w__5 fun (t15 : Int) w__6 =>
CallT (.o (.lf .b)) P0 53 [(.int .i64 t15)] w__6 fun (t16 : Bool) w__7 =>
(t16 = true → CallT (.o (.lf (.i .i64))) P0 54 [list.v, (.int .i64 t9)] w__7 fun (t20 : Int) w__8 =>
RunU P0 (Instr.mapUpdate 104 (.map t6) (.int .i64 t20) (.bool true)) w__8 fun w__9 =>
(I (IntKind.wrap .i64 (t9 + 1)) w__9 ∧ M (IntKind.wrap .i64 (t9 + 1)) w__9 < M t9 w__1)) ∧
(t16 = false → (I (IntKind.wrap .i64 (t9 + 1)) w__7 ∧ M (IntKind.wrap .i64 (t9 + 1)) w__7 < M t9 w__1))) ∧
((decide ((t9 : Int) < ((list.n : Nat) : Int))) = false → CallT (.o (.lf .sl)) P0 84 [(.map t6)] w__1 fun (t23 : Sl) w__10 =>
K t23 w__10))
theorem impl.marks.ok {list : Sl} {w : World} {K : Sl → World → Prop} (h : impl.marks.vc list w K) : CallT (.o (.lf .sl)) P0 49 [list.v] w K :=
  call_of Tryd.func49 rfl rfl (pl := impl.marks.pl) (show VC P0 Tryd.f49 impl.marks.pl (.o (.lf .sl)) [list.v] w K noP from Eq.mp (by kernel_rfl) h)
/- impl.mark -/
def impl.mark.pl : Pl := (.s (.r (D 1)) (.s (.r [.d, (.c (.o (.lf .s))), .d, .d]) .z))
def impl.mark.vc (n : Int) (w : World) (K : ByteArray → World → Prop) : Prop :=
CallT (.o (.lf .s)) P0 52 [(.int .i64 n)] w fun (t4 : ByteArray) w_ =>
(((ByteArray.size (⟨#[109]⟩ : ByteArray) + ByteArray.size t4 : Nat) : Int) ≤ IntKind.i64.max) ∧ K ((⟨#[109]⟩ : ByteArray) ++ t4) w_
theorem impl.mark.ok {n : Int} {w : World} {K : ByteArray → World → Prop} (h : impl.mark.vc n w K) : CallT (.o (.lf .s)) P0 51 [(.int .i64 n)] w K :=
  call_of Tryd.func51 rfl rfl (pl := impl.mark.pl) (show VC P0 Tryd.f51 impl.mark.pl (.o (.lf .s)) [(.int .i64 n)] w K noP from Eq.mp (by kernel_rfl) h)
/- impl.reg -/
def impl.reg.pl : Pl := (.s (.r (D 1)) (.s (.r [.d, (.c (.o (.lf .s))), .d, .d]) .z))
def impl.reg.vc (n : Int) (w : World) (K : ByteArray → World → Prop) : Prop :=
CallT (.o (.lf .s)) P0 52 [(.int .i64 n)] w fun (t4 : ByteArray) w_ =>
(((ByteArray.size (⟨#[114]⟩ : ByteArray) + ByteArray.size t4 : Nat) : Int) ≤ IntKind.i64.max) ∧ K ((⟨#[114]⟩ : ByteArray) ++ t4) w_
theorem impl.reg.ok {n : Int} {w : World} {K : ByteArray → World → Prop} (h : impl.reg.vc n w K) : CallT (.o (.lf .s)) P0 89 [(.int .i64 n)] w K :=
  call_of Tryd.func89 rfl rfl (pl := impl.reg.pl) (show VC P0 Tryd.f89 impl.reg.pl (.o (.lf .s)) [(.int .i64 n)] w K noP from Eq.mp (by kernel_rfl) h)
/- (impl.Ins).value -/
def impl.Ins.value.pl : Pl := (.s (.r (D 2)) (.s (.s (.r [.d, (.l (.lf (.i .i64))), .d]) (.c (.s (.r [.d, (.l (.lf (.i .i64))), (.c (.o (.lf .s))), .d]) .z) .z)) (.s (.r [.d, (.l (.lf (.i .i64))), (.c (.o (.lf .s))), .d]) .z)))
def impl.Ins.value.vc (x : Tup (R 6 (.i .i64))) (w : World) (K : ByteArray → World → Prop) : Prop :=
Nw (Tup.cells (R 6 (.i .i64)) x).toArray 44 w fun a_x w_ =>
Ld (.i .i64) (Addr.add a_x 2) w_ fun (t4 : Int) w__1 =>
(((t4 : Int) == (-1)) = true → Ld (.i .i64) (Addr.add a_x 4) w__1 fun (t7 : Int) w__2 =>
CallT (.o (.lf .s)) P0 52 [(.int .i64 t7)] w__2 fun (t8 : ByteArray) w__3 =>
K t8 w__3) ∧
(((t4 : Int) == (-1)) = false → Ld (.i .i64) (Addr.add a_x 2) w__1 fun (t10 : Int) w__4 =>
CallT (.o (.lf .s)) P0 89 [(.int .i64 t10)] w__4 fun (t11 : ByteArray) w__5 =>
K t11 w__5)
theorem impl.Ins.value.ok {x : Tup (R 6 (.i .i64))} {w : World} {K : ByteArray → World → Prop} (h : impl.Ins.value.vc x w K) : CallT (.o (.lf .s)) P0 90 [(.agg (Tup.cells (R 6 (.i .i64)) x).toArray)] w K :=
  call_of Tryd.func90 rfl rfl (pl := impl.Ins.value.pl) (show VC P0 Tryd.f90 impl.Ins.value.pl (.o (.lf .s)) [(.agg (Tup.cells (R 6 (.i .i64)) x).toArray)] w K noP from Eq.mp (by kernel_rfl) h)
/- impl.callWords -/
def impl.callWords.pl : Pl := (.s (.r (D 1)) (.s (.r (D 2)) .z))
def impl.callWords.vc  (w : World) (K : Tup (R 7 .s) → World → Prop) : Prop :=
Nw (zc P0 108) 108 w fun a_t0 w_ =>
StA P0 a_t0 [(.string ⟨#[]⟩), (.string ⟨#[108, 111, 111, 107]⟩), (.string ⟨#[112, 117, 116]⟩), (.string ⟨#[102, 105, 110, 100]⟩), (.string ⟨#[100, 114, 111, 112]⟩), (.string ⟨#[114, 97, 110, 100]⟩), (.string ⟨#[115, 101, 110, 100]⟩)] w_ fun w__1 =>
LdA (R 7 .s) a_t0 w__1 fun r w__2 =>
K r w__1
theorem impl.callWords.ok  {w : World} {K : Tup (R 7 .s) → World → Prop} (h : impl.callWords.vc  w K) : CallT (.o (.ag (R 7 .s))) P0 91 [] w K :=
  call_of Tryd.func91 rfl rfl (pl := impl.callWords.pl) (show VC P0 Tryd.f91 impl.callWords.pl (.o (.ag (R 7 .s))) [] w K noP from Eq.mp (by kernel_rfl) h)
/- (impl.Ins).line -/
def impl.Ins.line.pl : Pl := (.s (.r (D 2)) (.s (.g [((.g (.o (.ag (R 21 .s))) (.c (.o (.ag (R 21 .s))))), []), (.q, []), ((.g (.o (.lf (.i .i64))) (.l (.lf (.i .i64)))), []), ((.g (.o (.lf .s)) (.t (.o (.lf .s)))), [0, 2]), (.q, [3])] []) (.s (.r [.d, (.l (.lf (.i .i64))), .d]) (.s (.b (.s (.r [.d, (.c (.o (.lf .b))), .d]) (.c (.s (.r [.d, .d, .d, (.l (.lf (.i .i64))), (.c (.o (.lf .s))), .d, .d, (.l (.ag (R 6 (.i .i64)))), (.c (.o (.lf .s))), .d, .d]) .z) (.s (.r [.d, (.c (.o (.lf .b))), .d]) (.c (.s (.r [.d, .d, .d, (.l (.lf (.i .i64))), (.c (.o (.lf .s))), .d, .d, (.l (.ag (R 6 (.i .i64)))), (.c (.o (.lf .s))), .d, .d, .d, .d, .d]) .z) (.s (.r [.d, (.l (.lf (.i .i64))), .d, .d]) (.c (.s (.r (D 5)) .z) (.s (.r [.d, (.l (.lf (.i .i64))), .d, .d]) (.c (.s (.r [.d, .d, (.l (.lf (.i .i64))), (.c (.o (.lf .s))), .d, .d, .d, (.l (.lf (.i .i64))), (.c (.o (.lf .s))), .d, .d, .d, (.l (.lf (.i .i64))), (.c (.o (.lf .s))), .d, .d, .d, .d, .d]) .z) (.s (.r [.d, (.l (.lf (.i .i64))), .d, .d]) (.c (.s (.r [.d, .d, (.l (.lf (.i .i64))), (.c (.o (.lf .s))), .d, .d, .d, (.l (.lf (.i .i64))), (.c (.o (.lf .s))), .d, .d, .d, .d, .d, (.l (.ag (R 6 (.i .i64)))), (.c (.o (.lf .s))), .d, .d]) .z) (.s (.r [.d, (.l (.lf (.i .i64))), .d, .d]) (.c (.s (.g [(.q, []), ((.g (.o (.lf .s)) .d), []), ((.g (.o (.ag (R 7 .s))) (.c (.o (.ag (R 7 .s))))), []), (.q, []), ((.g (.o (.lf (.i .i64))) (.l (.lf (.i .i64)))), []), ((.g (.o (.lf .s)) (.t (.o (.lf .s)))), [2, 4]), ((.g (.o (.lf .s)) .d), [1, 5]), (.q, [6])] []) .z) .z))))))))))))) (.s (.r (D 2)) .z)))))
def impl.Ins.line.vc (x : Tup (R 6 (.i .i64))) (off : ByteArray) (w : World) (K : ByteArray → World → Prop) : Prop :=
Nw (Tup.cells (R 6 (.i .i64)) x).toArray 44 w fun a_x w_ =>
∃ Sp : World → World → Prop, SpOk Sp w_ ∧
∃ G_t7 : Tup (R 21 .s) → World → Prop, Kept Sp G_t7 ∧
∃ G_t9 : Int → World → Prop, Kept Sp G_t9 ∧
∃ G_t10 : ByteArray → World → Prop, Kept Sp G_t10 ∧
(∀ w__1, Sp w_ w__1 → CallT (.o (.ag (R 21 .s))) P0 60 [] w__1 fun (t7 : Tup (R 21 .s)) w__2 =>
GK (.o (.ag (R 21 .s))) Sp w__1 G_t7 (.agg (Tup.cells (R 21 .s) t7).toArray) w__2) ∧
∀ (t7_1 : Tup (R 21 .s)), (∀ w__3, Sp w_ w__3 → Ld (.i .i64) (Addr.add a_x 0) w__3 fun (t9 : Int) w__4 =>
GK (.o (.lf (.i .i64))) Sp w__3 G_t9 (.int .i64 t9) w__4) ∧
∀ (t9_1 : Int), (∀ w__5, Sp w_ w__5 → G_t7 t7_1 w__5 → G_t9 t9_1 w__5 → RunT (.o (.lf .s)) P0 (Instr.index 87 (.agg (Tup.cells (R 21 .s) t7_1).toArray) (.int .i64 t9_1)) w__5 fun (t10 : ByteArray) w__6 =>
GK (.o (.lf .s)) Sp w__5 G_t10 (.string t10) w__6) ∧
∀ (t10_1 : ByteArray), ∀ w__7, Sp w_ w__7 → G_t7 t7_1 w__7 → G_t9 t9_1 w__7 → G_t10 t10_1 w__7 → 
Ld (.i .i64) (Addr.add a_x 0) w__7 fun (t12 : Int) w__8 =>
CallT (.o (.lf .b)) P0 88 [(.int .i64 t12)] w__8 fun (t15 : Bool) w__9 =>
(t15 = true → (((ByteArray.size t10_1 + ByteArray.size (⟨#[32]⟩ : ByteArray) : Nat) : Int) ≤ IntKind.i64.max) ∧ QLd (.i .i64) (Addr.add a_x 1) (fun w' => Below (World.heap w__9).size w__9 w') fun (t19 : Int) =>
QCl (.o (.lf .s)) P0 89 [(.int .i64 t19)] (fun w' => Below (World.heap w__9).size w__9 w') fun (t20 : ByteArray) =>
(((ByteArray.size (t10_1 ++ (⟨#[32]⟩ : ByteArray)) + ByteArray.size t20 : Nat) : Int) ≤ IntKind.i64.max) ∧ (((ByteArray.size ((t10_1 ++ (⟨#[32]⟩ : ByteArray)) ++ t20) + ByteArray.size (⟨#[32]⟩ : ByteArray) : Nat) : Int) ≤ IntKind.i64.max) ∧ QLdA (R 6 (.i .i64)) a_x (fun w' => Below (World.heap w__9).size w__9 w') fun (t23 : Tup (R 6 (.i .i64))) =>
QCl (.o (.lf .s)) P0 90 [(.agg (Tup.cells (R 6 (.i .i64)) t23).toArray)] (fun w' => Below (World.heap w__9).size w__9 w') fun (t24 : ByteArray) =>
(((ByteArray.size (((t10_1 ++ (⟨#[32]⟩ : ByteArray)) ++ t20) ++ (⟨#[32]⟩ : ByteArray)) + ByteArray.size t24 : Nat) : Int) ≤ IntKind.i64.max) ∧ ∀ w__10, Below (World.heap w__9).size w__9 w__10 →
K ((((t10_1 ++ (⟨#[32]⟩ : ByteArray)) ++ t20) ++ (⟨#[32]⟩ : ByteArray)) ++ t24) w__10) ∧
(t15 = false → CallT (.o (.lf .b)) P0 68 [(.int .i64 t12)] w__9 fun (t28 : Bool) w__11 =>
(t28 = true → (((ByteArray.size t10_1 + ByteArray.size (⟨#[32]⟩ : ByteArray) : Nat) : Int) ≤ IntKind.i64.max) ∧ QLd (.i .i64) (Addr.add a_x 1) (fun w' => Below (World.heap w__11).size w__11 w') fun (t32 : Int) =>
QCl (.o (.lf .s)) P0 89 [(.int .i64 t32)] (fun w' => Below (World.heap w__11).size w__11 w') fun (t33 : ByteArray) =>
(((ByteArray.size (t10_1 ++ (⟨#[32]⟩ : ByteArray)) + ByteArray.size t33 : Nat) : Int) ≤ IntKind.i64.max) ∧ (((ByteArray.size ((t10_1 ++ (⟨#[32]⟩ : ByteArray)) ++ t33) + ByteArray.size (⟨#[32]⟩ : ByteArray) : Nat) : Int) ≤ IntKind.i64.max) ∧ QLdA (R 6 (.i .i64)) a_x (fun w' => Below (World.heap w__11).size w__11 w') fun (t36 : Tup (R 6 (.i .i64))) =>
QCl (.o (.lf .s)) P0 90 [(.agg (Tup.cells (R 6 (.i .i64)) t36).toArray)] (fun w' => Below (World.heap w__11).size w__11 w') fun (t37 : ByteArray) =>
(((ByteArray.size (((t10_1 ++ (⟨#[32]⟩ : ByteArray)) ++ t33) ++ (⟨#[32]⟩ : ByteArray)) + ByteArray.size t37 : Nat) : Int) ≤ IntKind.i64.max) ∧ (((ByteArray.size ((((t10_1 ++ (⟨#[32]⟩ : ByteArray)) ++ t33) ++ (⟨#[32]⟩ : ByteArray)) ++ t37) + ByteArray.size (⟨#[32]⟩ : ByteArray) : Nat) : Int) ≤ IntKind.i64.max) ∧ (((ByteArray.size (((((t10_1 ++ (⟨#[32]⟩ : ByteArray)) ++ t33) ++ (⟨#[32]⟩ : ByteArray)) ++ t37) ++ (⟨#[32]⟩ : ByteArray)) + ByteArray.size off : Nat) : Int) ≤ IntKind.i64.max) ∧ ∀ w__12, Below (World.heap w__11).size w__11 w__12 →
K ((((((t10_1 ++ (⟨#[32]⟩ : ByteArray)) ++ t33) ++ (⟨#[32]⟩ : ByteArray)) ++ t37) ++ (⟨#[32]⟩ : ByteArray)) ++ off) w__12) ∧
(t28 = false → Ld (.i .i64) (Addr.add a_x 0) w__11 fun (t44 : Int) w__13 =>
(((t44 : Int) == 16) = true → (((ByteArray.size t10_1 + ByteArray.size (⟨#[32]⟩ : ByteArray) : Nat) : Int) ≤ IntKind.i64.max) ∧ (((ByteArray.size (t10_1 ++ (⟨#[32]⟩ : ByteArray)) + ByteArray.size off : Nat) : Int) ≤ IntKind.i64.max) ∧ K ((t10_1 ++ (⟨#[32]⟩ : ByteArray)) ++ off) w__13) ∧
(((t44 : Int) == 16) = false → Ld (.i .i64) (Addr.add a_x 0) w__13 fun (t52 : Int) w__14 =>
(((t52 : Int) == 17) = true → QLd (.i .i64) (Addr.add a_x 5) (fun w' => Below (World.heap w__14).size w__14 w') fun (t56 : Int) =>
QCl (.o (.lf .s)) P0 52 [(.int .i64 t56)] (fun w' => Below (World.heap w__14).size w__14 w') fun (t57 : ByteArray) =>
(((ByteArray.size t10_1 + ByteArray.size t57 : Nat) : Int) ≤ IntKind.i64.max) ∧ (((ByteArray.size (t10_1 ++ t57) + ByteArray.size (⟨#[32]⟩ : ByteArray) : Nat) : Int) ≤ IntKind.i64.max) ∧ QLd (.i .i64) (Addr.add a_x 1) (fun w' => Below (World.heap w__14).size w__14 w') fun (t61 : Int) =>
QCl (.o (.lf .s)) P0 89 [(.int .i64 t61)] (fun w' => Below (World.heap w__14).size w__14 w') fun (t62 : ByteArray) =>
(((ByteArray.size ((t10_1 ++ t57) ++ (⟨#[32]⟩ : ByteArray)) + ByteArray.size t62 : Nat) : Int) ≤ IntKind.i64.max) ∧ (((ByteArray.size (((t10_1 ++ t57) ++ (⟨#[32]⟩ : ByteArray)) ++ t62) + ByteArray.size (⟨#[32]⟩ : ByteArray) : Nat) : Int) ≤ IntKind.i64.max) ∧ QLd (.i .i64) (Addr.add a_x 2) (fun w' => Below (World.heap w__14).size w__14 w') fun (t66 : Int) =>
QCl (.o (.lf .s)) P0 89 [(.int .i64 t66)] (fun w' => Below (World.heap w__14).size w__14 w') fun (t67 : ByteArray) =>
(((ByteArray.size ((((t10_1 ++ t57) ++ (⟨#[32]⟩ : ByteArray)) ++ t62) ++ (⟨#[32]⟩ : ByteArray)) + ByteArray.size t67 : Nat) : Int) ≤ IntKind.i64.max) ∧ (((ByteArray.size (((((t10_1 ++ t57) ++ (⟨#[32]⟩ : ByteArray)) ++ t62) ++ (⟨#[32]⟩ : ByteArray)) ++ t67) + ByteArray.size (⟨#[32]⟩ : ByteArray) : Nat) : Int) ≤ IntKind.i64.max) ∧ (((ByteArray.size ((((((t10_1 ++ t57) ++ (⟨#[32]⟩ : ByteArray)) ++ t62) ++ (⟨#[32]⟩ : ByteArray)) ++ t67) ++ (⟨#[32]⟩ : ByteArray)) + ByteArray.size off : Nat) : Int) ≤ IntKind.i64.max) ∧ ∀ w__15, Below (World.heap w__14).size w__14 w__15 →
K (((((((t10_1 ++ t57) ++ (⟨#[32]⟩ : ByteArray)) ++ t62) ++ (⟨#[32]⟩ : ByteArray)) ++ t67) ++ (⟨#[32]⟩ : ByteArray)) ++ off) w__15) ∧
(((t52 : Int) == 17) = false → Ld (.i .i64) (Addr.add a_x 0) w__14 fun (t74 : Int) w__16 =>
(((t74 : Int) == 18) = true → QLd (.i .i64) (Addr.add a_x 5) (fun w' => Below (World.heap w__16).size w__16 w') fun (t78 : Int) =>
QCl (.o (.lf .s)) P0 52 [(.int .i64 t78)] (fun w' => Below (World.heap w__16).size w__16 w') fun (t79 : ByteArray) =>
(((ByteArray.size t10_1 + ByteArray.size t79 : Nat) : Int) ≤ IntKind.i64.max) ∧ (((ByteArray.size (t10_1 ++ t79) + ByteArray.size (⟨#[32]⟩ : ByteArray) : Nat) : Int) ≤ IntKind.i64.max) ∧ QLd (.i .i64) (Addr.add a_x 1) (fun w' => Below (World.heap w__16).size w__16 w') fun (t83 : Int) =>
QCl (.o (.lf .s)) P0 89 [(.int .i64 t83)] (fun w' => Below (World.heap w__16).size w__16 w') fun (t84 : ByteArray) =>
(((ByteArray.size ((t10_1 ++ t79) ++ (⟨#[32]⟩ : ByteArray)) + ByteArray.size t84 : Nat) : Int) ≤ IntKind.i64.max) ∧ (((ByteArray.size (((t10_1 ++ t79) ++ (⟨#[32]⟩ : ByteArray)) ++ t84) + ByteArray.size (⟨#[32]⟩ : ByteArray) : Nat) : Int) ≤ IntKind.i64.max) ∧ (((ByteArray.size ((((t10_1 ++ t79) ++ (⟨#[32]⟩ : ByteArray)) ++ t84) ++ (⟨#[32]⟩ : ByteArray)) + ByteArray.size off : Nat) : Int) ≤ IntKind.i64.max) ∧ (((ByteArray.size (((((t10_1 ++ t79) ++ (⟨#[32]⟩ : ByteArray)) ++ t84) ++ (⟨#[32]⟩ : ByteArray)) ++ off) + ByteArray.size (⟨#[32]⟩ : ByteArray) : Nat) : Int) ≤ IntKind.i64.max) ∧ QLdA (R 6 (.i .i64)) a_x (fun w' => Below (World.heap w__16).size w__16 w') fun (t90 : Tup (R 6 (.i .i64))) =>
QCl (.o (.lf .s)) P0 90 [(.agg (Tup.cells (R 6 (.i .i64)) t90).toArray)] (fun w' => Below (World.heap w__16).size w__16 w') fun (t91 : ByteArray) =>
(((ByteArray.size ((((((t10_1 ++ t79) ++ (⟨#[32]⟩ : ByteArray)) ++ t84) ++ (⟨#[32]⟩ : ByteArray)) ++ off) ++ (⟨#[32]⟩ : ByteArray)) + ByteArray.size t91 : Nat) : Int) ≤ IntKind.i64.max) ∧ ∀ w__17, Below (World.heap w__16).size w__16 w__17 →
K (((((((t10_1 ++ t79) ++ (⟨#[32]⟩ : ByteArray)) ++ t84) ++ (⟨#[32]⟩ : ByteArray)) ++ off) ++ (⟨#[32]⟩ : ByteArray)) ++ t91) w__17) ∧
(((t74 : Int) == 18) = false → Ld (.i .i64) (Addr.add a_x 0) w__16 fun (t95 : Int) w__18 =>
(((t95 : Int) == 19) = true → ∃ Sp_1 : World → World → Prop, SpOk Sp_1 w__18 ∧
∃ G_t98 : ByteArray → World → Prop, Kept Sp_1 G_t98 ∧
∃ G_t99 : Tup (R 7 .s) → World → Prop, Kept Sp_1 G_t99 ∧
∃ G_t101 : Int → World → Prop, Kept Sp_1 G_t101 ∧
∃ G_t102 : ByteArray → World → Prop, Kept Sp_1 G_t102 ∧
∃ G_t103 : ByteArray → World → Prop, Kept Sp_1 G_t103 ∧
(∀ w__19, Sp_1 w__18 w__19 → (((ByteArray.size t10_1 + ByteArray.size (⟨#[32]⟩ : ByteArray) : Nat) : Int) ≤ IntKind.i64.max) ∧ GK (.o (.lf .s)) Sp_1 w__19 G_t98 (.string (t10_1 ++ (⟨#[32]⟩ : ByteArray))) w__19) ∧
∀ (t98 : ByteArray), (∀ w__20, Sp_1 w__18 w__20 → CallT (.o (.ag (R 7 .s))) P0 91 [] w__20 fun (t99 : Tup (R 7 .s)) w__21 =>
GK (.o (.ag (R 7 .s))) Sp_1 w__20 G_t99 (.agg (Tup.cells (R 7 .s) t99).toArray) w__21) ∧
∀ (t99_1 : Tup (R 7 .s)), (∀ w__22, Sp_1 w__18 w__22 → Ld (.i .i64) (Addr.add a_x 4) w__22 fun (t101 : Int) w__23 =>
GK (.o (.lf (.i .i64))) Sp_1 w__22 G_t101 (.int .i64 t101) w__23) ∧
∀ (t101_1 : Int), (∀ w__24, Sp_1 w__18 w__24 → G_t99 t99_1 w__24 → G_t101 t101_1 w__24 → RunT (.o (.lf .s)) P0 (Instr.index 108 (.agg (Tup.cells (R 7 .s) t99_1).toArray) (.int .i64 t101_1)) w__24 fun (t102 : ByteArray) w__25 =>
GK (.o (.lf .s)) Sp_1 w__24 G_t102 (.string t102) w__25) ∧
∀ (t102_1 : ByteArray), (∀ w__26, Sp_1 w__18 w__26 → G_t98 t98 w__26 → G_t102 t102_1 w__26 → (((ByteArray.size t98 + ByteArray.size t102_1 : Nat) : Int) ≤ IntKind.i64.max) ∧ GK (.o (.lf .s)) Sp_1 w__26 G_t103 (.string (t98 ++ t102_1)) w__26) ∧
∀ (t103 : ByteArray), ∀ w__27, Sp_1 w__18 w__27 → G_t98 t98 w__27 → G_t99 t99_1 w__27 → G_t101 t101_1 w__27 → G_t102 t102_1 w__27 → G_t103 t103 w__27 → 
K t103 w__27) ∧
(((t95 : Int) == 19) = false → K t10_1 w__18))))))
theorem impl.Ins.line.ok {x : Tup (R 6 (.i .i64))} {off : ByteArray} {w : World} {K : ByteArray → World → Prop} (h : impl.Ins.line.vc x off w K) : CallT (.o (.lf .s)) P0 55 [(.agg (Tup.cells (R 6 (.i .i64)) x).toArray), (.string off)] w K :=
  call_of Tryd.func55 rfl rfl (pl := impl.Ins.line.pl) (show VC P0 Tryd.f55 impl.Ins.line.pl (.o (.lf .s)) [(.agg (Tup.cells (R 6 (.i .i64)) x).toArray), (.string off)] w K noP from Eq.mp (by kernel_rfl) h)
/- impl.AsmPut -/
def impl.AsmPut.pl : Pl := (.s (.r (D 1)) (.s (.s (.r [.d, (.c (.o (.lf (.i .i64)))), .d]) (.c (.s (.r (D 1)) .z) .z)) (.s (.r [.d, (.c (.o (.lf .sl))), .d]) (.s (.r (D 1)) (.s (.s (.r (D 3)) (.b (.l [(19, (.i .i64))] (.s (.r (D 1)) (.s (.c .z .z) (.s (.b (.s (.r [.d, .d, (.l (.ag (R 6 (.i .i64)))), .d, .d, .d]) (.j [] (.s (.r [.d, .d, (.c (.n [(.lf (.i .i64)), (.lf .b)])), .d, .d, .d, .d, .d]) (.s (.r (D 1)) (.c (.r [.d, (.c (.o (.lf .s))), .d, (.c (.n [(.lf (.i .i64)), (.lf .any)]))]) .z))) (.s (.r [.d, (.l (.lf (.i .i64))), (.c (.o (.lf .s))), .d]) (.s (.s (.r [.d, (.l (.lf (.i .i64))), (.c (.o (.lf .b)))]) (.c (.s (.r [.d, .d, .d, (.c (.o (.lf (.i .i64)))), (.c (.n [(.lf (.i .i64)), (.lf .b)])), .d, .d, .d, .d, .d]) (.r [.d, (.c (.o (.lf .s))), .d])) .z)) (.r [(.l (.ag (R 6 (.i .i64)))), .d, (.c (.o (.lf .s))), .d, .d, (.c (.n [(.lf (.i .i64)), (.lf .any)]))])))))) (.r (D 2)))))))) (.s (.r [(.c (.o (.lf .s))), .d]) .z))))))
def impl.AsmPut.vc (list : Sl) (w : World) (K : ByteArray → World → Prop) : Prop :=
CallT (.o (.lf (.i .i64))) P0 48 [list.v] w fun (t13 : Int) w_ =>
(((t13 : Int) != 0) = true → K ⟨#[]⟩ w_) ∧
(((t13 : Int) != 0) = false → CallT (.o (.lf .sl)) P0 49 [list.v] w_ fun (t16 : Sl) w__1 =>
Nw (zc P0 51) 51 w__1 fun a_out w__2 =>
∃ (I : Int → World → Prop) (M : Int → World → Nat),
I 0 w__2 ∧
(∀ (t19 : Int) w__3, I t19 w__3 → ∀ _ : Nat → Value,
((decide ((t19 : Int) < ((list.n : Nat) : Int))) = true → Ix list.a list.n t19 6 w__3 fun a_t22 w__4 =>
LdA (R 6 (.i .i64)) a_t22 w__4 fun (t23 : Tup (R 6 (.i .i64))) w__5 =>
Nw (zc P0 44) 44 w__5 fun a_x w__6 =>
StA P0 a_x (Tup.cells (R 6 (.i .i64)) t23) w__6 fun w__7 =>
∃ J : World → Prop,
(CallT (.n [(.lf (.i .i64)), (.lf .b)]) P0 50 [t16.v, (.int .i64 t19)] w__7 fun (t27 : (Int) × (Bool) × Unit) w__8 =>
(t27.2.1 = true → CallT (.o (.lf .s)) P0 51 [(.int .i64 t27.1)] w__8 fun (t32 : ByteArray) w__9 =>
(((ByteArray.size t32 + ByteArray.size (⟨#[58, 10]⟩ : ByteArray) : Nat) : Int) ≤ IntKind.i64.max) ∧ CallT (.n [(.lf (.i .i64)), (.lf .any)]) P0 29 [(.pointer (some a_out)), (.string (t32 ++ (⟨#[58, 10]⟩ : ByteArray)))] w__9 fun (t34 : (Int) × (Value) × Unit) w__10 =>
J w__10) ∧
(t27.2.1 = false → J w__8)) ∧
(∀  w__11, J w__11 → ∀ _ : Nat → Value,
Ld (.i .i64) (Addr.add a_x 3) w__11 fun (t36 : Int) w__12 =>
CallT (.o (.lf .s)) P0 52 [(.int .i64 t36)] w__12 fun (t37 : ByteArray) w__13 =>
Ld (.i .i64) (Addr.add a_x 0) w__13 fun (t39 : Int) w__14 =>
CallT (.o (.lf .b)) P0 53 [(.int .i64 t39)] w__14 fun (t40 : Bool) w__15 =>
(t40 = true → CallT (.o (.lf (.i .i64))) P0 54 [list.v, (.int .i64 t19)] w__15 fun (t45 : Int) w__16 =>
CallT (.n [(.lf (.i .i64)), (.lf .b)]) P0 50 [t16.v, (.int .i64 t45)] w__16 fun (t46 : (Int) × (Bool) × Unit) w__17 =>
CallT (.o (.lf .s)) P0 51 [(.int .i64 t46.1)] w__17 fun (t50 : ByteArray) w__18 =>
LdA (R 6 (.i .i64)) a_x w__18 fun (t51 : Tup (R 6 (.i .i64))) w__19 =>
CallT (.o (.lf .s)) P0 55 [(.agg (Tup.cells (R 6 (.i .i64)) t51).toArray), (.string t50)] w__19 fun (t53 : ByteArray) w__20 =>
(((ByteArray.size (⟨#[32]⟩ : ByteArray) + ByteArray.size t53 : Nat) : Int) ≤ IntKind.i64.max) ∧ (((ByteArray.size ((⟨#[32]⟩ : ByteArray) ++ t53) + ByteArray.size (⟨#[10]⟩ : ByteArray) : Nat) : Int) ≤ IntKind.i64.max) ∧ CallT (.n [(.lf (.i .i64)), (.lf .any)]) P0 29 [(.pointer (some a_out)), (.string (((⟨#[32]⟩ : ByteArray) ++ t53) ++ (⟨#[10]⟩ : ByteArray)))] w__20 fun (t56 : (Int) × (Value) × Unit) w__21 =>
(I (IntKind.wrap .i64 (t19 + 1)) w__21 ∧ M (IntKind.wrap .i64 (t19 + 1)) w__21 < M t19 w__3)) ∧
(t40 = false → LdA (R 6 (.i .i64)) a_x w__15 fun (t51_1 : Tup (R 6 (.i .i64))) w__22 =>
CallT (.o (.lf .s)) P0 55 [(.agg (Tup.cells (R 6 (.i .i64)) t51_1).toArray), (.string t37)] w__22 fun (t53_1 : ByteArray) w__23 =>
(((ByteArray.size (⟨#[32]⟩ : ByteArray) + ByteArray.size t53_1 : Nat) : Int) ≤ IntKind.i64.max) ∧ (((ByteArray.size ((⟨#[32]⟩ : ByteArray) ++ t53_1) + ByteArray.size (⟨#[10]⟩ : ByteArray) : Nat) : Int) ≤ IntKind.i64.max) ∧ CallT (.n [(.lf (.i .i64)), (.lf .any)]) P0 29 [(.pointer (some a_out)), (.string (((⟨#[32]⟩ : ByteArray) ++ t53_1) ++ (⟨#[10]⟩ : ByteArray)))] w__23 fun (t56_1 : (Int) × (Value) × Unit) w__24 =>
(I (IntKind.wrap .i64 (t19 + 1)) w__24 ∧ M (IntKind.wrap .i64 (t19 + 1)) w__24 < M t19 w__3)))) ∧
((decide ((t19 : Int) < ((list.n : Nat) : Int))) = false → CallT (.o (.lf .s)) P0 31 [(.pointer (some a_out))] w__3 fun (t58 : ByteArray) w__25 =>
K t58 w__25)))
theorem impl.AsmPut.ok {list : Sl} {w : World} {K : ByteArray → World → Prop} (h : impl.AsmPut.vc list w K) : CallT (.o (.lf .s)) P0 23 [list.v] w K :=
  call_of Tryd.func23 rfl rfl (pl := impl.AsmPut.pl) (show VC P0 Tryd.f23 impl.AsmPut.pl (.o (.lf .s)) [list.v] w K noP from Eq.mp (by kernel_rfl) h)
/- spec.l13Marks -/
def spec.l13Marks.pl : Pl := (.s (.r (D 1)) (.s (.r [.d, .d, (.t (.o (.lf .sl))), .d]) (.s (.s (.r (D 1)) (.b (.l [(4, (.i .i64))] (.s (.s (.r (D 4)) (.c .z .z)) (.s (.b (.s (.r [.d, .d, .d, .d, (.l (.lf (.i .i64))), (.c (.o (.lf .b))), (.sp .d), .d, .d, .d, .d, (.l (.lf (.i .i64))), .d, .d]) (.c (.r [.d, .d, .d, .d, .d, .d, .d, (.l (.lf (.i .i64))), .d, .d, .d]) .z))) (.r (D 3))))))) (.s (.r (D 2)) .z))))
def spec.l13Marks.vc (list : Sl) (w : World) (K : Sl → World → Prop) : Prop :=
RunT (.o (.lf .sl)) P0 (Instr.makeSlice 99 (.int .i64 ((list.n : Nat) : Int)) (.int .i64 ((list.n : Nat) : Int))) w fun (t7 : Sl) w_ =>
∃ (I : Int → World → Prop) (M : Int → World → Nat),
I 0 w_ ∧
(∀ (i : Int) w__1, I i w__1 → ∀ _ : Nat → Value,
((decide ((i : Int) < ((list.n : Nat) : Int))) = true → Ix list.a list.n i 6 w__1 fun a_t16 w__2 =>
Ld (.i .i64) (Addr.add a_t16 0) w__2 fun (t18 : Int) w__3 =>
CallT (.o (.lf .b)) P0 78 [(.int .i64 t18)] w__3 fun (t19 : Bool) w__4 =>
(t19 = true → Ix list.a list.n i 6 w__4 fun a_t33 w__5 =>
Ld (.i .i64) (Addr.add a_t33 3) w__5 fun (t35 : Int) w__6 =>
Ix t7.a t7.n (IntKind.wrap .i64 ((IntKind.wrap .i64 (i + 1)) + t35)) 1 w__6 fun a_t37 w__7 =>
St a_t37 (.bool true) w__7 fun w__8 =>
(I (IntKind.wrap .i64 (i + 1)) w__8 ∧ M (IntKind.wrap .i64 (i + 1)) w__8 < M i w__1)) ∧
(t19 = false → Ix list.a list.n i 6 w__4 fun a_t23 w__9 =>
Ld (.i .i64) (Addr.add a_t23 0) w__9 fun (t25 : Int) w__10 =>
(((t25 : Int) == 16) = true → Ix list.a list.n i 6 w__10 fun a_t33_1 w__11 =>
Ld (.i .i64) (Addr.add a_t33_1 3) w__11 fun (t35_1 : Int) w__12 =>
Ix t7.a t7.n (IntKind.wrap .i64 ((IntKind.wrap .i64 (i + 1)) + t35_1)) 1 w__12 fun a_t37_1 w__13 =>
St a_t37_1 (.bool true) w__13 fun w__14 =>
(I (IntKind.wrap .i64 (i + 1)) w__14 ∧ M (IntKind.wrap .i64 (i + 1)) w__14 < M i w__1)) ∧
(((t25 : Int) == 16) = false → (I (IntKind.wrap .i64 (i + 1)) w__10 ∧ M (IntKind.wrap .i64 (i + 1)) w__10 < M i w__1)))) ∧
((decide ((i : Int) < ((list.n : Nat) : Int))) = false → K t7 w__1))
theorem spec.l13Marks.ok {list : Sl} {w : World} {K : Sl → World → Prop} (h : spec.l13Marks.vc list w K) : CallT (.o (.lf .sl)) P0 80 [list.v] w K :=
  call_of Tryd.func80 rfl rfl (pl := spec.l13Marks.pl) (show VC P0 Tryd.f80 spec.l13Marks.pl (.o (.lf .sl)) [list.v] w K noP from Eq.mp (by kernel_rfl) h)
/- spec.l13Name -/
def spec.l13Name.pl : Pl := (.s (.r (D 1)) (.s (.r (D 1)) (.s (.s (.r (D 1)) (.b (.l [(5, (.i .i64)), (6, (.i .i64))] (.s (.s (.r (D 3)) (.c .z .z)) (.s (.b (.s (.r [.d, .d, .d, (.l (.lf .b))]) (.c (.r (D 3)) .z))) (.r (D 3))))))) (.s (.r [.d, (.c (.o (.lf .s))), .d, .d]) .z))))
def spec.l13Name.vc (marks : Sl) (at_ : Int) (w : World) (K : ByteArray → World → Prop) : Prop :=
∃ (I : Int → Int → World → Prop) (M : Int → Int → World → Nat),
I 0 0 w ∧
(∀ (n : Int) (i : Int) w_, I n i w_ → ∀ _ : Nat → Value,
((decide ((i : Int) < at_)) = true → Ix marks.a marks.n i 1 w_ fun a_t14 w__1 =>
Ld .b a_t14 w__1 fun (t15 : Bool) w__2 =>
(t15 = true → (I (IntKind.wrap .i64 (n + 1)) (IntKind.wrap .i64 (i + 1)) w__2 ∧ M (IntKind.wrap .i64 (n + 1)) (IntKind.wrap .i64 (i + 1)) w__2 < M n i w_)) ∧
(t15 = false → (I n (IntKind.wrap .i64 (i + 1)) w__2 ∧ M n (IntKind.wrap .i64 (i + 1)) w__2 < M n i w_))) ∧
((decide ((i : Int) < at_)) = false → CallT (.o (.lf .s)) P0 63 [(.int .i64 n)] w_ fun (t19 : ByteArray) w__3 =>
(((ByteArray.size (⟨#[109]⟩ : ByteArray) + ByteArray.size t19 : Nat) : Int) ≤ IntKind.i64.max) ∧ K ((⟨#[109]⟩ : ByteArray) ++ t19) w__3))
theorem spec.l13Name.ok {marks : Sl} {at_ : Int} {w : World} {K : ByteArray → World → Prop} (h : spec.l13Name.vc marks at_ w K) : CallT (.o (.lf .s)) P0 81 [marks.v, (.int .i64 at_)] w K :=
  call_of Tryd.func81 rfl rfl (pl := spec.l13Name.pl) (show VC P0 Tryd.f81 spec.l13Name.pl (.o (.lf .s)) [marks.v, (.int .i64 at_)] w K noP from Eq.mp (by kernel_rfl) h)
/- spec.l13Line -/
def spec.l13Line.pl : Pl := (.s (.r (D 1)) (.s (.r [.d, .d, .d, (.l (.ag (R 6 (.i .i64)))), .d, .d]) (.j [] (.s (.r [.d, (.l (.lf (.i .i64))), (.c (.o (.lf .b))), .d, (.sp .d), .d, (.l (.lf (.i .i64))), .d, .d]) (.c (.s (.r [(.l (.ag (R 6 (.i .i64)))), (.c (.o (.lf .s))), .d]) .z) .z)) (.s (.r [(.l (.ag (R 6 (.i .i64)))), (.c (.o (.lf .s))), .d]) (.s (.g [(.q, []), (.q, []), (.q, []), (.q, []), ((.g (.o (.lf (.i .i64))) (.l (.lf (.i .i64)))), []), ((.g (.o (.lf .s)) (.c (.o (.lf .s)))), [4]), (.q, [5]), (.q, [5]), ((.g (.o (.lf .s)) (.t (.o (.lf .s)))), [5]), (.q, []), (.q, []), (.q, []), (.q, []), ((.g (.o (.lf (.i .i64))) (.l (.lf (.i .i64)))), []), (.q, [13]), ((.g (.o (.lf .s)) (.c (.o (.lf .s)))), [13]), ((.g (.o (.lf .s)) .d), [8, 15]), (.q, [16])] []) .z)))))
def spec.l13Line.vc (list : Sl) (marks : Sl) (at_ : Int) (w : World) (K : ByteArray → World → Prop) : Prop :=
Ix list.a list.n at_ 6 w fun a_t11 w_ =>
LdA (R 6 (.i .i64)) a_t11 w_ fun (t12 : Tup (R 6 (.i .i64))) w__1 =>
Nw (zc P0 44) 44 w__1 fun a_x w__2 =>
StA P0 a_x (Tup.cells (R 6 (.i .i64)) t12) w__2 fun w__3 =>
∃ J : World → Prop,
(Ld (.i .i64) (Addr.add a_x 0) w__3 fun (t14 : Int) w__4 =>
CallT (.o (.lf .b)) P0 78 [(.int .i64 t14)] w__4 fun (t15 : Bool) w__5 =>
((!t15) = true → Ld (.i .i64) (Addr.add a_x 0) w__5 fun (t19 : Int) w__6 =>
(((t19 : Int) != 16) = true → LdA (R 6 (.i .i64)) a_x w__6 fun (t22 : Tup (R 6 (.i .i64))) w__7 =>
CallT (.o (.lf .s)) P0 99 [(.agg (Tup.cells (R 6 (.i .i64)) t22).toArray)] w__7 fun (t23 : ByteArray) w__8 =>
K t23 w__8) ∧
(((t19 : Int) != 16) = false → J w__6)) ∧
((!t15) = false → J w__5)) ∧
(∀  w__9, J w__9 → ∀ _ : Nat → Value,
LdA (R 6 (.i .i64)) a_x w__9 fun (t24 : Tup (R 6 (.i .i64))) w__10 =>
CallT (.o (.lf .s)) P0 99 [(.agg (Tup.cells (R 6 (.i .i64)) t24).toArray)] w__10 fun (t25 : ByteArray) w__11 =>
∃ Sp : World → World → Prop, SpOk Sp w__11 ∧
∃ G_t30 : Int → World → Prop, Kept Sp G_t30 ∧
∃ G_t31 : ByteArray → World → Prop, Kept Sp G_t31 ∧
∃ G_t34 : ByteArray → World → Prop, Kept Sp G_t34 ∧
∃ G_t39 : Int → World → Prop, Kept Sp G_t39 ∧
∃ G_t41 : ByteArray → World → Prop, Kept Sp G_t41 ∧
∃ G_t42 : ByteArray → World → Prop, Kept Sp G_t42 ∧
(∀ w__12, Sp w__11 w__12 → Ld (.i .i64) (Addr.add a_x 3) w__12 fun (t30 : Int) w__13 =>
GK (.o (.lf (.i .i64))) Sp w__12 G_t30 (.int .i64 t30) w__13) ∧
∀ (t30_1 : Int), (∀ w__14, Sp w__11 w__14 → G_t30 t30_1 w__14 → CallT (.o (.lf .s)) P0 63 [(.int .i64 t30_1)] w__14 fun (t31 : ByteArray) w__15 =>
GK (.o (.lf .s)) Sp w__14 G_t31 (.string t31) w__15) ∧
∀ (t31_1 : ByteArray), (∀ w__16, Sp w__11 w__16 → G_t31 t31_1 w__16 → RunT (.o (.lf .s)) P0 (Instr.sliceAt 9 (.string t25) none (some (.int .i64 (IntKind.wrap .i64 ((((ByteArray.size t25) : Nat) : Int) - (((ByteArray.size t31_1) : Nat) : Int))))) none) w__16 fun (t34 : ByteArray) w__17 =>
GK (.o (.lf .s)) Sp w__16 G_t34 (.string t34) w__17) ∧
∀ (t34_1 : ByteArray), (∀ w__18, Sp w__11 w__18 → Ld (.i .i64) (Addr.add a_x 3) w__18 fun (t39 : Int) w__19 =>
GK (.o (.lf (.i .i64))) Sp w__18 G_t39 (.int .i64 t39) w__19) ∧
∀ (t39_1 : Int), (∀ w__20, Sp w__11 w__20 → G_t39 t39_1 w__20 → CallT (.o (.lf .s)) P0 81 [marks.v, (.int .i64 (IntKind.wrap .i64 ((IntKind.wrap .i64 (at_ + 1)) + t39_1)))] w__20 fun (t41 : ByteArray) w__21 =>
GK (.o (.lf .s)) Sp w__20 G_t41 (.string t41) w__21) ∧
∀ (t41_1 : ByteArray), (∀ w__22, Sp w__11 w__22 → G_t34 t34_1 w__22 → G_t41 t41_1 w__22 → (((ByteArray.size t34_1 + ByteArray.size t41_1 : Nat) : Int) ≤ IntKind.i64.max) ∧ GK (.o (.lf .s)) Sp w__22 G_t42 (.string (t34_1 ++ t41_1)) w__22) ∧
∀ (t42 : ByteArray), ∀ w__23, Sp w__11 w__23 → G_t30 t30_1 w__23 → G_t31 t31_1 w__23 → G_t34 t34_1 w__23 → G_t39 t39_1 w__23 → G_t41 t41_1 w__23 → G_t42 t42 w__23 → 
K t42 w__23)
theorem spec.l13Line.ok {list : Sl} {marks : Sl} {at_ : Int} {w : World} {K : ByteArray → World → Prop} (h : spec.l13Line.vc list marks at_ w K) : CallT (.o (.lf .s)) P0 82 [list.v, marks.v, (.int .i64 at_)] w K :=
  call_of Tryd.func82 rfl rfl (pl := spec.l13Line.pl) (show VC P0 Tryd.f82 spec.l13Line.pl (.o (.lf .s)) [list.v, marks.v, (.int .i64 at_)] w K noP from Eq.mp (by kernel_rfl) h)
/- spec.l13Put -/
def spec.l13Put.pl : Pl := (.s (.r (D 1)) (.s (.r (D 1)) (.s (.r [.d, (.c (.o (.lf .sl))), .d]) (.s (.s (.r (D 1)) (.b (.l [(3, .s), (5, (.i .i64))] (.s (.s (.r (D 4)) (.c .z .z)) (.s (.b (.s (.s (.r [.d, .d, .d, (.l (.lf .b))]) (.c (.r [.d, .d, .d, (.c (.o (.lf .s))), .d, .d, .d]) .z)) (.r [.d, .d, .d, .d, .d, (.c (.o (.lf .s))), .d, .d, .d]))) (.r (D 3))))))) (.s (.r (D 2)) .z)))))
def spec.l13Put.vc (list : Sl) (w : World) (K : ByteArray → World → Prop) : Prop :=
CallT (.o (.lf .sl)) P0 80 [list.v] w fun (t7 : Sl) w_ =>
∃ (I : ByteArray → Int → World → Prop) (M : ByteArray → Int → World → Nat),
I ⟨#[]⟩ 0 w_ ∧
(∀ (out : ByteArray) (i : Int) w__1, I out i w__1 → ∀ _ : Nat → Value,
((decide ((i : Int) < ((list.n : Nat) : Int))) = true → Ix t7.a t7.n i 1 w__1 fun a_t16 w__2 =>
Ld .b a_t16 w__2 fun (t17 : Bool) w__3 =>
(t17 = true → CallT (.o (.lf .s)) P0 81 [t7.v, (.int .i64 i)] w__3 fun (t21 : ByteArray) w__4 =>
(((ByteArray.size out + ByteArray.size t21 : Nat) : Int) ≤ IntKind.i64.max) ∧ (((ByteArray.size (out ++ t21) + ByteArray.size (⟨#[58, 10]⟩ : ByteArray) : Nat) : Int) ≤ IntKind.i64.max) ∧ (((ByteArray.size ((out ++ t21) ++ (⟨#[58, 10]⟩ : ByteArray)) + ByteArray.size (⟨#[32]⟩ : ByteArray) : Nat) : Int) ≤ IntKind.i64.max) ∧ CallT (.o (.lf .s)) P0 82 [list.v, t7.v, (.int .i64 i)] w__4 fun (t29 : ByteArray) w__5 =>
(((ByteArray.size (((out ++ t21) ++ (⟨#[58, 10]⟩ : ByteArray)) ++ (⟨#[32]⟩ : ByteArray)) + ByteArray.size t29 : Nat) : Int) ≤ IntKind.i64.max) ∧ (((ByteArray.size ((((out ++ t21) ++ (⟨#[58, 10]⟩ : ByteArray)) ++ (⟨#[32]⟩ : ByteArray)) ++ t29) + ByteArray.size (⟨#[10]⟩ : ByteArray) : Nat) : Int) ≤ IntKind.i64.max) ∧ (I (((((out ++ t21) ++ (⟨#[58, 10]⟩ : ByteArray)) ++ (⟨#[32]⟩ : ByteArray)) ++ t29) ++ (⟨#[10]⟩ : ByteArray)) (IntKind.wrap .i64 (i + 1)) w__5 ∧ M (((((out ++ t21) ++ (⟨#[58, 10]⟩ : ByteArray)) ++ (⟨#[32]⟩ : ByteArray)) ++ t29) ++ (⟨#[10]⟩ : ByteArray)) (IntKind.wrap .i64 (i + 1)) w__5 < M out i w__1)) ∧
(t17 = false → (((ByteArray.size out + ByteArray.size (⟨#[32]⟩ : ByteArray) : Nat) : Int) ≤ IntKind.i64.max) ∧ CallT (.o (.lf .s)) P0 82 [list.v, t7.v, (.int .i64 i)] w__3 fun (t29_1 : ByteArray) w__6 =>
(((ByteArray.size (out ++ (⟨#[32]⟩ : ByteArray)) + ByteArray.size t29_1 : Nat) : Int) ≤ IntKind.i64.max) ∧ (((ByteArray.size ((out ++ (⟨#[32]⟩ : ByteArray)) ++ t29_1) + ByteArray.size (⟨#[10]⟩ : ByteArray) : Nat) : Int) ≤ IntKind.i64.max) ∧ (I (((out ++ (⟨#[32]⟩ : ByteArray)) ++ t29_1) ++ (⟨#[10]⟩ : ByteArray)) (IntKind.wrap .i64 (i + 1)) w__6 ∧ M (((out ++ (⟨#[32]⟩ : ByteArray)) ++ t29_1) ++ (⟨#[10]⟩ : ByteArray)) (IntKind.wrap .i64 (i + 1)) w__6 < M out i w__1))) ∧
((decide ((i : Int) < ((list.n : Nat) : Int))) = false → K out w__1))
theorem spec.l13Put.ok {list : Sl} {w : World} {K : ByteArray → World → Prop} (h : spec.l13Put.vc list w K) : CallT (.o (.lf .s)) P0 46 [list.v] w K :=
  call_of Tryd.func46 rfl rfl (pl := spec.l13Put.pl) (show VC P0 Tryd.f46 spec.l13Put.pl (.o (.lf .s)) [list.v] w K noP from Eq.mp (by kernel_rfl) h)
/- spec.AsmPut -/
def spec.AsmPut.pl : Pl := (.s (.r (D 1)) (.s (.s (.r [.d, (.c (.o (.lf (.i .i64)))), .d]) (.c (.s (.r (D 1)) .z) .z)) (.s (.r [.d, (.c (.o (.lf .s))), .d]) .z)))
def spec.AsmPut.vc (list : Sl) (w : World) (K : ByteArray → World → Prop) : Prop :=
CallT (.o (.lf (.i .i64))) P0 45 [list.v] w fun (t4 : Int) w_ =>
(((t4 : Int) != 0) = true → K ⟨#[]⟩ w_) ∧
(((t4 : Int) != 0) = false → CallT (.o (.lf .s)) P0 46 [list.v] w_ fun (t7 : ByteArray) w__1 =>
K t7 w__1)
theorem spec.AsmPut.ok {list : Sl} {w : World} {K : ByteArray → World → Prop} (h : spec.AsmPut.vc list w K) : CallT (.o (.lf .s)) P0 21 [list.v] w K :=
  call_of Tryd.func21 rfl rfl (pl := spec.AsmPut.pl) (show VC P0 Tryd.f21 spec.AsmPut.pl (.o (.lf .s)) [list.v] w K noP from Eq.mp (by kernel_rfl) h)
/- spec.DrawAsmPut -/
def spec.DrawAsmPut.pl : Pl := (.s (.r (D 1)) (.s (.r [.d, (.c (.o (.lf .sl))), .d]) .z))
def spec.DrawAsmPut.vc (code : Sl) (w : World) (K : Sl → World → Prop) : Prop :=
CallT (.o (.lf .sl)) P0 57 [code.v] w fun (t4 : Sl) w_ =>
K t4 w_
theorem spec.DrawAsmPut.ok {code : Sl} {w : World} {K : Sl → World → Prop} (h : spec.DrawAsmPut.vc code w K) : CallT (.o (.lf .sl)) P0 25 [code.v] w K :=
  call_of Tryd.func25 rfl rfl (pl := spec.DrawAsmPut.pl) (show VC P0 Tryd.f25 spec.DrawAsmPut.pl (.o (.lf .sl)) [code.v] w K noP from Eq.mp (by kernel_rfl) h)
/- laws.FnExactAsmPut -/
def laws.FnExactAsmPut.pl : Pl := (.s (.r (D 1)) (.s (.r (D 1)) (.s (.r [.d, .d, (.c (.o (.lf (.i .i64)))), .d]) (.s (.s (.r (D 2)) (.c (.s (.r (D 1)) .z) .z)) (.s (.r [.d, (.c (.o (.lf .sl))), (.c (.o (.lf .s))), .d]) (.s (.r [.d, (.c (.o (.lf .sl))), .d]) (.s (.r [.d, (.c (.o (.lf .s))), .d]) (.s (.s (.r (D 3)) (.c (.s (.r (D 1)) .z) .z)) (.s (.s (.r [.d, .d, (.c (.o (.lf .sl))), (.c (.o (.lf .b))), .d]) (.c (.s (.r (D 1)) .z) .z)) (.s (.r (D 1)) .z))))))))))
def laws.FnExactAsmPut.vc (aList : Sl) (w : World) (K : Bool → World → Prop) : Prop :=
CallT (.o (.lf (.i .i64))) P0 20 [aList.v, (.int .i64 1048576)] w fun (t9 : Int) w_ =>
((decide ((t9 : Int) < 0)) = true → K true w_) ∧
((decide ((t9 : Int) < 0)) = false → CallT (.o (.lf .sl)) P0 22 [aList.v] w_ fun (t13 : Sl) w__1 =>
CallT (.o (.lf .s)) P0 21 [t13.v] w__1 fun (t14 : ByteArray) w__2 =>
CallT (.o (.lf .sl)) P0 22 [aList.v] w__2 fun (t16 : Sl) w__3 =>
CallT (.o (.lf .s)) P0 23 [t16.v] w__3 fun (t18 : ByteArray) w__4 =>
((!(ByteArray.toList t18 == ByteArray.toList t14)) = true → K false w__4) ∧
((!(ByteArray.toList t18 == ByteArray.toList t14)) = false → CallT (.o (.lf .sl)) P0 22 [aList.v] w__4 fun (t24 : Sl) w__5 =>
CallT (.o (.lf .b)) P0 24 [t16.v, t24.v] w__5 fun (t25 : Bool) w__6 =>
((!t25) = true → K false w__6) ∧
((!t25) = false → K true w__6)))
theorem laws.FnExactAsmPut.ok {aList : Sl} {w : World} {K : Bool → World → Prop} (h : laws.FnExactAsmPut.vc aList w K) : CallT (.o (.lf .b)) P0 6 [aList.v] w K :=
  call_of Tryd.func6 rfl rfl (pl := laws.FnExactAsmPut.pl) (show VC P0 Tryd.f6 laws.FnExactAsmPut.pl (.o (.lf .b)) [aList.v] w K noP from Eq.mp (by kernel_rfl) h)
/- laws.FnAsmLines -/
def laws.FnAsmLines.pl : Pl := (.s (.r (D 1)) (.s (.s (.r (D 3)) (.c (.s (.r (D 1)) .z) .z)) (.s (.r [.d, (.c (.o (.lf .sl))), .d]) (.s (.r [.d, (.c (.o (.lf .s))), .d]) (.j [] (.s (.r [.d, .d, (.c (.o (.lf .s))), .d, (.sp .d), .d, .d, .d]) (.c (.s (.r [.d, .d, (.c (.o (.lf .s))), .d, .d]) .z) .z)) (.s (.r (D 1)) (.s (.s (.r (D 1)) (.b (.l [(5, (.i .i64)), (6, (.i .i64))] (.s (.s (.r (D 4)) (.c .z .z)) (.s (.b (.s (.r (D 4)) (.c (.r (D 3)) .z))) (.r (D 3))))))) (.s (.r (D 2)) (.s (.s (.r (D 1)) (.b (.l [(7, .sl), (8, (.i .i64))] (.s (.s (.r (D 4)) (.c .z .z)) (.j [(7, .sl)] (.b (.s (.r [.d, .d, .d, .d, .d, .d, (.l (.lf (.i .i64))), .d, .d]) (.s (.r [.d, .d, .d, .d, (.l (.lf (.i .i64))), .d, (.sp .d), .d, .d, .d, .d, (.l (.lf (.i .i64))), .d, .d, (.sp .d), .d, .d, (.c (.o (.lf .b))), .d, .d]) (.c (.r [.d, .d, .d, (.t (.o (.lf .sl))), .d]) .z)))) (.r (D 3))))))) (.s (.r (D 8)) .z))))))))))
def laws.FnAsmLines.vc (code : Sl) (w : World) (K : Bool → World → Prop) : Prop :=
((decide ((((code.n : Nat) : Int) : Int) > 1048576)) = true → K true w) ∧
((decide ((((code.n : Nat) : Int) : Int) > 1048576)) = false → CallT (.o (.lf .sl)) P0 25 [code.v] w fun (t14 : Sl) w_ =>
CallT (.o (.lf .s)) P0 23 [t14.v] w_ fun (t16 : ByteArray) w__1 =>
∃ J : World → Prop,
(CallT (.o (.lf .s)) P0 21 [t14.v] w__1 fun (t19 : ByteArray) w__2 =>
((!(ByteArray.toList t16 == ByteArray.toList t19)) = true → CallT (.o (.lf .s)) P0 21 [t14.v] w__2 fun (t27 : ByteArray) w__3 =>
K (ByteArray.toList t16 == ByteArray.toList t27) w__3) ∧
((!(ByteArray.toList t16 == ByteArray.toList t19)) = false → ((ByteArray.toList t16 == ByteArray.toList (⟨#[]⟩ : ByteArray)) = true → CallT (.o (.lf .s)) P0 21 [t14.v] w__2 fun (t27_1 : ByteArray) w__4 =>
K (ByteArray.toList t16 == ByteArray.toList t27_1) w__4) ∧
((ByteArray.toList t16 == ByteArray.toList (⟨#[]⟩ : ByteArray)) = false → J w__2))) ∧
(∀  w__5, J w__5 → ∀ _ : Nat → Value,
∃ (I : Int → Int → World → Prop) (M : Int → Int → World → Nat),
I 0 0 w__5 ∧
(∀ (lines : Int) (i : Int) w__6, I lines i w__6 → ∀ _ : Nat → Value,
((decide ((i : Int) < (((ByteArray.size t16) : Nat) : Int))) = true → Sx t16 i w__6 fun t37 w__7 =>
(((t37 : Int) == 10) = true → (I (IntKind.wrap .i64 (lines + 1)) (IntKind.wrap .i64 (i + 1)) w__7 ∧ M (IntKind.wrap .i64 (lines + 1)) (IntKind.wrap .i64 (i + 1)) w__7 < M lines i w__6)) ∧
(((t37 : Int) == 10) = false → (I lines (IntKind.wrap .i64 (i + 1)) w__7 ∧ M lines (IntKind.wrap .i64 (i + 1)) w__7 < M lines i w__6))) ∧
((decide ((i : Int) < (((ByteArray.size t16) : Nat) : Int))) = false → Nw #[] 3 w__6 fun a_t41 w__8 =>
∃ (I_1 : Sl → Int → World → Prop) (M_1 : Sl → Int → World → Nat),
I_1 ⟨(some a_t41), 0, 0⟩ 0 w__8 ∧
(∀ (marks : Sl) (i_1 : Int) w__9, I_1 marks i_1 w__9 → ∀ _ : Nat → Value,
((decide ((i_1 : Int) < ((t14.n : Nat) : Int))) = true → ∃ J_1 : Sl → World → Prop,
(Ix t14.a t14.n i_1 6 w__9 fun a_t52 w__10 =>
Ld (.i .i64) (Addr.add a_t52 3) w__10 fun (t54 : Int) w__11 =>
Ix t14.a t14.n i_1 6 w__11 fun a_t58 w__12 =>
Ld (.i .i64) (Addr.add a_t58 0) w__12 fun (t60 : Int) w__13 =>
((decide ((t60 : Int) ≥ 12)) = true → Ix t14.a t14.n i_1 6 w__13 fun a_t65 w__14 =>
Ld (.i .i64) (Addr.add a_t65 0) w__14 fun (t67 : Int) w__15 =>
((decide ((t67 : Int) ≤ 16)) = true → CallT (.o (.lf .b)) P0 26 [marks.v, (.int .i64 (IntKind.wrap .i64 ((IntKind.wrap .i64 (i_1 + 1)) + t54)))] w__15 fun (t73 : Bool) w__16 =>
((!t73) = true → Nw #[(.int .i64 (IntKind.wrap .i64 ((IntKind.wrap .i64 (i_1 + 1)) + t54)))] 3 w__16 fun a_t78 w__17 =>
RunT (.o (.lf .sl)) P0 (Builtin.append_ #[42, 42] 42 #[marks.v, (.slice (some a_t78) 1 1)]) w__17 fun (t79 : Sl) w__18 =>
J_1 t79 w__18) ∧
((!t73) = false → J_1 marks w__16)) ∧
((decide ((t67 : Int) ≤ 16)) = false → J_1 marks w__15)) ∧
((decide ((t60 : Int) ≥ 12)) = false → J_1 marks w__13)) ∧
(∀ (marks_1 : Sl) w__19, J_1 marks_1 w__19 → ∀ _ : Nat → Value,
(I_1 marks_1 (IntKind.wrap .i64 (i_1 + 1)) w__19 ∧ M_1 marks_1 (IntKind.wrap .i64 (i_1 + 1)) w__19 < M_1 marks i_1 w__9))) ∧
((decide ((i_1 : Int) < ((t14.n : Nat) : Int))) = false → K ((lines : Int) == (IntKind.wrap .i64 (((t14.n : Nat) : Int) + ((marks.n : Nat) : Int)))) w__9))))))
theorem laws.FnAsmLines.ok {code : Sl} {w : World} {K : Bool → World → Prop} (h : laws.FnAsmLines.vc code w K) : CallT (.o (.lf .b)) P0 7 [code.v] w K :=
  call_of Tryd.func7 rfl rfl (pl := laws.FnAsmLines.pl) (show VC P0 Tryd.f7 laws.FnAsmLines.pl (.o (.lf .b)) [code.v] w K noP from Eq.mp (by kernel_rfl) h)
end Go.Proofs.YtkkdboimkbcfnaaDoor.V

/- Contracts: the line of an op, in the reference and in the program. -/
namespace Go.Proofs.YtkkdboimkbcfnaaDoor.V
open Go Go.RowKit
set_option linter.unusedVariables false
set_option linter.unusedSimpArgs false
def callW : List By := [[], [108, 111, 111, 107], [112, 117, 116], [102, 105, 110, 100], [100, 114, 111, 112], [114, 97, 110, 100], [115, 101, 110, 100]]
def callA (n : Int) : By := callW.getD n.toNat []
/-- A register, or a number. -/
def regL (src imm : Int) : By := if src < 0 then Lib.itoa imm else 114 :: Lib.itoa src
/-- The line of an op, with a text for where it goes. -/
def lineO (x : Ins) (off : By) : By :=
  if 1 ≤ x.op ∧ x.op ≤ 11 then opA x.op ++ 32 :: 114 :: Lib.itoa x.dst ++ 32 :: regL x.src x.imm
  else if 12 ≤ x.op ∧ x.op ≤ 15 then opA x.op ++ 32 :: 114 :: Lib.itoa x.dst ++ 32 :: regL x.src x.imm ++ 32 :: off
  else if x.op = 16 then opA x.op ++ 32 :: off
  else if x.op = 17 then opA x.op ++ Lib.itoa x.size ++ 32 :: 114 :: Lib.itoa x.dst ++ 32 :: 114 :: Lib.itoa x.src ++ 32 :: off
  else if x.op = 18 then opA x.op ++ Lib.itoa x.size ++ 32 :: 114 :: Lib.itoa x.dst ++ 32 :: off ++ 32 :: regL x.src x.imm
  else if x.op = 19 then opA x.op ++ 32 :: callA x.imm
  else opA x.op
theorem z32 : (⟨#[32]⟩ : ByteArray).size = 1 := rfl
theorem z114 : (⟨#[114]⟩ : ByteArray).size = 1 := rfl
theorem z2 : (⟨#[32, 114]⟩ : ByteArray).size = 2 := rfl
theorem z10 : (⟨#[10]⟩ : ByteArray).size = 1 := rfl
theorem z109 : (⟨#[109]⟩ : ByteArray).size = 1 := rfl
theorem z58 : (⟨#[58, 10]⟩ : ByteArray).size = 2 := rfl
theorem e32 : (⟨#[32]⟩ : ByteArray) = bs [32] := rfl
theorem e114 : (⟨#[114]⟩ : ByteArray) = bs [114] := rfl
theorem e2 : (⟨#[32, 114]⟩ : ByteArray) = bs [32, 114] := rfl
theorem e10 : (⟨#[10]⟩ : ByteArray) = bs [10] := rfl
theorem e109 : (⟨#[109]⟩ : ByteArray) = bs [109] := rfl
theorem e58 : (⟨#[58, 10]⟩ : ByteArray) = bs [58, 10] := rfl
theorem call_len (n : Int) : (callA n).length ≤ 4 := by
  unfold callA
  by_cases h : n.toNat < 7
  · have hx : ∀ j < 7, (callW.getD j []).length ≤ 4 := by decide
    exact hx _ h
  · rw [List.getD_eq_getElem?_getD, List.getElem?_eq_none (by simp [callW]; omega)]; simp
theorem regL_len {src imm : Int} (h1 : -1 ≤ src ∧ src ≤ 1000) (h2 : 0 ≤ imm ∧ imm ≤ 4294967295) : (regL src imm).length ≤ 22 := by
  have a1 := itoa_len (n := src) (by omega) (by omega)
  have a2 := itoa_len (n := imm) (by omega) (by omega)
  unfold regL
  split
  · omega
  · simp; omega
theorem lineO_len {x : Ins} {off : By} (hp : InsP x) (ho : off.length ≤ 30) : (lineO x off).length ≤ 150 := by
  have a1 := itoa_len (n := x.dst) (by have := hp.1; omega) (by have := hp.1; omega)
  have a2 := itoa_len (n := x.src) (by have := hp.2.1; omega) (by have := hp.2.1; omega)
  have a4 := regL_len (src := x.src) (imm := x.imm) (by have := hp.2.1; omega) hp.2.2.2.1
  have a5 := op_lenA x.op
  have a6 := call_len x.imm
  have a3 : (x.op = 17 ∨ x.op = 18) → (Lib.itoa x.size).length ≤ 21 := by
    intro h
    have : 0 ≤ x.size ∧ x.size ≤ 4 := by have := hp.2.2.2.2; grind [BareP, szP]
    exact itoa_len (by omega) (by omega)
  unfold lineO
  split
  · simp; omega
  · split
    · simp; omega
    · split
      · simp; omega
      · split
        · have := a3 (.inl (by assumption)); simp; omega
        · split
          · have := a3 (.inr (by assumption)); simp; omega
          · split
            · simp; omega
            · omega
theorem qldAB {w : World} {b : Nat} {cs : Array Value} {t : TypeId} {f : Nat × Nat} (h : w.heap[b]? = some (.cells cs t f)) {ls : List Lf} {x : Tup ls} (hx : cs.toList = Tup.cells ls x) {K : Tup ls → Prop} (hk : K x) :
    QLdA ls ⟨b, 0, none⟩ (fun w' => Below w.heap.size w w') K := ⟨x, fun w' hw' j v hv => by
      have hb : b < w.heap.size := (Array.getElem?_eq_some_iff.1 h).1
      rw [add_mk, cell_of ((hw'.block b hb).trans h), Nat.zero_add, ← Array.getElem?_toList, hx]; exact hv, hk⟩
section
variable {w : World}
theorem spec.l1Reg.t {src imm : Int} {K : ByteArray → World → Prop} (h1 : -1 ≤ src ∧ src ≤ 1000) (h2 : 0 ≤ imm ∧ imm ≤ 4294967295) (hk : ∀ w', Below w.heap.size w w' → K (bs (regL src imm)) w') : CallT (.o (.lf .s)) P0 121 [.int .i64 src, .int .i64 imm] w K := by
  have a1 := itoa_len (n := src) (by omega) (by omega)
  refine spec.l1Reg.ok (And.intro (fun h => ?_) (fun h => ?_))
  · simp only [decide_eq_true_eq] at h
    refine spec.l1Dec.t (by omega) (by omega) fun w1 hb => ⟨(by show (_ : Int) ≤ 9223372036854775807; simp only [ByteArray.size_append, bs_size, z32, z114, z2, z10, z109, z58, List.length_cons, List.length_append, List.length_nil]; omega), ?_⟩
    have e : (⟨#[114]⟩ : ByteArray) ++ bs (Lib.itoa src) = bs (regL src imm) := by rw [e114, bs_app]; unfold regL; rw [if_neg (by omega)]; rfl
    rw [e]; exact hk w1 hb
  · simp only [decide_eq_false_iff_not] at h
    refine spec.l1Dec.t (by omega) (by omega) fun w1 hb => ?_
    have e : Lib.itoa imm = regL src imm := by unfold regL; rw [if_pos (by omega)]
    rw [e]; exact hk w1 hb
theorem spec.l1Calls.t {K : Sl → World → Prop} (hk : ∀ r w', Below w.heap.size w w' → OwnS kS 9 w.heap.size w' r (callW.map bs) → K r w') : CallT (.o (.lf .sl)) P0 122 [] w K :=
  spec.l1Calls.ok (nw fun w1 b1 s1 c1 => hk _ w1 b1 (OwnS.lit (k := kS) (xs := callW.map bs) (n := 7) (Nat.le_refl _) c1 rfl rfl (by simp [maxLen])))
theorem impl.reg.t {n : Int} {K : ByteArray → World → Prop} (ht : Tb w) (h : -1 ≤ n ∧ n ≤ 1000) (hk : ∀ w', Below w.heap.size w w' → K (bs (114 :: Lib.itoa n)) w') : CallT (.o (.lf .s)) P0 89 [.int .i64 n] w K := by
  have a1 := itoa_len (n := n) (by omega) (by omega)
  refine impl.reg.ok (itoa.c ht (by omega) (by omega) fun w1 hb => ⟨(by show (_ : Int) ≤ 9223372036854775807; simp only [ByteArray.size_append, bs_size, z32, z114, z2, z10, z109, z58, List.length_cons, List.length_append, List.length_nil]; omega), ?_⟩)
  rw [e114, bs_app]; exact hk w1 hb
theorem impl.mark.t {n : Int} {K : ByteArray → World → Prop} (ht : Tb w) (h : 0 ≤ n ∧ n ≤ 1000000) (hk : ∀ w', Below w.heap.size w w' → K (bs (109 :: Lib.itoa n)) w') : CallT (.o (.lf .s)) P0 51 [.int .i64 n] w K := by
  have a1 := itoa_len (n := n) (by omega) (by omega)
  refine impl.mark.ok (itoa.c ht (by omega) (by omega) fun w1 hb => ⟨(by show (_ : Int) ≤ 9223372036854775807; simp only [ByteArray.size_append, bs_size, z32, z114, z2, z10, z109, z58, List.length_cons, List.length_append, List.length_nil]; omega), ?_⟩)
  rw [e109, bs_app]; exact hk w1 hb
theorem impl.Ins.value.t {x : Ins} {K : ByteArray → World → Prop} (ht : Tb w) (hp : InsP x) (hk : ∀ w', Below w.heap.size w w' → K (bs (regL x.src x.imm)) w') : CallT (.o (.lf .s)) P0 90 [.agg (Tup.cells (R 6 (.i .i64)) x.t).toArray] w K := by
  have hs := hp.2.1
  have hi := hp.2.2.2.1
  refine impl.Ins.value.ok (nwIns fun w1 b1 s1 c1 => ldB c1 (j := 2) (x := x.src) rfl (And.intro (fun h => ?_) (fun h => ?_)))
  · have h : x.src = -1 := by simpa using h
    refine ldB c1 (j := 4) (x := x.imm) rfl (itoa.c (ht.below b1) (by omega) (by omega) fun w2 b2 => ?_)
    have e : Lib.itoa x.imm = regL x.src x.imm := by unfold regL; rw [if_pos (by omega)]
    rw [e]; exact hk w2 (b1.trans (b2.mono b1.size))
  · have h : ¬ x.src = -1 := by simpa using h
    refine ldB c1 (j := 2) (x := x.src) rfl (impl.reg.t (ht.below b1) (by omega) fun w2 b2 => ?_)
    have e : 114 :: Lib.itoa x.src = regL x.src x.imm := by unfold regL; rw [if_neg (by omega)]
    rw [e]; exact hk w2 (b1.trans (b2.mono b1.size))
def callT : Tup (R 7 .s) := tupS callW
def call0 : Tup (R 7 .s) := tupS (List.replicate 7 [])
theorem callT_cells : Tup.cells (R 7 .s) callT = callW.map fun x => Value.string (bs x) := tupS_cells callW
theorem zCalls : zc P0 108 = (Tup.cells (R 7 .s) call0).toArray := by kernel_rfl
theorem impl.callWords.t {K : Tup (R 7 .s) → World → Prop} (hk : ∀ w', Below w.heap.size w w' → K callT w') : CallT (.o (.ag (R 7 .s))) P0 91 [] w K := by
  refine impl.callWords.ok ?_
  unfold impl.callWords.vc
  rw [zCalls]
  refine nw fun w1 b1 s1 c1 => ?_
  obtain ⟨w2, hr, hg, hsz, hh⟩ := run_storeCells_at' P0 (b := w.heap.size) (t := 108) (Tup.cells (R 7 .s) callT) 0 [] (Tup.cells (R 7 .s) call0) w1 (by rw [callT_cells]; intro v hv; simp only [List.mem_map] at hv; obtain ⟨x, _, rfl⟩ := hv; rfl) rfl rfl (by simpa using c1)
  refine ⟨w2, hr, ldAB (by simpa using hh) rfl (hk w2 (b1.grown hg b1.size (fun g hg => by simp only [Option.some.injEq] at hg; omega)))⟩
theorem callIx {i : Int} (h0 : 0 ≤ i) (h1 : i ≤ 6) {K : ByteArray → World → Prop} (hk : K (bs (callA i)) w) : RunT (.o (.lf .s)) P0 (Instr.index 108 (.agg (Tup.cells (R 7 .s) callT).toArray) (.int .i64 i)) w K := by
  refine ixAgg (n := 7) (e := 9) (by kernel_rfl) (by kernel_rfl) (by kernel_rfl) h0 (by omega) ?_ hk
  rw [callT_cells]
  obtain ⟨x, hx⟩ := get_some (l := callW) (k := i.toNat) (by simp [callW]; omega)
  have : callA i = x := by unfold callA; rw [List.getD_eq_getElem?_getD, hx]; rfl
  rw [this]
  simp [hx]
set_option maxHeartbeats 4000000 in
theorem impl.Ins.line.t {x : Ins} {off : By} {K : ByteArray → World → Prop} (ht : Tb w) (hp : InsP x) (ho : off.length ≤ 30) (hk : ∀ w', Below w.heap.size w w' → K (bs (lineO x off)) w') : CallT (.o (.lf .s)) P0 55 [.agg (Tup.cells (R 6 (.i .i64)) x.t).toArray, .string (bs off)] w K := by
  have hop : 1 ≤ x.op ∧ x.op ≤ 20 := by have := hp.2.2.2.2; grind [BareP, szP]
  have hdst := hp.1
  have hsrc := hp.2.1
  have hoff := hp.2.2.1
  have himm := hp.2.2.2.1
  have hsize : (x.op = 17 ∨ x.op = 18) → 0 ≤ x.size ∧ x.size ≤ 4 := by have := hp.2.2.2.2; grind [BareP, szP]
  have hcall : x.op = 19 → 1 ≤ x.imm ∧ x.imm ≤ 6 := by have := hp.2.2.2.2; grind [BareP, szP]
  have a1 := itoa_len (n := x.dst) (by omega) (by omega)
  have a2 := itoa_len (n := x.src) (by omega) (by omega)
  have a4 := regL_len (src := x.src) (imm := x.imm) (by omega) himm
  have a5 := op_lenA x.op
  have a6 := call_len x.imm
  refine impl.Ins.line.ok (nwIns fun w1 b1 s1 c1 => ?_)
  have cc : ∀ {w' : World}, StR w1 w' → w'.heap[w.heap.size]? = _ := fun hs => (hs.block _ (by omega)).trans c1
  refine ⟨StR, stOk w1, eqG opT, keptE, eqG x.op, keptE, eqG (bs (opA x.op)), keptE, ?_⟩
  refine ⟨fun w' hs => impl.opWords.t fun w'' hb => gkE rfl hb, fun t7 => ⟨fun w' hs => ldB (cc hs) (x := x.op) rfl (gkE rfl (Below.refl _ _)), fun t9 => ⟨fun w' hs f7 f9 => ?_, fun t10 w2 hs _ _ f10 => ?_⟩⟩⟩
  · cases f7; cases f9; exact opIx (by omega) (by omega) (gkE rfl (Below.refl _ _))
  cases f10
  have hs : Below w1.heap.size w1 w2 := hs
  have b2 := b1.trans (hs.mono b1.size)
  have c2 := (hs.block _ (by omega)).trans c1
  have ht2 := ht.below b2
  have fin : ∀ {w' : World} {r : ByteArray}, Below w2.heap.size w2 w' → r = bs (lineO x off) → K r w' := fun hb e => by rw [e]; exact hk _ (b2.trans (hb.mono b2.size))
  have Q : ∀ {w9 w' : World}, Below w2.heap.size w2 w9 → Below w9.heap.size w9 w' → Tb w' := fun h1 h2 => (ht2.below h1).below h2
  have qreg : ∀ {w9 : World} {n : Int} {K : ByteArray → Prop}, Below w2.heap.size w2 w9 → -1 ≤ n ∧ n ≤ 1000 → K (bs (114 :: Lib.itoa n)) → QCl (.o (.lf .s)) P0 89 [.int .i64 n] (fun w' => Below w9.heap.size w9 w') K := fun h1 hn hK =>
    qcl _ (fun w' hb => impl.reg.t (Q h1 hb) hn fun w'' hb' => ⟨rfl, hb.trans (hb'.mono hb.size)⟩) hK
  have qito : ∀ {w9 : World} {n : Int} {K : ByteArray → Prop}, Below w2.heap.size w2 w9 → -1000000 ≤ n ∧ n ≤ 10000000000 → K (bs (Lib.itoa n)) → QCl (.o (.lf .s)) P0 52 [.int .i64 n] (fun w' => Below w9.heap.size w9 w') K := fun h1 hn hK =>
    qcl _ (fun w' hb => itoa.c (Q h1 hb) (by omega) (by omega) fun w'' hb' => ⟨rfl, hb.trans (hb'.mono hb.size)⟩) hK
  have qval : ∀ {w9 : World} {K : ByteArray → Prop}, Below w2.heap.size w2 w9 → K (bs (regL x.src x.imm)) → QCl (.o (.lf .s)) P0 90 [.agg (Tup.cells (R 6 (.i .i64)) x.t).toArray] (fun w' => Below w9.heap.size w9 w') K := fun h1 hK =>
    qcl _ (fun w' hb => impl.Ins.value.t (Q h1 hb) hp fun w'' hb' => ⟨rfl, hb.trans (hb'.mono hb.size)⟩) hK
  have r2 := Below.refl w2.heap.size w2
  refine ldB c2 (x := x.op) rfl (impl.kind.reckons.c (And.intro (fun h => ?_) (fun h => impl.kind.asks.c (And.intro (fun h3 => ?_) (fun h3 => ldB c2 (x := x.op) rfl (And.intro (fun h4 => ?_) (fun h4 => ldB c2 (x := x.op) rfl (And.intro (fun h5 => ?_) (fun h5 => ldB c2 (x := x.op) rfl (And.intro (fun h6 => ?_) (fun h6 => ldB c2 (x := x.op) rfl (And.intro (fun h7 => ?_) (fun h7 => ?_)))))))))))))
  · have h : 1 ≤ x.op ∧ x.op ≤ 11 := by simpa using h
    refine ⟨(by show (_ : Int) ≤ 9223372036854775807; simp only [ByteArray.size_append, bs_size, z32, z114, z2, z10, z109, z58, List.length_cons, List.length_append, List.length_nil]; omega), qldB c2 (j := 1) (x := x.dst) rfl (qreg r2 (by omega) ⟨(by show (_ : Int) ≤ 9223372036854775807; simp only [ByteArray.size_append, bs_size, z32, z114, z2, z10, z109, z58, List.length_cons, List.length_append, List.length_nil]; omega), (by show (_ : Int) ≤ 9223372036854775807; simp only [ByteArray.size_append, bs_size, z32, z114, z2, z10, z109, z58, List.length_cons, List.length_append, List.length_nil]; omega), qldAB c2 (x := x.t) rfl (qval r2 ⟨(by show (_ : Int) ≤ 9223372036854775807; simp only [ByteArray.size_append, bs_size, z32, z114, z2, z10, z109, z58, List.length_cons, List.length_append, List.length_nil]; omega), fun w3 hb => fin hb ?_⟩)⟩)⟩
    rw [e32]; simp only [bs_app]
    congr 1
    unfold lineO; rw [if_pos h]; simp
  · have h : ¬ (1 ≤ x.op ∧ x.op ≤ 11) := by simpa using h
    have h3 : 12 ≤ x.op ∧ x.op ≤ 15 := by simpa using h3
    refine ⟨(by show (_ : Int) ≤ 9223372036854775807; simp only [ByteArray.size_append, bs_size, z32, z114, z2, z10, z109, z58, List.length_cons, List.length_append, List.length_nil]; omega), qldB c2 (j := 1) (x := x.dst) rfl (qreg r2 (by omega) ⟨(by show (_ : Int) ≤ 9223372036854775807; simp only [ByteArray.size_append, bs_size, z32, z114, z2, z10, z109, z58, List.length_cons, List.length_append, List.length_nil]; omega), (by show (_ : Int) ≤ 9223372036854775807; simp only [ByteArray.size_append, bs_size, z32, z114, z2, z10, z109, z58, List.length_cons, List.length_append, List.length_nil]; omega), qldAB c2 (x := x.t) rfl (qval r2 ⟨(by show (_ : Int) ≤ 9223372036854775807; simp only [ByteArray.size_append, bs_size, z32, z114, z2, z10, z109, z58, List.length_cons, List.length_append, List.length_nil]; omega), (by show (_ : Int) ≤ 9223372036854775807; simp only [ByteArray.size_append, bs_size, z32, z114, z2, z10, z109, z58, List.length_cons, List.length_append, List.length_nil]; omega), (by show (_ : Int) ≤ 9223372036854775807; simp only [ByteArray.size_append, bs_size, z32, z114, z2, z10, z109, z58, List.length_cons, List.length_append, List.length_nil]; omega), fun w3 hb => fin hb ?_⟩)⟩)⟩
    rw [e32]; simp only [bs_app]
    congr 1
    unfold lineO; rw [if_neg h, if_pos h3]; simp
  · have h : ¬ (1 ≤ x.op ∧ x.op ≤ 11) := by simpa using h
    have h3 : ¬ (12 ≤ x.op ∧ x.op ≤ 15) := by simpa using h3
    have h4 : x.op = 16 := by simpa using h4
    refine ⟨(by show (_ : Int) ≤ 9223372036854775807; simp only [ByteArray.size_append, bs_size, z32, z114, z2, z10, z109, z58, List.length_cons, List.length_append, List.length_nil]; omega), (by show (_ : Int) ≤ 9223372036854775807; simp only [ByteArray.size_append, bs_size, z32, z114, z2, z10, z109, z58, List.length_cons, List.length_append, List.length_nil]; omega), fin r2 ?_⟩
    rw [e32]; simp only [bs_app]
    congr 1
    unfold lineO; rw [if_neg h, if_neg h3, if_pos h4]; simp
  · have h : ¬ (1 ≤ x.op ∧ x.op ≤ 11) := by simpa using h
    have h3 : ¬ (12 ≤ x.op ∧ x.op ≤ 15) := by simpa using h3
    have h4 : ¬ x.op = 16 := by simpa using h4
    have h5 : x.op = 17 := by simpa using h5
    have hz := hsize (.inl h5)
    have a3 := itoa_len (n := x.size) (by omega) (by omega)
    refine qldB c2 (j := 5) (x := x.size) rfl (qito r2 (by omega) ⟨(by show (_ : Int) ≤ 9223372036854775807; simp only [ByteArray.size_append, bs_size, z32, z114, z2, z10, z109, z58, List.length_cons, List.length_append, List.length_nil]; omega), (by show (_ : Int) ≤ 9223372036854775807; simp only [ByteArray.size_append, bs_size, z32, z114, z2, z10, z109, z58, List.length_cons, List.length_append, List.length_nil]; omega), qldB c2 (j := 1) (x := x.dst) rfl (qreg r2 (by omega) ⟨(by show (_ : Int) ≤ 9223372036854775807; simp only [ByteArray.size_append, bs_size, z32, z114, z2, z10, z109, z58, List.length_cons, List.length_append, List.length_nil]; omega), (by show (_ : Int) ≤ 9223372036854775807; simp only [ByteArray.size_append, bs_size, z32, z114, z2, z10, z109, z58, List.length_cons, List.length_append, List.length_nil]; omega), qldB c2 (j := 2) (x := x.src) rfl (qreg r2 (by omega) ⟨(by show (_ : Int) ≤ 9223372036854775807; simp only [ByteArray.size_append, bs_size, z32, z114, z2, z10, z109, z58, List.length_cons, List.length_append, List.length_nil]; omega), (by show (_ : Int) ≤ 9223372036854775807; simp only [ByteArray.size_append, bs_size, z32, z114, z2, z10, z109, z58, List.length_cons, List.length_append, List.length_nil]; omega), (by show (_ : Int) ≤ 9223372036854775807; simp only [ByteArray.size_append, bs_size, z32, z114, z2, z10, z109, z58, List.length_cons, List.length_append, List.length_nil]; omega), fun w3 hb => fin hb ?_⟩)⟩)⟩)
    rw [e32]; simp only [bs_app]
    congr 1
    unfold lineO; rw [if_neg h, if_neg h3, if_neg h4, if_pos h5]; simp
  · have h : ¬ (1 ≤ x.op ∧ x.op ≤ 11) := by simpa using h
    have h3 : ¬ (12 ≤ x.op ∧ x.op ≤ 15) := by simpa using h3
    have h4 : ¬ x.op = 16 := by simpa using h4
    have h5 : ¬ x.op = 17 := by simpa using h5
    have h6 : x.op = 18 := by simpa using h6
    have hz := hsize (.inr h6)
    have a3 := itoa_len (n := x.size) (by omega) (by omega)
    refine qldB c2 (j := 5) (x := x.size) rfl (qito r2 (by omega) ⟨(by show (_ : Int) ≤ 9223372036854775807; simp only [ByteArray.size_append, bs_size, z32, z114, z2, z10, z109, z58, List.length_cons, List.length_append, List.length_nil]; omega), (by show (_ : Int) ≤ 9223372036854775807; simp only [ByteArray.size_append, bs_size, z32, z114, z2, z10, z109, z58, List.length_cons, List.length_append, List.length_nil]; omega), qldB c2 (j := 1) (x := x.dst) rfl (qreg r2 (by omega) ⟨(by show (_ : Int) ≤ 9223372036854775807; simp only [ByteArray.size_append, bs_size, z32, z114, z2, z10, z109, z58, List.length_cons, List.length_append, List.length_nil]; omega), (by show (_ : Int) ≤ 9223372036854775807; simp only [ByteArray.size_append, bs_size, z32, z114, z2, z10, z109, z58, List.length_cons, List.length_append, List.length_nil]; omega), (by show (_ : Int) ≤ 9223372036854775807; simp only [ByteArray.size_append, bs_size, z32, z114, z2, z10, z109, z58, List.length_cons, List.length_append, List.length_nil]; omega), (by show (_ : Int) ≤ 9223372036854775807; simp only [ByteArray.size_append, bs_size, z32, z114, z2, z10, z109, z58, List.length_cons, List.length_append, List.length_nil]; omega), qldAB c2 (x := x.t) rfl (qval r2 ⟨(by show (_ : Int) ≤ 9223372036854775807; simp only [ByteArray.size_append, bs_size, z32, z114, z2, z10, z109, z58, List.length_cons, List.length_append, List.length_nil]; omega), fun w3 hb => fin hb ?_⟩)⟩)⟩)
    rw [e32]; simp only [bs_app]
    congr 1
    unfold lineO; rw [if_neg h, if_neg h3, if_neg h4, if_neg h5, if_pos h6]; simp
  · have h : ¬ (1 ≤ x.op ∧ x.op ≤ 11) := by simpa using h
    have h3 : ¬ (12 ≤ x.op ∧ x.op ≤ 15) := by simpa using h3
    have h4 : ¬ x.op = 16 := by simpa using h4
    have h5 : ¬ x.op = 17 := by simpa using h5
    have h6 : ¬ x.op = 18 := by simpa using h6
    have h7 : x.op = 19 := by simpa using h7
    have hc := hcall h7
    have c3 : ∀ {w' : World}, StR w2 w' → w'.heap[w.heap.size]? = _ := fun hs => (hs.block _ (Array.getElem?_eq_some_iff.1 c2).1).trans c2
    refine ⟨StR, stOk w2, eqG (bs (opA x.op ++ [32])), keptE, eqG callT, keptE, eqG x.imm, keptE, eqG (bs (callA x.imm)), keptE, eqG (bs ((opA x.op ++ [32]) ++ callA x.imm)), keptE, ?_⟩
    refine ⟨fun w' hs => ⟨(by show (_ : Int) ≤ 9223372036854775807; simp only [ByteArray.size_append, bs_size, z32, z114, z2, z10, z109, z58, List.length_cons, List.length_append, List.length_nil]; omega), gkE (congrArg Value.string (bs_app _ _)) (Below.refl _ _)⟩, fun t98 => ⟨fun w' hs => impl.callWords.t fun w'' hb => gkE rfl hb, fun t99 => ⟨fun w' hs => ldB (c3 hs) (j := 4) (x := x.imm) rfl (gkE rfl (Below.refl _ _)), fun t101 => ⟨fun w' hs f99 f101 => ?_, fun t102 => ⟨fun w' hs f98 f102 => ?_, fun t103 w3 hs _ _ _ _ f103 => ?_⟩⟩⟩⟩⟩
    · cases f99; cases f101; exact callIx (by omega) (by omega) (gkE rfl (Below.refl _ _))
    · cases f98; cases f102; exact ⟨(by show (_ : Int) ≤ 9223372036854775807; simp only [ByteArray.size_append, bs_size, z32, z114, z2, z10, z109, z58, List.length_cons, List.length_append, List.length_nil]; omega), gkE (congrArg Value.string (bs_app _ _)) (Below.refl _ _)⟩
    · cases f103
      refine fin hs ?_
      congr 1
      unfold lineO; rw [if_neg h, if_neg h3, if_neg h4, if_neg h5, if_neg h6, if_pos h7]; simp
  · have h : ¬ (1 ≤ x.op ∧ x.op ≤ 11) := by simpa using h
    have h3 : ¬ (12 ≤ x.op ∧ x.op ≤ 15) := by simpa using h3
    have h4 : ¬ x.op = 16 := by simpa using h4
    have h5 : ¬ x.op = 17 := by simpa using h5
    have h6 : ¬ x.op = 18 := by simpa using h6
    have h7 : ¬ x.op = 19 := by simpa using h7
    refine fin r2 ?_
    unfold lineO; rw [if_neg h, if_neg h3, if_neg h4, if_neg h5, if_neg h6, if_neg h7]
end
end Go.Proofs.YtkkdboimkbcfnaaDoor.V

/- Contracts: the line of an op, in the reference. -/
namespace Go.Proofs.YtkkdboimkbcfnaaDoor.V
open Go Go.RowKit
set_option linter.unusedVariables false
set_option linter.unusedSimpArgs false
section
variable {w : World}
set_option maxHeartbeats 4000000 in
theorem spec.l1Line.t {x : Ins} {K : ByteArray → World → Prop} (hp : InsP x) (hk : ∀ w', Below w.heap.size w w' → K (bs (lineO x (Lib.itoa x.off))) w') : CallT (.o (.lf .s)) P0 99 [.agg (Tup.cells (R 6 (.i .i64)) x.t).toArray] w K := by
  have hop : 1 ≤ x.op ∧ x.op ≤ 20 := by have := hp.2.2.2.2; grind [BareP, szP]
  have hdst := hp.1
  have hsrc := hp.2.1
  have hoff := hp.2.2.1
  have himm := hp.2.2.2.1
  have hsize : (x.op = 17 ∨ x.op = 18) → 0 ≤ x.size ∧ x.size ≤ 4 := by have := hp.2.2.2.2; grind [BareP, szP]
  have hcall : x.op = 19 → 1 ≤ x.imm ∧ x.imm ≤ 6 := by have := hp.2.2.2.2; grind [BareP, szP]
  have hsrc2 : x.op = 17 → 0 ≤ x.src := by have := hp.2.2.2.2; grind [BareP, szP]
  have a1 := itoa_len (n := x.dst) (by omega) (by omega)
  have a2 := itoa_len (n := x.src) (by omega) (by omega)
  have a3' := itoa_len (n := x.off) (by omega) (by omega)
  have a4 := regL_len (src := x.src) (imm := x.imm) (by omega) himm
  have a5 := op_lenA x.op
  have a6 := call_len x.imm
  have i0 : (Tup.cells (R 6 (.i .i64)) x.t).toArray[0]? = some ((Lf.i .i64).emb x.op) := rfl
  have i1 : (Tup.cells (R 6 (.i .i64)) x.t).toArray[1]? = some ((Lf.i .i64).emb x.dst) := rfl
  have i2 : (Tup.cells (R 6 (.i .i64)) x.t).toArray[2]? = some ((Lf.i .i64).emb x.src) := rfl
  have i3 : (Tup.cells (R 6 (.i .i64)) x.t).toArray[3]? = some ((Lf.i .i64).emb x.off) := rfl
  have i4 : (Tup.cells (R 6 (.i .i64)) x.t).toArray[4]? = some ((Lf.i .i64).emb x.imm) := rfl
  have i5 : (Tup.cells (R 6 (.i .i64)) x.t).toArray[5]? = some ((Lf.i .i64).emb x.size) := rfl
  refine spec.l1Line.ok (nwIns fun w1 b1 s1 c1 => ?_)
  have cc : ∀ {w' : World}, StR w1 w' → w'.heap[w.heap.size]? = _ := fun hs => (hs.block _ (by omega)).trans c1
  refine ⟨StR, stOk w1, fun s w' => OwnS kS 9 0 w' s (opW.map bs), keptOw, eqG x.op, keptE, AtW [.string (bs (opA x.op))], keptAw, eqG (bs (opA x.op)), keptE, ?_⟩
  refine ⟨fun w' hs => spec.l1Words.t fun s w'' hb ho => ⟨s, rfl, hb, ho.low (Nat.zero_le _)⟩, fun t5 => ⟨fun w' hs => ldB (cc hs) (x := x.op) rfl (gkE rfl (Below.refl _ _)), fun t7 => ⟨fun w' hs f5 f7 => ?_, fun t8 => ⟨fun w' hs f8 => wordLd f8 (gkE rfl (Below.refl _ _)), fun t9 w2 hs _ _ _ f9 => ?_⟩⟩⟩⟩
  · cases f7
    exact wordAt f5 (by omega) (by simp [opW]; omega) rfl fun a ha => ⟨a, rfl, Below.refl _ _, ha⟩
  cases f9
  have hs : Below w1.heap.size w1 w2 := hs
  have b2 := b1.trans (hs.mono b1.size)
  have c2 := (hs.block _ (by omega)).trans c1
  refine ldB c2 (j := 1) (l := .i .i64) (x := x.dst) i1 (spec.l1Dec.t (by omega) (by omega) fun w3 b3' => ?_)
  have b3 := b2.trans (b3'.mono b2.size)
  have c3 := (b3'.block _ (Array.getElem?_eq_some_iff.1 c2).1).trans c2
  clear hs c2 b2 b3'
  have fin : ∀ {w' : World} {r : ByteArray}, Below w3.heap.size w3 w' → r = bs (lineO x (Lib.itoa x.off)) → K r w' := fun hb e => by rw [e]; exact hk _ (b3.trans (hb.mono b3.size))
  have qdec : ∀ {n : Int} {K : ByteArray → Prop}, -1000000 ≤ n ∧ n ≤ 10000000000 → K (bs (Lib.itoa n)) → QCl (.o (.lf .s)) P0 63 [.int .i64 n] (fun w' => Below w3.heap.size w3 w') K := fun hn hK =>
    qcl _ (fun w' hb => spec.l1Dec.t (by omega) (by omega) fun w'' hb' => ⟨rfl, hb.trans (hb'.mono hb.size)⟩) hK
  have qreg : ∀ {K : ByteArray → Prop}, K (bs (regL x.src x.imm)) → QCl (.o (.lf .s)) P0 121 [.int .i64 x.src, .int .i64 x.imm] (fun w' => Below w3.heap.size w3 w') K := fun hK =>
    qcl _ (fun w' hb => spec.l1Reg.t (by omega) himm fun w'' hb' => ⟨rfl, hb.trans (hb'.mono hb.size)⟩) hK
  have r3 := Below.refl w3.heap.size w3
  refine ⟨(by show (_ : Int) ≤ 9223372036854775807; simp only [ByteArray.size_append, bs_size, z32, z114, z2, z10, z109, z58, List.length_cons, List.length_append, List.length_nil]; omega), ldB c3 (x := x.op) rfl (spec.l1Alu.c (And.intro (fun h => ?_) (fun h => ldB c3 (x := x.op) rfl (spec.l1Jump.c (And.intro (fun h3 => ?_) (fun h3 => ldB c3 (x := x.op) rfl (And.intro (fun h4 => ?_) (fun h4 => ldB c3 (x := x.op) rfl (And.intro (fun h5 => ?_) (fun h5 => ldB c3 (x := x.op) rfl (And.intro (fun h6 => ?_) (fun h6 => ldB c3 (x := x.op) rfl (And.intro (fun h7 => ?_) (fun h7 => ?_))))))))))))))⟩
  · have h : 1 ≤ x.op ∧ x.op ≤ 11 := by simpa using h
    refine ⟨(by show (_ : Int) ≤ 9223372036854775807; simp only [ByteArray.size_append, bs_size, z32, z114, z2, z10, z109, z58, List.length_cons, List.length_append, List.length_nil]; omega), (by show (_ : Int) ≤ 9223372036854775807; simp only [ByteArray.size_append, bs_size, z32, z114, z2, z10, z109, z58, List.length_cons, List.length_append, List.length_nil]; omega), ldB c3 (j := 2) (l := .i .i64) (x := x.src) i2 (ldB c3 (j := 4) (l := .i .i64) (x := x.imm) i4 (spec.l1Reg.t (by omega) himm fun w4 b4 => ⟨(by show (_ : Int) ≤ 9223372036854775807; simp only [ByteArray.size_append, bs_size, z32, z114, z2, z10, z109, z58, List.length_cons, List.length_append, List.length_nil]; omega), fin b4 ?_⟩))⟩
    rw [e32, e2]; simp only [bs_app]
    congr 1
    unfold lineO; rw [if_pos h]; simp
  · have h : ¬ (1 ≤ x.op ∧ x.op ≤ 11) := by simpa using h
    have h3 : 12 ≤ x.op ∧ x.op ≤ 15 := by simpa using h3
    refine ⟨(by show (_ : Int) ≤ 9223372036854775807; simp only [ByteArray.size_append, bs_size, z32, z114, z2, z10, z109, z58, List.length_cons, List.length_append, List.length_nil]; omega), (by show (_ : Int) ≤ 9223372036854775807; simp only [ByteArray.size_append, bs_size, z32, z114, z2, z10, z109, z58, List.length_cons, List.length_append, List.length_nil]; omega), qldB c3 (j := 2) (l := .i .i64) (x := x.src) i2 (qldB c3 (j := 4) (l := .i .i64) (x := x.imm) i4 (qreg ⟨(by show (_ : Int) ≤ 9223372036854775807; simp only [ByteArray.size_append, bs_size, z32, z114, z2, z10, z109, z58, List.length_cons, List.length_append, List.length_nil]; omega), (by show (_ : Int) ≤ 9223372036854775807; simp only [ByteArray.size_append, bs_size, z32, z114, z2, z10, z109, z58, List.length_cons, List.length_append, List.length_nil]; omega), qldB c3 (j := 3) (l := .i .i64) (x := x.off) i3 (qdec (by omega) ⟨(by show (_ : Int) ≤ 9223372036854775807; simp only [ByteArray.size_append, bs_size, z32, z114, z2, z10, z109, z58, List.length_cons, List.length_append, List.length_nil]; omega), fun w4 hb => fin hb ?_⟩)⟩))⟩
    rw [e32, e2]; simp only [bs_app]
    congr 1
    unfold lineO; rw [if_neg h, if_pos h3]; simp
  · have h : ¬ (1 ≤ x.op ∧ x.op ≤ 11) := by simpa using h
    have h3 : ¬ (12 ≤ x.op ∧ x.op ≤ 15) := by simpa using h3
    have h4 : x.op = 16 := by simpa using h4
    refine ⟨(by show (_ : Int) ≤ 9223372036854775807; simp only [ByteArray.size_append, bs_size, z32, z114, z2, z10, z109, z58, List.length_cons, List.length_append, List.length_nil]; omega), ldB c3 (j := 3) (l := .i .i64) (x := x.off) i3 (spec.l1Dec.t (by omega) (by omega) fun w4 b4 => ⟨(by show (_ : Int) ≤ 9223372036854775807; simp only [ByteArray.size_append, bs_size, z32, z114, z2, z10, z109, z58, List.length_cons, List.length_append, List.length_nil]; omega), fin b4 ?_⟩)⟩
    rw [e32]; simp only [bs_app]
    congr 1
    unfold lineO; rw [if_neg h, if_neg h3, if_pos h4]; simp
  · have h : ¬ (1 ≤ x.op ∧ x.op ≤ 11) := by simpa using h
    have h3 : ¬ (12 ≤ x.op ∧ x.op ≤ 15) := by simpa using h3
    have h4 : ¬ x.op = 16 := by simpa using h4
    have h5 : x.op = 17 := by simpa using h5
    have hz := hsize (.inl h5)
    have a3 := itoa_len (n := x.size) (by omega) (by omega)
    refine qldB c3 (j := 5) (l := .i .i64) (x := x.size) i5 (qdec (by omega) ⟨(by show (_ : Int) ≤ 9223372036854775807; simp only [ByteArray.size_append, bs_size, z32, z114, z2, z10, z109, z58, List.length_cons, List.length_append, List.length_nil]; omega), (by show (_ : Int) ≤ 9223372036854775807; simp only [ByteArray.size_append, bs_size, z32, z114, z2, z10, z109, z58, List.length_cons, List.length_append, List.length_nil]; omega), (by show (_ : Int) ≤ 9223372036854775807; simp only [ByteArray.size_append, bs_size, z32, z114, z2, z10, z109, z58, List.length_cons, List.length_append, List.length_nil]; omega), qldB c3 (j := 2) (l := .i .i64) (x := x.src) i2 (qdec (by omega) ⟨(by show (_ : Int) ≤ 9223372036854775807; simp only [ByteArray.size_append, bs_size, z32, z114, z2, z10, z109, z58, List.length_cons, List.length_append, List.length_nil]; omega), (by show (_ : Int) ≤ 9223372036854775807; simp only [ByteArray.size_append, bs_size, z32, z114, z2, z10, z109, z58, List.length_cons, List.length_append, List.length_nil]; omega), qldB c3 (j := 3) (l := .i .i64) (x := x.off) i3 (qdec (by omega) ⟨(by show (_ : Int) ≤ 9223372036854775807; simp only [ByteArray.size_append, bs_size, z32, z114, z2, z10, z109, z58, List.length_cons, List.length_append, List.length_nil]; omega), fun w4 hb => fin hb ?_⟩)⟩)⟩)
    rw [e32, e2]; simp only [bs_app]
    congr 1
    unfold lineO; rw [if_neg h, if_neg h3, if_neg h4, if_pos h5]; simp
  · have h : ¬ (1 ≤ x.op ∧ x.op ≤ 11) := by simpa using h
    have h3 : ¬ (12 ≤ x.op ∧ x.op ≤ 15) := by simpa using h3
    have h4 : ¬ x.op = 16 := by simpa using h4
    have h5 : ¬ x.op = 17 := by simpa using h5
    have h6 : x.op = 18 := by simpa using h6
    have hz := hsize (.inr h6)
    have a3 := itoa_len (n := x.size) (by omega) (by omega)
    refine qldB c3 (j := 5) (l := .i .i64) (x := x.size) i5 (qdec (by omega) ⟨(by show (_ : Int) ≤ 9223372036854775807; simp only [ByteArray.size_append, bs_size, z32, z114, z2, z10, z109, z58, List.length_cons, List.length_append, List.length_nil]; omega), (by show (_ : Int) ≤ 9223372036854775807; simp only [ByteArray.size_append, bs_size, z32, z114, z2, z10, z109, z58, List.length_cons, List.length_append, List.length_nil]; omega), (by show (_ : Int) ≤ 9223372036854775807; simp only [ByteArray.size_append, bs_size, z32, z114, z2, z10, z109, z58, List.length_cons, List.length_append, List.length_nil]; omega), qldB c3 (j := 3) (l := .i .i64) (x := x.off) i3 (qdec (by omega) ⟨(by show (_ : Int) ≤ 9223372036854775807; simp only [ByteArray.size_append, bs_size, z32, z114, z2, z10, z109, z58, List.length_cons, List.length_append, List.length_nil]; omega), (by show (_ : Int) ≤ 9223372036854775807; simp only [ByteArray.size_append, bs_size, z32, z114, z2, z10, z109, z58, List.length_cons, List.length_append, List.length_nil]; omega), qldB c3 (j := 2) (l := .i .i64) (x := x.src) i2 (qldB c3 (j := 4) (l := .i .i64) (x := x.imm) i4 (qreg ⟨(by show (_ : Int) ≤ 9223372036854775807; simp only [ByteArray.size_append, bs_size, z32, z114, z2, z10, z109, z58, List.length_cons, List.length_append, List.length_nil]; omega), fun w4 hb => fin hb ?_⟩))⟩)⟩)
    rw [e32, e2]; simp only [bs_app]
    congr 1
    unfold lineO; rw [if_neg h, if_neg h3, if_neg h4, if_neg h5, if_pos h6]; simp
  · have h : ¬ (1 ≤ x.op ∧ x.op ≤ 11) := by simpa using h
    have h3 : ¬ (12 ≤ x.op ∧ x.op ≤ 15) := by simpa using h3
    have h4 : ¬ x.op = 16 := by simpa using h4
    have h5 : ¬ x.op = 17 := by simpa using h5
    have h6 : ¬ x.op = 18 := by simpa using h6
    have h7 : x.op = 19 := by simpa using h7
    have hc := hcall h7
    have c4 : ∀ {w' : World}, StR w3 w' → w'.heap[w.heap.size]? = _ := fun hs => (hs.block _ (Array.getElem?_eq_some_iff.1 c3).1).trans c3
    refine ⟨StR, stOk w3, eqG (bs (opA x.op ++ [32])), keptE, fun s w' => OwnS kS 9 0 w' s (callW.map bs), keptOw, eqG x.imm, keptE, AtW [.string (bs (callA x.imm))], keptAw, eqG (bs (callA x.imm)), keptE, eqG (bs ((opA x.op ++ [32]) ++ callA x.imm)), keptE, ?_⟩
    refine ⟨fun w' hs => ⟨(by show (_ : Int) ≤ 9223372036854775807; simp only [ByteArray.size_append, bs_size, z32, z114, z2, z10, z109, z58, List.length_cons, List.length_append, List.length_nil]; omega), gkE (congrArg Value.string (bs_app _ _)) (Below.refl _ _)⟩, fun t98 => ⟨fun w' hs => spec.l1Calls.t fun s w'' hb ho => ⟨s, rfl, hb, ho.low (Nat.zero_le _)⟩, fun t99 => ⟨fun w' hs => ldB (c4 hs) (j := 4) (l := .i .i64) (x := x.imm) i4 (gkE rfl (Below.refl _ _)), fun t101 => ⟨fun w' hs f99 f101 => ?_, fun t102 => ⟨fun w' hs f102 => wordLd f102 (gkE rfl (Below.refl _ _)), fun t111 => ⟨fun w' hs f98 f111 => ?_, fun t103 w4 hs _ _ _ _ _ f103 => ?_⟩⟩⟩⟩⟩⟩
    · cases f101
      exact wordAt f99 (by omega) (by simp [callW]; omega) rfl fun a ha => ⟨a, rfl, Below.refl _ _, ha⟩
    · cases f98; cases f111; exact ⟨(by show (_ : Int) ≤ 9223372036854775807; simp only [ByteArray.size_append, bs_size, z32, z114, z2, z10, z109, z58, List.length_cons, List.length_append, List.length_nil]; omega), gkE (congrArg Value.string (bs_app _ _)) (Below.refl _ _)⟩
    · cases f103
      refine fin hs ?_
      congr 1
      unfold lineO; rw [if_neg h, if_neg h3, if_neg h4, if_neg h5, if_neg h6, if_pos h7]; simp
  · have h : ¬ (1 ≤ x.op ∧ x.op ≤ 11) := by simpa using h
    have h3 : ¬ (12 ≤ x.op ∧ x.op ≤ 15) := by simpa using h3
    have h4 : ¬ x.op = 16 := by simpa using h4
    have h5 : ¬ x.op = 17 := by simpa using h5
    have h6 : ¬ x.op = 18 := by simpa using h6
    have h7 : ¬ x.op = 19 := by simpa using h7
    refine fin r3 ?_
    unfold lineO; rw [if_neg h, if_neg h3, if_neg h4, if_neg h5, if_neg h6, if_neg h7]
end
end Go.Proofs.YtkkdboimkbcfnaaDoor.V

/- Plain laws: programs as lines with marks. -/
namespace Go.Proofs.YtkkdboimkbcfnaaDoor.V
open Go Go.RowKit
set_option linter.unusedVariables false
set_option linter.unusedSimpArgs false
/-- One of the first n ops goes on here. -/
def jumps (l : List Ins) (n : Nat) (i : Int) : Prop := ∃ j x, j < n ∧ l[j]? = some x ∧ goesP x ∧ tgt j x = i
theorem jumps_zero {l : List Ins} {i : Int} : ¬ jumps l 0 i := fun ⟨_, _, h, _⟩ => by omega
theorem jumps_succ {l : List Ins} {n : Nat} {x : Ins} (hx : l[n]? = some x) (i : Int) : jumps l (n + 1) i ↔ jumps l n i ∨ (goesP x ∧ tgt n x = i) := by
  constructor
  · rintro ⟨j, y, hj, hy, h⟩
    by_cases e : j = n
    · subst e; rw [hx] at hy; simp only [Option.some.injEq] at hy; subst hy; exact .inr h
    · exact .inl ⟨j, y, by omega, hy, h⟩
  · rintro (⟨j, y, hj, hy, h⟩ | h)
    · exact ⟨j, y, by omega, hy, h⟩
    · exact ⟨n, x, by omega, hx, h⟩
open Classical in
noncomputable def jmp (l : List Ins) (i : Nat) : Bool := decide (jumps l l.length i)
open Classical in
theorem jmp_iff {l : List Ins} {i : Nat} : jmp l i = true ↔ jumps l l.length i := by unfold jmp; exact decide_eq_true_iff
theorem jumps_in {l : List Ins} (hq : formP l = 0) {n : Nat} {i : Int} (h : jumps l n i) : 0 ≤ i ∧ i < l.length := by
  obtain ⟨j, x, _, hx, hg, he⟩ := h
  have := formP_tgt hq hx hg
  omega
noncomputable def cntJ (l : List Ins) (n : Nat) : Nat := (picks n (jmp l)).length
theorem cntJ_le (l : List Ins) (n : Nat) : cntJ l n ≤ n := picks_le _ _
theorem cntJ_succ (l : List Ins) (n : Nat) : cntJ l (n + 1) = cntJ l n + if jmp l n = true then 1 else 0 := by
  unfold cntJ
  rw [picks_succ]
  split <;> simp
theorem picks_count {f : Nat → Bool} (i : Nat) : ∀ n, i ≤ n → (picks n f).countP (· < (i : Int)) = (picks i f).length := by
  intro n
  induction n with
  | zero => intro h; obtain rfl : i = 0 := by omega
            simp [picks]
  | succ n ih =>
    intro h
    by_cases e : i = n + 1
    · subst e
      refine List.countP_eq_length.2 fun x hx => ?_
      obtain ⟨k, rfl, hk, _⟩ := mem_picks.1 hx
      simp; omega
    · rw [picks_succ]
      split
      · rw [List.countP_append, ih (by omega)]; simp; omega
      · exact ih (by omega)
theorem picks_has {n i : Nat} {f : Nat → Bool} (h : i < n) : (picks n f).contains (i : Int) = f i := by
  rw [Bool.eq_iff_iff, List.contains_iff_mem, mem_picks]
  constructor
  · rintro ⟨k, e, _, hf⟩
    obtain rfl : i = k := by omega
    exact hf
  · intro hf; exact ⟨i, rfl, h, hf⟩
def markT (n : Nat) : By := 109 :: Lib.itoa n
theorem markT_len {n : Nat} (h : n ≤ 1000000) : (markT n).length ≤ 22 := by
  have := itoa_len (n := (n : Int)) (by omega) (by omega)
  simp [markT]; omega
noncomputable def offT (l : List Ins) (i : Nat) (x : Ins) : By := if goesP x then markT (cntJ l (tgt i x).toNat) else Lib.itoa x.off
noncomputable def piece (l : List Ins) (i : Nat) (x : Ins) : By := (if jmp l i = true then markT (cntJ l i) ++ [58, 10] else []) ++ (32 :: lineO x (offT l i x) ++ [10])
noncomputable def textA (l : List Ins) : Nat → By
  | 0 => []
  | n + 1 => textA l n ++ match l[n]? with | some x => piece l n x | none => []
theorem textA_succ {l : List Ins} {n : Nat} {x : Ins} (hx : l[n]? = some x) : textA l (n + 1) = textA l n ++ piece l n x := by
  rw [textA, hx]
open Classical in
noncomputable def putA (l : List Ins) : By := if formP l = 0 then textA l l.length else []
theorem putA_of {l : List Ins} (h : formP l = 0) : putA l = textA l l.length := by unfold putA; rw [if_pos h]
theorem putA_no {l : List Ins} (h : ¬ formP l = 0) : putA l = [] := by unfold putA; rw [if_neg h]
theorem offT_len {l : List Ins} (hq : formP l = 0) {i : Nat} {x : Ins} (hx : l[i]? = some x) : (offT l i x).length ≤ 22 := by
  have hp := formP_ins hq (List.mem_of_getElem? hx)
  have hz := formP_size hq
  unfold offT
  split
  · rename_i hg
    have := formP_tgt hq hx hg
    have := cntJ_le l (tgt i x).toNat
    exact markT_len (by omega)
  · have h := hp.2.2.1
    have := itoa_len (n := x.off) (by omega) (by omega)
    omega
theorem piece_len {l : List Ins} (hq : formP l = 0) {i : Nat} {x : Ins} (hx : l[i]? = some x) : (piece l i x).length ≤ 200 := by
  have hp := formP_ins hq (List.mem_of_getElem? hx)
  have hz := formP_size hq
  have h1 := offT_len hq hx
  have h2 := lineO_len (off := offT l i x) hp (by omega)
  have hi := (List.getElem?_eq_some_iff.1 hx).1
  have h3 := cntJ_le l i
  have h4 := markT_len (n := cntJ l i) (by omega)
  unfold piece
  split <;> simp <;> omega
theorem textA_len {l : List Ins} (hq : formP l = 0) : ∀ {n : Nat}, n ≤ l.length → (textA l n).length ≤ 200 * n := by
  intro n
  induction n with
  | zero => intro _; simp [textA]
  | succ n ih =>
    intro h
    obtain ⟨x, hx⟩ := get_some (l := l) (k := n) (by omega)
    have h1 := ih (by omega)
    have h2 := piece_len hq hx
    rw [textA_succ hx, List.length_append]; omega
theorem putA_len (l : List Ins) : (putA l).length ≤ 9600 := by
  by_cases h : formP l = 0
  · rw [putA_of h]
    have := textA_len h (Nat.le_refl _)
    have := formP_size h
    omega
  · rw [putA_no h]; simp
/-- An op that goes on ends with where to. -/
theorem lineO_goes {x : Ins} (h : goesP x) : ∃ base : By, ∀ off, lineO x off = base ++ off := by
  unfold goesP at h
  by_cases h1 : x.op = 16
  · exact ⟨opA x.op ++ [32], fun off => by unfold lineO; rw [if_neg (by omega), if_neg (by omega), if_pos h1]; simp⟩
  · exact ⟨opA x.op ++ 32 :: 114 :: Lib.itoa x.dst ++ 32 :: regL x.src x.imm ++ [32], fun off => by unfold lineO; rw [if_neg (by omega), if_pos (by omega)]; simp⟩
/-- The marks between words and lines. -/
def Gap (c : UInt8) : Prop := c = 10 ∨ c = 32 ∨ c = 58
theorem gap_fig {c : UInt8} (hc : Gap c) : ¬ (48 ≤ c.toNat ∧ c.toNat ≤ 57) ∧ c ≠ 45 ∧ c ≠ 114 ∧ c ≠ 109 := by
  rcases hc with rfl | rfl | rfl <;> decide
theorem itoa_no {c : UInt8} (hc : Gap c) (n : Int) : c ∉ Lib.itoa n := by
  obtain ⟨h1, h2, _⟩ := gap_fig hc
  unfold Lib.itoa
  split
  · intro h
    rcases List.mem_cons.1 h with h | h
    · exact h2 h
    · exact h1 (dec_fig _ _ h)
  · intro h
    exact h1 (dec_fig _ _ h)
theorem opA_no {c : UInt8} (hc : Gap c) (n : Int) : c ∉ opA n := by
  unfold opA
  by_cases h : n.toNat < 21
  · have hx : ∀ j < 21, (10 : UInt8) ∉ (opW.getD j []) ∧ (32 : UInt8) ∉ (opW.getD j []) ∧ (58 : UInt8) ∉ (opW.getD j []) := by decide
    have := hx _ h
    rcases hc with rfl | rfl | rfl
    · exact this.1
    · exact this.2.1
    · exact this.2.2
  · rw [List.getD_eq_getElem?_getD, List.getElem?_eq_none (by simp [opW]; omega)]; simp
theorem callA_no {c : UInt8} (hc : Gap c) (n : Int) : c ∉ callA n := by
  unfold callA
  by_cases h : n.toNat < 7
  · have hx : ∀ j < 7, (10 : UInt8) ∉ (callW.getD j []) ∧ (32 : UInt8) ∉ (callW.getD j []) ∧ (58 : UInt8) ∉ (callW.getD j []) := by decide
    have := hx _ h
    rcases hc with rfl | rfl | rfl
    · exact this.1
    · exact this.2.1
    · exact this.2.2
  · rw [List.getD_eq_getElem?_getD, List.getElem?_eq_none (by simp [callW]; omega)]; simp
theorem regW_no {c : UInt8} (hc : Gap c) (n : Int) : c ∉ 114 :: Lib.itoa n := by
  have := (gap_fig hc).2.2.1
  simp [this, itoa_no hc]
theorem regL_no {c : UInt8} (hc : Gap c) (a b : Int) : c ∉ regL a b := by
  unfold regL
  split
  · exact itoa_no hc _
  · exact regW_no hc _
theorem markT_no {c : UInt8} (hc : Gap c) (n : Nat) : c ∉ markT n := by
  have := (gap_fig hc).2.2.2
  simp [markT, itoa_no hc, this]
theorem offT_no {c : UInt8} (hc : Gap c) (l : List Ins) (i : Nat) (x : Ins) : c ∉ offT l i x := by
  unfold offT
  split
  · exact markT_no hc _
  · exact itoa_no hc _
/-- The words of an op's line. -/
def lineW (x : Ins) (off : By) : List By :=
  if 1 ≤ x.op ∧ x.op ≤ 11 then [opA x.op, 114 :: Lib.itoa x.dst, regL x.src x.imm]
  else if 12 ≤ x.op ∧ x.op ≤ 15 then [opA x.op, 114 :: Lib.itoa x.dst, regL x.src x.imm, off]
  else if x.op = 16 then [opA x.op, off]
  else if x.op = 17 then [opA x.op ++ Lib.itoa x.size, 114 :: Lib.itoa x.dst, 114 :: Lib.itoa x.src, off]
  else if x.op = 18 then [opA x.op ++ Lib.itoa x.size, 114 :: Lib.itoa x.dst, off, regL x.src x.imm]
  else if x.op = 19 then [opA x.op, callA x.imm]
  else [opA x.op]
theorem lineW_ne (x : Ins) (off : By) : lineW x off ≠ [] := by
  unfold lineW; split <;> (try split) <;> (try split) <;> (try split) <;> (try split) <;> (try split) <;> simp
theorem lineW_len (x : Ins) (off : By) : (lineW x off).length ≤ 4 := by
  unfold lineW; split <;> (try split) <;> (try split) <;> (try split) <;> (try split) <;> (try split) <;> simp
theorem lineO_words (x : Ins) (off : By) : lineO x off = joinW 32 (lineW x off) := by
  unfold lineO lineW
  split
  · simp [joinW]
  · split
    · simp [joinW]
    · split
      · simp [joinW]
      · split
        · simp [joinW]
        · split
          · simp [joinW]
          · split
            · simp [joinW]
            · simp [joinW]
theorem lineW_no {c : UInt8} (hc : Gap c) {x : Ins} {off : By} (h : c ∉ off) : ∀ w ∈ lineW x off, c ∉ w := by
  have h1 := opA_no hc x.op
  have h2 := regW_no hc x.dst
  have h3 := regW_no hc x.src
  have h4 := itoa_no hc x.size
  have h5 := regL_no hc x.src x.imm
  have h6 := callA_no hc x.imm
  have h7 : c ∉ opA x.op ++ Lib.itoa x.size := by simp [h1, h4]
  unfold lineW
  intro w hw
  split at hw
  · simp only [List.mem_cons, List.not_mem_nil, or_false] at hw
    rcases hw with rfl | rfl | rfl <;> assumption
  · split at hw
    · simp only [List.mem_cons, List.not_mem_nil, or_false] at hw
      rcases hw with rfl | rfl | rfl | rfl <;> assumption
    · split at hw
      · simp only [List.mem_cons, List.not_mem_nil, or_false] at hw
        rcases hw with rfl | rfl <;> assumption
      · split at hw
        · simp only [List.mem_cons, List.not_mem_nil, or_false] at hw
          rcases hw with rfl | rfl | rfl | rfl <;> assumption
        · split at hw
          · simp only [List.mem_cons, List.not_mem_nil, or_false] at hw
            rcases hw with rfl | rfl | rfl | rfl <;> assumption
          · split at hw
            · simp only [List.mem_cons, List.not_mem_nil, or_false] at hw
              rcases hw with rfl | rfl <;> assumption
            · simp only [List.mem_cons, List.not_mem_nil, or_false] at hw
              subst hw; assumption
theorem joinW_no {c d : UInt8} (hd : c ≠ d) : ∀ {ws : List By}, (∀ w ∈ ws, c ∉ w) → c ∉ joinW d ws
  | [], _ => by simp [joinW]
  | [w], h => h w List.mem_cons_self
  | w :: x :: xs, h => by
    rw [joinW_cons (by simp)]
    simp only [List.mem_append, List.mem_cons, not_or]
    exact ⟨h w List.mem_cons_self, hd, joinW_no hd (fun y hy => h y (List.mem_cons_of_mem _ hy))⟩
theorem lineO_no {c : UInt8} (hc : Gap c) (h2 : c ≠ 32) {x : Ins} {off : By} (h : c ∉ off) : c ∉ lineO x off := by
  rw [lineO_words]
  exact joinW_no h2 (lineW_no hc h)
theorem piece_count (l : List Ins) (i : Nat) (x : Ins) : (piece l i x).count 10 = 1 + if jmp l i = true then 1 else 0 := by
  have h1 : (lineO x (offT l i x)).count 10 = 0 := List.count_eq_zero.2 (lineO_no (.inl rfl) (by decide) (offT_no (.inl rfl) l i x))
  have h2 : (markT (cntJ l i)).count 10 = 0 := List.count_eq_zero.2 (markT_no (.inl rfl) _)
  unfold piece
  split
  · simp [List.count_append, List.count_cons, h1, h2]
  · simp [List.count_append, List.count_cons, h1]
theorem textA_count {l : List Ins} : ∀ {n : Nat}, n ≤ l.length → (textA l n).count 10 = n + cntJ l n := by
  intro n
  induction n with
  | zero => intro _; simp [textA, cntJ, picks]
  | succ n ih =>
    intro h
    obtain ⟨x, hx⟩ := get_some (l := l) (k := n) (by omega)
    rw [textA_succ hx, List.count_append, ih (by omega), piece_count, cntJ_succ]; omega
/-- The places where ops go on, however they were collected, are as many as marks. -/
theorem jumps_all {l : List Ins} (hq : formP l = 0) {S : List Int} (hn : S.Nodup) (hS : ∀ x, x ∈ S ↔ jumps l l.length x) : sorted S = picks l.length (jmp l) := by
  refine sorted_eq hn fun x => ?_
  rw [hS]
  constructor
  · intro h
    have hi := jumps_in hq h
    exact ⟨x.toNat, by omega, by omega, jmp_iff.2 (by rw [show ((x.toNat : Nat) : Int) = x by omega]; exact h)⟩
  · rintro ⟨i, rfl, _, h⟩
    exact jmp_iff.1 h
theorem textA_ne {l : List Ins} (hz : 0 < l.length) : textA l l.length ≠ [] := by
  obtain ⟨n, hn⟩ : ∃ n, l.length = n + 1 := ⟨l.length - 1, by omega⟩
  obtain ⟨x, hx⟩ := get_some (l := l) (k := n) (by omega)
  rw [hn, textA_succ hx]
  intro e
  have := (List.append_eq_nil_iff.1 e).2
  unfold piece at this
  simp at this
theorem putA_nil (l : List Ins) : putA l = [] ↔ ¬ formP l = 0 := by
  by_cases h : formP l = 0
  · rw [putA_of h]
    have := textA_ne (formP_size h).1
    simp [this, h]
  · rw [putA_no h]; simp [h]
end Go.Proofs.YtkkdboimkbcfnaaDoor.V

/- Contracts: programs as lines with marks. -/
namespace Go.Proofs.YtkkdboimkbcfnaaDoor.V
open Go Go.RowKit
set_option linter.unusedVariables false
set_option linter.unusedSimpArgs false
theorem below_drewN (w : World) (q : Nat) : Below w.heap.size w (w.drewN q) := ⟨rfl, rfl, rfl, Nat.le_refl _, fun _ _ => rfl⟩
theorem i64_succ {n m : Nat} (h : n < m) (hm : m ≤ 4611686018427387904) : IntKind.wrap .i64 ((n : Int) + 1) = ((n + 1 : Nat) : Int) := by rw [i64_of (by omega) (by omega)]; omega
section
variable {w : World}
theorem search.c {s : Sl} {zs : List Int} {x : Int} {K : Int × Bool × Unit → World → Prop} (h : SlR kI w s zs) (hz : zs.length ≤ 1000000) (hs : zs.Pairwise (· ≤ ·)) (hk : ∀ w', Below w.heap.size w w' → K ((zs.countP (· < x) : Nat), zs.contains x, ()) w') :
    CallT (.n [(.lf (.i .i64)), (.lf .b)]) P0 50 [s.v, .int .i64 x] w K := by
  have hn := h.len; have hm := h.max
  rcases h.2.2.2 with h0 | ⟨b, o, ha, hat⟩
  · subst h0
    have e : s.v = .slice s.a 0 s.c := by unfold Sl.v; rw [hn]; rfl
    rw [e]
    exact (Tryd.slices_BinarySearch_int_empty s.a s.c x w).mono fun e w' ⟨he, hw⟩ => ⟨((0 : Nat), false, ()), he, hk w' (by rw [hw]; exact Below.refl _ _)⟩
  · have e : s.v = .slice (some ⟨b, o, none⟩) zs.length s.c := by unfold Sl.v; rw [hn, ha]
    rw [e]
    have := Tryd.slices_BinarySearch_int b o zs.length s.c zs x w (Nat.le_refl _) (by omega) (fun j hj => by
      obtain ⟨z, hz⟩ := get_some (l := zs) (k := j) hj
      have h1 := hat j z hz 0 (.int .i64 z) rfl
      rw [List.getD_eq_getElem?_getD, hz]
      have e : o + j * kI.ls.length + 0 = o + j := by show o + j * 1 + 0 = o + j; omega
      rw [e] at h1
      exact h1) (by rw [List.take_length]; exact hs)
    rw [List.take_length] at this
    exact this.mono fun e w' ⟨he, q, hw⟩ => ⟨((zs.countP (· < x) : Nat), zs.contains x, ()), he, hk w' (by rw [hw]; exact below_drewN w q)⟩
end
/-- A Builder that holds these bytes; what is beside it stays. -/
def BdF (B b : Nat) (l : By) (w : World) : Prop := Lib.IsBuilderF 51 5 B b (Lib.byteCells l) w
theorem BdF.new {B b : Nat} {w' : World} (hB : B ≤ b) (hc : w'.heap[b]? = some (.cells #[.pointer none, .slice none 0 0] 51 (0, 0))) : BdF B b [] w' := Lib.IsBuilderF.of (Bd.new hB hc)
theorem BdF.lt {B b : Nat} {l : By} {w : World} (h : BdF B b l w) : b < w.heap.size := h.elim Lib.BuilderAtF.lt Lib.BuilderAtF.lt
theorem bdAtF_below {B b : Nat} {p : Value} {l : By} {w w' : World} (h : Lib.BuilderAtF 51 5 B b p (Lib.byteCells l) w) (hb : Below w.heap.size w w') : Lib.BuilderAtF 51 5 B b p (Lib.byteCells l) w' := by
  obtain ⟨hB, v, hc, ho, hn⟩ := h
  refine ⟨hB, v, (hb.block b (Array.getElem?_eq_some_iff.1 hc).1).trans hc, ho.kept (grown_of_below hb) ?_, hn⟩
  by_cases e : v.ownBlock = none
  · exact .inl e
  · exact .inr e
theorem BdF.below {B b : Nat} {l : By} {w w' : World} (h : BdF B b l w) (hb : Below w.heap.size w w') : BdF B b l w' := h.imp (bdAtF_below · hb) (bdAtF_below · hb)
section
variable {w : World}
theorem writeK.c {B b : Nat} {l x : By} {K : Int × Value × Unit → World → Prop} (h : BdF B b l w) (hl : l.length + x.length ≤ 140737488355328) (hB : B ≤ w.heap.size) (hk : ∀ r w', BdF B b (l ++ x) w' → Below B w w' → Lib.OthersKept 5 (some b) w w' → K r w') :
    CallT (.n [(.lf (.i .i64)), (.lf .any)]) P0 29 [.pointer (some ⟨b, 0, none⟩), .string (bs x)] w K := by
  refine (Any.Builder_WriteString_k Tryd.laysB166 Tryd.laysB_X B b (Lib.byteCells l) (bs x) w h (by rw [Lib.byteCells_length, bs_size]; exact hl) hB).mono fun e w' ⟨he, h1, h2, h3⟩ => ?_
  refine ⟨(((bs x).size : Int), .nilIface, ()), he, hk _ w' (.inr ?_) h2 h3⟩
  rw [Lib.strCells_eq, bs_data, ← Lib.byteCells_append] at h1
  exact h1
theorem stringK.c {B b : Nat} {l : By} {K : ByteArray → World → Prop} (h : BdF B b l w) (hB : B ≤ w.heap.size) (hk : ∀ w', Below B w w' → K (bs l) w') : CallT (.o (.lf .s)) P0 31 [.pointer (some ⟨b, 0, none⟩)] w K :=
  (Tryd.Builder_String_any_f B b l w h hB).mono fun e w' ⟨he, hf, hw⟩ => ⟨bs l, he, hk w' hw⟩
end
section
variable {w : World} {s : Sl} {l : List Ins}
theorem impl.marks.c {K : Sl → World → Prop} (hq : formP l = 0) (h : SlR kIns w s l)
    (hk : ∀ r w', Below w.heap.size w w' → WrS kI 3 w.heap.size w' r (picks l.length (jmp l)) → K r w') : CallT (.o (.lf .sl)) P0 49 [s.v] w K := by
  have hn := h.len
  have hz := formP_size hq
  refine impl.marks.ok (mapNew fun m w1 hm1 hb1 hs1 => ?_)
  refine ⟨fun i w' => ∃ (n : Nat) (S : List Int), i = n ∧ n ≤ l.length ∧ SetM w.heap.size w' m S ∧ (∀ x, x ∈ S ↔ jumps l n x) ∧ Below w.heap.size w w', fun i _ => l.length - i.toNat,
    ⟨0, _, rfl, by omega, hm1, fun x => by simp [jumps_zero], hb1⟩, ?_⟩
  rintro i w2 ⟨n, S, rfl, hnl, hm2, hS, hb2⟩ _
  have h2 := h.below hb2
  have hSn : S.length ≤ 48 := by
    have := nodup_le (n := l.length) hm2.nodup (fun x hx => jumps_in hq ((hS x).1 hx))
    omega
  refine And.intro (fun hlt => ?_) (fun hge => ?_)
  · simp only [decide_eq_true_eq] at hlt
    obtain ⟨x, hx⟩ := get_some (l := l) (k := n) (by omega)
    have hix := formP_ins hq (List.mem_of_getElem? hx)
    refine ixA h2 (i := n) (by omega) (x := x) (by simpa using hx) rfl ?_
    refine nwStIns (x := x) fun w3 hb3 hs3 hc3 => ?_
    have hm3 := hm2.below hb3
    have hb3' := hb2.trans (hb3.mono hb2.size)
    rw [i64_succ (n := n) (m := l.length) (by omega) (by omega)]
    refine ldB hc3 (x := x.op) rfl (impl.kind.goes.c ?_)
    refine And.intro (fun hg => ?_) (fun hg => ?_)
    · simp only [decide_eq_true_eq] at hg
      have htg := formP_tgt hq hx hg
      refine impl.target.c (h2.below hb3) (by omega) (by simpa using hx) (by omega) hix.2.2.1 ?_
      refine mapPut hm3 (wf_i64 (by omega) (by omega)) (by simp only [maxLen]; omega) fun w4 hm4 hg4 => ?_
      refine ⟨⟨n + 1, _, rfl, by omega, hm4, fun y => ?_, hb3'.grown hg4 hb3'.size (fun b hb => by have := (hm2.blk hb).1; omega)⟩, by simp only [Int.toNat_natCast]; omega⟩
      rw [mem_ins, jumps_succ hx, hS]
      constructor
      · rintro (h | h)
        · exact .inr ⟨hg, h.symm⟩
        · exact .inl h
      · rintro (h | h)
        · exact .inr h
        · exact .inl h.2.symm
    · simp only [decide_eq_false_iff_not] at hg
      refine ⟨⟨n + 1, S, rfl, by omega, hm3, fun y => ?_, hb3'⟩, by simp only [Int.toNat_natCast]; omega⟩
      rw [hS, jumps_succ hx]
      exact ⟨.inl, fun h => h.elim id fun h => absurd h.1 hg⟩
  · simp only [decide_eq_false_iff_not] at hge
    obtain rfl : n = l.length := by omega
    refine impl.places.sorted.c hm2 (by omega) fun r w3 hb3 ho3 => ?_
    rw [jumps_all hq hm2.nodup hS] at ho3
    exact hk r w3 (hb2.trans (hb3.mono hb2.size)) (ho3.wr.low hb2.size)
theorem spec.l13Marks.c {K : Sl → World → Prop} (hq : formP l = 0) (h : SlR kIns w s l)
    (hk : ∀ r w', Below w.heap.size w w' → WrS kB 4 w.heap.size w' r (bits l.length (jmp l)) → K r w') : CallT (.o (.lf .sl)) P0 80 [s.v] w K := by
  have hn := h.len
  have hz := formP_size hq
  refine spec.l13Marks.ok (mkS mkB (by omega) (by simp only [maxLen]; omega) fun r w1 hb1 hr1 => ?_)
  rw [hn, bits_rep] at hr1
  have bk : ∀ b, r.bk = some b → w.heap.size ≤ b := fun b hb => (hr1.blk hb).1
  refine ⟨fun i w' => ∃ (n : Nat) (f : Nat → Bool), i = n ∧ n ≤ l.length ∧ WrS kB 4 w.heap.size w' r (bits l.length f) ∧ (∀ j : Nat, j < l.length → (f j = true ↔ jumps l n j)) ∧ Below w.heap.size w w', fun i _ => l.length - i.toNat,
    ⟨0, _, rfl, by omega, hr1, fun j hj => by simp [jumps_zero], hb1⟩, ?_⟩
  rintro i w2 ⟨n, f, rfl, hnl, hr2, hf, hb2⟩ _
  have h2 := h.below hb2
  refine And.intro (fun hlt => ?_) (fun hge => ?_)
  · simp only [decide_eq_true_eq] at hlt
    obtain ⟨x, hx⟩ := get_some (l := l) (k := n) (by omega)
    have hx' : l[((n : Nat) : Int).toNat]? = some x := by simpa using hx
    have hix := formP_ins hq (List.mem_of_getElem? hx)
    rw [i64_succ (n := n) (m := l.length) (by omega) (by omega)]
    have last : goesP x → ∀ K : World → Prop, (∀ w', WrS kB 4 w.heap.size w' r (bits l.length fun j => f j || decide (j = (tgt n x).toNat)) → Below w.heap.size w w' → K w') →
        Ix s.a s.n (n : Int) 6 w2 fun a w5 => Ld (.i .i64) (Addr.add a 3) w5 fun t35 w6 => Ix r.a r.n (IntKind.wrap .i64 (((n + 1 : Nat) : Int) + t35)) 1 w6 fun a w7 => St a (.bool true) w7 K := by
      intro hg K hK
      have htg := formP_tgt hq hx hg
      refine ixF h2 (by omega) hx' rfl (v := x.off) rfl ?_
      have e : IntKind.wrap .i64 (((n + 1 : Nat) : Int) + x.off) = tgt n x := by unfold tgt at *; rw [i64_of (by omega) (by omega)]; omega
      rw [e]
      exact stBit hr2 htg.1 (by omega) fun w3 hr3 hg3 => hK w3 hr3 (hb2.grown hg3 hb2.size bk)
    have key : goesP x → ∀ j : Nat, j < l.length → ((f j || decide (j = (tgt n x).toNat)) = true ↔ jumps l (n + 1) j) := by
      intro hg j hj
      have htg := formP_tgt hq hx hg
      rw [jumps_succ hx, Bool.or_eq_true, hf j hj, decide_eq_true_eq]
      constructor
      · rintro (h | h)
        · exact .inl h
        · exact .inr ⟨hg, by omega⟩
      · rintro (h | ⟨_, h⟩)
        · exact .inl h
        · exact .inr (by omega)
    refine ixF h2 (by omega) hx' rfl (v := x.op) rfl (spec.l1Jump.c ?_)
    refine And.intro (fun hg => ?_) (fun hg => ?_)
    · simp only [decide_eq_true_eq] at hg
      have hg : goesP x := by unfold goesP; omega
      exact last hg _ fun w' hr hb => ⟨⟨n + 1, _, rfl, by omega, hr, key hg, hb⟩, by simp only [Int.toNat_natCast]; omega⟩
    · simp only [decide_eq_false_iff_not] at hg
      refine ixF h2 (by omega) hx' rfl (v := x.op) rfl ?_
      refine And.intro (fun h16 => ?_) (fun h16 => ?_)
      · simp only [beq_iff_eq] at h16
        have hg : goesP x := by unfold goesP; omega
        exact last hg _ fun w' hr hb => ⟨⟨n + 1, _, rfl, by omega, hr, key hg, hb⟩, by simp only [Int.toNat_natCast]; omega⟩
      · simp only [beq_eq_false_iff_ne, ne_eq] at h16
        have hg : ¬ goesP x := by unfold goesP; omega
        refine ⟨⟨n + 1, f, rfl, by omega, hr2, fun j hj => ?_, hb2⟩, by simp only [Int.toNat_natCast]; omega⟩
        rw [hf j hj, jumps_succ hx]
        exact ⟨.inl, fun h => h.elim id fun h => absurd h.1 hg⟩
  · simp only [decide_eq_false_iff_not] at hge
    obtain rfl : n = l.length := by omega
    have e : bits l.length f = bits l.length (jmp l) := by
      unfold bits
      refine List.map_congr_left fun j hj => ?_
      rw [Bool.eq_iff_iff, hf j (List.mem_range.1 hj), jmp_iff]
    rw [e] at hr2
    exact hk r w2 hb2 hr2
theorem spec.l13Name.c {r : Sl} {m n : Nat} {f : Nat → Bool} {K : ByteArray → World → Prop} (h : SlR kB w r (bits m f)) (hnm : n ≤ m) (hm : m ≤ 1000) (hk : ∀ w', Below w.heap.size w w' → K (bs (markT (picks n f).length)) w') :
    CallT (.o (.lf .s)) P0 81 [r.v, .int .i64 (n : Int)] w K := by
  refine spec.l13Name.ok ⟨fun c i w' => ∃ k : Nat, i = k ∧ k ≤ n ∧ c = ((picks k f).length : Nat) ∧ w' = w, fun _ i _ => n - i.toNat, ⟨0, rfl, by omega, by simp [picks], rfl⟩, ?_⟩
  rintro c i w1 ⟨k, rfl, hkn, rfl, rfl⟩ _
  have hp := picks_le k f
  refine And.intro (fun hlt => ?_) (fun hge => ?_)
  · simp only [decide_eq_true_eq] at hlt
    refine ixL h (i := k) (by omega) (x := f k) (by rw [Int.toNat_natCast]; exact bits_get (by omega)) rfl (l := .b) (v := f k) rfl ?_
    rw [i64_succ (n := k) (m := n) (by omega) (by omega)]
    refine And.intro (fun hf => ?_) (fun hf => ?_)
    · rw [i64_succ (n := (picks k f).length) (m := n) (by omega) (by omega)]
      exact ⟨⟨k + 1, rfl, by omega, by rw [picks_succ, if_pos hf]; simp, rfl⟩, by simp only [Int.toNat_natCast]; omega⟩
    · exact ⟨⟨k + 1, rfl, by omega, by rw [picks_succ, if_neg (by simp [hf])], rfl⟩, by simp only [Int.toNat_natCast]; omega⟩
  · simp only [decide_eq_false_iff_not] at hge
    obtain rfl : k = n := by omega
    have a1 := itoa_len (n := (((picks k f).length : Nat) : Int)) (by omega) (by omega)
    refine spec.l1Dec.t (by omega) (by omega) fun w2 hb => ⟨(by show (_ : Int) ≤ 9223372036854775807; simp only [ByteArray.size_append, bs_size, z32, z114, z2, z10, z109, z58, List.length_cons, List.length_append, List.length_nil]; omega), ?_⟩
    rw [e109, bs_app]; exact hk w2 hb
set_option maxHeartbeats 1000000 in
theorem spec.l13Line.c {r : Sl} {i : Nat} {x : Ins} {K : ByteArray → World → Prop} (hq : formP l = 0) (h : SlR kIns w s l) (hr : SlR kB w r (bits l.length (jmp l))) (hx : l[i]? = some x)
    (hk : ∀ w', Below w.heap.size w w' → K (bs (lineO x (offT l i x))) w') : CallT (.o (.lf .s)) P0 82 [s.v, r.v, .int .i64 (i : Int)] w K := by
  have hz := formP_size hq
  have hi := (List.getElem?_eq_some_iff.1 hx).1
  have hp := formP_ins hq (List.mem_of_getElem? hx)
  have hoff := hp.2.2.1
  refine spec.l13Line.ok (ixA h (i := i) (by omega) (x := x) (by simpa using hx) rfl (nwStIns (x := x) fun w1 b1 s1 c1 => ?_))
  refine ⟨fun w' => w' = w1 ∧ goesP x, ?_, ?_⟩
  · refine ldB c1 (x := x.op) rfl (spec.l1Jump.c (And.intro (fun hg => ldB c1 (x := x.op) rfl (And.intro (fun h16 => ?_) (fun h16 => ⟨rfl, ?_⟩))) (fun hg => ⟨rfl, ?_⟩)))
    · have hg : ¬ (12 ≤ x.op ∧ x.op ≤ 15) := by simp only [Bool.not_eq_true', decide_eq_false_iff_not] at hg; exact hg
      have h16 : ¬ x.op = 16 := by simpa using h16
      refine ldAB c1 (x := x.t) rfl (spec.l1Line.t (x := x) hp fun w2 b2 => ?_)
      have e : Lib.itoa x.off = offT l i x := by unfold offT; rw [if_neg (by unfold goesP; omega)]
      rw [e]
      exact hk w2 (b1.trans (b2.mono b1.size))
    · have h16 : x.op = 16 := by simpa using h16
      unfold goesP; omega
    · have hg : 12 ≤ x.op ∧ x.op ≤ 15 := by simpa using hg
      unfold goesP; omega
  · rintro w2 ⟨rfl, hg⟩ _
    have htg := formP_tgt hq hx hg
    obtain ⟨base, hbase⟩ := lineO_goes hg
    have hlo := lineO_len (off := Lib.itoa x.off) hp (by have := itoa_len (n := x.off) (by omega) (by omega); omega)
    rw [hbase, List.length_append] at hlo
    have hml := markT_len (n := cntJ l (tgt i x).toNat) (by have := cntJ_le l (tgt i x).toNat; omega)
    refine ldAB c1 (x := x.t) rfl (spec.l1Line.t (x := x) hp fun w3 b3 => ?_)
    rw [hbase]
    have b3' := b1.trans (b3.mono b1.size)
    have cc : ∀ {w' : World}, StR w3 w' → w'.heap[w.heap.size]? = _ := fun hs => (hs.block _ (Nat.lt_of_lt_of_le (Array.getElem?_eq_some_iff.1 c1).1 b3.size)).trans ((b3.block _ (Array.getElem?_eq_some_iff.1 c1).1).trans c1)
    refine ⟨StR, stOk w3, eqG x.off, keptE, eqG (bs (Lib.itoa x.off)), keptE, eqG (bs base), keptE, eqG x.off, keptE, eqG (bs (markT (cntJ l (tgt i x).toNat))), keptE, eqG (bs (base ++ markT (cntJ l (tgt i x).toNat))), keptE, ?_⟩
    refine ⟨fun w' hs => ldB (cc hs) (j := 3) (x := x.off) rfl (gkE rfl (Below.refl _ _)), fun t30 => ⟨fun w' hs f30 => ?_, fun t31 => ⟨fun w' hs f31 => ?_, fun t34 => ⟨fun w' hs => ldB (cc hs) (j := 3) (x := x.off) rfl (gkE rfl (Below.refl _ _)), fun t39 => ⟨fun w' hs f39 => ?_, fun t41 => ⟨fun w' hs f34 f41 => ?_, fun t42 w4 hs _ _ _ _ _ f42 => ?_⟩⟩⟩⟩⟩⟩
    · cases f30
      exact spec.l1Dec.t (by omega) (by omega) fun w'' hb => gkE rfl hb
    · cases f31
      rw [bs_size, bs_size, List.length_append]
      have ek : IntKind.wrap .i64 (((base.length + (Lib.itoa x.off).length : Nat) : Int) - ((Lib.itoa x.off).length : Nat)) = (base.length : Int) := by rw [i64_of (by omega) (by omega)]; omega
      rw [ek]
      refine slS (lo := none) (hi := some (base.length : Int)) (f := 0) (k := base.length) rfl rfl (by omega) (by simp) ?_
      have e : ((base ++ Lib.itoa x.off).drop 0).take (base.length - 0) = base := by simp
      rw [e]
      exact gkE rfl (Below.refl _ _)
    · cases f39
      have e : IntKind.wrap .i64 (IntKind.wrap .i64 ((i : Int) + 1) + x.off) = (((tgt i x).toNat : Nat) : Int) := by
        rw [i64_succ (n := i) (m := l.length) hi (by omega)]
        unfold tgt at *
        rw [i64_of (by omega) (by omega)]; omega
      rw [e]
      exact spec.l13Name.c ((hr.below b3').below hs) (by omega) (by omega) fun w'' hb => gkE rfl hb
    · cases f34; cases f41
      refine ⟨szB (by omega), gkE (congrArg Value.string (bs_app _ _)) (Below.refl _ _)⟩
    · cases f42
      have hs : Below w3.heap.size w3 w4 := hs
      have e : base ++ markT (cntJ l (tgt i x).toNat) = lineO x (offT l i x) := by rw [hbase]; unfold offT; rw [if_pos hg]
      rw [e]
      exact hk w4 (b3'.trans (hs.mono b3'.size))
set_option maxHeartbeats 1000000 in
theorem spec.l13Put.c {K : ByteArray → World → Prop} (hq : formP l = 0) (h : SlR kIns w s l) (hk : ∀ w', Below w.heap.size w w' → K (bs (textA l l.length)) w') : CallT (.o (.lf .s)) P0 46 [s.v] w K := by
  have hn := h.len
  have hz := formP_size hq
  refine spec.l13Put.ok (spec.l13Marks.c hq h fun r w1 b1 hr1 => ?_)
  refine ⟨fun out i w' => ∃ n : Nat, i = n ∧ n ≤ l.length ∧ out = bs (textA l n) ∧ Below w1.heap.size w1 w', fun _ i _ => l.length - i.toNat, ⟨0, rfl, by omega, rfl, Below.refl _ _⟩, ?_⟩
  rintro out i w2 ⟨n, rfl, hnl, rfl, b2⟩ _
  have b12 := b1.trans (b2.mono b1.size)
  refine And.intro (fun hlt => ?_) (fun hge => ?_)
  · simp only [decide_eq_true_eq] at hlt
    obtain ⟨x, hx⟩ := get_some (l := l) (k := n) (by omega)
    have hix := formP_ins hq (List.mem_of_getElem? hx)
    have hr2 := (hr1.below b2).read
    have a1 := textA_len hq hnl
    have a2 := offT_len hq hx
    have a3 := lineO_len (off := offT l n x) hix (by omega)
    have a4 := markT_len (n := cntJ l n) (by have := cntJ_le l n; omega)
    have a5 : (markT (picks n (jmp l)).length).length ≤ 22 := a4
    have next : ∀ w', Below w2.heap.size w2 w' → (∃ n' : Nat, ((n + 1 : Nat) : Int) = n' ∧ n' ≤ l.length ∧ bs (textA l n ++ piece l n x) = bs (textA l n') ∧ Below w1.heap.size w1 w') ∧ l.length - ((n + 1 : Nat) : Int).toNat < l.length - ((n : Nat) : Int).toNat := fun w' hb =>
      ⟨⟨n + 1, rfl, by omega, by rw [textA_succ hx], b2.trans (hb.mono b2.size)⟩, by simp only [Int.toNat_natCast]; omega⟩
    rw [i64_succ (n := n) (m := l.length) (by omega) (by omega)]
    refine ixL hr2 (i := n) (by omega) (x := jmp l n) (by rw [Int.toNat_natCast]; exact bits_get (by omega)) rfl (l := .b) (v := jmp l n) rfl ?_
    refine And.intro (fun hj => ?_) (fun hj => ?_)
    · refine spec.l13Name.c hr2 (by omega) (by omega) fun w3 b3 => ?_
      refine ⟨(by show (_ : Int) ≤ 9223372036854775807; simp only [ByteArray.size_append, bs_size, z32, z114, z2, z10, z109, z58, List.length_cons, List.length_append, List.length_nil]; omega), (by show (_ : Int) ≤ 9223372036854775807; simp only [ByteArray.size_append, bs_size, z32, z114, z2, z10, z109, z58, List.length_cons, List.length_append, List.length_nil]; omega), (by show (_ : Int) ≤ 9223372036854775807; simp only [ByteArray.size_append, bs_size, z32, z114, z2, z10, z109, z58, List.length_cons, List.length_append, List.length_nil]; omega), ?_⟩
      refine spec.l13Line.c hq ((h.below b12).below b3) (hr2.below b3) hx fun w4 b4 => ⟨(by show (_ : Int) ≤ 9223372036854775807; simp only [ByteArray.size_append, bs_size, z32, z114, z2, z10, z109, z58, List.length_cons, List.length_append, List.length_nil]; omega), (by show (_ : Int) ≤ 9223372036854775807; simp only [ByteArray.size_append, bs_size, z32, z114, z2, z10, z109, z58, List.length_cons, List.length_append, List.length_nil]; omega), ?_⟩
      have e : (((((bs (textA l n) ++ bs (markT (picks n (jmp l)).length)) ++ (⟨#[58, 10]⟩ : ByteArray)) ++ (⟨#[32]⟩ : ByteArray)) ++ bs (lineO x (offT l n x))) ++ (⟨#[10]⟩ : ByteArray)) = bs (textA l n ++ piece l n x) := by
        rw [e58, e32, e10]; simp only [bs_app]
        congr 1
        unfold piece
        rw [if_pos hj]
        simp [cntJ]
      rw [e]
      exact next w4 (b3.trans (b4.mono b3.size))
    · refine ⟨(by show (_ : Int) ≤ 9223372036854775807; simp only [ByteArray.size_append, bs_size, z32, z114, z2, z10, z109, z58, List.length_cons, List.length_append, List.length_nil]; omega), ?_⟩
      refine spec.l13Line.c hq (h.below b12) hr2 hx fun w4 b4 => ⟨(by show (_ : Int) ≤ 9223372036854775807; simp only [ByteArray.size_append, bs_size, z32, z114, z2, z10, z109, z58, List.length_cons, List.length_append, List.length_nil]; omega), (by show (_ : Int) ≤ 9223372036854775807; simp only [ByteArray.size_append, bs_size, z32, z114, z2, z10, z109, z58, List.length_cons, List.length_append, List.length_nil]; omega), ?_⟩
      have e : (((bs (textA l n) ++ (⟨#[32]⟩ : ByteArray)) ++ bs (lineO x (offT l n x))) ++ (⟨#[10]⟩ : ByteArray)) = bs (textA l n ++ piece l n x) := by
        rw [e32, e10]; simp only [bs_app]
        congr 1
        unfold piece
        rw [if_neg (by simp [hj])]
        simp
      rw [e]
      exact next w4 b4
  · simp only [decide_eq_false_iff_not] at hge
    obtain rfl : n = l.length := by omega
    exact hk w2 b12
theorem spec.AsmPut.c {K : ByteArray → World → Prop} (h : SlR kIns w s l) (hl : l.length ≤ 1048576) (hk : ∀ w', Below w.heap.size w w' → K (bs (putA l)) w') : CallT (.o (.lf .s)) P0 21 [s.v] w K := by
  refine spec.AsmPut.ok (spec.l1Form.c h hl fun w1 b1 => And.intro (fun hq => ?_) (fun hq => ?_))
  · have hq : ¬ formP l = 0 := by simpa using hq
    have e : (⟨#[]⟩ : ByteArray) = bs (putA l) := by rw [putA_no hq]; rfl
    rw [e]; exact hk w1 b1
  · have hq : formP l = 0 := by simpa using hq
    refine spec.l13Put.c hq (h.below b1) fun w2 b2 => ?_
    rw [← putA_of hq]
    exact hk w2 (b1.trans (b2.mono b1.size))
set_option maxHeartbeats 1000000 in
theorem impl.AsmPut.c {K : ByteArray → World → Prop} (ht : Tb w) (h : SlR kIns w s l) (hl : l.length ≤ 1048576) (hk : ∀ w', Below w.heap.size w w' → K (bs (putA l)) w') : CallT (.o (.lf .s)) P0 23 [s.v] w K := by
  have hn := h.len
  refine impl.AsmPut.ok (impl.ProgForm.c h hl fun w1 b1 => And.intro (fun hq => ?_) (fun hq => ?_))
  · have hq : ¬ formP l = 0 := by simpa using hq
    have e : (⟨#[]⟩ : ByteArray) = bs (putA l) := by rw [putA_no hq]; rfl
    rw [e]; exact hk w1 b1
  · have hq : formP l = 0 := by simpa using hq
    have hz := formP_size hq
    refine impl.marks.c hq (h.below b1) fun r w2 b2' hr2 => ?_
    have b2 := b1.trans (b2'.mono b1.size)
    rw [zBd]
    refine nw fun w3 b3 s3 c3 => ?_
    have d3 : BdF w2.heap.size w2.heap.size [] w3 := BdF.new (Nat.le_refl _) c3
    refine ⟨fun i w' => ∃ n : Nat, i = n ∧ n ≤ l.length ∧ BdF w2.heap.size w2.heap.size (textA l n) w' ∧ Below w2.heap.size w2 w', fun i _ => l.length - i.toNat, ⟨0, rfl, by omega, d3, b3⟩, ?_⟩
    rintro i w4 ⟨n, rfl, hnl, d4, b4⟩ _
    have b24 := b2.trans (b4.mono b2.size)
    refine And.intro (fun hlt => ?_) (fun hge => ?_)
    · simp only [decide_eq_true_eq] at hlt
      obtain ⟨x, hx⟩ := get_some (l := l) (k := n) (by omega)
      have hix := formP_ins hq (List.mem_of_getElem? hx)
      have hoff := hix.2.2.1
      have a1 := textA_len hq hnl
      have a2 := offT_len hq hx
      have a3 := lineO_len (off := offT l n x) hix (by omega)
      have a4 := markT_len (n := cntJ l n) (by have := cntJ_le l n; omega)
      refine ixA (h.below b24) (i := n) (by omega) (x := x) (by simpa using hx) rfl (nwStIns (x := x) fun w5 b5 s5 c5 => ?_)
      have hs4 := b4.size
      have a5 : (Lib.itoa (((picks n (jmp l)).length : Nat) : Int)).length + 1 ≤ 22 := a4
      have hpl : (picks l.length (jmp l)).length ≤ 1000000 := by have := picks_le l.length (jmp l); omega
      have hasc : (picks l.length (jmp l)).Pairwise (· ≤ ·) := (picks_asc _ _).imp fun h => by omega
      rw [i64_succ (n := n) (m := l.length) (by omega) (by omega)]
      have d5 := d4.below b5
      have b25 := b4.trans (b5.mono b4.size)
      refine ⟨fun w' => ∃ mk : By, mk = (if jmp l n = true then markT (cntJ l n) ++ [58, 10] else []) ∧ BdF w2.heap.size w2.heap.size (textA l n ++ mk) w' ∧ Below w2.heap.size w2 w' ∧ w'.heap[w4.heap.size]? = some (.cells x.cs 44 (0, 0)), ?_, ?_⟩
      · refine search.c (x := (n : Int)) ((hr2.below b25).read) hpl hasc fun w6 b6 => ?_
        rw [picks_count n l.length (by omega), picks_has (by omega)]
        have b26 := b25.trans (b6.mono b25.size)
        have c6 := (b6.block _ (Array.getElem?_eq_some_iff.1 c5).1).trans c5
        refine And.intro (fun hj => ?_) (fun hj => ?_)
        · refine impl.mark.t (((ht.below b2).below b26)) (by have := cntJ_le l n; unfold cntJ at this; show (0 : Int) ≤ ((picks n (jmp l)).length : Nat) ∧ (((picks n (jmp l)).length : Nat) : Int) ≤ 1000000; omega) fun w7 b7 => ⟨(by show (_ : Int) ≤ 9223372036854775807; simp only [ByteArray.size_append, bs_size, z32, z114, z2, z10, z109, z58, List.length_cons, List.length_append, List.length_nil]; omega), ?_⟩
          have b27 := b26.trans (b7.mono b26.size)
          have c7 := (b7.block _ (Array.getElem?_eq_some_iff.1 c6).1).trans c6
          have e : bs (109 :: Lib.itoa ((picks n (jmp l)).length : Nat)) ++ (⟨#[58, 10]⟩ : ByteArray) = bs (markT (cntJ l n) ++ [58, 10]) := by rw [e58, bs_app]; rfl
          rw [e]
          refine writeK.c ((d5.below b6).below b7) (by simp; omega) b27.size fun q w8 d8 b8 k8 => ?_
          refine ⟨markT (cntJ l n) ++ [58, 10], by rw [if_pos hj], d8, b27.trans b8, k8 _ _ c7 (by have := d4.lt; simp; omega) (fun c fz e => by injection e with _ e2; exact absurd e2 (by decide))⟩
        · exact ⟨[], by rw [if_neg (by simpa using hj)], by rw [List.append_nil]; exact d5.below b6, b26, c6⟩
      · rintro w6 ⟨mk, hmk, d6, b6, c6⟩ _
        have hmkl : mk.length ≤ 24 := by rw [hmk]; split <;> simp; omega
        have ht6 := (ht.below b2).below b6
        have h6 := (h.below b2).below b6
        refine ldB c6 (j := 3) (x := x.off) rfl (itoa.c ht6 (by omega) (by omega) fun w7 b7 => ?_)
        have b27 := b6.trans (b7.mono b6.size)
        have c7 := (b7.block _ (Array.getElem?_eq_some_iff.1 c6).1).trans c6
        have d7 := d6.below b7
        have fin : ∀ w', Below w2.heap.size w2 w' → w'.heap[w4.heap.size]? = some (.cells x.cs 44 (0, 0)) → BdF w2.heap.size w2.heap.size (textA l n ++ mk) w' → LdA (R 6 (.i .i64)) ⟨w4.heap.size, 0, none⟩ w' fun (t51 : Tup (R 6 (.i .i64))) w__22 =>
            CallT (.o (.lf .s)) P0 55 [(.agg (Tup.cells (R 6 (.i .i64)) t51).toArray), (.string (bs (offT l n x)))] w__22 fun (t53 : ByteArray) w__23 =>
            (((ByteArray.size (⟨#[32]⟩ : ByteArray) + ByteArray.size t53 : Nat) : Int) ≤ IntKind.i64.max) ∧ (((ByteArray.size ((⟨#[32]⟩ : ByteArray) ++ t53) + ByteArray.size (⟨#[10]⟩ : ByteArray) : Nat) : Int) ≤ IntKind.i64.max) ∧
            CallT (.n [(.lf (.i .i64)), (.lf .any)]) P0 29 [(.pointer (some ⟨w2.heap.size, 0, none⟩)), (.string (((⟨#[32]⟩ : ByteArray) ++ t53) ++ (⟨#[10]⟩ : ByteArray)))] w__23 fun (t56 : (Int) × (Value) × Unit) w__24 =>
            ((∃ n' : Nat, ((n + 1 : Nat) : Int) = n' ∧ n' ≤ l.length ∧ BdF w2.heap.size w2.heap.size (textA l n') w__24 ∧ Below w2.heap.size w2 w__24) ∧ l.length - ((n + 1 : Nat) : Int).toNat < l.length - ((n : Nat) : Int).toNat) := by
          intro w' b' c' d'
          refine ldAB c' (x := x.t) rfl (impl.Ins.line.t ((ht.below b2).below b') hix (by omega) fun w8 b8 => ⟨(by show (_ : Int) ≤ 9223372036854775807; simp only [ByteArray.size_append, bs_size, z32, z114, z2, z10, z109, z58, List.length_cons, List.length_append, List.length_nil]; omega), (by show (_ : Int) ≤ 9223372036854775807; simp only [ByteArray.size_append, bs_size, z32, z114, z2, z10, z109, z58, List.length_cons, List.length_append, List.length_nil]; omega), ?_⟩)
          have b28 := b'.trans (b8.mono b'.size)
          have e : ((⟨#[32]⟩ : ByteArray) ++ bs (lineO x (offT l n x))) ++ (⟨#[10]⟩ : ByteArray) = bs (32 :: lineO x (offT l n x) ++ [10]) := by rw [e32, e10]; simp only [bs_app]; rfl
          rw [e]
          refine writeK.c (d'.below b8) (by simp; omega) b28.size fun q w9 d9 b9 k9 => ?_
          refine ⟨⟨n + 1, rfl, by omega, ?_, b28.trans b9⟩, by simp only [Int.toNat_natCast]; omega⟩
          rw [textA_succ hx]
          unfold piece
          rw [← hmk, ← List.append_assoc]
          exact d9
        refine ldB c7 (x := x.op) rfl (impl.kind.goes.c (And.intro (fun hg => ?_) (fun hg => ?_)))
        · have hg : goesP x := of_decide_eq_true hg
          have htg := formP_tgt hq hx hg
          refine impl.target.c ((h.below b2).below b27) (by omega) (by simpa using hx) hl hix.2.2.1 ?_
          refine search.c (x := tgt n x) ((hr2.below b27).read) hpl hasc fun w8 b8 => ?_
          have etg : tgt n x = (((tgt n x).toNat : Nat) : Int) := by omega
          have b28 := b27.trans (b8.mono b27.size)
          have c8 := (b8.block _ (Array.getElem?_eq_some_iff.1 c7).1).trans c7
          rw [etg, picks_count _ l.length (by omega)]
          refine impl.mark.t ((ht.below b2).below b28) (by have := cntJ_le l (tgt n x).toNat; unfold cntJ at this; show (0 : Int) ≤ ((picks (tgt n x).toNat (jmp l)).length : Nat) ∧ (((picks (tgt n x).toNat (jmp l)).length : Nat) : Int) ≤ 1000000; omega) fun w9 b9 => ?_
          have b29 := b28.trans (b9.mono b28.size)
          have c9 := (b9.block _ (Array.getElem?_eq_some_iff.1 c8).1).trans c8
          have e : (109 :: Lib.itoa ((picks (tgt n x).toNat (jmp l)).length : Nat)) = offT l n x := by unfold offT; rw [if_pos hg]; rfl
          rw [e]
          exact fin w9 b29 c9 ((d7.below b8).below b9)
        · have hg : ¬ goesP x := of_decide_eq_false hg
          have e : Lib.itoa x.off = offT l n x := by unfold offT; rw [if_neg hg]
          rw [e]
          exact fin w7 b27 c7 d7
    · simp only [decide_eq_false_iff_not] at hge
      obtain rfl : n = l.length := by omega
      refine stringK.c d4 b4.size fun w5 b5 => ?_
      rw [← putA_of hq]
      exact hk w5 (b2.trans ((b4.trans b5).mono b2.size))
end
end Go.Proofs.YtkkdboimkbcfnaaDoor.V

/- Contracts: the draws of the flow's laws, and what the laws use. -/
namespace Go.Proofs.YtkkdboimkbcfnaaDoor.V
open Go Go.RowKit
set_option linter.unusedVariables false
set_option linter.unusedSimpArgs false
section
variable {w : World} {a b : Sl} {xs ys : List Int}
theorem laws.sgIn.c {n : Int} {K : Bool → World → Prop} (ha : SlR kI w a xs) (hk : ∀ w', w' = w → K (decide (n ∈ xs)) w') : CallT (.o (.lf .b)) P0 26 [a.v, .int .i64 n] w K := by
  have hna := ha.len; have hm := ha.max
  refine laws.sgIn.ok ⟨fun i w' => ∃ k : Nat, i = k ∧ k ≤ xs.length ∧ n ∉ xs.take k ∧ w' = w, fun i _ => xs.length - i.toNat, ⟨0, rfl, by omega, by simp, rfl⟩, ?_⟩
  rintro i w1 ⟨k, rfl, hk1, hno, rfl⟩ _
  refine And.intro (fun hlt => ?_) (fun hge => kof (hk _ rfl) ?_)
  · simp only [decide_eq_true_eq] at hlt
    obtain ⟨x, hx⟩ := get_some (l := xs) (k := k) (by omega)
    refine ixL ha (i := k) (by omega) (x := x) (by simpa using hx) rfl (l := .i .i64) (v := x) rfl ?_
    refine And.intro (fun he => kof (hk _ rfl) ?_) (fun he => ?_)
    · simp only [beq_iff_eq] at he
      subst he
      simp only [decide_eq_true_eq]; exact List.mem_of_getElem? hx
    · rw [i64_of (n := (k : Int) + 1) (by omega) (by omega)]
      refine ⟨⟨k + 1, by omega, by omega, ?_, rfl⟩, by simp only; omega⟩
      rw [List.take_add_one, hx]
      simp only [beq_eq_false_iff_ne, ne_eq] at he
      simp only [Option.toList_some, List.mem_append, List.mem_singleton, not_or]
      exact ⟨hno, fun e => he e.symm⟩
  · simp only [decide_eq_false_iff_not] at hge
    obtain rfl : k = xs.length := by omega
    rw [List.take_length] at hno
    simpa using hno
end
theorem u8_all {bs : List Int} (h : ∀ x ∈ bs, (Lit.int .u8 x).wf = true) : ∀ x ∈ bs, 0 ≤ x ∧ x ≤ 255 := fun x hx => by
  have := h x hx
  simp only [Lit.wf, Bool.and_eq_true, decide_eq_true_eq] at this
  exact this
section
variable {w : World} {code : Sl} {bs : List Int}
/-- What a draw of a program begins with. -/
theorem prog0 {Kp : Option Addr → World → Prop} (h : SlR kU8 w code bs) (hb : ∀ x ∈ bs, 0 ≤ x ∧ x ≤ 255)
    (hk : ∀ w1, Below w.heap.size w w1 → RdS w.heap.size w.heap.size 0 w1 → Kp (some ⟨w.heap.size, 0, none⟩) w1) : CallT (.o (.lf .p)) P0 28 [code.v] w Kp := spec.l20Open.c h hb hk
theorem spec.DrawProgForm.c {K : Sl → World → Prop} (h : SlR kU8 w code bs) (hb : ∀ x ∈ bs, 0 ≤ x ∧ x ≤ 255)
    (hk : ∀ r w' ys, Below w.heap.size w w' → SlR kIns w' r ys → ys.length ≤ 64 → K r w') : CallT (.o (.lf .sl)) P0 57 [code.v] w K := by
  refine spec.DrawProgForm.ok (spec.l20Open.c h hb fun w1 b1 r1 => ?_)
  have hbr := r1.lt
  refine spec.l20Prog.c r1 (by omega) fun r w2 ys g2 r2 o2 h1 h2 => ?_
  have b2 : Below w.heap.size w w2 := b1.grown g2 b1.size (fun b hb => by simp only [Option.some.injEq] at hb; omega)
  have hon := o2.len
  have hoc := o2.cap
  have o2' := o2.low (B' := w.heap.size) b1.size
  refine spec.l20Rd.pick.c r2 (by omega) (by omega) fun t10 w3 _ _ g3 r3 => ?_
  have b3 : Below w.heap.size w w3 := b2.grown g3 b2.size (fun b hb => by simp only [Option.some.injEq] at hb; omega)
  have o3 := o2.keptBr g3 hbr
  refine And.intro (fun _ => ?_) (fun _ => And.intro (fun _ => ?_) (fun _ => And.intro (fun _ => hk _ _ [] b3 (SlR.nil _ _) (by simp)) (fun _ => hk _ _ ys b3 o3.read (by omega))))
  · rw [i64_of (by omega) (by omega)]
    refine slcR (k := kIns) (e := 44) (by kernel_rfl) (by kernel_rfl) o3.read (lo := none) (hi := some ((r.n : Int) - 1)) (mx := none) (l := 0) (h' := r.n - 1) (m := r.c) rfl (by simp; omega) rfl (by simp) (by omega) (by omega) (by omega) (by omega) fun q hq _ hq2 _ => ?_
    exact hk _ _ _ b3 hq2 (by simp; omega)
  · refine ⟨fun list w' => ∃ zs, OwnS kIns 44 w1.heap.size w' list zs ∧ zs.length ≤ 49 ∧ RdS w.heap.size w.heap.size (400 + zs.length) w' ∧ Below w.heap.size w w' ∧ w1.heap.size ≤ w'.heap.size, fun list _ => 60 - list.n, ⟨ys, o3, by omega, r3.more (by omega), b3, by have := g2.size; have := g3.size; omega⟩, ?_⟩
    rintro list w4 ⟨zs, o4, hz, r4, b4, hs4⟩ _
    have hln := o4.len
    refine spec.l20Rd.pick.c r4 (by omega) (by omega) fun t23 w5 _ _ g5 r5 => ?_
    have b5 : Below w.heap.size w w5 := b4.grown g5 b4.size (fun b hb => by simp only [Option.some.injEq] at hb; omega)
    have o5 := o4.keptBr g5 hbr
    rw [i64_of (n := 48 + t23) (by omega) (by omega)]
    refine And.intro (fun hlt => ?_) (fun _ => hk _ _ zs b5 o5.read (by omega))
    simp only [decide_eq_true_eq] at hlt
    have hs5 := b5.size
    have hw15 : w1.heap.size ≤ w5.heap.size := by have := g5.size; omega
    refine ap1 elIns o5 ⟨20, 0, -1, 0, 0, 0⟩ rfl (by omega) (by omega) hw15 fun o' w6 o6 g6 _ => ?_
    have hl6 := o6.len
    simp only [List.length_append, List.length_cons, List.length_nil] at hl6
    exact ⟨⟨_, o6, by simp; omega, (r5.keptO o5 g6 hbr).more (by simp; omega), b5.grown g6 b5.size (fun b hb => by have := (o5.blk hb).1; have := b1.size; omega), by have := g6.size; omega⟩, by simp only; omega⟩
end
end Go.Proofs.YtkkdboimkbcfnaaDoor.V

/- The laws ExactAsmPut and AsmLines: both sides write the same lines; each op has a line, and each place to which something jumps a mark. -/
namespace Go.Proofs.YtkkdboimkbcfnaaDoor.V
open Go Go.RowKit
set_option linter.unusedVariables false
set_option linter.unusedSimpArgs false
theorem laws.FnExactAsmPut.pure {w : World} (ht : Tb w) (s : Sl) (l : List Ins) (h : SlR kIns w s l) :
    CallT (.o (.lf .b)) P0 6 [s.v] w fun b w' => b = true ∧ Below w.heap.size w w' := by
  refine laws.FnExactAsmPut.ok (laws.szInsS.c h (by decide) (by decide) ?_)
  refine And.intro (fun _ => ⟨rfl, Below.refl _ _⟩) (fun hs => ?_)
  have hl : l.length ≤ 1048576 := by
    simp only [decide_eq_false_iff_not] at hs
    split at hs <;> omega
  clear hs
  refine laws.toInsS.c h hl fun a w1 hb1 ha => ?_
  refine spec.AsmPut.c ha.read hl fun w2 hb2 => ?_
  have b2 := hb1.trans (hb2.mono hb1.size)
  refine laws.toInsS.c (h.below b2) hl fun x0 w3 hb3 hx0 => ?_
  have b3 := b2.trans (hb3.mono b2.size)
  refine impl.AsmPut.c (ht.below b3) hx0.read hl fun w4 hb4 => ?_
  have b4 := b3.trans (hb4.mono b3.size)
  refine And.intro (fun hc => by simp at hc) (fun _ => ?_)
  refine laws.toInsS.c (h.below b4) hl fun a' w5 hb5 ha' => ?_
  have b5 := b4.trans (hb5.mono b4.size)
  refine laws.eqInsS.c ((hx0.below hb4).below hb5).read ha'.read fun w6 hb6 => ?_
  exact And.intro (fun hc => by simp at hc) (fun _ => ⟨rfl, b5.trans (hb6.mono b5.size)⟩)
set_option maxHeartbeats 1000000 in
theorem laws.FnAsmLines.pure {w : World} (ht : Tb w) (s : Sl) (cs : List Int) (h : SlR kU8 w s cs ∧ ∀ x ∈ cs, (Lit.int .u8 x).wf = true) :
    CallT (.o (.lf .b)) P0 7 [s.v] w fun b w' => b = true ∧ Below w.heap.size w w' := by
  refine laws.FnAsmLines.ok (And.intro (fun _ => ⟨rfl, Below.refl _ _⟩) (fun _ => ?_))
  refine spec.DrawAsmPut.ok (spec.DrawProgForm.c h.1 (u8_all h.2) fun q w1 l b1 h1 hl => ?_)
  have hqn := h1.len
  refine impl.AsmPut.c (ht.below b1) h1 (by omega) fun w2 b2' => ?_
  have b2 := b1.trans (b2'.mono b1.size)
  have h2 := h1.below b2'
  refine ⟨fun w' => Below w2.heap.size w2 w' ∧ formP l = 0, ?_, ?_⟩
  · refine spec.AsmPut.c h2 (by omega) fun w3 b3' => ?_
    have b3 := b2.trans (b3'.mono b2.size)
    refine And.intro (fun hc => by simp at hc) (fun _ => And.intro (fun _ => ?_) (fun he => ⟨b3', ?_⟩))
    · exact spec.AsmPut.c (h2.below b3') (by omega) fun w4 b4 => ⟨by simp, b3.trans (b4.mono b3.size)⟩
    · by_cases hq : formP l = 0
      · exact hq
      · rw [putA_no hq, show bs [] = (⟨#[]⟩ : ByteArray) from rfl] at he
        simp at he
  · rintro w3 ⟨b3', hq⟩ _
    have b3 := b2.trans (b3'.mono b2.size)
    have h3 := h2.below b3'
    have hz := formP_size hq
    have hT := putA_len l
    have hcount : (putA l).count 10 = l.length + cntJ l l.length := by rw [putA_of hq]; exact textA_count (Nat.le_refl _)
    have hcj := cntJ_le l l.length
    rw [bs_size]
    refine ⟨fun c i w' => ∃ k : Nat, i = k ∧ k ≤ (putA l).length ∧ c = (((putA l).take k).count 10 : Nat) ∧ w' = w3, fun _ i _ => (putA l).length - i.toNat, ⟨0, rfl, by omega, by simp, rfl⟩, ?_⟩
    rintro c i w4 ⟨k, rfl, hk, rfl, rfl⟩ _
    have hle : ((putA l).take k).count 10 ≤ k := Nat.le_trans List.count_le_length (by simp; omega)
    refine And.intro (fun hlt => ?_) (fun hge => ?_)
    · simp only [decide_eq_true_eq] at hlt
      obtain ⟨c, hc⟩ := get_some (l := putA l) (k := k) (by omega)
      refine sxB (by omega) (b := c) (by simpa using hc) ?_
      rw [i64_succ (n := k) (m := (putA l).length) (by omega) (by omega)]
      have ec : ((putA l).take (k + 1)).count 10 = ((putA l).take k).count 10 + if c = 10 then 1 else 0 := by
        rw [List.take_add_one, hc, List.count_append]
        by_cases e : c = 10
        · subst e; simp
        · simp [e]
      refine And.intro (fun he => ?_) (fun he => ?_)
      · have e : c = 10 := by simp at he; apply UInt8.toNat_inj.1; show c.toNat = 10; omega
        rw [if_pos e] at ec
        rw [i64_succ (m := (putA l).length) (by omega) (by omega)]
        exact ⟨⟨k + 1, rfl, by omega, by rw [ec], rfl⟩, by simp only [Int.toNat_natCast]; omega⟩
      · have e : ¬ c = 10 := fun e => by rw [e] at he; simp at he
        rw [if_neg e] at ec
        exact ⟨⟨k + 1, rfl, by omega, by rw [ec]; simp, rfl⟩, by simp only [Int.toNat_natCast]; omega⟩
    · simp only [decide_eq_false_iff_not] at hge
      obtain rfl : k = (putA l).length := by omega
      rw [List.take_length, hcount]
      refine nw fun w5 b5 s5 c5 => ?_
      have o5 : OwnS kI 3 w4.heap.size w5 ⟨some ⟨w4.heap.size, 0, none⟩, 0, 0⟩ [] := OwnS.lit (k := kI) (xs := []) (n := 0) (Nat.le_refl _) c5 rfl rfl (by simp)
      refine ⟨fun m i w' => ∃ (n : Nat) (S : List Int), i = n ∧ n ≤ l.length ∧ OwnS kI 3 w4.heap.size w' m S ∧ S.Nodup ∧ (∀ x, x ∈ S ↔ jumps l n x) ∧ Below w4.heap.size w4 w', fun _ i _ => l.length - i.toNat,
        ⟨0, [], rfl, by omega, o5, List.nodup_nil, fun x => by simp [jumps_zero], b5⟩, ?_⟩
      rintro m i w6 ⟨n, S, rfl, hnl, o6, hnd, hS, b6⟩ _
      have hSn : S.length ≤ 48 := by
        have := nodup_le (n := l.length) hnd (fun x hx => jumps_in hq ((hS x).1 hx))
        omega
      have h6 := h3.below b6
      refine And.intro (fun hlt => ?_) (fun hge => ?_)
      · simp only [decide_eq_true_eq] at hlt
        obtain ⟨x, hx⟩ := get_some (l := l) (k := n) (by omega)
        have hx' : l[((n : Nat) : Int).toNat]? = some x := by simpa using hx
        have hix := formP_ins hq (List.mem_of_getElem? hx)
        have hoff := hix.2.2.1
        rw [i64_succ (n := n) (m := l.length) (by omega) (by omega)]
        have et : IntKind.wrap .i64 (((n + 1 : Nat) : Int) + x.off) = tgt n x := by rw [i64_of (by omega) (by omega)]; unfold tgt; omega
        refine ⟨fun m' w' => ∃ S' : List Int, OwnS kI 3 w4.heap.size w' m' S' ∧ S'.Nodup ∧ (∀ y, y ∈ S' ↔ jumps l (n + 1) y) ∧ Below w4.heap.size w4 w', ?_, ?_⟩
        · refine ixF h6 (by omega) hx' rfl (v := x.off) rfl (ixF h6 (by omega) hx' rfl (v := x.op) rfl ?_)
          rw [et]
          have no : ¬ goesP x → (∃ S' : List Int, OwnS kI 3 w4.heap.size w6 m S' ∧ S'.Nodup ∧ (∀ y, y ∈ S' ↔ jumps l (n + 1) y) ∧ Below w4.heap.size w4 w6) := fun hg =>
            ⟨S, o6, hnd, fun y => by rw [hS, jumps_succ hx]; exact ⟨.inl, fun h => h.elim id fun h => absurd h.1 hg⟩, b6⟩
          refine And.intro (fun ha => ?_) (fun ha => no (by simp only [decide_eq_false_iff_not] at ha; unfold goesP; omega))
          refine ixF h6 (by omega) hx' rfl (v := x.op) rfl ?_
          refine And.intro (fun hb => ?_) (fun hb => no (by simp only [decide_eq_false_iff_not] at hb; unfold goesP; omega))
          have hg : goesP x := by simp only [decide_eq_true_eq] at ha hb; unfold goesP; omega
          have htg := formP_tgt hq hx hg
          refine laws.sgIn.c o6.read fun w' e => ?_
          subst e
          refine And.intro (fun hi => ?_) (fun hi => ?_)
          · have hi : tgt n x ∉ S := by simpa using hi
            refine ap1 elI o6 (tgt n x) rfl (by omega) (by omega) b6.size fun m' w7 o7 g7 _ => ?_
            refine ⟨S ++ [tgt n x], o7, ?_, fun y => ?_, b6.grown g7 b6.size (fun b hb => (o6.blk hb).1)⟩
            · exact List.nodup_append.2 ⟨hnd, by simp, fun a ha b hb => by simp at hb; subst hb; exact fun e => hi (e ▸ ha)⟩
            · rw [List.mem_append, hS, jumps_succ hx, List.mem_singleton]
              exact ⟨fun h => h.elim .inl fun h => .inr ⟨hg, h.symm⟩, fun h => h.elim .inl fun h => .inr h.2.symm⟩
          · have hi : tgt n x ∈ S := by simpa using hi
            refine ⟨S, o6, hnd, fun y => ?_, b6⟩
            rw [hS, jumps_succ hx]
            exact ⟨.inl, fun h => h.elim id fun h => by rw [← h.2]; exact (hS _).1 hi⟩
        · rintro m' w7 ⟨S', o7, hnd', hS', b7⟩ _
          exact ⟨⟨n + 1, S', rfl, by omega, o7, hnd', hS', b7⟩, by simp only [Int.toNat_natCast]; omega⟩
      · simp only [decide_eq_false_iff_not] at hge
        obtain rfl : n = l.length := by omega
        have hml := o6.len
        have hlen : S.length = cntJ l l.length := by
          have := congrArg List.length (jumps_all hq hnd hS)
          rw [sorted_length] at this
          exact this
        refine ⟨?_, b3.trans (b6.mono b3.size)⟩
        rw [hqn, hml, hlen, i64_of (by omega) (by omega)]
        simp
end Go.Proofs.YtkkdboimkbcfnaaDoor.V

/- The tied row of FnExactAsmPut: where the listed variables of the library's are as its text lays them, it returns true and leaves its input as it was, whatever the input. PRINTED by rowt.py out of the law of the same name. -/
namespace Go.Proofs.YtkkdboimkbcfnaaDoor.V
open Go Go.RowKit Go.ChangeShapes Go.WideShapes Go.ChangeAt
open Go.ChangeMaps (open_string shut_string)
set_option linter.unusedVariables false
set_option maxRecDepth 100000 in
theorem FnExactAsmPut.lifted (os : Os) (started : os.Started) (H : Type) (enc : TypeId × Value → H) :
    ReturnsInHanded {} Tryd.checked os 6 .any (fun w args => (Rows.fnExactAsmPutSpec.pre enc P0 Tryd.f6 [] false w args ∧ laidMetH P0 Rows.fnExactAsmPutRow.laid w) ∧ sizedMet enc P0 Tryd.f6 (OpenSpec.ofChange Rows.fnExactAsmPutSpec) false w args) (Rows.fnExactAsmPutSpec.post enc P0 Tryd.f6 false true false false) := by
  refine handed_and_shaped (C := Tryd.checked) (X := fun w _ => laidMetH P0 Rows.fnExactAsmPutRow.laid w) (fun _ _ _ hh h => h.of_heap hh) own started (by kernel_rfl) Tryd.func6
    (ChangeSpec.witness_shaped (enc := enc) (C := Tryd.checked) (os := os) (X := fun w _ => laidMetH P0 Rows.fnExactAsmPutRow.laid w) false (World.laidAll P0 os Rows.fnExactAsmPutRow.laid) #[.slice none 0 0] 8 (World.laidAll_os _ _ _)
      (World.shaped_of_ZipB (by kernel_rfl) (by kernel_rfl)) (by kernel_rfl) (by kernel_rfl) (by kernel_rfl)
      (by rw [MakeChecks.laidMetH_plain _ _ _ (by kernel_rfl)]; exact laidMet_laidAll _ (by kernel_rfl) (by kernel_rfl))) ?_
  intro W base args ds gs before hval0 hW hcnd hsz0 hL hsh _
  rw [MakeChecks.laidMetH_plain _ _ _ (by kernel_rfl)] at hL
  have hL1 : laidMet P0 (("math/bits.deBruijn32tab", Rows.laid_math_bits_deBruijn32tab) :: ("math/bits.deBruijn64tab", Rows.laid_math_bits_deBruijn64tab) :: ("internal/strconv.uint64pow10", Rows.laid_internal_strconv_uint64pow10) :: []) W := hL
  have hTb : Tb W := tab_of hL1.tail.tail
  clear hL hL1 hsh
  have hsz : (DataW.weightsEach P0 (Tryd.f6.params.toList ++ Rows.fnExactAsmPutSpec.plain.varTypes P0) (ds ++ gs)).all (· ≤ reachBytes) = true := hsz0
  have hval : ∀ (j : Nat) t v, Tryd.f6.params[j]? = some t → args[j]? = some v → Value.okWide P0 W .any base t v := hval0
  have hW' := hW
  obtain ⟨p, q, hA0, hV, rfl, hfz, hnd⟩ := hW
  have hA : DataW.TrodAll enc P0 W 0 (fun _ => true) true Tryd.f6.params.toList args.toList ds p := hA0
  rw [Tryd.params6] at hA hval hsz
  obtain ⟨v0, vs0, d0, ds0, p0, q0, hargs, rfl, rfl, h0, r0⟩ := trodAll_cons hA
  obtain ⟨rfl, rfl, rfl⟩ := trodAll_nil r0
  obtain rfl : args = #[v0] := by cases args; simp_all
  obtain ⟨rfl, rfl⟩ := trodVars_none hV
  obtain ⟨a0, len0, cap0, rfl⟩ := okWide_slice Tryd.underlying34 (hval 0 34 v0 rfl rfl)
  have k0 := h0
  have lt0 : ∀ x ∈ p0, x.block < W.heap.size := by obtain ⟨m, hm⟩ := k0; exact DataW.trod_lt m _ _ _ hm
  obtain ⟨l0, w0⟩ : ∃ l, SlR kIns W ⟨a0, len0, cap0⟩ l := by
    obtain ⟨fuel, hf⟩ := h0
    exact open_list kIns (e := 75) (n := 6) Tryd.underlying34 (by kernel_rfl) rfl (by decide) (fun fuel cs y hy => by
      obtain ⟨zs, hz, rfl⟩ := trod_intFields (t := 75) (n := 6) Tryd.underlying75 (by kernel_rfl) (by kernel_rfl) hy
      match zs, hz with
      | [z0, z1, z2, z3, z4, z5], _ => exact ⟨⟨z0, z1, z2, z3, z4, z5⟩, rfl⟩) hf
  clear hA0 hval0 hsz0 hsz
  refine Calls.mono (laws.FnExactAsmPut.pure (w := W) hTb ⟨a0, len0, cap0⟩ l0 w0) fun e W' he => ?_
  obtain ⟨x, he, hx, bel⟩ := he
  subst hx
  subst he
  exact ⟨_, rfl, _, _, _, [], _, [], hW', trodAll_mk1 (shut_bool Tryd.underlying4 _), (trodAll_cons_mk (Below.trod laidOut (by kernel_rfl) (of_decide_eq_true (by kernel_rfl)) k0 bel lt0) trodAll_mk0), rfl, bel.frame _, fun h => by cases h⟩
theorem FnExactAsmPut.over : Rows.fnExactAsmPutRow.holds Tryd.pinned (OpenSpec.ofChange Rows.fnExactAsmPutSpec) :=
  OpenClaim.holds_of_wide 6 Tryd.f6 rfl rfl rfl rfl rfl rfl rfl ⟨rfl, rfl, rfl, rfl, rfl⟩ rfl rfl rfl rfl rfl (by kernel_rfl) Tryd.func6 (by kernel_rfl)
    (of_decide_eq_true (by kernel_rfl)) (by unfold Func.isWrapper; first | (rw [if_pos (by decide +kernel)]; kernel_rfl) | (rw [if_neg (by decide +kernel)]; exact ⟨rfl, rfl⟩))
    (fun os started H enc _ => FnExactAsmPut.lifted os started H enc)
end Go.Proofs.YtkkdboimkbcfnaaDoor.V
namespace Go.Proofs.YtkkdboimkbcfnaaDoor
open Go
/-- The tied card, under a short name, for the claim. -/
theorem fnExactAsmPut_holds : Rows.FnExactAsmPutCardSaid :=
  Claim7.holds_tied_plain_at .later [] [.data, .data, .data] true (true, "c8b1638670baff05ec0d69b5462afe5779a0c11326419bc5b65c4c57f58dbdb5") true
    V.FnExactAsmPut.over (fun _ h => by cases h) (by kernel_rfl) (fun _ h => by cases h) fnExactAsmPut_row_tie rfl ⟨rfl, rfl⟩ (by kernel_rfl) rfl
    (fun f fn hf hfn => by
      obtain rfl : f = 6 := Option.some.inj ((show Tryd.prog.funcNamed "loop.example/steerage/laws.FnExactAsmPut" = some 6 by kernel_rfl).symm.trans hf) |>.symm
      obtain rfl : fn = Tryd.f6 := (Option.some.inj (Tryd.func6.symm.trans hfn)).symm
      exact ⟨by kernel_rfl, fun j t ht => by
        rw [Tryd.params6] at ht
        have h3 : t = 34 := by
          rcases j with _ | j
          · simpa using ht.symm
          · simp at ht
        subst h3
        exact (show Tryd.prog.wantsStandIn 34 = false by kernel_rfl)⟩)
    (by kernel_rfl)
#print axioms fnExactAsmPut_holds
end Go.Proofs.YtkkdboimkbcfnaaDoor
