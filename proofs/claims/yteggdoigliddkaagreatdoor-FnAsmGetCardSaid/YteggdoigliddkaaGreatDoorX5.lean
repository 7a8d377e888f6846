/- Texts of one proof, put together in build order by pack.py (the last one states what is proved). -/
import Derived.Shelf.Strings.BuilderK
import Derived.Test.YteggdoigliddkaaGreatDoorX4
/- Verification conditions, printed by this session's own program (wip/vc.py) and checked by the kernel. -/
namespace Go.Proofs.YteggdoigliddkaaGreatDoor.V
open Go Go.RowKit
set_option linter.unusedVariables false
/- impl.readReg -/
def impl.readReg.pl : Pl := (.s (.r (D 1)) (.s (.r [.d, (.c (.n [(.lf .s), (.lf .b)])), .d, .d, .d, .d, .d]) (.s (.s (.r (D 2)) (.c (.s (.r (D 1)) .z) .z)) (.s (.r [.d, (.c (.o (.lf (.i .i64)))), .d]) .z))))
def impl.readReg.vc (s : ByteArray) (w : World) (K : Int → World → Prop) : Prop :=
CallT (.n [(.lf .s), (.lf .b)]) P0 56 [(.string s), (.string ⟨#[114]⟩)] w fun (t7 : (ByteArray) × (Bool) × Unit) w_ =>
((!t7.2.1) = true → K (-2) w_) ∧
((!t7.2.1) = false → CallT (.o (.lf (.i .i64))) P0 91 [(.string t7.1)] w_ fun (t13 : Int) w__1 =>
K t13 w__1)
theorem impl.readReg.ok {s : ByteArray} {w : World} {K : Int → World → Prop} (h : impl.readReg.vc s w K) : CallT (.o (.lf (.i .i64))) P0 89 [(.string s)] w K :=
  call_of Tryz.func89 rfl rfl (pl := impl.readReg.pl) (show VC P0 Tryz.f89 impl.readReg.pl (.o (.lf (.i .i64))) [(.string s)] w K noP from Eq.mp (by kernel_rfl) h)
/- (impl.Ins).setValue -/
def impl.Ins.setValue.pl : Pl := (.s (.s (.r [.d, (.c (.o (.lf .b)))]) (.c (.s (.r [.d, .d, (.c (.o (.lf (.i .i64)))), .n, .d, .d]) .z) .z)) (.r [.d, .d, .d, (.c (.o (.lf (.i .i64)))), .n, .d, .d, .n, .d, .d]))
def impl.Ins.setValue.vc (x : Option Addr) (s : ByteArray) (w : World) (K : Unit → World → Prop) : Prop :=
CallT (.o (.lf .b)) P0 58 [(.string s), (.string ⟨#[114]⟩)] w fun (t5 : Bool) w_ =>
(t5 = true → CallT (.o (.lf (.i .i64))) P0 89 [(.string s)] w_ fun (t8 : Int) w__1 =>
Nc x w__1 fun a_t9 w__2 =>
St (Addr.add a_t9 2) (.int .i64 t8) w__2 fun w__3 =>
K () w__3) ∧
(t5 = false → CallT (.o (.lf (.i .i64))) P0 91 [(.string s)] w_ fun (t14 : Int) w__4 =>
Nc x w__4 fun a_t15 w__5 =>
St (Addr.add a_t15 2) (.int .i64 (-1)) w__5 fun w__6 =>
Nc x w__6 fun a_t17 w__7 =>
St (Addr.add a_t17 4) (.int .i64 t14) w__7 fun w__8 =>
K () w__8)
theorem impl.Ins.setValue.ok {x : Option Addr} {s : ByteArray} {w : World} {K : Unit → World → Prop} (h : impl.Ins.setValue.vc x s w K) : CallT .z P0 90 [(.pointer x), (.string s)] w K :=
  call_of Tryz.func90 rfl rfl (pl := impl.Ins.setValue.pl) (show VC P0 Tryz.f90 impl.Ins.setValue.pl .z [(.pointer x), (.string s)] w K noP from Eq.mp (by kernel_rfl) h)
/- impl.readIns -/
def impl.readIns.pl : Pl := (.s (.r (D 2)) (.s (.r [.d, .d, (.l (.lf .s)), .d]) (.s (.r (D 1)) (.j [(4, .s), (5, (.i .i64))] (.s (.r (D 3)) (.j [(33, .b)] (.r [.d, .d, (.sp .d), .d, .d, .d, .d, .d, .d, (.sp .d), .d, .d, .d, .d, .d, .d]) (.c (.s (.r (D 7)) (.r [.d, .d, .d, (.t (.o (.lf .s))), .d])) .z))) (.s (.r [(.c (.o (.ag (R 21 .s)))), .d, .d]) (.s (.r [(.t (.o (.lf .sl))), .d, (.c (.o (.lf (.i .i64)))), .d, .d]) (.s (.r (D 5)) (.s (.r (D 2)) (.s (.r (D 3)) (.j [] (.b (.j [(55, .b)] (.s (.r [.d, (.c (.o (.lf .b))), (.sp .d), .d, .d, .d, .d]) (.c .z (.r [.d, (.c (.o (.lf .b))), (.sp .d), .d, .d, .d, .d]))) (.c (.s (.r [.d, .d, (.l (.lf .s)), (.c (.o (.lf (.i .i64)))), .d, .d]) (.s (.r [.d, .d, (.l (.lf .s)), (.c .z)]) (.s (.r [.d, (.c (.o (.lf .b)))]) (.c (.r [.d, .d, (.l (.lf .s)), (.c (.o (.lf (.i .i64)))), .d, .d]) .z)))) (.j [(84, .b)] (.r [.d, .d, (.sp .d), .d, .d, .d, .d]) (.c (.r [.d, .d, (.l (.lf .s)), (.c (.o (.lf (.i .i64)))), .d, .d]) (.j [(96, .b)] (.r [.d, .d, (.sp .d), .d, .d, .d, .d]) (.c (.g [(.q, []), ((.g (.o (.lf .ad)) .d), []), ((.g (.o (.lf .s)) (.l (.lf .s))), [1]), ((.g (.o (.lf (.i .i64))) (.c (.o (.lf (.i .i64))))), [2]), (.q, []), ((.g (.o (.lf .ad)) .d), []), ((.g (.o (.lf .s)) (.l (.lf .s))), [5]), ((.g (.o (.lf (.i .i64))) (.c (.o (.lf (.i .i64))))), [6]), (.q, []), ((.g (.o (.lf .ad)) .d), []), ((.g (.o (.lf .s)) (.l (.lf .s))), [9]), ((.g (.o (.lf (.i .i64))) (.c (.o (.lf (.i .i64))))), [10]), (.q, []), ((.g .z .d), [3]), (.q, []), ((.g .z .d), [7])] [.d, .d]) (.j [(118, .b)] (.r [.d, .d, (.sp .d), .d, .d, .d, .d]) (.c (.s (.g [(.q, []), ((.g (.o (.lf .ad)) .d), []), ((.g (.o (.lf .s)) (.l (.lf .s))), [1]), ((.g (.o (.lf (.i .i64))) (.c (.o (.lf (.i .i64))))), [2]), (.q, []), ((.g (.o (.lf .ad)) .d), []), ((.g (.o (.lf .s)) (.l (.lf .s))), [5]), ((.g (.o (.lf (.i .i64))) (.c (.o (.lf (.i .i64))))), [6]), (.q, []), ((.g .z .d), [3])] [.d, .d]) (.r [.d, .d, (.l (.lf .s)), (.c .z)])) (.j [(139, .b)] (.r [.d, .d, (.sp .d), .d, .d, .d, .d]) (.c (.s (.r [(.c (.o (.ag (R 7 .s)))), .d, .d]) (.g [((.g (.o (.lf .sl)) (.t (.o (.lf .sl)))), []), (.q, []), ((.g (.o (.lf .ad)) .d), []), ((.g (.o (.lf .s)) (.l (.lf .s))), [2]), ((.g (.o (.lf (.i .i64))) (.c (.o (.lf (.i .i64))))), [0, 3]), ((.g (.o (.lf (.i .i64))) .d), [4]), (.q, [])] [.d])) (.s (.r [.d, .d, (.sp .d), .d, .d, .d, .d]) (.c (.s (.r (D 3)) .z) .z))))))))))))) (.s (.r [(.l (.ag (R 6 (.i .i64)))), .d, .d]) .z)))))))))))
def impl.readIns.vc (words : Sl) (w : World) (K : (Tup (R 6 (.i .i64))) × (Bool) × Unit → World → Prop) : Prop :=
Nw (zc P0 39) 39 w fun a_t2 w_ =>
Ix words.a words.n 0 1 w_ fun a_t14 w__1 =>
Ld .s a_t14 w__1 fun (t15 : ByteArray) w__2 =>
∃ J : ByteArray → Int → World → Prop,
(∃ J_1 : Bool → World → Prop,
(((decide (((((ByteArray.size t15) : Nat) : Int) : Int) > 1)) = true → Sx t15 (IntKind.wrap .i64 ((((ByteArray.size t15) : Nat) : Int) - 1)) w__2 fun t24 w__3 =>
((decide ((t24 : Int) ≥ 48)) = true → Sx t15 (IntKind.wrap .i64 ((((ByteArray.size t15) : Nat) : Int) - 1)) w__3 fun t31 w__4 =>
J_1 (decide ((t31 : Int) ≤ 57)) w__4) ∧
((decide ((t24 : Int) ≥ 48)) = false → J_1 false w__3)) ∧
((decide (((((ByteArray.size t15) : Nat) : Int) : Int) > 1)) = false → J_1 false w__2)) ∧
(∀ (t33 : Bool) w__5, J_1 t33 w__5 → ∀ _ : Nat → Value,
(t33 = true → Sx t15 (IntKind.wrap .i64 ((((ByteArray.size t15) : Nat) : Int) - 1)) w__5 fun t37 w__6 =>
RunT (.o (.lf .s)) P0 (Instr.sliceAt 9 (.string t15) none (some (.int .i64 (IntKind.wrap .i64 ((((ByteArray.size t15) : Nat) : Int) - 1)))) none) w__6 fun (t43 : ByteArray) w__7 =>
J t43 (IntKind.wrap .i64 (IntKind.wrap .u8 (t37 - 48))) w__7) ∧
(t33 = false → J t15 0 w__5))) ∧
(∀ (head : ByteArray) (size : Int) w__8, J head size w__8 → ∀ _ : Nat → Value,
CallT (.o (.ag (R 21 .s))) P0 65 [] w__8 fun (t44 : Tup (R 21 .s)) w__9 =>
Nw (zc P0 94) 94 w__9 fun a_names w__10 =>
StA P0 a_names (Tup.cells (R 21 .s) t44) w__10 fun w__11 =>
RunT (.o (.lf .sl)) P0 (Instr.sliceAt 94 (.pointer (some a_names)) none none none) w__11 fun (t45 : Sl) w__12 =>
CallT (.o (.lf (.i .i64))) P0 88 [t45.v, (.string head)] w__12 fun (t47 : Int) w__13 =>
Nw (zc P0 39) 39 w__13 fun a_x w__14 =>
StA P0 a_x [(.int .i64 (if (0 : Int) > t47 then 0 else t47)), (.int .i64 0), (.int .i64 (-1)), (.int .i64 0), (.int .i64 0), (.int .i64 size)] w__14 fun w__15 =>
∃ J_2 : World → Prop,
(∃ J_3 : Bool → World → Prop,
(CallT (.o (.lf .b)) P0 66 [(.int .i64 (if (0 : Int) > t47 then 0 else t47))] w__15 fun (t57 : Bool) w__16 =>
(t57 = true → (((((words.n : Nat) : Int) : Int) == 3) = true → J_3 ((((words.n : Nat) : Int) : Int) == 3) w__16) ∧
(((((words.n : Nat) : Int) : Int) == 3) = false → CallT (.o (.lf .b)) P0 69 [(.int .i64 (if (0 : Int) > t47 then 0 else t47))] w__16 fun (t63 : Bool) w__17 =>
(t63 = true → J_3 ((((words.n : Nat) : Int) : Int) == 4) w__17) ∧
(t63 = false → J_3 false w__17))) ∧
(t57 = false → CallT (.o (.lf .b)) P0 69 [(.int .i64 (if (0 : Int) > t47 then 0 else t47))] w__16 fun (t63_1 : Bool) w__18 =>
(t63_1 = true → J_3 ((((words.n : Nat) : Int) : Int) == 4) w__18) ∧
(t63_1 = false → J_3 false w__18))) ∧
(∀ (t55 : Bool) w__19, J_3 t55 w__19 → ∀ _ : Nat → Value,
(t55 = true → Ix words.a words.n 1 1 w__19 fun a_t69 w__20 =>
Ld .s a_t69 w__20 fun (t70 : ByteArray) w__21 =>
CallT (.o (.lf (.i .i64))) P0 89 [(.string t70)] w__21 fun (t71 : Int) w__22 =>
St (Addr.add a_x 1) (.int .i64 t71) w__22 fun w__23 =>
Ix words.a words.n 2 1 w__23 fun a_t74 w__24 =>
Ld .s a_t74 w__24 fun (t75 : ByteArray) w__25 =>
CallT .z P0 90 [(.pointer (some a_x)), (.string t75)] w__25 fun (u : Unit) w__26 =>
CallT (.o (.lf .b)) P0 69 [(.int .i64 (if (0 : Int) > t47 then 0 else t47))] w__26 fun (t78 : Bool) w__27 =>
(t78 = true → Ix words.a words.n 3 1 w__27 fun a_t80 w__28 =>
Ld .s a_t80 w__28 fun (t81 : ByteArray) w__29 =>
CallT (.o (.lf (.i .i64))) P0 91 [(.string t81)] w__29 fun (t82 : Int) w__30 =>
St (Addr.add a_x 3) (.int .i64 t82) w__30 fun w__31 =>
J_2 w__31) ∧
(t78 = false → J_2 w__27)) ∧
(t55 = false → ∃ J_4 : Bool → World → Prop,
(((((if (0 : Int) > t47 then 0 else t47) : Int) == 16) = true → J_4 ((((words.n : Nat) : Int) : Int) == 2) w__19) ∧
((((if (0 : Int) > t47 then 0 else t47) : Int) == 16) = false → J_4 false w__19)) ∧
(∀ (t84 : Bool) w__32, J_4 t84 w__32 → ∀ _ : Nat → Value,
(t84 = true → Ix words.a words.n 1 1 w__32 fun a_t92 w__33 =>
Ld .s a_t92 w__33 fun (t93 : ByteArray) w__34 =>
CallT (.o (.lf (.i .i64))) P0 91 [(.string t93)] w__34 fun (t94 : Int) w__35 =>
St (Addr.add a_x 3) (.int .i64 t94) w__35 fun w__36 =>
J_2 w__36) ∧
(t84 = false → ∃ J_5 : Bool → World → Prop,
(((((if (0 : Int) > t47 then 0 else t47) : Int) == 17) = true → J_5 ((((words.n : Nat) : Int) : Int) == 4) w__32) ∧
((((if (0 : Int) > t47 then 0 else t47) : Int) == 17) = false → J_5 false w__32)) ∧
(∀ (t96 : Bool) w__37, J_5 t96 w__37 → ∀ _ : Nat → Value,
(t96 = true → ∃ Sp : World → World → Prop, SpOk Sp w__37 ∧
∃ G_t104 : Addr → World → Prop, Kept Sp G_t104 ∧
∃ G_t105 : ByteArray → World → Prop, Kept Sp G_t105 ∧
∃ G_t106 : Int → World → Prop, Kept Sp G_t106 ∧
∃ G_t108 : Addr → World → Prop, Kept Sp G_t108 ∧
∃ G_t109 : ByteArray → World → Prop, Kept Sp G_t109 ∧
∃ G_t110 : Int → World → Prop, Kept Sp G_t110 ∧
∃ G_t112 : Addr → World → Prop, Kept Sp G_t112 ∧
∃ G_t113 : ByteArray → World → Prop, Kept Sp G_t113 ∧
∃ G_t114 : Int → World → Prop, Kept Sp G_t114 ∧
∃ G_st : Unit → World → Prop, Kept Sp G_st ∧
∃ G_st_1 : Unit → World → Prop, Kept Sp G_st_1 ∧
(∀ w__38, Sp w__37 w__38 → Ix words.a words.n 1 1 w__38 fun a_t104 w__39 =>
GK (.o (.lf .ad)) Sp w__38 G_t104 (.pointer (some a_t104)) w__39) ∧
∀ (t104 : Addr), (∀ w__40, Sp w__37 w__40 → G_t104 t104 w__40 → Ld .s t104 w__40 fun (t105 : ByteArray) w__41 =>
GK (.o (.lf .s)) Sp w__40 G_t105 (.string t105) w__41) ∧
∀ (t105_1 : ByteArray), (∀ w__42, Sp w__37 w__42 → G_t105 t105_1 w__42 → CallT (.o (.lf (.i .i64))) P0 89 [(.string t105_1)] w__42 fun (t106 : Int) w__43 =>
GK (.o (.lf (.i .i64))) Sp w__42 G_t106 (.int .i64 t106) w__43) ∧
∀ (t106_1 : Int), (∀ w__44, Sp w__37 w__44 → Ix words.a words.n 2 1 w__44 fun a_t108 w__45 =>
GK (.o (.lf .ad)) Sp w__44 G_t108 (.pointer (some a_t108)) w__45) ∧
∀ (t108 : Addr), (∀ w__46, Sp w__37 w__46 → G_t108 t108 w__46 → Ld .s t108 w__46 fun (t109 : ByteArray) w__47 =>
GK (.o (.lf .s)) Sp w__46 G_t109 (.string t109) w__47) ∧
∀ (t109_1 : ByteArray), (∀ w__48, Sp w__37 w__48 → G_t109 t109_1 w__48 → CallT (.o (.lf (.i .i64))) P0 89 [(.string t109_1)] w__48 fun (t110 : Int) w__49 =>
GK (.o (.lf (.i .i64))) Sp w__48 G_t110 (.int .i64 t110) w__49) ∧
∀ (t110_1 : Int), (∀ w__50, Sp w__37 w__50 → Ix words.a words.n 3 1 w__50 fun a_t112 w__51 =>
GK (.o (.lf .ad)) Sp w__50 G_t112 (.pointer (some a_t112)) w__51) ∧
∀ (t112 : Addr), (∀ w__52, Sp w__37 w__52 → G_t112 t112 w__52 → Ld .s t112 w__52 fun (t113 : ByteArray) w__53 =>
GK (.o (.lf .s)) Sp w__52 G_t113 (.string t113) w__53) ∧
∀ (t113_1 : ByteArray), (∀ w__54, Sp w__37 w__54 → G_t113 t113_1 w__54 → CallT (.o (.lf (.i .i64))) P0 91 [(.string t113_1)] w__54 fun (t114 : Int) w__55 =>
GK (.o (.lf (.i .i64))) Sp w__54 G_t114 (.int .i64 t114) w__55) ∧
∀ (t114_1 : Int), (∀ w__56, Sp w__37 w__56 → G_t106 t106_1 w__56 → St (Addr.add a_x 1) (.int .i64 t106_1) w__56 fun w__57 =>
GK .z Sp w__56 G_st (.tuple #[]) w__57) ∧
∀ (st : Unit), (∀ w__58, Sp w__37 w__58 → G_t110 t110_1 w__58 → St (Addr.add a_x 2) (.int .i64 t110_1) w__58 fun w__59 =>
GK .z Sp w__58 G_st_1 (.tuple #[]) w__59) ∧
∀ (st_1 : Unit), ∀ w__60, Sp w__37 w__60 → G_t104 t104 w__60 → G_t105 t105_1 w__60 → G_t106 t106_1 w__60 → G_t108 t108 w__60 → G_t109 t109_1 w__60 → G_t110 t110_1 w__60 → G_t112 t112 w__60 → G_t113 t113_1 w__60 → G_t114 t114_1 w__60 → G_st st w__60 → G_st_1 st_1 w__60 → 
St (Addr.add a_x 3) (.int .i64 t114_1) w__60 fun w__61 =>
J_2 w__61) ∧
(t96 = false → ∃ J_6 : Bool → World → Prop,
(((((if (0 : Int) > t47 then 0 else t47) : Int) == 18) = true → J_6 ((((words.n : Nat) : Int) : Int) == 4) w__37) ∧
((((if (0 : Int) > t47 then 0 else t47) : Int) == 18) = false → J_6 false w__37)) ∧
(∀ (t118 : Bool) w__62, J_6 t118 w__62 → ∀ _ : Nat → Value,
(t118 = true → ∃ Sp_1 : World → World → Prop, SpOk Sp_1 w__62 ∧
∃ G_t126 : Addr → World → Prop, Kept Sp_1 G_t126 ∧
∃ G_t127 : ByteArray → World → Prop, Kept Sp_1 G_t127 ∧
∃ G_t128 : Int → World → Prop, Kept Sp_1 G_t128 ∧
∃ G_t130 : Addr → World → Prop, Kept Sp_1 G_t130 ∧
∃ G_t131 : ByteArray → World → Prop, Kept Sp_1 G_t131 ∧
∃ G_t132 : Int → World → Prop, Kept Sp_1 G_t132 ∧
∃ G_st_1 : Unit → World → Prop, Kept Sp_1 G_st_1 ∧
(∀ w__63, Sp_1 w__62 w__63 → Ix words.a words.n 1 1 w__63 fun a_t126 w__64 =>
GK (.o (.lf .ad)) Sp_1 w__63 G_t126 (.pointer (some a_t126)) w__64) ∧
∀ (t126 : Addr), (∀ w__65, Sp_1 w__62 w__65 → G_t126 t126 w__65 → Ld .s t126 w__65 fun (t127 : ByteArray) w__66 =>
GK (.o (.lf .s)) Sp_1 w__65 G_t127 (.string t127) w__66) ∧
∀ (t127_1 : ByteArray), (∀ w__67, Sp_1 w__62 w__67 → G_t127 t127_1 w__67 → CallT (.o (.lf (.i .i64))) P0 89 [(.string t127_1)] w__67 fun (t128 : Int) w__68 =>
GK (.o (.lf (.i .i64))) Sp_1 w__67 G_t128 (.int .i64 t128) w__68) ∧
∀ (t128_1 : Int), (∀ w__69, Sp_1 w__62 w__69 → Ix words.a words.n 2 1 w__69 fun a_t130 w__70 =>
GK (.o (.lf .ad)) Sp_1 w__69 G_t130 (.pointer (some a_t130)) w__70) ∧
∀ (t130 : Addr), (∀ w__71, Sp_1 w__62 w__71 → G_t130 t130 w__71 → Ld .s t130 w__71 fun (t131 : ByteArray) w__72 =>
GK (.o (.lf .s)) Sp_1 w__71 G_t131 (.string t131) w__72) ∧
∀ (t131_1 : ByteArray), (∀ w__73, Sp_1 w__62 w__73 → G_t131 t131_1 w__73 → CallT (.o (.lf (.i .i64))) P0 91 [(.string t131_1)] w__73 fun (t132 : Int) w__74 =>
GK (.o (.lf (.i .i64))) Sp_1 w__73 G_t132 (.int .i64 t132) w__74) ∧
∀ (t132_1 : Int), (∀ w__75, Sp_1 w__62 w__75 → G_t128 t128_1 w__75 → St (Addr.add a_x 1) (.int .i64 t128_1) w__75 fun w__76 =>
GK .z Sp_1 w__75 G_st_1 (.tuple #[]) w__76) ∧
∀ (st_2 : Unit), ∀ w__77, Sp_1 w__62 w__77 → G_t126 t126 w__77 → G_t127 t127_1 w__77 → G_t128 t128_1 w__77 → G_t130 t130 w__77 → G_t131 t131_1 w__77 → G_t132 t132_1 w__77 → G_st_1 st_2 w__77 → 
St (Addr.add a_x 3) (.int .i64 t132_1) w__77 fun w__78 =>
Ix words.a words.n 3 1 w__78 fun a_t136 w__79 =>
Ld .s a_t136 w__79 fun (t137 : ByteArray) w__80 =>
CallT .z P0 90 [(.pointer (some a_x)), (.string t137)] w__80 fun (u_1 : Unit) w__81 =>
J_2 w__81) ∧
(t118 = false → ∃ J_7 : Bool → World → Prop,
(((((if (0 : Int) > t47 then 0 else t47) : Int) == 19) = true → J_7 ((((words.n : Nat) : Int) : Int) == 2) w__62) ∧
((((if (0 : Int) > t47 then 0 else t47) : Int) == 19) = false → J_7 false w__62)) ∧
(∀ (t139 : Bool) w__82, J_7 t139 w__82 → ∀ _ : Nat → Value,
(t139 = true → CallT (.o (.ag (R 7 .s))) P0 70 [] w__82 fun (t146 : Tup (R 7 .s)) w__83 =>
Nw (zc P0 96) 96 w__83 fun a_calls w__84 =>
StA P0 a_calls (Tup.cells (R 7 .s) t146) w__84 fun w__85 =>
∃ Sp_2 : World → World → Prop, SpOk Sp_2 w__85 ∧
∃ G_t147 : Sl → World → Prop, Kept Sp_2 G_t147 ∧
∃ G_t149 : Addr → World → Prop, Kept Sp_2 G_t149 ∧
∃ G_t150 : ByteArray → World → Prop, Kept Sp_2 G_t150 ∧
∃ G_t151 : Int → World → Prop, Kept Sp_2 G_t151 ∧
∃ G_t152 : Int → World → Prop, Kept Sp_2 G_t152 ∧
(∀ w__86, Sp_2 w__85 w__86 → RunT (.o (.lf .sl)) P0 (Instr.sliceAt 96 (.pointer (some a_calls)) none none none) w__86 fun (t147 : Sl) w__87 =>
GK (.o (.lf .sl)) Sp_2 w__86 G_t147 t147.v w__87) ∧
∀ (t147_1 : Sl), (∀ w__88, Sp_2 w__85 w__88 → Ix words.a words.n 1 1 w__88 fun a_t149 w__89 =>
GK (.o (.lf .ad)) Sp_2 w__88 G_t149 (.pointer (some a_t149)) w__89) ∧
∀ (t149 : Addr), (∀ w__90, Sp_2 w__85 w__90 → G_t149 t149 w__90 → Ld .s t149 w__90 fun (t150 : ByteArray) w__91 =>
GK (.o (.lf .s)) Sp_2 w__90 G_t150 (.string t150) w__91) ∧
∀ (t150_1 : ByteArray), (∀ w__92, Sp_2 w__85 w__92 → G_t147 t147_1 w__92 → G_t150 t150_1 w__92 → CallT (.o (.lf (.i .i64))) P0 88 [t147_1.v, (.string t150_1)] w__92 fun (t151 : Int) w__93 =>
GK (.o (.lf (.i .i64))) Sp_2 w__92 G_t151 (.int .i64 t151) w__93) ∧
∀ (t151_1 : Int), (∀ w__94, Sp_2 w__85 w__94 → G_t151 t151_1 w__94 → GK (.o (.lf (.i .i64))) Sp_2 w__94 G_t152 (.int .i64 (if (0 : Int) > t151_1 then 0 else t151_1)) w__94) ∧
∀ (t152 : Int), ∀ w__95, Sp_2 w__85 w__95 → G_t147 t147_1 w__95 → G_t149 t149 w__95 → G_t150 t150_1 w__95 → G_t151 t151_1 w__95 → G_t152 t152 w__95 → 
St (Addr.add a_x 4) (.int .i64 t152) w__95 fun w__96 =>
J_2 w__96) ∧
(t139 = false → ((((if (0 : Int) > t47 then 0 else t47) : Int) != 20) = true → StA P0 a_t2 [(.int .i64 0), (.int .i64 0), (.int .i64 0), (.int .i64 0), (.int .i64 0), (.int .i64 0)] w__82 fun w__97 =>
LdA (R 6 (.i .i64)) a_t2 w__97 fun r w__98 =>
K (r, (false, ())) w__97) ∧
((((if (0 : Int) > t47 then 0 else t47) : Int) != 20) = false → (((((words.n : Nat) : Int) : Int) != 1) = true → StA P0 a_t2 [(.int .i64 0), (.int .i64 0), (.int .i64 0), (.int .i64 0), (.int .i64 0), (.int .i64 0)] w__82 fun w__99 =>
LdA (R 6 (.i .i64)) a_t2 w__99 fun r_1 w__100 =>
K (r_1, (false, ())) w__99) ∧
(((((words.n : Nat) : Int) : Int) != 1) = false → J_2 w__82))))))))))))) ∧
(∀  w__101, J_2 w__101 → ∀ _ : Nat → Value,
LdA (R 6 (.i .i64)) a_x w__101 fun (t162 : Tup (R 6 (.i .i64))) w__102 =>
StA P0 a_t2 (Tup.cells (R 6 (.i .i64)) t162) w__102 fun w__103 =>
LdA (R 6 (.i .i64)) a_t2 w__103 fun r_2 w__104 =>
K (r_2, (true, ())) w__103))
theorem impl.readIns.ok {words : Sl} {w : World} {K : (Tup (R 6 (.i .i64))) × (Bool) × Unit → World → Prop} (h : impl.readIns.vc words w K) : CallT (.n [(.ag (R 6 (.i .i64))), (.lf .b)]) P0 59 [words.v] w K :=
  call_of Tryz.func59 rfl rfl (pl := impl.readIns.pl) (show VC P0 Tryz.f59 impl.readIns.pl (.n [(.ag (R 6 (.i .i64))), (.lf .b)]) [words.v] w K noP from Eq.mp (by kernel_rfl) h)
/- (impl.asm).take -/
def impl.asm.take.pl : Pl := (.s (.r (D 1)) (.s (.s (.r [.d, (.c (.n [(.lf .s), (.lf .b)])), .d, .d, .d, .d, .d]) (.s (.r (D 1)) (.c (.s (.g [(.q, []), ((.g (.o (.lf .ad)) .n), []), (.q, [1]), ((.g (.o (.lf .m)) (.l (.lf .m))), [1]), (.q, []), (.q, []), ((.g (.o (.lf .ad)) .n), []), (.q, [6]), ((.g (.o (.lf .sl)) (.l (.lf .sl))), [6]), (.q, [8])] [.u]) (.s (.r (D 1)) .z)) .z))) (.s (.r [.d, (.c (.n [(.lf .s), (.lf .b)])), .d, .d, .d, .d, .d]) (.s (.r [.d, (.c (.o (.lf .sl))), .d]) (.s (.r [.d, .d, .d, .d, .d, (.l (.lf .s)), .d]) (.j [] (.j [(48, .b)] (.r [.d, (.c (.o (.lf .b))), (.sp .d), .d, .d, .d, .d]) (.c (.s (.g [(.q, []), ((.g (.o (.lf .ad)) .n), []), (.q, [1]), ((.g (.o (.lf .m)) (.l (.lf .m))), [1]), (.q, []), ((.g (.o (.lf .ad)) .n), []), (.q, [5]), ((.g (.o (.lf .sl)) (.l (.lf .sl))), [5]), (.q, [7]), (.q, [])] [.u]) (.r (D 6))) .z)) (.s (.r [.d, (.c (.n [(.ag (R 6 (.i .i64))), (.lf .b)])), .d, .d, .d, .d, .d, .d]) (.s (.x [(.q, []), (.q, []), ((.g (.o (.lf .ad)) .n), []), (.q, [2]), ((.g (.o (.lf .sl)) (.l (.lf .sl))), [2]), ((.g (.o (.ag (R 6 (.i .i64)))) (.l (.ag (R 6 (.i .i64))))), []), ((.g (.o (.lf .sl)) .d), [5]), ((.h (.o (.lf .sl)) (.t (.o (.lf .sl)))), [4, 6]), ((.g (.o (.lf .ad)) .n), []), (.q, [8])] [.d]) (.s (.r [.d, (.sp .d), .d, .d, .d]) .z)))))))))
def impl.asm.take.vc (a : Option Addr) (line : ByteArray) (w : World) (K : Bool → World → Prop) : Prop :=
CallT (.n [(.lf .s), (.lf .b)]) P0 55 [(.string line), (.string ⟨#[58]⟩)] w fun (t15 : (ByteArray) × (Bool) × Unit) w_ =>
(t15.2.1 = true → ∃ Sp : World → World → Prop, SpOk Sp w_ ∧
∃ G_t20 : Addr → World → Prop, Kept Sp G_t20 ∧
∃ G_t22 : Option Nat → World → Prop, Kept Sp G_t22 ∧
∃ G_t25 : Addr → World → Prop, Kept Sp G_t25 ∧
∃ G_t27 : Sl → World → Prop, Kept Sp G_t27 ∧
(∀ w__1, Sp w_ w__1 → Nc a w__1 fun a_t20 w__2 =>
GK (.o (.lf .ad)) Sp w__1 G_t20 (.pointer (some a_t20)) w__2) ∧
∀ (t20 : Addr), (∀ w__3, Sp w_ w__3 → G_t20 t20 w__3 → Ld .m (Addr.add t20 1) w__3 fun (t22 : Option Nat) w__4 =>
GK (.o (.lf .m)) Sp w__3 G_t22 (.map t22) w__4) ∧
∀ (t22_1 : Option Nat), (∀ w__5, Sp w_ w__5 → Nc a w__5 fun a_t25 w__6 =>
GK (.o (.lf .ad)) Sp w__5 G_t25 (.pointer (some a_t25)) w__6) ∧
∀ (t25 : Addr), (∀ w__7, Sp w_ w__7 → G_t25 t25 w__7 → Ld .sl (Addr.add t25 0) w__7 fun (t27 : Sl) w__8 =>
GK (.o (.lf .sl)) Sp w__7 G_t27 t27.v w__8) ∧
∀ (t27_1 : Sl), ∀ w__9, Sp w_ w__9 → G_t20 t20 w__9 → G_t22 t22_1 w__9 → G_t25 t25 w__9 → G_t27 t27_1 w__9 → 
RunU P0 (Instr.mapUpdate 43 (.map t22_1) (.string t15.1) (.int .i64 ((t27_1.n : Nat) : Int))) w__9 fun w__10 =>
K true w__10) ∧
(t15.2.1 = false → CallT (.n [(.lf .s), (.lf .b)]) P0 56 [(.string line), (.string ⟨#[32]⟩)] w_ fun (t31 : (ByteArray) × (Bool) × Unit) w__11 =>
CallT (.o (.lf .sl)) P0 57 [(.string t31.1), (.string ⟨#[32]⟩)] w__11 fun (t35 : Sl) w__12 =>
Ix t35.a t35.n (IntKind.wrap .i64 (((t35.n : Nat) : Int) - 1)) 1 w__12 fun a_t40 w__13 =>
Ld .s a_t40 w__13 fun (t41 : ByteArray) w__14 =>
∃ J : World → Prop,
(∃ J_1 : Bool → World → Prop,
(CallT (.o (.lf .b)) P0 58 [(.string t41), (.string ⟨#[109]⟩)] w__14 fun (t43 : Bool) w__15 =>
(t43 = true → J_1 (decide ((((t35.n : Nat) : Int) : Int) > 1)) w__15) ∧
(t43 = false → J_1 false w__15)) ∧
(∀ (t48 : Bool) w__16, J_1 t48 w__16 → ∀ _ : Nat → Value,
(t48 = true → ∃ Sp_1 : World → World → Prop, SpOk Sp_1 w__16 ∧
∃ G_t50 : Addr → World → Prop, Kept Sp_1 G_t50 ∧
∃ G_t52 : Option Nat → World → Prop, Kept Sp_1 G_t52 ∧
∃ G_t54 : Addr → World → Prop, Kept Sp_1 G_t54 ∧
∃ G_t56 : Sl → World → Prop, Kept Sp_1 G_t56 ∧
(∀ w__17, Sp_1 w__16 w__17 → Nc a w__17 fun a_t50 w__18 =>
GK (.o (.lf .ad)) Sp_1 w__17 G_t50 (.pointer (some a_t50)) w__18) ∧
∀ (t50 : Addr), (∀ w__19, Sp_1 w__16 w__19 → G_t50 t50 w__19 → Ld .m (Addr.add t50 2) w__19 fun (t52 : Option Nat) w__20 =>
GK (.o (.lf .m)) Sp_1 w__19 G_t52 (.map t52) w__20) ∧
∀ (t52_1 : Option Nat), (∀ w__21, Sp_1 w__16 w__21 → Nc a w__21 fun a_t54 w__22 =>
GK (.o (.lf .ad)) Sp_1 w__21 G_t54 (.pointer (some a_t54)) w__22) ∧
∀ (t54 : Addr), (∀ w__23, Sp_1 w__16 w__23 → G_t54 t54 w__23 → Ld .sl (Addr.add t54 0) w__23 fun (t56 : Sl) w__24 =>
GK (.o (.lf .sl)) Sp_1 w__23 G_t56 t56.v w__24) ∧
∀ (t56_1 : Sl), ∀ w__25, Sp_1 w__16 w__25 → G_t50 t50 w__25 → G_t52 t52_1 w__25 → G_t54 t54 w__25 → G_t56 t56_1 w__25 → 
RunU P0 (Instr.mapUpdate 44 (.map t52_1) (.int .i64 ((t56_1.n : Nat) : Int)) (.string t41)) w__25 fun w__26 =>
Ix t35.a t35.n (IntKind.wrap .i64 (((t35.n : Nat) : Int) - 1)) 1 w__26 fun a_t63 w__27 =>
St a_t63 (.string ⟨#[48]⟩) w__27 fun w__28 =>
J w__28) ∧
(t48 = false → J w__16))) ∧
(∀  w__29, J w__29 → ∀ _ : Nat → Value,
CallT (.n [(.ag (R 6 (.i .i64))), (.lf .b)]) P0 59 [t35.v] w__29 fun (t66 : (Tup (R 6 (.i .i64))) × (Bool) × Unit) w__30 =>
Nw (zc P0 39) 39 w__30 fun a_x w__31 =>
StA P0 a_x (Tup.cells (R 6 (.i .i64)) t66.1) w__31 fun w__32 =>
∃ Sp_2 : World → World → Prop, SpOk Sp_2 w__32 ∧
∃ Sq : World → World → Prop, QOk Sp_2 Sq ∧
∃ N : World → Prop, NOk N w__32 ∧ KeptN Sq N ∧
∃ G_t71 : Addr → World → Prop, Kept Sp_2 G_t71 ∧
∃ G_t73 : Sl → World → Prop, Kept Sp_2 G_t73 ∧
∃ G_t74 : Tup (R 6 (.i .i64)) → World → Prop, Kept Sp_2 G_t74 ∧
∃ G_t75 : Sl → World → Prop, Kept Sp_2 G_t75 ∧
∃ G_t76 : Sl → World → Prop, Kept Sq G_t76 ∧
∃ G_t77 : Addr → World → Prop, Kept Sp_2 G_t77 ∧
(∀ w__33, Sp_2 w__32 w__33 → Nc a w__33 fun a_t71 w__34 =>
GK (.o (.lf .ad)) (Sb (World.heap w__32).size Sq) w__33 G_t71 (.pointer (some a_t71)) w__34) ∧
∀ (t71 : Addr), (∀ w__35, Sp_2 w__32 w__35 → G_t71 t71 w__35 → Ld .sl (Addr.add t71 0) w__35 fun (t73 : Sl) w__36 =>
GK (.o (.lf .sl)) (Sb (World.heap w__32).size Sq) w__35 G_t73 t73.v w__36) ∧
∀ (t73_1 : Sl), (∀ w__37, Sp_2 w__32 w__37 → LdA (R 6 (.i .i64)) a_x w__37 fun (t74 : Tup (R 6 (.i .i64))) w__38 =>
GK (.o (.ag (R 6 (.i .i64)))) (Sb (World.heap w__32).size Sq) w__37 G_t74 (.agg (Tup.cells (R 6 (.i .i64)) t74).toArray) w__38) ∧
∀ (t74_1 : Tup (R 6 (.i .i64))), (∀ w__39, Sp_2 w__32 w__39 → G_t74 t74_1 w__39 → Nw #[(.int .i64 t74_1.1), (.int .i64 t74_1.2.1), (.int .i64 t74_1.2.2.1), (.int .i64 t74_1.2.2.2.1), (.int .i64 t74_1.2.2.2.2.1), (.int .i64 t74_1.2.2.2.2.2.1)] 39 w__39 fun a_t75 w__40 =>
GK (.o (.lf .sl)) (Sb (World.heap w__32).size Sq) w__39 G_t75 (.slice (some a_t75) 1 1) w__40) ∧
∀ (t75 : Sl), (∀ w__41, Sp_2 w__32 w__41 → N w__41 → G_t73 t73_1 w__41 → G_t75 t75 w__41 → RunT (.o (.lf .sl)) P0 (Builtin.append_ #[22, 22] 22 #[t73_1.v, t75.v]) w__41 fun (t76 : Sl) w__42 =>
GK (.o (.lf .sl)) (Sb (World.heap w__32).size Sp_2) w__41 G_t76 t76.v w__42) ∧
∀ (t76_1 : Sl), (∀ w__43, Sp_2 w__32 w__43 → Nc a w__43 fun a_t77 w__44 =>
GK (.o (.lf .ad)) (Sb (World.heap w__32).size Sq) w__43 G_t77 (.pointer (some a_t77)) w__44) ∧
∀ (t77 : Addr), ∀ w__45, Sp_2 w__32 w__45 → G_t71 t71 w__45 → G_t73 t73_1 w__45 → G_t74 t74_1 w__45 → G_t75 t75 w__45 → G_t76 t76_1 w__45 → G_t77 t77 w__45 → BxD (World.heap w__32).size w__45 [] → 
St (Addr.add t77 0) t76_1.v w__45 fun w__46 =>
(t31.2.1 = true → K t66.2.1 w__46) ∧
(t31.2.1 = false → K false w__46)))
theorem impl.asm.take.ok {a : Option Addr} {line : ByteArray} {w : World} {K : Bool → World → Prop} (h : impl.asm.take.vc a line w K) : CallT (.o (.lf .b)) P0 22 [(.pointer a), (.string line)] w K :=
  call_of Tryz.func22 rfl rfl (pl := impl.asm.take.pl) (show VC P0 Tryz.f22 impl.asm.take.pl (.o (.lf .b)) [(.pointer a), (.string line)] w K noP from Eq.mp (by kernel_rfl) h)
/- impl.AsmGet -/
def impl.AsmGet.pl : Pl := (.s (.r (D 2)) (.s (.r [(.t (.o (.lf .m))), (.t (.o (.lf .m))), .d, .d, .d]) (.j [] (.s (.r (D 2)) (.b (.l [(5, .s)] (.j [] (.s (.r [.d, .d, (.sp .d), .d, .d, .d, (.l (.lf .sl)), .d, .d, .d]) (.c .z .z)) (.b (.s (.r [.d, (.c (.n [(.lf .s), (.lf .s), (.lf .b)])), .d, .d, .d, .d, .d, .d, .d]) (.s (.s (.r [.d, .d, (.c (.o (.lf .b))), .d]) (.c (.s (.r (D 2)) .z) .z)) (.r (D 2))))))))) (.s (.s (.r [.d, .d, .d, (.l (.lf .m)), (.t (.o (.lf .ad)))]) (.b (.l [] (.s (.r (D 2)) (.s (.c .z .z) (.b (.s (.r [(.t (.n [(.lf (.i .i64)), (.lf .s)])), .d, .d, .d, .d]) (.s (.r [.d, .d, .d, (.l (.lf .m)), .d, (.t (.n [(.lf (.i .i64)), (.lf .b)])), .d, .d, .d, .d, .d]) (.s (.s (.r (D 2)) (.c (.s (.r (D 2)) .z) .z)) (.r [.d, .d, .d, (.l (.lf .sl)), .d, .d, .d, .d, .d, .d, .d, .d])))))))))) (.s (.s (.r [.d, .d, .d, (.l (.lf .sl)), (.c (.o (.lf (.i .i64)))), .d, (.sp .d), .d, .d, .d, (.l (.lf .sl)), (.c (.o (.lf .s))), .d, .d, .d]) (.c (.s (.r (D 2)) .z) .z)) (.s (.r [.d, .d, .d, (.l (.lf .sl)), (.c (.o (.lf .sl))), .d, .d]) .z))))))
def impl.AsmGet.vc (s : ByteArray) (w : World) (K : (Sl) × (Bool) × Unit → World → Prop) : Prop :=
RunT (.o (.lf .m)) P0 (Instr.makeMap 43 none) w fun (t13 : Option Nat) w_ =>
RunT (.o (.lf .m)) P0 (Instr.makeMap 44 none) w_ fun (t14 : Option Nat) w__1 =>
Nw #[(.slice none 0 0), (.map t13), (.map t14)] 46 w__1 fun a_t16 w__2 =>
∃ J : World → Prop,
(∃ (I : ByteArray → World → Prop) (M : ByteArray → World → Nat),
I s w__2 ∧
(∀ (rest : ByteArray) w__3, I rest w__3 → ∀ _ : Nat → Value,
∃ J_1 : World → Prop,
(((!(ByteArray.toList rest == ByteArray.toList (⟨#[]⟩ : ByteArray))) = true → Ld .sl (Addr.add a_t16 0) w__3 fun (t24 : Sl) w__4 =>
((decide ((((t24.n : Nat) : Int) : Int) ≤ 48)) = true → J_1 w__4) ∧
((decide ((((t24.n : Nat) : Int) : Int) ≤ 48)) = false → J w__4)) ∧
((!(ByteArray.toList rest == ByteArray.toList (⟨#[]⟩ : ByteArray))) = false → J w__3)) ∧
(∀  w__5, J_1 w__5 → ∀ _ : Nat → Value,
CallT (.n [(.lf .s), (.lf .s), (.lf .b)]) P0 21 [(.string rest), (.string ⟨#[10]⟩)] w__5 fun (t30 : (ByteArray) × (ByteArray) × (Bool) × Unit) w__6 =>
CallT (.o (.lf .b)) P0 22 [(.pointer (some a_t16)), (.string t30.1)] w__6 fun (t36 : Bool) w__7 =>
((!t36) = true → K (⟨none, 0, 0⟩, (false, ())) w__7) ∧
((!t36) = false → (I t30.2.1 w__7 ∧ M t30.2.1 w__7 < M rest w__3))))) ∧
(∀  w__8, J w__8 → ∀ _ : Nat → Value,
Ld .m (Addr.add a_t16 2) w__8 fun (t42 : Option Nat) w__9 =>
RunT (.o (.lf .ad)) P0 (Instr.range 44 (.map t42)) w__9 fun (t43 : Addr) w__10 =>
∃ (I_1 : World → Prop) (M_1 : World → Nat),
I_1 w__10 ∧
(∀  w__11, I_1 w__11 → ∀ _ : Nat → Value,
Nx P0 (.pointer (some t43)) false 0 w__11 fun more rest_1 w__12 =>
(more = true → RunT (.n [(.lf (.i .i64)), (.lf .s)]) P0 (Instr.entry (.pointer (some t43))) w__12 fun (t46 : (Int) × (ByteArray) × Unit) w__13 =>
Ld .m (Addr.add a_t16 1) w__13 fun (t53 : Option Nat) w__14 =>
RunT (.n [(.lf (.i .i64)), (.lf .b)]) P0 (Instr.lookup 43 (.map t53) (.string t46.2.1) true) w__14 fun (t55 : (Int) × (Bool) × Unit) w__15 =>
((!t55.2.1) = true → K (⟨none, 0, 0⟩, (false, ())) w__15) ∧
((!t55.2.1) = false → Ld .sl (Addr.add a_t16 0) w__15 fun (t63 : Sl) w__16 =>
Ix t63.a t63.n t46.1 6 w__16 fun a_t69 w__17 =>
St (Addr.add a_t69 3) (.int .i64 (IntKind.wrap .i64 ((IntKind.wrap .i64 (t55.1 - t46.1)) - 1))) w__17 fun w__18 =>
(I_1 w__18 ∧ M_1 w__18 < M_1 w__11))) ∧
(more = false → Ld .sl (Addr.add a_t16 0) w__12 fun (t74 : Sl) w__19 =>
CallT (.o (.lf (.i .i64))) P0 14 [t74.v] w__19 fun (t75 : Int) w__20 =>
(((t75 : Int) != 0) = true → K (⟨none, 0, 0⟩, (false, ())) w__20) ∧
(((t75 : Int) != 0) = false → Ld .sl (Addr.add a_t16 0) w__20 fun (t81 : Sl) w__21 =>
CallT (.o (.lf .s)) P0 12 [t81.v] w__21 fun (t82 : ByteArray) w__22 =>
((!(ByteArray.toList t82 == ByteArray.toList s)) = true → K (⟨none, 0, 0⟩, (false, ())) w__22) ∧
((!(ByteArray.toList t82 == ByteArray.toList s)) = false → Ld .sl (Addr.add a_t16 0) w__22 fun (t89 : Sl) w__23 =>
CallT (.o (.lf .sl)) P0 23 [t89.v] w__23 fun (t90 : Sl) w__24 =>
K (t90, (true, ())) w__24)))))
theorem impl.AsmGet.ok {s : ByteArray} {w : World} {K : (Sl) × (Bool) × Unit → World → Prop} (h : impl.AsmGet.vc s w K) : CallT (.n [(.lf .sl), (.lf .b)]) P0 7 [(.string s)] w K :=
  call_of Tryz.func7 rfl rfl (pl := impl.AsmGet.pl) (show VC P0 Tryz.f7 impl.AsmGet.pl (.n [(.lf .sl), (.lf .b)]) [(.string s)] w K noP from Eq.mp (by kernel_rfl) h)
/- slices.Clip[[]impl.Ins,impl.Ins] -/
def slices.Clip_Ins.pl : Pl := (.s (.r (D 1)) (.s (.r [.d, .d, .d, .d, .d, (.t (.o (.lf .sl))), .d]) .z))
def slices.Clip_Ins.vc (s : Sl) (w : World) (K : Sl → World → Prop) : Prop :=
RunT (.o (.lf .sl)) P0 (Instr.sliceAt 22 s.v none (some (.int .i64 ((s.n : Nat) : Int))) (some (.int .i64 ((s.n : Nat) : Int)))) w fun (t8 : Sl) w_ =>
K t8 w_
theorem slices.Clip_Ins.ok {s : Sl} {w : World} {K : Sl → World → Prop} (h : slices.Clip_Ins.vc s w K) : CallT (.o (.lf .sl)) P0 23 [s.v] w K :=
  call_of Tryz.func23 rfl rfl (pl := slices.Clip_Ins.pl) (show VC P0 Tryz.f23 slices.Clip_Ins.pl (.o (.lf .sl)) [s.v] w K noP from Eq.mp (by kernel_rfl) h)
/- strings.CutSuffix -/
def strings.CutSuffix.pl : Pl := (.s (.r (D 2)) (.s (.r [.d, .d, (.c (.n [(.lf .s), (.lf .b)])), .d, .d, .d, .d]) .z))
def strings.CutSuffix.vc (s : ByteArray) (suffix : ByteArray) (w : World) (K : (ByteArray) × (Bool) × Unit → World → Prop) : Prop :=
CallT (.n [(.lf .s), (.lf .b)]) P0 84 [(.string s), (.string suffix)] w fun (t8 : (ByteArray) × (Bool) × Unit) w_ =>
K (t8.1, (t8.2.1, ())) w_
theorem strings.CutSuffix.ok {s : ByteArray} {suffix : ByteArray} {w : World} {K : (ByteArray) × (Bool) × Unit → World → Prop} (h : strings.CutSuffix.vc s suffix w K) : CallT (.n [(.lf .s), (.lf .b)]) P0 55 [(.string s), (.string suffix)] w K :=
  call_of Tryz.func55 rfl rfl (pl := strings.CutSuffix.pl) (show VC P0 Tryz.f55 strings.CutSuffix.pl (.n [(.lf .s), (.lf .b)]) [(.string s), (.string suffix)] w K noP from Eq.mp (by kernel_rfl) h)
/- strings.CutPrefix -/
def strings.CutPrefix.pl : Pl := (.s (.r (D 2)) (.s (.r [.d, .d, (.c (.n [(.lf .s), (.lf .b)])), .d, .d, .d, .d]) .z))
def strings.CutPrefix.vc (s : ByteArray) (prefix_ : ByteArray) (w : World) (K : (ByteArray) × (Bool) × Unit → World → Prop) : Prop :=
CallT (.n [(.lf .s), (.lf .b)]) P0 85 [(.string s), (.string prefix_)] w fun (t8 : (ByteArray) × (Bool) × Unit) w_ =>
K (t8.1, (t8.2.1, ())) w_
theorem strings.CutPrefix.ok {s : ByteArray} {prefix_ : ByteArray} {w : World} {K : (ByteArray) × (Bool) × Unit → World → Prop} (h : strings.CutPrefix.vc s prefix_ w K) : CallT (.n [(.lf .s), (.lf .b)]) P0 56 [(.string s), (.string prefix_)] w K :=
  call_of Tryz.func56 rfl rfl (pl := strings.CutPrefix.pl) (show VC P0 Tryz.f56 strings.CutPrefix.pl (.n [(.lf .s), (.lf .b)]) [(.string s), (.string prefix_)] w K noP from Eq.mp (by kernel_rfl) h)
/- strings.HasPrefix -/
def strings.HasPrefix.pl : Pl := (.s (.r (D 1)) (.s (.r [.d, .d, (.c (.o (.lf .b))), .d]) .z))
def strings.HasPrefix.vc (s : ByteArray) (prefix_ : ByteArray) (w : World) (K : Bool → World → Prop) : Prop :=
CallT (.o (.lf .b)) P0 87 [(.string s), (.string prefix_)] w fun (t7 : Bool) w_ =>
K t7 w_
theorem strings.HasPrefix.ok {s : ByteArray} {prefix_ : ByteArray} {w : World} {K : Bool → World → Prop} (h : strings.HasPrefix.vc s prefix_ w K) : CallT (.o (.lf .b)) P0 58 [(.string s), (.string prefix_)] w K :=
  call_of Tryz.func58 rfl rfl (pl := strings.HasPrefix.pl) (show VC P0 Tryz.f58 strings.HasPrefix.pl (.o (.lf .b)) [(.string s), (.string prefix_)] w K noP from Eq.mp (by kernel_rfl) h)
/- internal/stringslite.CutPrefix -/
def internal.stringslite.CutPrefix.pl : Pl := (.s (.r (D 2)) (.s (.s (.r [.d, .d, (.c (.o (.lf .b))), .d]) (.c (.s (.r (D 3)) .z) .z)) (.s (.r [.d, .d, .d, (.t (.o (.lf .s))), .d, .d]) .z)))
def internal.stringslite.CutPrefix.vc (s : ByteArray) (prefix_ : ByteArray) (w : World) (K : (ByteArray) × (Bool) × Unit → World → Prop) : Prop :=
CallT (.o (.lf .b)) P0 87 [(.string s), (.string prefix_)] w fun (t8 : Bool) w_ =>
((!t8) = true → K (s, (false, ())) w_) ∧
((!t8) = false → RunT (.o (.lf .s)) P0 (Instr.sliceAt 9 (.string s) (some (.int .i64 (((ByteArray.size prefix_) : Nat) : Int))) none none) w_ fun (t14 : ByteArray) w__1 =>
K (t14, (true, ())) w__1)
theorem internal.stringslite.CutPrefix.ok {s : ByteArray} {prefix_ : ByteArray} {w : World} {K : (ByteArray) × (Bool) × Unit → World → Prop} (h : internal.stringslite.CutPrefix.vc s prefix_ w K) : CallT (.n [(.lf .s), (.lf .b)]) P0 85 [(.string s), (.string prefix_)] w K :=
  call_of Tryz.func85 rfl rfl (pl := internal.stringslite.CutPrefix.pl) (show VC P0 Tryz.f85 internal.stringslite.CutPrefix.pl (.n [(.lf .s), (.lf .b)]) [(.string s), (.string prefix_)] w K noP from Eq.mp (by kernel_rfl) h)
/- internal/stringslite.CutSuffix -/
def internal.stringslite.CutSuffix.pl : Pl := (.s (.r (D 2)) (.s (.s (.r [.d, .d, (.c (.o (.lf .b))), .d]) (.c (.s (.r (D 3)) .z) .z)) (.s (.r [.d, .d, .d, .d, .d, .d, (.t (.o (.lf .s))), .d, .d]) .z)))
def internal.stringslite.CutSuffix.vc (s : ByteArray) (suffix : ByteArray) (w : World) (K : (ByteArray) × (Bool) × Unit → World → Prop) : Prop :=
CallT (.o (.lf .b)) P0 106 [(.string s), (.string suffix)] w fun (t8 : Bool) w_ =>
((!t8) = true → K (s, (false, ())) w_) ∧
((!t8) = false → RunT (.o (.lf .s)) P0 (Instr.sliceAt 9 (.string s) none (some (.int .i64 (IntKind.wrap .i64 ((((ByteArray.size s) : Nat) : Int) - (((ByteArray.size suffix) : Nat) : Int))))) none) w_ fun (t17 : ByteArray) w__1 =>
K (t17, (true, ())) w__1)
theorem internal.stringslite.CutSuffix.ok {s : ByteArray} {suffix : ByteArray} {w : World} {K : (ByteArray) × (Bool) × Unit → World → Prop} (h : internal.stringslite.CutSuffix.vc s suffix w K) : CallT (.n [(.lf .s), (.lf .b)]) P0 84 [(.string s), (.string suffix)] w K :=
  call_of Tryz.func84 rfl rfl (pl := internal.stringslite.CutSuffix.pl) (show VC P0 Tryz.f84 internal.stringslite.CutSuffix.pl (.n [(.lf .s), (.lf .b)]) [(.string s), (.string suffix)] w K noP from Eq.mp (by kernel_rfl) h)
/- internal/stringslite.HasPrefix -/
def internal.stringslite.HasPrefix.pl : Pl := (.s (.r (D 1)) (.s (.r [.d, .d, .d, .d, .d, (.sp .d), .d, .d, .d, (.t (.o (.lf .s))), .d, .d, .d, .d]) .z))
def internal.stringslite.HasPrefix.vc (s : ByteArray) (prefix_ : ByteArray) (w : World) (K : Bool → World → Prop) : Prop :=
((decide (((((ByteArray.size s) : Nat) : Int) : Int) ≥ (((ByteArray.size prefix_) : Nat) : Int))) = true → RunT (.o (.lf .s)) P0 (Instr.sliceAt 9 (.string s) none (some (.int .i64 (((ByteArray.size prefix_) : Nat) : Int))) none) w fun (t14 : ByteArray) w_ =>
K (ByteArray.toList t14 == ByteArray.toList prefix_) w_) ∧
((decide (((((ByteArray.size s) : Nat) : Int) : Int) ≥ (((ByteArray.size prefix_) : Nat) : Int))) = false → K false w)
theorem internal.stringslite.HasPrefix.ok {s : ByteArray} {prefix_ : ByteArray} {w : World} {K : Bool → World → Prop} (h : internal.stringslite.HasPrefix.vc s prefix_ w K) : CallT (.o (.lf .b)) P0 87 [(.string s), (.string prefix_)] w K :=
  call_of Tryz.func87 rfl rfl (pl := internal.stringslite.HasPrefix.pl) (show VC P0 Tryz.f87 internal.stringslite.HasPrefix.pl (.o (.lf .b)) [(.string s), (.string prefix_)] w K noP from Eq.mp (by kernel_rfl) h)
/- internal/stringslite.HasSuffix -/
def internal.stringslite.HasSuffix.pl : Pl := (.s (.r (D 1)) (.s (.r [.d, .d, .d, .d, .d, (.sp .d), .d, .d, .d, .d, .d, .d, (.t (.o (.lf .s))), .d, .d, .d, .d]) .z))
def internal.stringslite.HasSuffix.vc (s : ByteArray) (suffix : ByteArray) (w : World) (K : Bool → World → Prop) : Prop :=
((decide (((((ByteArray.size s) : Nat) : Int) : Int) ≥ (((ByteArray.size suffix) : Nat) : Int))) = true → RunT (.o (.lf .s)) P0 (Instr.sliceAt 9 (.string s) (some (.int .i64 (IntKind.wrap .i64 ((((ByteArray.size s) : Nat) : Int) - (((ByteArray.size suffix) : Nat) : Int))))) none none) w fun (t17 : ByteArray) w_ =>
K (ByteArray.toList t17 == ByteArray.toList suffix) w_) ∧
((decide (((((ByteArray.size s) : Nat) : Int) : Int) ≥ (((ByteArray.size suffix) : Nat) : Int))) = false → K false w)
theorem internal.stringslite.HasSuffix.ok {s : ByteArray} {suffix : ByteArray} {w : World} {K : Bool → World → Prop} (h : internal.stringslite.HasSuffix.vc s suffix w K) : CallT (.o (.lf .b)) P0 106 [(.string s), (.string suffix)] w K :=
  call_of Tryz.func106 rfl rfl (pl := internal.stringslite.HasSuffix.pl) (show VC P0 Tryz.f106 internal.stringslite.HasSuffix.pl (.o (.lf .b)) [(.string s), (.string suffix)] w K noP from Eq.mp (by kernel_rfl) h)
/- spec.l13Places -/
def spec.l13Places.pl : Pl := (.s (.r (D 3)) (.s (.r (D 2)) (.s (.r (D 2)) (.s (.r [.d, .d, .d, (.c (.o (.lf .sl))), .d]) (.s (.s (.r (D 1)) (.b (.l [(5, .sl), (6, .sl), (8, (.i .i64))] (.s (.s (.r (D 5)) (.c .z .z)) (.s (.b (.s (.r [.d, .d, .d, (.l (.lf .s)), .d]) (.b (.s (.r [.d, .d, .d, (.c (.o (.lf .s))), .d, .d, .d, .d]) (.c (.r [.d, .d, .d, .d, (.t (.o (.lf .sl))), .d]) (.s (.r [.d, .d, .d, (.sp .d), .d, .d, .d, .d, .d]) (.c (.r [.d, .d, (.t (.o (.lf .s))), .d, (.t (.o (.lf .sl))), .d]) (.s (.r (D 3)) .z)))))))) (.r (D 3))))))) (.s (.r [.d, .d, .d, .d, .d, .d, .d, (.l (.lf .s)), .d, (.sp .d), .d, .d, .d, .d, .d, .d, .d]) .z))))))
def spec.l13Places.vc (s : ByteArray) (w : World) (K : (Sl) × (Sl) × (Bool) × Unit → World → Prop) : Prop :=
Nw #[] 3 w fun a_t10 w_ =>
Nw #[] 9 w_ fun a_t11 w__1 =>
CallT (.o (.lf .sl)) P0 42 [(.string s), (.int .u8 10), (.int .i64 (((ByteArray.size s) : Nat) : Int))] w__1 fun (t15 : Sl) w__2 =>
∃ (I : Sl → Sl → Int → World → Prop) (M : Sl → Sl → Int → World → Nat),
I ⟨(some a_t10), 0, 0⟩ ⟨(some a_t11), 0, 0⟩ 0 w__2 ∧
(∀ (at_ : Sl) (ops : Sl) (i : Int) w__3, I at_ ops i w__3 → ∀ _ : Nat → Value,
((decide ((i : Int) < (IntKind.wrap .i64 (((t15.n : Nat) : Int) - 1)))) = true → Ix t15.a t15.n i 1 w__3 fun a_t25 w__4 =>
Ld .s a_t25 w__4 fun (t26 : ByteArray) w__5 =>
CallT (.o (.lf .s)) P0 43 [(.int .i64 ((at_.n : Nat) : Int))] w__5 fun (t31 : ByteArray) w__6 =>
(((ByteArray.size (⟨#[109]⟩ : ByteArray) + ByteArray.size t31 : Nat) : Int) ≤ IntKind.i64.max) ∧ (((ByteArray.size ((⟨#[109]⟩ : ByteArray) ++ t31) + ByteArray.size (⟨#[58]⟩ : ByteArray) : Nat) : Int) ≤ IntKind.i64.max) ∧ ((ByteArray.toList t26 == ByteArray.toList (((⟨#[109]⟩ : ByteArray) ++ t31) ++ (⟨#[58]⟩ : ByteArray))) = true → Nw #[(.int .i64 ((ops.n : Nat) : Int))] 3 w__6 fun a_t38 w__7 =>
RunT (.o (.lf .sl)) P0 (Builtin.append_ #[34, 34] 34 #[at_.v, (.slice (some a_t38) 1 1)]) w__7 fun (t39 : Sl) w__8 =>
(I t39 ops (IntKind.wrap .i64 (i + 1)) w__8 ∧ M t39 ops (IntKind.wrap .i64 (i + 1)) w__8 < M at_ ops i w__3)) ∧
((ByteArray.toList t26 == ByteArray.toList (((⟨#[109]⟩ : ByteArray) ++ t31) ++ (⟨#[58]⟩ : ByteArray))) = false → ((decide (((((ByteArray.size t26) : Nat) : Int) : Int) > 1)) = true → Sx t26 0 w__6 fun t46 w__9 =>
(((t46 : Int) == 32) = true → RunT (.o (.lf .s)) P0 (Instr.sliceAt 9 (.string t26) (some (.int .i64 1)) none none) w__9 fun (t51 : ByteArray) w__10 =>
Nw #[(.string t51)] 9 w__10 fun a_t52 w__11 =>
RunT (.o (.lf .sl)) P0 (Builtin.append_ #[35, 35] 35 #[ops.v, (.slice (some a_t52) 1 1)]) w__11 fun (t53 : Sl) w__12 =>
(I at_ t53 (IntKind.wrap .i64 (i + 1)) w__12 ∧ M at_ t53 (IntKind.wrap .i64 (i + 1)) w__12 < M at_ ops i w__3)) ∧
(((t46 : Int) == 32) = false → K (⟨none, 0, 0⟩, (⟨none, 0, 0⟩, (false, ()))) w__9)) ∧
((decide (((((ByteArray.size t26) : Nat) : Int) : Int) > 1)) = false → K (⟨none, 0, 0⟩, (⟨none, 0, 0⟩, (false, ()))) w__6))) ∧
((decide ((i : Int) < (IntKind.wrap .i64 (((t15.n : Nat) : Int) - 1)))) = false → Ix t15.a t15.n (IntKind.wrap .i64 (((t15.n : Nat) : Int) - 1)) 1 w__3 fun a_t60 w__13 =>
Ld .s a_t60 w__13 fun (t61 : ByteArray) w__14 =>
((ByteArray.toList t61 == ByteArray.toList (⟨#[]⟩ : ByteArray)) = true → K (at_, (ops, ((decide ((((ops.n : Nat) : Int) : Int) ≤ 48)), ()))) w__14) ∧
((ByteArray.toList t61 == ByteArray.toList (⟨#[]⟩ : ByteArray)) = false → K (at_, (ops, (false, ()))) w__14)))
theorem spec.l13Places.ok {s : ByteArray} {w : World} {K : (Sl) × (Sl) × (Bool) × Unit → World → Prop} (h : spec.l13Places.vc s w K) : CallT (.n [(.lf .sl), (.lf .sl), (.lf .b)]) P0 17 [(.string s)] w K :=
  call_of Tryz.func17 rfl rfl (pl := spec.l13Places.pl) (show VC P0 Tryz.f17 spec.l13Places.pl (.n [(.lf .sl), (.lf .sl), (.lf .b)]) [(.string s)] w K noP from Eq.mp (by kernel_rfl) h)
/- spec.l13Read -/
def spec.l13Read.pl : Pl := (.s (.r (D 2)) (.s (.r [.d, (.c (.o (.lf .sl))), .d]) (.s (.r [.d, .d, .d, .d, .d, (.l (.lf .s)), .d]) (.s (.g [((.g (.o (.lf .sl)) (.c (.o (.lf .sl)))), []), (.q, []), ((.g (.o (.lf .ad)) .d), []), ((.g (.o (.lf .s)) (.l (.lf .s))), [2]), ((.g (.o (.lf (.i .i64))) (.c (.o (.lf (.i .i64))))), [0, 3]), (.q, [4])] []) (.j [] (.s (.r [.d, (.c (.o (.lf .b))), .d, (.sp .d), .d, .d, .d]) (.c (.s (.r [.d, (.c (.n [(.ag (R 6 (.i .i64))), (.lf .b)])), .d, .d, .d, .d]) .z) .z)) (.j [] (.s (.r [.d, .d, .d, (.sp .d), .d, .d, .d, .d, (.sp .d), .d, (.t (.o (.lf .s))), (.c (.o (.lf (.i .i64)))), .d, .d, .d, (.c (.o (.lf .b))), .d, .d]) (.c (.s (.r (D 3)) .z) .z)) (.s (.r [.d, .d, (.t (.o (.lf .s))), (.c (.o (.lf (.i .i64)))), .d, (.l (.lf (.i .i64))), .d, .d, .d, .d]) (.s (.g [(.q, []), (.q, []), (.q, []), (.q, []), (.q, []), (.q, []), ((.g (.o (.lf .s)) (.t (.o (.lf .s)))), []), (.q, []), ((.g (.o (.lf .s)) (.c (.o (.lf .s)))), []), ((.g (.o (.lf .s)) .d), [6, 8]), ((.g (.n [(.ag (R 6 (.i .i64))), (.lf .b)]) (.c (.n [(.ag (R 6 (.i .i64))), (.lf .b)]))), [9]), (.q, [10]), (.q, [10])] [.d, .d]) .z))))))))
def spec.l13Read.vc (line : ByteArray) (at_ : Int) (places : Sl) (w : World) (K : (Tup (R 6 (.i .i64))) × (Bool) × Unit → World → Prop) : Prop :=
Nw (zc P0 39) 39 w fun a_t6 w_ =>
CallT (.o (.lf .sl)) P0 42 [(.string line), (.int .u8 32), (.int .i64 5)] w_ fun (t13 : Sl) w__1 =>
Ix t13.a t13.n (IntKind.wrap .i64 (((t13.n : Nat) : Int) - 1)) 1 w__1 fun a_t18 w__2 =>
Ld .s a_t18 w__2 fun (t19 : ByteArray) w__3 =>
∃ Sp : World → World → Prop, SpOk Sp w__3 ∧
∃ G_t20 : Sl → World → Prop, Kept Sp G_t20 ∧
∃ G_t22 : Addr → World → Prop, Kept Sp G_t22 ∧
∃ G_t23 : ByteArray → World → Prop, Kept Sp G_t23 ∧
∃ G_t24 : Int → World → Prop, Kept Sp G_t24 ∧
(∀ w__4, Sp w__3 w__4 → CallT (.o (.lf .sl)) P0 45 [] w__4 fun (t20 : Sl) w__5 =>
GK (.o (.lf .sl)) Sp w__4 G_t20 t20.v w__5) ∧
∀ (t20_1 : Sl), (∀ w__6, Sp w__3 w__6 → Ix t13.a t13.n 0 1 w__6 fun a_t22 w__7 =>
GK (.o (.lf .ad)) Sp w__6 G_t22 (.pointer (some a_t22)) w__7) ∧
∀ (t22 : Addr), (∀ w__8, Sp w__3 w__8 → G_t22 t22 w__8 → Ld .s t22 w__8 fun (t23 : ByteArray) w__9 =>
GK (.o (.lf .s)) Sp w__8 G_t23 (.string t23) w__9) ∧
∀ (t23_1 : ByteArray), (∀ w__10, Sp w__3 w__10 → G_t20 t20_1 w__10 → G_t23 t23_1 w__10 → CallT (.o (.lf (.i .i64))) P0 44 [t20_1.v, (.string t23_1)] w__10 fun (t24 : Int) w__11 =>
GK (.o (.lf (.i .i64))) Sp w__10 G_t24 (.int .i64 t24) w__11) ∧
∀ (t24_1 : Int), ∀ w__12, Sp w__3 w__12 → G_t20 t20_1 w__12 → G_t22 t22 w__12 → G_t23 t23_1 w__12 → G_t24 t24_1 w__12 → 
∃ J : World → Prop,
(CallT (.o (.lf .b)) P0 46 [(.int .i64 t24_1)] w__12 fun (t26 : Bool) w__13 =>
((!t26) = true → (((t24_1 : Int) != 16) = true → CallT (.n [(.ag (R 6 (.i .i64))), (.lf .b)]) P0 47 [(.string line)] w__13 fun (t33 : (Tup (R 6 (.i .i64))) × (Bool) × Unit) w__14 =>
StA P0 a_t6 (Tup.cells (R 6 (.i .i64)) t33.1) w__14 fun w__15 =>
LdA (R 6 (.i .i64)) a_t6 w__15 fun r w__16 =>
K (r, (t33.2.1, ())) w__15) ∧
(((t24_1 : Int) != 16) = false → J w__13)) ∧
((!t26) = false → J w__13)) ∧
(∀  w__17, J w__17 → ∀ _ : Nat → Value,
∃ J_1 : World → Prop,
(((decide (((((ByteArray.size t19) : Nat) : Int) : Int) < 2)) = true → StA P0 a_t6 [(.int .i64 0), (.int .i64 0), (.int .i64 0), (.int .i64 0), (.int .i64 0), (.int .i64 0)] w__17 fun w__18 =>
LdA (R 6 (.i .i64)) a_t6 w__18 fun r_1 w__19 =>
K (r_1, (false, ())) w__18) ∧
((decide (((((ByteArray.size t19) : Nat) : Int) : Int) < 2)) = false → Sx t19 0 w__17 fun t41 w__20 =>
(((t41 : Int) != 109) = true → StA P0 a_t6 [(.int .i64 0), (.int .i64 0), (.int .i64 0), (.int .i64 0), (.int .i64 0), (.int .i64 0)] w__20 fun w__21 =>
LdA (R 6 (.i .i64)) a_t6 w__21 fun r_2 w__22 =>
K (r_2, (false, ())) w__21) ∧
(((t41 : Int) != 109) = false → RunT (.o (.lf .s)) P0 (Instr.sliceAt 9 (.string t19) (some (.int .i64 1)) none none) w__20 fun (t46 : ByteArray) w__23 =>
CallT (.o (.lf (.i .i64))) P0 49 [(.string t46)] w__23 fun (t47 : Int) w__24 =>
CallT (.o (.lf .b)) P0 48 [(.int .i64 t47), (.int .i64 0), (.int .i64 (IntKind.wrap .i64 (((places.n : Nat) : Int) - 1)))] w__24 fun (t51 : Bool) w__25 =>
((!t51) = true → StA P0 a_t6 [(.int .i64 0), (.int .i64 0), (.int .i64 0), (.int .i64 0), (.int .i64 0), (.int .i64 0)] w__25 fun w__26 =>
LdA (R 6 (.i .i64)) a_t6 w__26 fun r_3 w__27 =>
K (r_3, (false, ())) w__26) ∧
((!t51) = false → J_1 w__25)))) ∧
(∀  w__28, J_1 w__28 → ∀ _ : Nat → Value,
RunT (.o (.lf .s)) P0 (Instr.sliceAt 9 (.string t19) (some (.int .i64 1)) none none) w__28 fun (t57 : ByteArray) w__29 =>
CallT (.o (.lf (.i .i64))) P0 49 [(.string t57)] w__29 fun (t58 : Int) w__30 =>
Ix places.a places.n t58 1 w__30 fun a_t59 w__31 =>
Ld (.i .i64) a_t59 w__31 fun (t60 : Int) w__32 =>
∃ Sp_1 : World → World → Prop, SpOk Sp_1 w__32 ∧
∃ G_t70 : ByteArray → World → Prop, Kept Sp_1 G_t70 ∧
∃ G_t72 : ByteArray → World → Prop, Kept Sp_1 G_t72 ∧
∃ G_t73 : ByteArray → World → Prop, Kept Sp_1 G_t73 ∧
∃ G_t74 : (Tup (R 6 (.i .i64))) × (Bool) × Unit → World → Prop, Kept Sp_1 G_t74 ∧
(∀ w__33, Sp_1 w__32 w__33 → RunT (.o (.lf .s)) P0 (Instr.sliceAt 9 (.string line) none (some (.int .i64 (IntKind.wrap .i64 ((((ByteArray.size line) : Nat) : Int) - (((ByteArray.size t19) : Nat) : Int))))) none) w__33 fun (t70 : ByteArray) w__34 =>
GK (.o (.lf .s)) Sp_1 w__33 G_t70 (.string t70) w__34) ∧
∀ (t70_1 : ByteArray), (∀ w__35, Sp_1 w__32 w__35 → CallT (.o (.lf .s)) P0 43 [(.int .i64 (IntKind.wrap .i64 ((IntKind.wrap .i64 (t60 - at_)) - 1)))] w__35 fun (t72 : ByteArray) w__36 =>
GK (.o (.lf .s)) Sp_1 w__35 G_t72 (.string t72) w__36) ∧
∀ (t72_1 : ByteArray), (∀ w__37, Sp_1 w__32 w__37 → G_t70 t70_1 w__37 → G_t72 t72_1 w__37 → (((ByteArray.size t70_1 + ByteArray.size t72_1 : Nat) : Int) ≤ IntKind.i64.max) ∧ GK (.o (.lf .s)) Sp_1 w__37 G_t73 (.string (t70_1 ++ t72_1)) w__37) ∧
∀ (t73 : ByteArray), (∀ w__38, Sp_1 w__32 w__38 → G_t73 t73 w__38 → CallT (.n [(.ag (R 6 (.i .i64))), (.lf .b)]) P0 47 [(.string t73)] w__38 fun (t74 : (Tup (R 6 (.i .i64))) × (Bool) × Unit) w__39 =>
GK (.n [(.ag (R 6 (.i .i64))), (.lf .b)]) Sp_1 w__38 G_t74 (.tuple #[(.agg (Tup.cells (R 6 (.i .i64)) t74.1).toArray), (.bool t74.2.1)]) w__39) ∧
∀ (t74_1 : (Tup (R 6 (.i .i64))) × (Bool) × Unit), ∀ w__40, Sp_1 w__32 w__40 → G_t70 t70_1 w__40 → G_t72 t72_1 w__40 → G_t73 t73 w__40 → G_t74 t74_1 w__40 → 
StA P0 a_t6 (Tup.cells (R 6 (.i .i64)) t74_1.1) w__40 fun w__41 =>
LdA (R 6 (.i .i64)) a_t6 w__41 fun r_4 w__42 =>
K (r_4, (t74_1.2.1, ())) w__41))
theorem spec.l13Read.ok {line : ByteArray} {at_ : Int} {places : Sl} {w : World} {K : (Tup (R 6 (.i .i64))) × (Bool) × Unit → World → Prop} (h : spec.l13Read.vc line at_ places w K) : CallT (.n [(.ag (R 6 (.i .i64))), (.lf .b)]) P0 18 [(.string line), (.int .i64 at_), places.v] w K :=
  call_of Tryz.func18 rfl rfl (pl := spec.l13Read.pl) (show VC P0 Tryz.f18 spec.l13Read.pl (.n [(.ag (R 6 (.i .i64))), (.lf .b)]) [(.string line), (.int .i64 at_), places.v] w K noP from Eq.mp (by kernel_rfl) h)
/- spec.AsmGet -/
def spec.AsmGet.pl : Pl := (.s (.r (D 2)) (.s (.r [.d, (.c (.n [(.lf .sl), (.lf .sl), (.lf .b)])), .d, .d, .d, .d, .d, .d, .d]) (.s (.s (.r (D 2)) (.c (.s (.r (D 2)) .z) .z)) (.s (.r (D 2)) (.s (.s (.r (D 1)) (.b (.l [(7, .sl), (8, (.i .i64))] (.s (.s (.r (D 4)) (.c .z .z)) (.s (.b (.s (.r [.d, .d, .d, (.l (.lf .s)), .d, .d, (.c (.n [(.ag (R 6 (.i .i64))), (.lf .b)])), .d, .d, .d, .d, .d, .d]) (.s (.s (.r (D 2)) (.c (.s (.r (D 2)) .z) .z)) (.r [.d, (.l (.ag (R 6 (.i .i64)))), .d, (.t (.o (.lf .sl))), .d])))) (.r (D 3))))))) (.s (.s (.r [.d, (.c (.o (.lf (.i .i64)))), .d, (.sp .d), .d, (.c (.o (.lf .s))), .d, .d, .d]) (.c (.s (.r (D 2)) .z) .z)) (.s (.r (D 3)) .z)))))))
def spec.AsmGet.vc (s : ByteArray) (w : World) (K : (Sl) × (Bool) × Unit → World → Prop) : Prop :=
CallT (.n [(.lf .sl), (.lf .sl), (.lf .b)]) P0 17 [(.string s)] w fun (t13 : (Sl) × (Sl) × (Bool) × Unit) w_ =>
((!t13.2.2.1) = true → K (⟨none, 0, 0⟩, (false, ())) w_) ∧
((!t13.2.2.1) = false → Nw #[] 39 w_ fun a_t19 w__1 =>
∃ (I : Sl → Int → World → Prop) (M : Sl → Int → World → Nat),
I ⟨(some a_t19), 0, 0⟩ 0 w__1 ∧
(∀ (out : Sl) (i : Int) w__2, I out i w__2 → ∀ _ : Nat → Value,
((decide ((i : Int) < ((t13.2.1.n : Nat) : Int))) = true → Ix t13.2.1.a t13.2.1.n i 1 w__2 fun a_t29 w__3 =>
Ld .s a_t29 w__3 fun (t30 : ByteArray) w__4 =>
CallT (.n [(.ag (R 6 (.i .i64))), (.lf .b)]) P0 18 [(.string t30), (.int .i64 i), t13.1.v] w__4 fun (t33 : (Tup (R 6 (.i .i64))) × (Bool) × Unit) w__5 =>
Nw (zc P0 39) 39 w__5 fun a_x w__6 =>
StA P0 a_x (Tup.cells (R 6 (.i .i64)) t33.1) w__6 fun w__7 =>
((!t33.2.1) = true → K (⟨none, 0, 0⟩, (false, ())) w__7) ∧
((!t33.2.1) = false → LdA (R 6 (.i .i64)) a_x w__7 fun (t39 : Tup (R 6 (.i .i64))) w__8 =>
Nw #[(.int .i64 t39.1), (.int .i64 t39.2.1), (.int .i64 t39.2.2.1), (.int .i64 t39.2.2.2.1), (.int .i64 t39.2.2.2.2.1), (.int .i64 t39.2.2.2.2.2.1)] 39 w__8 fun a_t40 w__9 =>
RunT (.o (.lf .sl)) P0 (Builtin.append_ #[22, 22] 22 #[out.v, (.slice (some a_t40) 1 1)]) w__9 fun (t41 : Sl) w__10 =>
(I t41 (IntKind.wrap .i64 (i + 1)) w__10 ∧ M t41 (IntKind.wrap .i64 (i + 1)) w__10 < M out i w__2))) ∧
((decide ((i : Int) < ((t13.2.1.n : Nat) : Int))) = false → CallT (.o (.lf (.i .i64))) P0 19 [out.v] w__2 fun (t43 : Int) w__11 =>
(((t43 : Int) != 0) = true → K (⟨none, 0, 0⟩, (false, ())) w__11) ∧
(((t43 : Int) != 0) = false → CallT (.o (.lf .s)) P0 20 [out.v] w__11 fun (t47 : ByteArray) w__12 =>
((!(ByteArray.toList t47 == ByteArray.toList s)) = true → K (⟨none, 0, 0⟩, (false, ())) w__12) ∧
((!(ByteArray.toList t47 == ByteArray.toList s)) = false → K (out, (true, ())) w__12)))))
theorem spec.AsmGet.ok {s : ByteArray} {w : World} {K : (Sl) × (Bool) × Unit → World → Prop} (h : spec.AsmGet.vc s w K) : CallT (.n [(.lf .sl), (.lf .b)]) P0 6 [(.string s)] w K :=
  call_of Tryz.func6 rfl rfl (pl := spec.AsmGet.pl) (show VC P0 Tryz.f6 spec.AsmGet.pl (.n [(.lf .sl), (.lf .b)]) [(.string s)] w K noP from Eq.mp (by kernel_rfl) h)
/- spec.DrawAsmGet -/
def spec.DrawAsmGet.pl : Pl := (.s (.r (D 1)) (.s (.r [.d, (.c (.o (.lf .p))), .d]) (.s (.r [.d, (.c (.o (.lf .sl))), (.c (.o (.lf .s))), .d]) (.s (.s (.r [.d, (.c (.o (.lf (.i .i64))))]) (.b (.s (.r (D 2)) (.c (.s (.r [.d, .d, (.c (.o (.lf .s))), .d]) .z) (.s (.r (D 2)) (.c (.s (.r [.d, .d, .d, (.c (.o (.lf .s))), .d]) .z) .z)))))) (.s (.r (D 2)) .z)))))
def spec.DrawAsmGet.vc (code : Sl) (w : World) (K : ByteArray → World → Prop) : Prop :=
CallT (.o (.lf .p)) P0 37 [code.v] w fun (t6 : Option Addr) w_ =>
CallT (.o (.lf .sl)) P0 38 [(.pointer t6)] w_ fun (t8 : Sl) w__1 =>
CallT (.o (.lf .s)) P0 13 [t8.v] w__1 fun (t9 : ByteArray) w__2 =>
CallT (.o (.lf (.i .i64))) P0 39 [(.pointer t6), (.int .i64 3)] w__2 fun (t11 : Int) w__3 =>
(((t11 : Int) == 0) = true → CallT (.o (.lf .s)) P0 40 [(.pointer t6), (.string t9)] w__3 fun (t16 : ByteArray) w__4 =>
K t16 w__4) ∧
(((t11 : Int) == 0) = false → (((t11 : Int) == 1) = true → Nw #[(.string ⟨#[]⟩), (.string ⟨#[109, 48, 58, 10, 32, 103, 111, 32, 109, 48, 10]⟩), (.string ⟨#[32, 103, 111, 32, 109, 48, 10, 109, 48, 58, 10, 32, 101, 120, 105, 116, 10]⟩), (.string ⟨#[109, 48, 58, 10, 32, 101, 120, 105, 116, 10]⟩), (.string ⟨#[32, 101, 120, 105, 116]⟩), (.string ⟨#[32, 103, 111, 32, 48, 10, 32, 101, 120, 105, 116, 10]⟩), (.string ⟨#[109, 49, 58, 10, 32, 103, 111, 32, 109, 49, 10]⟩), (.string t9)] 9 w__3 fun a_t21 w__5 =>
CallT (.o (.lf .s)) P0 41 [(.pointer t6), (.slice (some a_t21) 8 8)] w__5 fun (t22 : ByteArray) w__6 =>
K t22 w__6) ∧
(((t11 : Int) == 1) = false → K t9 w__3))
theorem spec.DrawAsmGet.ok {code : Sl} {w : World} {K : ByteArray → World → Prop} (h : spec.DrawAsmGet.vc code w K) : CallT (.o (.lf .s)) P0 16 [code.v] w K :=
  call_of Tryz.func16 rfl rfl (pl := spec.DrawAsmGet.pl) (show VC P0 Tryz.f16 spec.DrawAsmGet.pl (.o (.lf .s)) [code.v] w K noP from Eq.mp (by kernel_rfl) h)
/- laws.sgProg -/
def laws.sgProg.pl : Pl := (.s (.r (D 1)) (.s (.s (.r (D 5)) (.c (.s (.r (D 1)) .z) .z)) (.s (.s (.r (D 1)) (.b (.l [(5, (.i .i64))] (.s (.s (.r (D 4)) (.c .z .z)) (.s (.b (.s (.g [(.q, []), (.q, []), ((.g (.o (.lf .ad)) .d), []), ((.g (.o (.ag (R 6 (.i .i64)))) (.l (.ag (R 6 (.i .i64))))), [2]), (.q, []), (.q, []), ((.g (.o (.lf .ad)) .d), []), ((.g (.o (.ag (R 6 (.i .i64)))) (.l (.ag (R 6 (.i .i64))))), [6]), ((.g (.o (.lf .b)) (.t (.o (.lf .b)))), [3, 7])] []) (.c (.s (.r (D 1)) .z) .z))) (.r (D 3))))))) (.s (.r (D 1)) .z))))
def laws.sgProg.vc (a : Sl) (b : Sl) (w : World) (K : Bool → World → Prop) : Prop :=
(((((a.n : Nat) : Int) : Int) != ((b.n : Nat) : Int)) = true → K false w) ∧
(((((a.n : Nat) : Int) : Int) != ((b.n : Nat) : Int)) = false → ∃ (I : Int → World → Prop) (M : Int → World → Nat),
I 0 w ∧
(∀ (i : Int) w_, I i w_ → ∀ _ : Nat → Value,
((decide ((i : Int) < ((a.n : Nat) : Int))) = true → ∃ Sp : World → World → Prop, SpOk Sp w_ ∧
∃ G_t19 : Addr → World → Prop, Kept Sp G_t19 ∧
∃ G_t20 : Tup (R 6 (.i .i64)) → World → Prop, Kept Sp G_t20 ∧
∃ G_t23 : Addr → World → Prop, Kept Sp G_t23 ∧
∃ G_t24 : Tup (R 6 (.i .i64)) → World → Prop, Kept Sp G_t24 ∧
∃ G_t25 : Bool → World → Prop, Kept Sp G_t25 ∧
(∀ w__1, Sp w_ w__1 → Ix a.a a.n i 6 w__1 fun a_t19 w__2 =>
GK (.o (.lf .ad)) Sp w__1 G_t19 (.pointer (some a_t19)) w__2) ∧
∀ (t19 : Addr), (∀ w__3, Sp w_ w__3 → G_t19 t19 w__3 → LdA (R 6 (.i .i64)) t19 w__3 fun (t20 : Tup (R 6 (.i .i64))) w__4 =>
GK (.o (.ag (R 6 (.i .i64)))) Sp w__3 G_t20 (.agg (Tup.cells (R 6 (.i .i64)) t20).toArray) w__4) ∧
∀ (t20_1 : Tup (R 6 (.i .i64))), (∀ w__5, Sp w_ w__5 → Ix b.a b.n i 6 w__5 fun a_t23 w__6 =>
GK (.o (.lf .ad)) Sp w__5 G_t23 (.pointer (some a_t23)) w__6) ∧
∀ (t23 : Addr), (∀ w__7, Sp w_ w__7 → G_t23 t23 w__7 → LdA (R 6 (.i .i64)) t23 w__7 fun (t24 : Tup (R 6 (.i .i64))) w__8 =>
GK (.o (.ag (R 6 (.i .i64)))) Sp w__7 G_t24 (.agg (Tup.cells (R 6 (.i .i64)) t24).toArray) w__8) ∧
∀ (t24_1 : Tup (R 6 (.i .i64))), (∀ w__9, Sp w_ w__9 → G_t20 t20_1 w__9 → G_t24 t24_1 w__9 → RunT (.o (.lf .b)) P0 (do eqGuard .neq 39 (.tmp 20) (.tmp 24) (.agg (Tup.cells (R 6 (.i .i64)) t20_1).toArray) (.agg (Tup.cells (R 6 (.i .i64)) t24_1).toArray); binOp .neq 39 (.agg (Tup.cells (R 6 (.i .i64)) t20_1).toArray) (.agg (Tup.cells (R 6 (.i .i64)) t24_1).toArray)) w__9 fun (t25 : Bool) w__10 =>
GK (.o (.lf .b)) Sp w__9 G_t25 (.bool t25) w__10) ∧
∀ (t25_1 : Bool), ∀ w__11, Sp w_ w__11 → G_t19 t19 w__11 → G_t20 t20_1 w__11 → G_t23 t23 w__11 → G_t24 t24_1 w__11 → G_t25 t25_1 w__11 → 
(t25_1 = true → K false w__11) ∧
(t25_1 = false → (I (IntKind.wrap .i64 (i + 1)) w__11 ∧ M (IntKind.wrap .i64 (i + 1)) w__11 < M i w_))) ∧
((decide ((i : Int) < ((a.n : Nat) : Int))) = false → K true w_)))
theorem laws.sgProg.ok {a : Sl} {b : Sl} {w : World} {K : Bool → World → Prop} (h : laws.sgProg.vc a b w K) : CallT (.o (.lf .b)) P0 15 [a.v, b.v] w K :=
  call_of Tryz.func15 rfl rfl (pl := laws.sgProg.pl) (show VC P0 Tryz.f15 laws.sgProg.pl (.o (.lf .b)) [a.v, b.v] w K noP from Eq.mp (by kernel_rfl) h)
/- laws.heldInsS -/
def laws.heldInsS.pl : Pl := (.s (.r (D 1)) (.s (.s (.r (D 1)) (.b (.l [(1, (.i .i64)), (5, (.i .i64))] (.s (.s (.r (D 4)) (.c .z .z)) (.s (.b (.s (.s (.r [.d, .d, .d, .d, (.l (.lf (.i .i64))), .d, .d]) (.c (.s (.r (D 1)) .z) .z)) (.s (.r (D 3)) (.s (.s (.r [.d, .d, .d, .d, (.l (.lf (.i .i64))), .d, .d]) (.c (.s (.r (D 1)) .z) .z)) (.s (.r (D 3)) (.s (.s (.r [.d, .d, .d, .d, (.l (.lf (.i .i64))), .d, .d]) (.c (.s (.r (D 1)) .z) .z)) (.s (.r (D 3)) (.s (.s (.r [.d, .d, .d, .d, (.l (.lf (.i .i64))), .d, .d]) (.c (.s (.r (D 1)) .z) .z)) (.s (.r (D 3)) (.s (.s (.r [.d, .d, .d, .d, (.l (.lf (.i .i64))), .d, .d]) (.c (.s (.r (D 1)) .z) .z)) (.s (.r (D 3)) (.s (.s (.r [.d, .d, .d, .d, (.l (.lf (.i .i64))), .d, .d]) (.c (.s (.r (D 1)) .z) .z)) (.r (D 3)))))))))))))) (.r (D 3))))))) (.s (.r (D 2)) .z)))
def laws.heldInsS.vc (a : Sl) (k : Int) (w : World) (K : Int → World → Prop) : Prop :=
∃ (I : Int → Int → World → Prop) (M : Int → Int → World → Nat),
I k 0 w ∧
(∀ (k_1 : Int) (i : Int) w_, I k_1 i w_ → ∀ _ : Nat → Value,
((decide ((i : Int) < ((a.n : Nat) : Int))) = true → Ix a.a a.n i 6 w_ fun a_t14 w__1 =>
Ld (.i .i64) (Addr.add a_t14 0) w__1 fun (t16 : Int) w__2 =>
(((t16 : Int) != k_1) = true → K (-1) w__2) ∧
(((t16 : Int) != k_1) = false → Ix a.a a.n i 6 w__2 fun a_t23 w__3 =>
Ld (.i .i64) (Addr.add a_t23 1) w__3 fun (t25 : Int) w__4 =>
(((t25 : Int) != (IntKind.wrap .i64 (k_1 + 1))) = true → K (-1) w__4) ∧
(((t25 : Int) != (IntKind.wrap .i64 (k_1 + 1))) = false → Ix a.a a.n i 6 w__4 fun a_t32 w__5 =>
Ld (.i .i64) (Addr.add a_t32 2) w__5 fun (t34 : Int) w__6 =>
(((t34 : Int) != (IntKind.wrap .i64 ((IntKind.wrap .i64 (k_1 + 1)) + 1))) = true → K (-1) w__6) ∧
(((t34 : Int) != (IntKind.wrap .i64 ((IntKind.wrap .i64 (k_1 + 1)) + 1))) = false → Ix a.a a.n i 6 w__6 fun a_t41 w__7 =>
Ld (.i .i64) (Addr.add a_t41 3) w__7 fun (t43 : Int) w__8 =>
(((t43 : Int) != (IntKind.wrap .i64 ((IntKind.wrap .i64 ((IntKind.wrap .i64 (k_1 + 1)) + 1)) + 1))) = true → K (-1) w__8) ∧
(((t43 : Int) != (IntKind.wrap .i64 ((IntKind.wrap .i64 ((IntKind.wrap .i64 (k_1 + 1)) + 1)) + 1))) = false → Ix a.a a.n i 6 w__8 fun a_t50 w__9 =>
Ld (.i .i64) (Addr.add a_t50 4) w__9 fun (t52 : Int) w__10 =>
(((t52 : Int) != (IntKind.wrap .i64 ((IntKind.wrap .i64 ((IntKind.wrap .i64 ((IntKind.wrap .i64 (k_1 + 1)) + 1)) + 1)) + 1))) = true → K (-1) w__10) ∧
(((t52 : Int) != (IntKind.wrap .i64 ((IntKind.wrap .i64 ((IntKind.wrap .i64 ((IntKind.wrap .i64 (k_1 + 1)) + 1)) + 1)) + 1))) = false → Ix a.a a.n i 6 w__10 fun a_t59 w__11 =>
Ld (.i .i64) (Addr.add a_t59 5) w__11 fun (t61 : Int) w__12 =>
(((t61 : Int) != (IntKind.wrap .i64 ((IntKind.wrap .i64 ((IntKind.wrap .i64 ((IntKind.wrap .i64 ((IntKind.wrap .i64 (k_1 + 1)) + 1)) + 1)) + 1)) + 1))) = true → K (-1) w__12) ∧
(((t61 : Int) != (IntKind.wrap .i64 ((IntKind.wrap .i64 ((IntKind.wrap .i64 ((IntKind.wrap .i64 ((IntKind.wrap .i64 (k_1 + 1)) + 1)) + 1)) + 1)) + 1))) = false → (I (IntKind.wrap .i64 ((IntKind.wrap .i64 ((IntKind.wrap .i64 ((IntKind.wrap .i64 ((IntKind.wrap .i64 ((IntKind.wrap .i64 (k_1 + 1)) + 1)) + 1)) + 1)) + 1)) + 1)) (IntKind.wrap .i64 (i + 1)) w__12 ∧ M (IntKind.wrap .i64 ((IntKind.wrap .i64 ((IntKind.wrap .i64 ((IntKind.wrap .i64 ((IntKind.wrap .i64 ((IntKind.wrap .i64 (k_1 + 1)) + 1)) + 1)) + 1)) + 1)) + 1)) (IntKind.wrap .i64 (i + 1)) w__12 < M k_1 i w_)))))))) ∧
((decide ((i : Int) < ((a.n : Nat) : Int))) = false → K k_1 w_))
theorem laws.heldInsS.ok {a : Sl} {k : Int} {w : World} {K : Int → World → Prop} (h : laws.heldInsS.vc a k w K) : CallT (.o (.lf (.i .i64))) P0 10 [a.v, (.int .i64 k)] w K :=
  call_of Tryz.func10 rfl rfl (pl := laws.heldInsS.pl) (show VC P0 Tryz.f10 laws.heldInsS.pl (.o (.lf (.i .i64))) [a.v, (.int .i64 k)] w K noP from Eq.mp (by kernel_rfl) h)
/- laws.FnExactAsmGet -/
def laws.FnExactAsmGet.pl : Pl := (.s (.r (D 1)) (.s (.s (.r (D 3)) (.c (.s (.r (D 1)) .z) .z)) (.s (.r [.d, (.c (.n [(.lf .sl), (.lf .b)])), .d, .d, .d, .d, .d]) (.s (.r [.d, (.c (.n [(.lf .sl), (.lf .b)])), .d, .d, .d, .d, .d]) (.j [] (.s (.r [.d, .d, (.c (.o (.lf .b))), .d, (.sp .d), .d, .d, .d, .d]) (.c (.s (.r (D 1)) .z) .z)) (.s (.r (D 1)) (.s (.r [.d, .d, (.c (.o (.lf (.i .i64)))), .d]) (.s (.r (D 1)) (.s (.r [.d, .d, (.c (.o (.lf (.i .i64)))), .d]) (.s (.s (.r (D 2)) (.c (.s (.r (D 1)) .z) .z)) (.s (.s (.r (D 3)) (.c (.s (.r (D 1)) .z) .z)) (.s (.r [.d, (.c (.n [(.lf .sl), (.lf .b)])), .d, .d, .d, .d, .d]) (.j [] (.s (.r [.d, .d, (.c (.o (.lf .b))), .d, (.sp .d), .d, .d, .d, .d]) (.c (.s (.r (D 1)) .z) .z)) (.s (.r (D 1)) (.s (.r [.d, .d, (.c (.o (.lf (.i .i64)))), .d]) (.s (.s (.r (D 2)) (.c (.s (.r (D 1)) .z) .z)) (.s (.s (.r (D 3)) (.c (.s (.r (D 1)) .z) .z)) (.s (.r (D 1)) .z))))))))))))))))))
def laws.FnExactAsmGet.vc (aS : ByteArray) (w : World) (K : Bool → World → Prop) : Prop :=
((decide (((((ByteArray.size aS) : Nat) : Int) : Int) > 1048576)) = true → K true w) ∧
((decide (((((ByteArray.size aS) : Nat) : Int) : Int) > 1048576)) = false → CallT (.n [(.lf .sl), (.lf .b)]) P0 6 [(.string aS)] w fun (t16 : (Sl) × (Bool) × Unit) w_ =>
CallT (.n [(.lf .sl), (.lf .b)]) P0 7 [(.string aS)] w_ fun (t21 : (Sl) × (Bool) × Unit) w__1 =>
∃ J : World → Prop,
(CallT (.o (.lf .b)) P0 8 [t21.1.v, t16.1.v] w__1 fun (t26 : Bool) w__2 =>
((!t26) = true → K false w__2) ∧
((!t26) = false → ((!(t21.2.1 == t16.2.1)) = true → K false w__2) ∧
((!(t21.2.1 == t16.2.1)) = false → J w__2))) ∧
(∀  w__3, J w__3 → ∀ _ : Nat → Value,
CallT (.o (.lf (.i .i64))) P0 9 [t21.1.v, (.int .i64 1)] w__3 fun (t35 : Int) w__4 =>
CallT (.o (.lf (.i .i64))) P0 10 [t21.1.v, (.int .i64 1)] w__4 fun (t38 : Int) w__5 =>
((decide ((t38 : Int) < 0)) = true → K false w__5) ∧
((decide ((t38 : Int) < 0)) = false → (((t38 : Int) != t35) = true → K false w__5) ∧
(((t38 : Int) != t35) = false → CallT (.n [(.lf .sl), (.lf .b)]) P0 7 [(.string aS)] w__5 fun (t46 : (Sl) × (Bool) × Unit) w__6 =>
∃ J_1 : World → Prop,
(CallT (.o (.lf .b)) P0 8 [t46.1.v, t16.1.v] w__6 fun (t51 : Bool) w__7 =>
((!t51) = true → K false w__7) ∧
((!t51) = false → ((!(t46.2.1 == t16.2.1)) = true → K false w__7) ∧
((!(t46.2.1 == t16.2.1)) = false → J_1 w__7))) ∧
(∀  w__8, J_1 w__8 → ∀ _ : Nat → Value,
CallT (.o (.lf (.i .i64))) P0 10 [t21.1.v, (.int .i64 1)] w__8 fun (t60 : Int) w__9 =>
((decide ((t60 : Int) < 0)) = true → K false w__9) ∧
((decide ((t60 : Int) < 0)) = false → (((t60 : Int) != t35) = true → K false w__9) ∧
(((t60 : Int) != t35) = false → K true w__9)))))))
theorem laws.FnExactAsmGet.ok {aS : ByteArray} {w : World} {K : Bool → World → Prop} (h : laws.FnExactAsmGet.vc aS w K) : CallT (.o (.lf .b)) P0 3 [(.string aS)] w K :=
  call_of Tryz.func3 rfl rfl (pl := laws.FnExactAsmGet.pl) (show VC P0 Tryz.f3 laws.FnExactAsmGet.pl (.o (.lf .b)) [(.string aS)] w K noP from Eq.mp (by kernel_rfl) h)
/- laws.FnAsmPut -/
def laws.FnAsmPut.pl : Pl := (.s (.r (D 1)) (.s (.s (.r (D 3)) (.c (.s (.r (D 1)) .z) .z)) (.s (.r [.d, (.c (.o (.lf .sl))), .d]) (.s (.r [.d, (.c (.o (.lf .s))), .d]) (.s (.j [(29, .b)] (.r [.d, .d, (.c (.o (.lf .s))), .d, (.sp .d), .d, .d, .d, (.c (.o (.lf (.i .i64)))), .d, .d, .d, (.sp .d), .d, .d, .d]) (.c (.s (.r [.d, .d, (.c (.o (.lf .s))), .d, (.sp .d), .d, .d, .d, (.c (.o (.lf (.i .i64)))), .d, .d, .d, .d]) .z) .z)) (.s (.r [.d, (.c (.n [(.lf .sl), (.lf .b)])), .d, .d, .d, .d, .d]) (.s (.r [.d, (.sp .d), .d, .d, (.c (.o (.lf .b))), .d, .d]) .z)))))))
def laws.FnAsmPut.vc (code : Sl) (w : World) (K : Bool → World → Prop) : Prop :=
((decide ((((code.n : Nat) : Int) : Int) > 1048576)) = true → K true w) ∧
((decide ((((code.n : Nat) : Int) : Int) > 1048576)) = false → CallT (.o (.lf .sl)) P0 11 [code.v] w fun (t11 : Sl) w_ =>
CallT (.o (.lf .s)) P0 12 [t11.v] w_ fun (t13 : ByteArray) w__1 =>
∃ J : Bool → World → Prop,
(CallT (.o (.lf .s)) P0 13 [t11.v] w__1 fun (t16 : ByteArray) w__2 =>
((!(ByteArray.toList t13 == ByteArray.toList t16)) = true → J true w__2) ∧
((!(ByteArray.toList t13 == ByteArray.toList t16)) = false → CallT (.o (.lf (.i .i64))) P0 14 [t11.v] w__2 fun (t22 : Int) w__3 =>
((!((!(ByteArray.toList t13 == ByteArray.toList (⟨#[]⟩ : ByteArray))) == ((t22 : Int) == 0))) = true → J true w__3) ∧
((!((!(ByteArray.toList t13 == ByteArray.toList (⟨#[]⟩ : ByteArray))) == ((t22 : Int) == 0))) = false → J (ByteArray.toList t13 == ByteArray.toList (⟨#[]⟩ : ByteArray)) w__3))) ∧
(∀ (t29 : Bool) w__4, J t29 w__4 → ∀ _ : Nat → Value,
(t29 = true → CallT (.o (.lf .s)) P0 13 [t11.v] w__4 fun (t32 : ByteArray) w__5 =>
((ByteArray.toList t13 == ByteArray.toList t32) = true → CallT (.o (.lf (.i .i64))) P0 14 [t11.v] w__5 fun (t38 : Int) w__6 =>
K ((!(ByteArray.toList t13 == ByteArray.toList (⟨#[]⟩ : ByteArray))) == ((t38 : Int) == 0)) w__6) ∧
((ByteArray.toList t13 == ByteArray.toList t32) = false → K false w__5)) ∧
(t29 = false → CallT (.n [(.lf .sl), (.lf .b)]) P0 7 [(.string t13)] w__4 fun (t44 : (Sl) × (Bool) × Unit) w__7 =>
(t44.2.1 = true → CallT (.o (.lf .b)) P0 15 [t44.1.v, t11.v] w__7 fun (t51 : Bool) w__8 =>
K t51 w__8) ∧
(t44.2.1 = false → K false w__7))))
theorem laws.FnAsmPut.ok {code : Sl} {w : World} {K : Bool → World → Prop} (h : laws.FnAsmPut.vc code w K) : CallT (.o (.lf .b)) P0 4 [code.v] w K :=
  call_of Tryz.func4 rfl rfl (pl := laws.FnAsmPut.pl) (show VC P0 Tryz.f4 laws.FnAsmPut.pl (.o (.lf .b)) [code.v] w K noP from Eq.mp (by kernel_rfl) h)
/- laws.FnAsmGet -/
def laws.FnAsmGet.pl : Pl := (.s (.r (D 1)) (.s (.s (.r (D 3)) (.c (.s (.r (D 1)) .z) .z)) (.s (.r [.d, (.c (.o (.lf .s))), .d]) (.s (.r [.d, (.c (.n [(.lf .sl), (.lf .b)])), .d, .d, .d, .d, .d]) (.s (.r [.d, (.c (.n [(.lf .sl), (.lf .b)])), .d, .d, .d, .d, .d]) (.s (.j [(35, .b)] (.r [.d, .d, .d, (.sp .d), .d, .d, (.c (.o (.lf .b))), .d, .d, (.sp .d), .d, .d, .d]) (.c (.s (.r [.d, .d, .d, (.sp .d), .d, .d, (.c (.o (.lf .b))), .d, .d]) .z) .z)) (.s (.r [.d, (.c (.o (.lf .s))), .d, .d, (.sp .d), .d, (.c (.o (.lf (.i .i64)))), .d, .d, .d]) .z)))))))
def laws.FnAsmGet.vc (code : Sl) (w : World) (K : Bool → World → Prop) : Prop :=
((decide ((((code.n : Nat) : Int) : Int) > 1048576)) = true → K true w) ∧
((decide ((((code.n : Nat) : Int) : Int) > 1048576)) = false → CallT (.o (.lf .s)) P0 16 [code.v] w fun (t12 : ByteArray) w_ =>
CallT (.n [(.lf .sl), (.lf .b)]) P0 7 [(.string t12)] w_ fun (t15 : (Sl) × (Bool) × Unit) w__1 =>
CallT (.n [(.lf .sl), (.lf .b)]) P0 6 [(.string t12)] w__1 fun (t20 : (Sl) × (Bool) × Unit) w__2 =>
∃ J : Bool → World → Prop,
(((!(t15.2.1 == t20.2.1)) = true → J true w__2) ∧
((!(t15.2.1 == t20.2.1)) = false → CallT (.o (.lf .b)) P0 15 [t15.1.v, t20.1.v] w__2 fun (t29 : Bool) w__3 =>
((!t29) = true → J true w__3) ∧
((!t29) = false → J (!t15.2.1) w__3))) ∧
(∀ (t35 : Bool) w__4, J t35 w__4 → ∀ _ : Nat → Value,
(t35 = true → ((t15.2.1 == t20.2.1) = true → CallT (.o (.lf .b)) P0 15 [t15.1.v, t20.1.v] w__4 fun (t42 : Bool) w__5 =>
K t42 w__5) ∧
((t15.2.1 == t20.2.1) = false → K false w__4)) ∧
(t35 = false → CallT (.o (.lf .s)) P0 12 [t15.1.v] w__4 fun (t45 : ByteArray) w__6 =>
((ByteArray.toList t45 == ByteArray.toList t12) = true → CallT (.o (.lf (.i .i64))) P0 14 [t15.1.v] w__6 fun (t50 : Int) w__7 =>
K ((t50 : Int) == 0) w__7) ∧
((ByteArray.toList t45 == ByteArray.toList t12) = false → K false w__6))))
theorem laws.FnAsmGet.ok {code : Sl} {w : World} {K : Bool → World → Prop} (h : laws.FnAsmGet.vc code w K) : CallT (.o (.lf .b)) P0 5 [code.v] w K :=
  call_of Tryz.func5 rfl rfl (pl := laws.FnAsmGet.pl) (show VC P0 Tryz.f5 laws.FnAsmGet.pl (.o (.lf .b)) [code.v] w K noP from Eq.mp (by kernel_rfl) h)
end Go.Proofs.YteggdoigliddkaaGreatDoor.V

/- Plain laws: lines of rules are read back. -/
namespace Go.Proofs.YteggdoigliddkaaGreatDoor.V
open Go Go.RowKit
set_option linter.unusedVariables false
set_option linter.unusedSimpArgs false
theorem wordsR_ne (r : Rule) : wordsR r ≠ [] := by unfold wordsR; simp
theorem wordsR_len (r : Rule) : (wordsR r).length = if r.verdict = 2 then 6 else 5 := by unfold wordsR; split <;> simp
theorem line_words {r : Rule} (h : RuleP r) : cutN 32 6 (lineL r) = wordsR r :=
  cutN_join 6 (wordsR_ne r) (by rw [wordsR_len]; split <;> omega) (words_no h (by decide))
theorem opIdx {n : Int} (h : 12 ≤ n ∧ n ≤ 15) : Lib.idxOfS (opW.map bs) (bs (opA n)) = n := by
  obtain rfl | rfl | rfl | rfl : n = 12 ∨ n = 13 ∨ n = 14 ∨ n = 15 := by omega
  all_goals decide
theorem vIdx {n : Int} (h : 0 ≤ n ∧ n ≤ 2) : Lib.idxOfS (vW.map bs) (bs (vA n)) = n := by
  obtain rfl | rfl | rfl : n = 0 ∨ n = 1 ∨ n = 2 := by omega
  all_goals decide
theorem itoa_num {n : Int} (h : 0 ≤ n) : (figN (Lib.itoa n) : Int) = n := by rw [itoa_fig h, figN_dec]; omega
/-- What a rule's words say. -/
def RdW (ws : List By) (r : Rule) : Prop := ∀ x, RuleP x → ws = wordsR x → r = x
theorem words_inj {x y : Rule} (hx : RuleP x) (hy : RuleP y) (h : wordsR x = wordsR y) : x = y := by
  have hl := congrArg List.length h
  rw [wordsR_len, wordsR_len] at hl
  have e1 : Lib.itoa x.at_ = Lib.itoa y.at_ := by have := congrArg (fun l => l[1]?) h; simpa [wordsR] using this
  have e2 : opA x.op = opA y.op := by have := congrArg (fun l => l[2]?) h; simpa [wordsR] using this
  have e3 : Lib.itoa x.num = Lib.itoa y.num := by have := congrArg (fun l => l[3]?) h; simpa [wordsR] using this
  have e4 : vA x.verdict = vA y.verdict := by have := congrArg (fun l => l[4]?) h; simpa [wordsR] using this
  have a1 : x.at_ = y.at_ := by rw [← itoa_num hx.1.1, ← itoa_num hy.1.1, e1]
  have a2 : x.op = y.op := by rw [← opIdx hx.2.1, ← opIdx hy.2.1, e2]
  have a3 : x.num = y.num := by rw [← itoa_num hx.2.2.1.1, ← itoa_num hy.2.2.1.1, e3]
  have a4 : x.verdict = y.verdict := by rw [← vIdx hx.2.2.2.1, ← vIdx hy.2.2.2.1, e4]
  have a5 : x.key = y.key := by
    by_cases hv : x.verdict = 2
    · have hv' : y.verdict = 2 := by omega
      have e5 : Lib.itoa x.key = Lib.itoa y.key := by have := congrArg (fun l => l[5]?) h; simpa [wordsR, hv, hv'] using this
      rw [← itoa_num hx.2.2.2.2.1.1, ← itoa_num hy.2.2.2.2.1.1, e5]
    · have h1 := hx.2.2.2.2.2.resolve_right hv
      have h2 := hy.2.2.2.2.2.resolve_right (by omega)
      omega
  rcases x with ⟨x0, x1, x2, x3, x4⟩
  rcases y with ⟨y0, y1, y2, y3, y4⟩
  simp only at a1 a2 a3 a4 a5
  rw [a1, a2, a3, a4, a5]
theorem line_inj {x y : Rule} (hx : RuleP x) (hy : RuleP y) (h : lineL x = lineL y) : x = y := by
  refine words_inj hx hy ?_
  rw [← line_words hx, ← line_words hy, h]
theorem join_cut (c : UInt8) : ∀ (k : Nat) (l : By), joinW c (cutN c k l) = l
  | 0, l => rfl
  | k + 1, l => by
    unfold cutN
    cases h : cut1 c l with
    | none => rfl
    | some p =>
      obtain ⟨a, b⟩ := p
      obtain ⟨h1, _⟩ := cut1_some h
      simp only
      have hne : cutN c k b ≠ [] := by cases k with | zero => simp [cutN] | succ k => unfold cutN; split <;> simp
      rw [joinW_cons hne, join_cut c k b, ← h1]
theorem text_join : ∀ {L : List Rule}, L ≠ [] → textL L = joinW 10 (L.map lineL) ++ [10]
  | [], h => absurd rfl h
  | [x], _ => by simp [textL, joinW]
  | x :: y :: ys, _ => by
    have h1 := text_join (L := y :: ys) (by simp)
    have e : textL (x :: y :: ys) = (lineL x ++ [10]) ++ textL (y :: ys) := rfl
    have e2 : joinW 10 ((x :: y :: ys).map lineL) = lineL x ++ 10 :: joinW 10 ((y :: ys).map lineL) := rfl
    rw [e, h1, e2]
    simp only [List.append_assoc, List.cons_append, List.nil_append]
theorem text_lines {L : List Rule} (hp : ∀ x ∈ L, RuleP x) (hne : L ≠ []) {k : Nat} (hk : L.length ≤ k + 1) : cutN 10 k (textL L).dropLast = L.map lineL := by
  rw [text_join hne, List.dropLast_concat]
  refine cutN_join k (by simpa using hne) (by simpa using hk) (fun w hw => ?_)
  obtain ⟨x, hx, rfl⟩ := List.mem_map.1 hw
  exact line_no (hp x hx)
theorem text_ne {L : List Rule} (h : L ≠ []) : textL L ≠ [] := by rw [text_join h]; simp
theorem text_last {L : List Rule} (h : L ≠ []) : (textL L).getLast? = some 10 := by rw [text_join h]; simp
theorem map_inj {X Y : List Rule} (hx : ∀ x ∈ X, RuleP x) (hy : ∀ x ∈ Y, RuleP x) (h : X.map lineL = Y.map lineL) : X = Y := by
  have hl := congrArg List.length h
  simp only [List.length_map] at hl
  refine List.ext_getElem? fun i => ?_
  have hi := congrArg (fun l => l[i]?) h
  simp only [List.getElem?_map] at hi
  cases h1 : X[i]? with
  | none => cases h2 : Y[i]? with
    | none => rfl
    | some y => rw [h1, h2] at hi; simp at hi
  | some x => cases h2 : Y[i]? with
    | none => rw [h1, h2] at hi; simp at hi
    | some y =>
      rw [h1, h2] at hi
      simp only [Option.map_some, Option.some.injEq] at hi
      rw [line_inj (hx x (List.mem_of_getElem? h1)) (hy y (List.mem_of_getElem? h2)) hi]
theorem text_inj {X Y : List Rule} (hx : ∀ x ∈ X, RuleP x) (hy : ∀ x ∈ Y, RuleP x) (h : textL X = textL Y) : X = Y := by
  by_cases h1 : X = []
  · by_cases h2 : Y = []
    · rw [h1, h2]
    · exact absurd (by rw [← h, h1]; rfl) (text_ne h2)
  · by_cases h2 : Y = []
    · exact absurd (by rw [h, h2]; rfl) (text_ne h1)
    · refine map_inj hx hy ?_
      rw [← text_lines hx h1 (k := X.length + Y.length) (by omega), ← text_lines hy h2 (k := X.length + Y.length) (by omega), h]
theorem text_drop {L : List Rule} {k : Nat} {x : Rule} (h : L[k]? = some x) : textL (L.drop k) = lineL x ++ 10 :: textL (L.drop (k + 1)) := by
  rw [getElem?_drop_cons h]; simp [textL]
end Go.Proofs.YteggdoigliddkaaGreatDoor.V

/- Contracts: rules are read, in the reference. -/
namespace Go.Proofs.YteggdoigliddkaaGreatDoor.V
open Go Go.RowKit
set_option linter.unusedVariables false
set_option linter.unusedSimpArgs false
def rule0 : Rule := ⟨0, 0, 0, 0, 0⟩
section
variable {w : World} {b : Nat} {m y : Rule}
theorem heapG {w w' : World} {c : Nat} {o : Obj} {row : Option Nat} (h : w.heap[c]? = some o) (hg : w.grownBy w' row) (hne : row ≠ some c) : w'.heap[c]? = some o :=
  (hg.block c (Array.getElem?_eq_some_iff.1 h).1 (fun e => hne e.symm)).trans h
end
/-- One box may become this. -/
def SpC (c : Nat) (o : Obj) (a b : World) : Prop := a.grownBy b (some c) ∧ (b.heap[c]? = a.heap[c]? ∨ b.heap[c]? = some o)
theorem spcOk (c : Nat) (o : Obj) (w : World) : SpOk (SpC c o) w := by
  refine ⟨fun a => ⟨grown_refl _ _, .inl rfl⟩, fun a b d h1 h2 => ⟨grown_trans h1.1 h2.1, ?_⟩, ⟨grown_any (Below.refl _ _).drew, .inl rfl⟩⟩
  rcases h2.2 with h | h
  · rcases h1.2 with h' | h'
    · exact .inl (h.trans h')
    · exact .inr (h.trans h')
  · exact .inr h
theorem SpC.below {c : Nat} {o : Obj} {a b : World} (h : Below a.heap.size a b) (hc : c < a.heap.size) : SpC c o a b := ⟨grown_any h, .inl (h.block c hc)⟩
/-- What is known of words that are read. -/
def Num1 (z : By) (v : Int) : Prop := ∀ u : Nat, u < 10000000000 → z = Lib.decDigits u → v = u
theorem num1 {z : By} {v n : Int} (h : Num1 z v) (h0 : 0 ≤ n) (h1 : n ≤ 4294967295) (e : z = Lib.itoa n) : v = n := by
  have := h n.toNat (by omega) (by rw [e, itoa_fig h0]); omega
section
variable {w : World}
end
end Go.Proofs.YteggdoigliddkaaGreatDoor.V

/- Contracts: a rule is read, in the program. -/
namespace Go.Proofs.YteggdoigliddkaaGreatDoor.V
open Go Go.RowKit
set_option linter.unusedVariables false
set_option linter.unusedSimpArgs false
section
variable {w : World}
theorem sliceOps {b : Nat} (h : w.heap[b]? = some (.cells (Tup.cells (R 21 .s) opT).toArray 94 (0, 0))) {K : Sl → World → Prop} (hk : ∀ s, SlR kS w s (opW.map bs) → K s w) :
    RunT (.o (.lf .sl)) P0 (Instr.sliceAt 94 (.pointer (some ⟨b, 0, none⟩)) none none none) w K := by
  have hs : szOf P0 9 = some 1 := by kernel_rfl
  refine ⟨⟨some ⟨b, 0, none⟩, 21, 21⟩, w, ?_, hk _ ⟨by simp [opW], by simp, by simp [maxLen], .inr ⟨b, 0, rfl, fun i x hx m v hv => ?_⟩⟩⟩
  · simp [Instr.sliceAt, underlying, uOps, Instr.sureAddr, Instr.sliceBounds, run_sizeOf hs, Rs.emb, Ty.emb, Lf.emb, Sl.v, Addr.add]
  · rw [List.getElem?_map] at hx
    obtain ⟨y, hy, rfl⟩ := Option.map_eq_some_iff.1 hx
    have hm : m = 0 := by
      cases m with
      | zero => rfl
      | succ m => simp [kS, Kd.cells, Tup.cells] at hv
    subst hm
    have e : 0 + i * kS.ls.length + 0 = i := by show 0 + i * 1 + 0 = i; omega
    rw [e, cell_of h, opT_cells]
    have hv2 : v = Value.string (bs y) := by simpa [kS, Kd.cells, Tup.cells, Lf.emb] using hv.symm
    simp [hy, hv2]
end
end Go.Proofs.YteggdoigliddkaaGreatDoor.V

/- Contracts: rules are read, on both sides. -/
namespace Go.Proofs.YteggdoigliddkaaGreatDoor.V
open Go Go.RowKit
set_option linter.unusedVariables false
set_option linter.unusedSimpArgs false
theorem own_ty {α : Type} {k : Kd α} {t : TypeId} {B g : Nat} {w : World} {s : Sl} {xs : List α} (h : OwnS k t B w s xs) (hg : (Value.slice s.a s.n s.c).ownBlock = some g) : ∃ cur, w.heap[g]? = some (.cells cur t (0, 0)) := by
  rcases h.2.2 with ⟨hv, h0⟩ | ⟨g', cap, cur, hv, hB, hg', r⟩
  · rw [hv] at hg; simp [Value.ownBlock] at hg
  · rw [hv] at hg
    have : g' = g := by simpa [Value.ownBlock] using hg
    subst this
    exact ⟨cur, hg'⟩
theorem own_ne {α β : Type} {k : Kd α} {k' : Kd β} {t t' : TypeId} {B B' g : Nat} {w : World} {s s' : Sl} {xs : List α} {ys : List β} (h : OwnS k t B w s xs) (h' : OwnS k' t' B' w s' ys) (ht : t ≠ t') (hg : (Value.slice s.a s.n s.c).ownBlock = some g) : (Value.slice s'.a s'.n s'.c).ownBlock ≠ some g := fun e => by
  obtain ⟨c1, e1⟩ := own_ty h hg
  obtain ⟨c2, e2⟩ := own_ty h' e
  rw [e1] at e2
  simp only [Option.some.injEq, Obj.cells.injEq] at e2
  exact ht e2.2.1
section
variable {w : World} {l : By}
theorem eqEmpty {l : By} : (ByteArray.toList (bs l) == ByteArray.toList (⟨#[]⟩ : ByteArray)) = decide (l = []) := by
  rw [bs_toList, show (⟨#[]⟩ : ByteArray) = bs [] from rfl, bs_toList, Bool.eq_iff_iff]; simp
theorem WrS.clipR {B : Nat} {s : Sl} {xs : List Rule} {t : TypeId} (h : WrS kRule t B w s xs) : WrS kRule t B w ⟨s.a, s.n, s.n⟩ xs :=
  ⟨h.1, Nat.le_refl _, Nat.le_trans h.2.1 h.2.2.1, h.2.2.2⟩
end
end Go.Proofs.YteggdoigliddkaaGreatDoor.V

/- Contracts: beginnings and ends of texts; registers and values are read. -/
namespace Go.Proofs.YteggdoigliddkaaGreatDoor.V
open Go Go.RowKit
set_option linter.unusedVariables false
set_option linter.unusedSimpArgs false
section
variable {w : World} {l : By} {d : UInt8}
theorem hasPreI.c {K : Bool → World → Prop} (hl : l.length ≤ 4611686018427387904) (hk : K (decide (l.head? = some d)) w) : CallT (.o (.lf .b)) P0 87 [.string (bs l), .string (bs [d])] w K := by
  refine internal.stringslite.HasPrefix.ok ?_
  unfold internal.stringslite.HasPrefix.vc
  rw [bs_size, bs_size]
  refine And.intro (fun h => ?_) (fun h => ?_)
  · have h : 1 ≤ l.length := by simp at h; omega
    refine slS (lo := none) (hi := some (([d].length : Nat) : Int)) (f := 0) (k := 1) rfl rfl (by omega) h ?_
    rw [bs_toList, bs_toList]
    have e : (((l.drop 0).take (1 - 0)) == [d]) = decide (l.head? = some d) := by
      cases l with
      | nil => simp at h
      | cons x xs => rw [Bool.eq_iff_iff]; simp
    rw [e]; exact hk
  · have h : l = [] := by simp at h; exact List.eq_nil_of_length_eq_zero (by omega)
    subst h
    simpa using hk
theorem hasPre.c {K : Bool → World → Prop} (hl : l.length ≤ 4611686018427387904) (hk : K (decide (l.head? = some d)) w) : CallT (.o (.lf .b)) P0 58 [.string (bs l), .string (bs [d])] w K :=
  strings.HasPrefix.ok (hasPreI.c hl hk)
theorem cutPre.c {K : ByteArray × Bool × Unit → World → Prop} (hl : l.length ≤ 4611686018427387904) (h0 : ∀ r, l = d :: r → K (bs r, true, ()) w) (h1 : l.head? ≠ some d → K (bs l, false, ()) w) :
    CallT (.n [(.lf .s), (.lf .b)]) P0 56 [.string (bs l), .string (bs [d])] w K := by
  refine strings.CutPrefix.ok (internal.stringslite.CutPrefix.ok ?_)
  unfold internal.stringslite.CutPrefix.vc
  refine hasPreI.c hl ?_
  rw [bs_size]
  refine And.intro (fun h => h1 (by simpa using h)) (fun h => ?_)
  have h : l.head? = some d := by simpa using h
  cases l with
  | nil => simp at h
  | cons x xs =>
    have e : x = d := by simpa using h
    subst e
    refine slS (lo := some (([x].length : Nat) : Int)) (hi := none) (f := 1) (k := (x :: xs).length) rfl rfl (by simp) (Nat.le_refl _) ?_
    have e : ((x :: xs).drop 1).take ((x :: xs).length - 1) = xs := by simp
    rw [e]
    exact h0 xs rfl
theorem hasSufI.c {K : Bool → World → Prop} (hl : l.length ≤ 4611686018427387904) (hk : K (decide (l.getLast? = some d)) w) : CallT (.o (.lf .b)) P0 106 [.string (bs l), .string (bs [d])] w K := by
  refine internal.stringslite.HasSuffix.ok ?_
  unfold internal.stringslite.HasSuffix.vc
  rw [bs_size, bs_size]
  refine And.intro (fun h => ?_) (fun h => ?_)
  · have h : 1 ≤ l.length := by simp at h; omega
    have e : IntKind.wrap .i64 ((l.length : Int) - (([d].length : Nat) : Int)) = ((l.length - 1 : Nat) : Int) := by rw [i64_of (by simp; omega) (by simp; omega)]; simp; omega
    rw [e]
    refine slS (lo := some ((l.length - 1 : Nat) : Int)) (hi := none) (f := l.length - 1) (k := l.length) rfl rfl (by omega) (Nat.le_refl _) ?_
    rw [bs_toList, bs_toList]
    have hne : l ≠ [] := fun e => by rw [e] at h; simp at h
    have e : (((l.drop (l.length - 1)).take (l.length - (l.length - 1))) == [d]) = decide (l.getLast? = some d) := by
      have hl := List.getLast?_eq_some_getLast hne
      have hd : l.drop (l.length - 1) = [l.getLast hne] := by
        have h2 : (l.dropLast ++ [l.getLast hne]).drop (l.length - 1) = [l.getLast hne] := by rw [List.drop_append, List.drop_eq_nil_of_le (by simp), List.length_dropLast]; simp
        rwa [List.dropLast_concat_getLast hne] at h2
      have ht : l.length - (l.length - 1) = 1 := by omega
      rw [hl, hd, ht, Bool.eq_iff_iff]; simp
    rw [e]; exact hk
  · have h : l = [] := by simp at h; exact List.eq_nil_of_length_eq_zero (by omega)
    subst h
    simpa using hk
theorem cutSuf.c {K : ByteArray × Bool × Unit → World → Prop} (hl : l.length ≤ 4611686018427387904) (h0 : ∀ r, l = r ++ [d] → K (bs r, true, ()) w) (h1 : l.getLast? ≠ some d → K (bs l, false, ()) w) :
    CallT (.n [(.lf .s), (.lf .b)]) P0 55 [.string (bs l), .string (bs [d])] w K := by
  refine strings.CutSuffix.ok (internal.stringslite.CutSuffix.ok ?_)
  unfold internal.stringslite.CutSuffix.vc
  refine hasSufI.c hl ?_
  rw [bs_size, bs_size]
  refine And.intro (fun h => h1 (by simpa using h)) (fun h => ?_)
  have h : l.getLast? = some d := by simpa using h
  have hne : l ≠ [] := fun e => by rw [e] at h; simp at h
  have hp := List.length_pos_iff.2 hne
  have hlast : l.getLast hne = d := by rw [List.getLast?_eq_some_getLast hne] at h; simpa using h
  have e : IntKind.wrap .i64 ((l.length : Int) - (([d].length : Nat) : Int)) = ((l.length - 1 : Nat) : Int) := by rw [i64_of (by simp; omega) (by simp; omega)]; simp; omega
  rw [e]
  refine slS (lo := none) (hi := some ((l.length - 1 : Nat) : Int)) (f := 0) (k := l.length - 1) rfl rfl (by omega) (by omega) ?_
  have e : (l.drop 0).take (l.length - 1 - 0) = l.dropLast := by rw [List.dropLast_eq_take]; rfl
  rw [e]
  exact h0 _ (by have := List.dropLast_concat_getLast hne; rw [hlast] at this; exact this.symm)
theorem impl.readReg.t {z : By} {K : Int → World → Prop} (ht : Te w) (hl : z.length ≤ 1048576) (hk : ∀ w', Below w.heap.size w w' → K (regA z) w') : CallT (.o (.lf (.i .i64))) P0 89 [.string (bs z)] w K := by
  refine impl.readReg.ok (cutPre.c (d := 114) (by omega) (fun r e => And.intro (fun h => by simp at h) (fun _ => ?_)) (fun h => And.intro (fun _ => ?_) (fun h => by simp at h)))
  · subst e
    exact impl.number.c ht (by simp at hl; omega) hk
  · have e : regA z = -2 := by
      unfold regA
      split
      · simp at h
      · rfl
    have := hk w (Below.refl _ _)
    rw [e] at this; exact this
end
/-- The box of an op. -/
def bI (x : Ins) : Obj := .cells x.cs 39 (0, 0)
def ins0 : Ins := ⟨0, 0, 0, 0, 0, 0⟩
theorem zI : zc P0 39 = ins0.cs := by kernel_rfl
section
variable {w : World} {b : Nat} {m y : Ins}
theorem nwIz {K : Addr → World → Prop} (hk : ∀ w', Below w.heap.size w w' → w'.heap.size = w.heap.size + 1 → w'.heap[w.heap.size]? = some (bI ins0) → K ⟨w.heap.size, 0, none⟩ w') : Nw (zc P0 39) 39 w K := by
  rw [zI]; exact nw hk
theorem stI (h : w.heap[b]? = some (bI m)) {K : World → Prop} (hk : ∀ w', w.grownBy w' (some b) → w'.heap.size = w.heap.size → w'.heap[b]? = some (bI y) → K w') : StA P0 ⟨b, 0, none⟩ (Tup.cells (R 6 (.i .i64)) y.t) w K := by
  obtain ⟨w', hr, hg, hsz, hh⟩ := run_storeCells_at' P0 (b := b) (t := 39) (Tup.cells (R 6 (.i .i64)) y.t) 0 [] (Tup.cells (R 6 (.i .i64)) m.t) w (oneCell_cells kIns noAny6 y) rfl rfl h
  exact ⟨w', hr, hk w' hg hsz hh⟩
theorem ldI (h : w.heap[b]? = some (bI m)) {K : Tup (R 6 (.i .i64)) → World → Prop} (hk : K m.t w) : LdA (R 6 (.i .i64)) ⟨b, 0, none⟩ w K := ldAB h rfl hk
end
/-- Words that are read into a box. -/
def RdI (W : World) (s : Sl) (zs : List ByteArray) (b : Nat) (r : Ins) (w : World) : Prop :=
  Below W.heap.size W w ∧ w.heap[W.heap.size]? = some (bI ins0) ∧ w.heap[b]? = some (bI r) ∧ W.heap.size < b ∧ SlR kS w s zs ∧ (∀ b', s.bk = some b' → b' < W.heap.size) ∧ Te W
section
variable {W w : World} {s : Sl} {zs : List ByteArray} {b : Nat} {r : Ins}
theorem RdI.below {w' : World} (h : RdI W s zs b r w) (hb : Below w.heap.size w w') : RdI W s zs b r w' := by
  obtain ⟨h1, h2, h3, h4, h5, h6, h7⟩ := h
  exact ⟨h1.trans (hb.mono h1.size), (hb.block _ (Array.getElem?_eq_some_iff.1 h2).1).trans h2, (hb.block _ (Array.getElem?_eq_some_iff.1 h3).1).trans h3, h4, h5.below hb, h6, h7⟩
theorem RdI.grown {w' : World} {r' : Ins} (h : RdI W s zs b r w) (hg : w.grownBy w' (some b)) (hb : w'.heap[b]? = some (bI r')) : RdI W s zs b r' w' := by
  obtain ⟨h1, h2, h3, h4, h5, h6, h7⟩ := h
  refine ⟨h1.grown hg h1.size (fun g hg => by simp only [Option.some.injEq] at hg; omega), (hg.block _ (Array.getElem?_eq_some_iff.1 h2).1 (fun e => by simp only [Option.some.injEq] at e; omega)).trans h2, hb, h4, h5.kept2 hg (fun b' o ha e => ?_), h6, h7⟩
  simp only [Option.some.injEq] at e
  have := h6 b' (by simp [Sl.bk, ha])
  omega
theorem RdI.te (h : RdI W s zs b r w) : Te w := h.2.2.2.2.2.2.below h.1
theorem RdI.st {j : Nat} {v : Int} {r' : Ins} (h : RdI W s zs b r w) (hj : j < 6) (hr : r'.cs = r.cs.setIfInBounds j (.int .i64 v)) {K : World → Prop} (hk : ∀ w', RdI W s zs b r' w' → K w') : St (Addr.add ⟨b, 0, none⟩ j) (.int .i64 v) w K :=
  stB h.2.2.1 rfl (by simpa [Ins.cs] using hj) fun w' hg hs hc => hk w' (h.grown hg (by rw [hc, ← hr]; rfl))
theorem RdI.word {i : Nat} {z : By} (h : RdI W s zs b r w) (hz : zs[i]? = some (bs z)) {K : ByteArray → World → Prop} (hk : K (bs z) w) : Ix s.a s.n (i : Int) 1 w fun a w' => Ld .s a w' K :=
  ixL h.2.2.2.2.1 (i := (i : Int)) (by omega) (x := bs z) (by simpa using hz) rfl (l := .s) (v := bs z) rfl hk
theorem impl.Ins.setValue.t {z : By} {K : Unit → World → Prop} (h : RdI W s zs b r w) (hl : z.length ≤ 1048576) (h0 : r.imm = 0) (hk : ∀ w', RdI W s zs b ⟨r.op, r.dst, (valA z).1, r.off, (valA z).2, r.size⟩ w' → K () w') :
    CallT .z P0 90 [.pointer (some ⟨b, 0, none⟩), .string (bs z)] w K := by
  refine impl.Ins.setValue.ok (hasPre.c (d := 114) (by omega) (And.intro (fun hr => ?_) (fun hr => ?_)))
  · have hr : z.head? = some 114 := by simpa using hr
    cases z with
    | nil => simp at hr
    | cons x xs =>
      have e : x = 114 := by simpa using hr
      subst e
      refine impl.readReg.t h.te hl fun w1 b1 => ⟨_, rfl, ?_⟩
      refine (h.below b1).st (r' := ⟨r.op, r.dst, regA (114 :: xs), r.off, r.imm, r.size⟩) (by omega) rfl fun w2 h2 => ?_
      rw [h0] at h2
      exact hk w2 h2
  · have hr : z.head? ≠ some 114 := by simpa using hr
    have e : valA z = (-1, numA z) := by
      unfold valA
      split
      · simp at hr
      · rfl
    refine impl.number.c h.te (by omega) fun w1 b1 => ⟨_, rfl, ?_⟩
    refine (h.below b1).st (r' := ⟨r.op, r.dst, -1, r.off, r.imm, r.size⟩) (by omega) rfl fun w2 h2 => ⟨_, rfl, ?_⟩
    refine h2.st (r' := ⟨r.op, r.dst, -1, r.off, numA z, r.size⟩) (by omega) rfl fun w3 h3 => ?_
    rw [e] at hk
    exact hk w3 h3
end
end Go.Proofs.YteggdoigliddkaaGreatDoor.V

/- Contracts: an op's words are read, in the program. -/
namespace Go.Proofs.YteggdoigliddkaaGreatDoor.V
open Go Go.RowKit
set_option linter.unusedVariables false
set_option linter.unusedSimpArgs false
section
variable {w : World}
theorem opsBox {K : Addr → World → Prop} (hk : ∀ b w', Below w.heap.size w w' → w.heap.size ≤ b → w'.heap[b]? = some (.cells (Tup.cells (R 21 .s) opT).toArray 94 (0, 0)) → K ⟨b, 0, none⟩ w') :
    Nw (zc P0 94) 94 w fun a w' => StA P0 a (Tup.cells (R 21 .s) opT) w' (K a) := by
  rw [zOps]
  refine nw fun w1 b1 s1 c1 => ?_
  obtain ⟨w2, hr, hg, hsz, hh⟩ := run_storeCells_at' P0 (b := w.heap.size) (t := 94) (Tup.cells (R 21 .s) opT) 0 [] (Tup.cells (R 21 .s) op0) w1 (by rw [opT_cells]; intro v hv; simp only [List.mem_map] at hv; obtain ⟨x, _, rfl⟩ := hv; rfl) rfl rfl (by simpa using c1)
  exact ⟨w2, hr, hk _ w2 (b1.grown hg b1.size (fun g hg => by simp only [Option.some.injEq] at hg; omega)) (Nat.le_refl _) hh⟩
theorem callsBox {K : Addr → World → Prop} (hk : ∀ b w', Below w.heap.size w w' → w.heap.size ≤ b → w'.heap[b]? = some (.cells (Tup.cells (R 7 .s) callT).toArray 96 (0, 0)) → K ⟨b, 0, none⟩ w') :
    Nw (zc P0 96) 96 w fun a w' => StA P0 a (Tup.cells (R 7 .s) callT) w' (K a) := by
  rw [zCalls]
  refine nw fun w1 b1 s1 c1 => ?_
  obtain ⟨w2, hr, hg, hsz, hh⟩ := run_storeCells_at' P0 (b := w.heap.size) (t := 96) (Tup.cells (R 7 .s) callT) 0 [] (Tup.cells (R 7 .s) call0) w1 (by rw [callT_cells]; intro v hv; simp only [List.mem_map] at hv; obtain ⟨x, _, rfl⟩ := hv; rfl) rfl rfl (by simpa using c1)
  exact ⟨w2, hr, hk _ w2 (b1.grown hg b1.size (fun g hg => by simp only [Option.some.injEq] at hg; omega)) (Nat.le_refl _) hh⟩
theorem uCalls : P0.underlying 96 = some (.array 7 9) := by kernel_rfl
theorem sliceCalls {b : Nat} (h : w.heap[b]? = some (.cells (Tup.cells (R 7 .s) callT).toArray 96 (0, 0))) {K : Sl → World → Prop} (hk : ∀ s, SlR kS w s (callW.map bs) → K s w) :
    RunT (.o (.lf .sl)) P0 (Instr.sliceAt 96 (.pointer (some ⟨b, 0, none⟩)) none none none) w K := by
  have hs : szOf P0 9 = some 1 := by kernel_rfl
  refine ⟨⟨some ⟨b, 0, none⟩, 7, 7⟩, w, ?_, hk _ ⟨by simp [callW], by simp, by simp [maxLen], .inr ⟨b, 0, rfl, fun i x hx m v hv => ?_⟩⟩⟩
  · simp [Instr.sliceAt, underlying, uCalls, Instr.sureAddr, Instr.sliceBounds, run_sizeOf hs, Rs.emb, Ty.emb, Lf.emb, Sl.v, Addr.add]
  · rw [List.getElem?_map] at hx
    obtain ⟨y, hy, rfl⟩ := Option.map_eq_some_iff.1 hx
    have hm : m = 0 := by
      cases m with
      | zero => rfl
      | succ m => simp [kS, Kd.cells, Tup.cells] at hv
    subst hm
    have e : 0 + i * kS.ls.length + 0 = i := by show 0 + i * 1 + 0 = i; omega
    rw [e, cell_of h, callT_cells]
    have hv2 : v = Value.string (bs y) := by simpa [kS, Kd.cells, Tup.cells, Lf.emb] using hv.symm
    simp [hy, hv2]
end
/-- An old address that holds this. -/
def AtH (H : Nat) (vs : List Value) (a : Addr) (w : World) : Prop := ∃ b o, a = ⟨b, o, none⟩ ∧ b < H ∧ At w b o vs
theorem AtH.w {H : Nat} {v : Value} {a : Addr} {w : World} (h : AtH H [v] a w) : AtW [v] a w := by
  obtain ⟨b, o, h1, h2, h3⟩ := h
  exact ⟨b, o, h1, World.block_lt_of_cell? w _ (h3 0 v rfl), h3⟩
theorem AtH.kept {H : Nat} {v : Value} {a : Addr} {w w' : World} {c : Nat} (h : AtH H [v] a w) (hg : w.grownBy w' (some c)) (hc : H ≤ c) : AtH H [v] a w' := by
  obtain ⟨b, o, h1, h2, h3⟩ := h
  refine ⟨b, o, h1, h2, fun m u hu => ?_⟩
  have hlt := World.block_lt_of_cell? w _ (h3 m u hu)
  rw [← h3 m u hu]
  unfold World.cell?
  simp only
  rw [hg.block b hlt (fun e => by simp only [Option.some.injEq] at e; omega)]
/-- Two fields of one box may become these. -/
def SpDS (c : Nat) (D S : Int) (a b : World) : Prop := a.grownBy b (some c) ∧ ∀ r, a.heap[c]? = some (bI r) → ∃ d e, b.heap[c]? = some (bI ⟨r.op, d, e, r.off, r.imm, r.size⟩) ∧ (d = r.dst ∨ d = D) ∧ (e = r.src ∨ e = S)
theorem SpDS.below {c : Nat} {D S : Int} {a b : World} (h : Below a.heap.size a b) : SpDS c D S a b :=
  ⟨grown_any h, fun r hr => ⟨r.dst, r.src, (h.block _ (Array.getElem?_eq_some_iff.1 hr).1).trans hr, .inl rfl, .inl rfl⟩⟩
theorem SpDS.refl {c : Nat} {D S : Int} {a : World} : SpDS c D S a a := SpDS.below (Below.refl _ _)
theorem spdsOk (c : Nat) (D S : Int) (w : World) : SpOk (SpDS c D S) w := by
  refine ⟨fun a => SpDS.refl, fun a b d h1 h2 => ⟨grown_trans h1.1 h2.1, fun r hr => ?_⟩, SpDS.below (Below.refl _ _).drew⟩
  obtain ⟨x, y, h3, h4, h5⟩ := h1.2 r hr
  obtain ⟨x', y', h6, h7, h8⟩ := h2.2 _ h3
  refine ⟨x', y', h6, ?_, ?_⟩
  · rcases h7 with h | h
    · rw [h]; exact h4
    · exact .inr h
  · rcases h8 with h | h
    · rw [h]; exact h5
    · exact .inr h
section
variable {W w w' : World} {s : Sl} {zs : List ByteArray} {b : Nat} {r : Ins} {D S : Int}
theorem RdI.sp (h : RdI W s zs b r w) (hs : SpDS b D S w w') : ∃ d e, RdI W s zs b ⟨r.op, d, e, r.off, r.imm, r.size⟩ w' ∧ (d = r.dst ∨ d = D) ∧ (e = r.src ∨ e = S) := by
  obtain ⟨d, e, h1, h2, h3⟩ := hs.2 r h.2.2.1
  exact ⟨d, e, h.grown hs.1 h1, h2, h3⟩
/-- The field was written. -/
def FD (c : Nat) (D : Int) (w : World) : Prop := ∃ r : Ins, w.heap[c]? = some (bI r) ∧ r.dst = D
def FS (c : Nat) (S : Int) (w : World) : Prop := ∃ r : Ins, w.heap[c]? = some (bI r) ∧ r.src = S
theorem fdKept {c : Nat} : Kept (SpDS c D S) (fun (_ : Unit) w => FD c D w) := by
  rintro _ x y ⟨r, h1, h2⟩ hs
  obtain ⟨d, e, h3, h4, _⟩ := hs.2 r h1
  exact ⟨_, h3, h4.elim (fun h => h.trans h2) id⟩
theorem fsKept {c : Nat} : Kept (SpDS c D S) (fun (_ : Unit) w => FS c S w) := by
  rintro _ x y ⟨r, h1, h2⟩ hs
  obtain ⟨d, e, h3, _, h4⟩ := hs.2 r h1
  exact ⟨_, h3, h4.elim (fun h => h.trans h2) id⟩
theorem athKept {H c : Nat} {v : Value} (hc : H ≤ c) : Kept (SpDS c D S) (AtH H [v]) := fun a x y h hs => h.kept hs.1 hc
theorem bI_inj {r r' : Ins} {c : Nat} (h : w.heap[c]? = some (bI r)) (h' : w.heap[c]? = some (bI r')) : r = r' := by
  rw [h] at h'
  cases r; cases r'
  simp [bI, Ins.cs] at h'
  simp [h']
theorem RdI.wordH {i : Nat} {z : By} (h : RdI W s zs b r w) (hz : zs[i]? = some (bs z)) {K : Addr → World → Prop} (hk : ∀ a, AtH W.heap.size [.string (bs z)] a w → K a w) : Ix s.a s.n (i : Int) 1 w K :=
  ixRb h.2.2.2.2.1 (i := (i : Int)) (by omega) (x := bs z) (by simpa using hz) rfl fun b' o hb hA => hk _ ⟨b', o, rfl, h.2.2.2.2.2.1 b' hb, hA⟩
theorem RdI.stD (h : RdI W s zs b r w) {K : World → Prop} (hk : ∀ w', SpDS b D S w w' → FD b D w' → K w') : St (Addr.add ⟨b, 0, none⟩ 1) (.int .i64 D) w K :=
  stB h.2.2.1 rfl (by simp [Ins.cs]) fun w' hg hs hc => by
    have hc' : w'.heap[b]? = some (bI ⟨r.op, D, r.src, r.off, r.imm, r.size⟩) := hc
    refine hk w' ⟨hg, fun r' hr' => ?_⟩ ⟨_, hc', rfl⟩
    rw [← bI_inj h.2.2.1 hr']
    exact ⟨D, r.src, hc', .inr rfl, .inl rfl⟩
theorem RdI.stS (h : RdI W s zs b r w) {K : World → Prop} (hk : ∀ w', SpDS b D S w w' → FS b S w' → K w') : St (Addr.add ⟨b, 0, none⟩ 2) (.int .i64 S) w K :=
  stB h.2.2.1 rfl (by simp [Ins.cs]) fun w' hg hs hc => by
    have hc' : w'.heap[b]? = some (bI ⟨r.op, r.dst, S, r.off, r.imm, r.size⟩) := hc
    refine hk w' ⟨hg, fun r' hr' => ?_⟩ ⟨_, hc', rfl⟩
    rw [← bI_inj h.2.2.1 hr']
    exact ⟨r.dst, S, hc', .inl rfl, .inr rfl⟩
end
theorem lineW_size {x : Ins} {off : By} (hp : InsP x) : (lineW x off).length = if x.op ≤ 11 then 3 else if x.op ≤ 15 then 4 else if x.op = 16 then 2 else if x.op ≤ 18 then 4 else if x.op = 19 then 2 else 1 := by
  have hop := insP_op hp
  unfold lineW
  repeat' split
  all_goals first | rfl | (exfalso; omega)
/-- What is read out of words. -/
def readR (op sz : Int) (n : Nat) (z : Nat → By) : Option Ins :=
  if 1 ≤ op ∧ op ≤ 11 ∧ n = 3 then some ⟨op, regA (z 1), (valA (z 2)).1, 0, (valA (z 2)).2, sz⟩
  else if 12 ≤ op ∧ op ≤ 15 ∧ n = 4 then some ⟨op, regA (z 1), (valA (z 2)).1, numA (z 3), (valA (z 2)).2, sz⟩
  else if op = 16 ∧ n = 2 then some ⟨op, 0, -1, numA (z 1), 0, sz⟩
  else if op = 17 ∧ n = 4 then some ⟨op, regA (z 1), regA (z 2), numA (z 3), 0, sz⟩
  else if op = 18 ∧ n = 4 then some ⟨op, regA (z 1), (valA (z 3)).1, numA (z 2), (valA (z 3)).2, sz⟩
  else if op = 19 ∧ n = 2 then some ⟨op, 0, -1, 0, if 0 > Lib.idxOfS (callW.map bs) (bs (z 1)) then 0 else Lib.idxOfS (callW.map bs) (bs (z 1)), sz⟩
  else if op = 20 ∧ n = 1 then some ⟨op, 0, -1, 0, 0, sz⟩
  else none
theorem readR_line {x : Ins} {n : Int} (hp : InsP x) (h0 : -128 ≤ n) (h1 : n ≤ 127) {z : Nat → By} (hz : ∀ i v, (lineW x (Lib.itoa n))[i]? = some v → z i = v) :
    readR x.op x.size (lineW x (Lib.itoa n)).length z = some (x.go n) := by
  have hop := insP_op hp
  have hl := lineW_size (off := Lib.itoa n) hp
  have hdst := hp.1
  have hsrc := hp.2.1
  have himm := hp.2.2.2.1
  have hb := hp.2.2.2.2
  have d1 : regA (114 :: Lib.itoa x.dst) = x.dst := regA_reg (by omega) (by omega)
  have d2 : (x.src < 0 ∨ x.imm = 0) → valA (regL x.src x.imm) = (x.src, x.imm) := fun h => valA_regL hsrc himm h
  have d3 : numA (Lib.itoa n) = n := numA_itoa (by omega) (by omega)
  have d4 : regA (114 :: Lib.itoa x.src) = x.src := regA_reg (by omega) (by omega)
  by_cases c1 : x.op ≤ 11
  · rw [if_pos c1] at hl
    have z1 := hz 1 (114 :: Lib.itoa x.dst) (by unfold lineW; rw [if_pos (by omega)]; rfl)
    have z2 := hz 2 (regL x.src x.imm) (by unfold lineW; rw [if_pos (by omega)]; rfl)
    have hq : x.off = 0 ∧ (x.src < 0 ∨ x.imm = 0) := by unfold BareP szP at hb; omega
    unfold readR Ins.go
    rw [if_pos ⟨by omega, c1, hl⟩, if_neg (by omega), z1, z2, d1, d2 hq.2, ← hq.1]
  · rw [if_neg c1] at hl
    by_cases c2 : x.op ≤ 15
    · rw [if_pos c2] at hl
      have z1 := hz 1 (114 :: Lib.itoa x.dst) (by unfold lineW; rw [if_neg (by omega), if_pos (by omega)]; rfl)
      have z2 := hz 2 (regL x.src x.imm) (by unfold lineW; rw [if_neg (by omega), if_pos (by omega)]; rfl)
      have z3 := hz 3 (Lib.itoa n) (by unfold lineW; rw [if_neg (by omega), if_pos (by omega)]; rfl)
      have hq : (x.src < 0 ∨ x.imm = 0) := by unfold BareP szP at hb; omega
      unfold readR Ins.go
      rw [if_neg (by omega), if_pos ⟨by omega, c2, hl⟩, if_pos (by omega), z1, z2, z3, d1, d2 hq, d3]
    · rw [if_neg c2] at hl
      by_cases c3 : x.op = 16
      · rw [if_pos c3] at hl
        have z1 := hz 1 (Lib.itoa n) (by unfold lineW; rw [if_neg (by omega), if_neg (by omega), if_pos c3]; rfl)
        have hq : x.dst = 0 ∧ x.src = -1 ∧ x.imm = 0 := by unfold BareP szP at hb; omega
        unfold readR Ins.go
        rw [if_neg (by omega), if_neg (by omega), if_pos ⟨c3, hl⟩, if_pos (by omega), z1, d3, hq.1, hq.2.1, hq.2.2]
      · rw [if_neg c3] at hl
        by_cases c4 : x.op = 17
        · rw [if_pos (by omega)] at hl
          have z1 := hz 1 (114 :: Lib.itoa x.dst) (by unfold lineW; rw [if_neg (by omega), if_neg (by omega), if_neg c3, if_pos c4]; rfl)
          have z2 := hz 2 (114 :: Lib.itoa x.src) (by unfold lineW; rw [if_neg (by omega), if_neg (by omega), if_neg c3, if_pos c4]; rfl)
          have z3 := hz 3 (Lib.itoa n) (by unfold lineW; rw [if_neg (by omega), if_neg (by omega), if_neg c3, if_pos c4]; rfl)
          have hq : x.imm = 0 := by unfold BareP szP at hb; omega
          unfold readR Ins.go
          rw [if_neg (by omega), if_neg (by omega), if_neg (by omega), if_pos ⟨c4, hl⟩, if_pos (by omega), z1, z2, z3, d1, d4, d3, hq]
        · by_cases c5 : x.op = 18
          · rw [if_pos (by omega)] at hl
            have z1 := hz 1 (114 :: Lib.itoa x.dst) (by unfold lineW; rw [if_neg (by omega), if_neg (by omega), if_neg c3, if_neg c4, if_pos c5]; rfl)
            have z2 := hz 2 (Lib.itoa n) (by unfold lineW; rw [if_neg (by omega), if_neg (by omega), if_neg c3, if_neg c4, if_pos c5]; rfl)
            have z3 := hz 3 (regL x.src x.imm) (by unfold lineW; rw [if_neg (by omega), if_neg (by omega), if_neg c3, if_neg c4, if_pos c5]; rfl)
            have hq : (x.src < 0 ∨ x.imm = 0) := by unfold BareP szP at hb; omega
            unfold readR Ins.go
            rw [if_neg (by omega), if_neg (by omega), if_neg (by omega), if_neg (by omega), if_pos ⟨c5, hl⟩, if_pos (by omega), z1, z2, z3, d1, d2 hq, d3]
          · rw [if_neg (by omega)] at hl
            by_cases c6 : x.op = 19
            · rw [if_pos c6] at hl
              have z1 := hz 1 (callA x.imm) (by unfold lineW; rw [if_neg (by omega), if_neg (by omega), if_neg c3, if_neg c4, if_neg c5, if_pos c6]; rfl)
              have hq : x.dst = 0 ∧ x.src = -1 ∧ x.off = 0 ∧ 1 ≤ x.imm ∧ x.imm ≤ 6 := by unfold BareP szP at hb; omega
              unfold readR Ins.go
              rw [z1, callIdx (by omega), if_neg (by omega), if_neg (by omega), if_neg (by omega), if_neg (by omega), if_neg (by omega), if_pos ⟨c6, hl⟩, if_neg (by omega), if_neg (by omega)]
              cases x; simp_all
            · rw [if_neg c6] at hl
              have hq : x.dst = 0 ∧ x.src = -1 ∧ x.off = 0 ∧ x.imm = 0 := by unfold BareP szP at hb; omega
              unfold readR Ins.go
              rw [if_neg (by omega), if_neg (by omega), if_neg (by omega), if_neg (by omega), if_neg (by omega), if_neg (by omega), if_pos ⟨by omega, hl⟩, if_neg (by omega)]
              cases x; simp_all
end Go.Proofs.YteggdoigliddkaaGreatDoor.V

/- Contracts: the line of an op, in the reference. -/
namespace Go.Proofs.YteggdoigliddkaaGreatDoor.V
open Go Go.RowKit
set_option linter.unusedVariables false
set_option linter.unusedSimpArgs false
section
variable {w : World}
set_option maxHeartbeats 4000000 in
theorem spec.l1Line.t {x : Ins} {K : ByteArray → World → Prop} (hp : InsP x) (hk : ∀ w', Below w.heap.size w w' → K (bs (lineO x (Lib.itoa x.off))) w') : CallT (.o (.lf .s)) P0 81 [.agg (Tup.cells (R 6 (.i .i64)) x.t).toArray] w K := by
  have hop : 1 ≤ x.op ∧ x.op ≤ 20 := by have := hp.2.2.2.2; grind [BareP, szP]
  have hdst := hp.1
  have hsrc := hp.2.1
  have hoff := hp.2.2.1
  have himm := hp.2.2.2.1
  have hsize : (x.op = 17 ∨ x.op = 18) → 0 ≤ x.size ∧ x.size ≤ 4 := by have := hp.2.2.2.2; grind [BareP, szP]
  have hcall : x.op = 19 → 1 ≤ x.imm ∧ x.imm ≤ 6 := by have := hp.2.2.2.2; grind [BareP, szP]
  have hsrc2 : x.op = 17 → 0 ≤ x.src := by have := hp.2.2.2.2; grind [BareP, szP]
  have a1 := itoa_len (n := x.dst) (by omega) (by omega)
  have a2 := itoa_len (n := x.src) (by omega) (by omega)
  have a3' := itoa_len (n := x.off) (by omega) (by omega)
  have a4 := regL_len (src := x.src) (imm := x.imm) (by omega) himm
  have a5 := op_lenA x.op
  have a6 := call_len x.imm
  have i0 : (Tup.cells (R 6 (.i .i64)) x.t).toArray[0]? = some ((Lf.i .i64).emb x.op) := rfl
  have i1 : (Tup.cells (R 6 (.i .i64)) x.t).toArray[1]? = some ((Lf.i .i64).emb x.dst) := rfl
  have i2 : (Tup.cells (R 6 (.i .i64)) x.t).toArray[2]? = some ((Lf.i .i64).emb x.src) := rfl
  have i3 : (Tup.cells (R 6 (.i .i64)) x.t).toArray[3]? = some ((Lf.i .i64).emb x.off) := rfl
  have i4 : (Tup.cells (R 6 (.i .i64)) x.t).toArray[4]? = some ((Lf.i .i64).emb x.imm) := rfl
  have i5 : (Tup.cells (R 6 (.i .i64)) x.t).toArray[5]? = some ((Lf.i .i64).emb x.size) := rfl
  refine spec.l1Line.ok (nwIns fun w1 b1 s1 c1 => ?_)
  have cc : ∀ {w' : World}, StR w1 w' → w'.heap[w.heap.size]? = _ := fun hs => (hs.block _ (by omega)).trans c1
  refine ⟨StR, stOk w1, fun s w' => OwnS kS 9 0 w' s (opW.map bs), keptOw, eqG x.op, keptE, AtW [.string (bs (opA x.op))], keptAw, eqG (bs (opA x.op)), keptE, ?_⟩
  refine ⟨fun w' hs => spec.l1Words.t fun s w'' hb ho => ⟨s, rfl, hb, ho.low (Nat.zero_le _)⟩, fun t5 => ⟨fun w' hs => ldB (cc hs) (x := x.op) rfl (gkE rfl (Below.refl _ _)), fun t7 => ⟨fun w' hs f5 f7 => ?_, fun t8 => ⟨fun w' hs f8 => wordLd f8 (gkE rfl (Below.refl _ _)), fun t9 w2 hs _ _ _ f9 => ?_⟩⟩⟩⟩
  · cases f7
    exact wordAt f5 (by omega) (by simp [opW]; omega) rfl fun a ha => ⟨a, rfl, Below.refl _ _, ha⟩
  cases f9
  have hs : Below w1.heap.size w1 w2 := hs
  have b2 := b1.trans (hs.mono b1.size)
  have c2 := (hs.block _ (by omega)).trans c1
  refine ldB c2 (j := 1) (l := .i .i64) (x := x.dst) i1 (spec.l1Dec.t (by omega) (by omega) fun w3 b3' => ?_)
  have b3 := b2.trans (b3'.mono b2.size)
  have c3 := (b3'.block _ (Array.getElem?_eq_some_iff.1 c2).1).trans c2
  clear hs c2 b2 b3'
  have fin : ∀ {w' : World} {r : ByteArray}, Below w3.heap.size w3 w' → r = bs (lineO x (Lib.itoa x.off)) → K r w' := fun hb e => by rw [e]; exact hk _ (b3.trans (hb.mono b3.size))
  have qdec : ∀ {n : Int} {K : ByteArray → Prop}, -1000000 ≤ n ∧ n ≤ 10000000000 → K (bs (Lib.itoa n)) → QCl (.o (.lf .s)) P0 43 [.int .i64 n] (fun w' => Below w3.heap.size w3 w') K := fun hn hK =>
    qcl _ (fun w' hb => spec.l1Dec.t (by omega) (by omega) fun w'' hb' => ⟨rfl, hb.trans (hb'.mono hb.size)⟩) hK
  have qreg : ∀ {K : ByteArray → Prop}, K (bs (regL x.src x.imm)) → QCl (.o (.lf .s)) P0 101 [.int .i64 x.src, .int .i64 x.imm] (fun w' => Below w3.heap.size w3 w') K := fun hK =>
    qcl _ (fun w' hb => spec.l1Reg.t (by omega) himm fun w'' hb' => ⟨rfl, hb.trans (hb'.mono hb.size)⟩) hK
  have r3 := Below.refl w3.heap.size w3
  refine ⟨(by show (_ : Int) ≤ 9223372036854775807; simp only [ByteArray.size_append, bs_size, z32, z114, z2, z10, z109, z58, List.length_cons, List.length_append, List.length_nil]; omega), ldB c3 (x := x.op) rfl (spec.l1Alu.c (And.intro (fun h => ?_) (fun h => ldB c3 (x := x.op) rfl (spec.l1Jump.c (And.intro (fun h3 => ?_) (fun h3 => ldB c3 (x := x.op) rfl (And.intro (fun h4 => ?_) (fun h4 => ldB c3 (x := x.op) rfl (And.intro (fun h5 => ?_) (fun h5 => ldB c3 (x := x.op) rfl (And.intro (fun h6 => ?_) (fun h6 => ldB c3 (x := x.op) rfl (And.intro (fun h7 => ?_) (fun h7 => ?_))))))))))))))⟩
  · have h : 1 ≤ x.op ∧ x.op ≤ 11 := by simpa using h
    refine ⟨(by show (_ : Int) ≤ 9223372036854775807; simp only [ByteArray.size_append, bs_size, z32, z114, z2, z10, z109, z58, List.length_cons, List.length_append, List.length_nil]; omega), (by show (_ : Int) ≤ 9223372036854775807; simp only [ByteArray.size_append, bs_size, z32, z114, z2, z10, z109, z58, List.length_cons, List.length_append, List.length_nil]; omega), ldB c3 (j := 2) (l := .i .i64) (x := x.src) i2 (ldB c3 (j := 4) (l := .i .i64) (x := x.imm) i4 (spec.l1Reg.t (by omega) himm fun w4 b4 => ⟨(by show (_ : Int) ≤ 9223372036854775807; simp only [ByteArray.size_append, bs_size, z32, z114, z2, z10, z109, z58, List.length_cons, List.length_append, List.length_nil]; omega), fin b4 ?_⟩))⟩
    rw [e32, e2]; simp only [bs_app]
    congr 1
    unfold lineO; rw [if_pos h]; simp
  · have h : ¬ (1 ≤ x.op ∧ x.op ≤ 11) := by simpa using h
    have h3 : 12 ≤ x.op ∧ x.op ≤ 15 := by simpa using h3
    refine ⟨(by show (_ : Int) ≤ 9223372036854775807; simp only [ByteArray.size_append, bs_size, z32, z114, z2, z10, z109, z58, List.length_cons, List.length_append, List.length_nil]; omega), (by show (_ : Int) ≤ 9223372036854775807; simp only [ByteArray.size_append, bs_size, z32, z114, z2, z10, z109, z58, List.length_cons, List.length_append, List.length_nil]; omega), qldB c3 (j := 2) (l := .i .i64) (x := x.src) i2 (qldB c3 (j := 4) (l := .i .i64) (x := x.imm) i4 (qreg ⟨(by show (_ : Int) ≤ 9223372036854775807; simp only [ByteArray.size_append, bs_size, z32, z114, z2, z10, z109, z58, List.length_cons, List.length_append, List.length_nil]; omega), (by show (_ : Int) ≤ 9223372036854775807; simp only [ByteArray.size_append, bs_size, z32, z114, z2, z10, z109, z58, List.length_cons, List.length_append, List.length_nil]; omega), qldB c3 (j := 3) (l := .i .i64) (x := x.off) i3 (qdec (by omega) ⟨(by show (_ : Int) ≤ 9223372036854775807; simp only [ByteArray.size_append, bs_size, z32, z114, z2, z10, z109, z58, List.length_cons, List.length_append, List.length_nil]; omega), fun w4 hb => fin hb ?_⟩)⟩))⟩
    rw [e32, e2]; simp only [bs_app]
    congr 1
    unfold lineO; rw [if_neg h, if_pos h3]; simp
  · have h : ¬ (1 ≤ x.op ∧ x.op ≤ 11) := by simpa using h
    have h3 : ¬ (12 ≤ x.op ∧ x.op ≤ 15) := by simpa using h3
    have h4 : x.op = 16 := by simpa using h4
    refine ⟨(by show (_ : Int) ≤ 9223372036854775807; simp only [ByteArray.size_append, bs_size, z32, z114, z2, z10, z109, z58, List.length_cons, List.length_append, List.length_nil]; omega), ldB c3 (j := 3) (l := .i .i64) (x := x.off) i3 (spec.l1Dec.t (by omega) (by omega) fun w4 b4 => ⟨(by show (_ : Int) ≤ 9223372036854775807; simp only [ByteArray.size_append, bs_size, z32, z114, z2, z10, z109, z58, List.length_cons, List.length_append, List.length_nil]; omega), fin b4 ?_⟩)⟩
    rw [e32]; simp only [bs_app]
    congr 1
    unfold lineO; rw [if_neg h, if_neg h3, if_pos h4]; simp
  · have h : ¬ (1 ≤ x.op ∧ x.op ≤ 11) := by simpa using h
    have h3 : ¬ (12 ≤ x.op ∧ x.op ≤ 15) := by simpa using h3
    have h4 : ¬ x.op = 16 := by simpa using h4
    have h5 : x.op = 17 := by simpa using h5
    have hz := hsize (.inl h5)
    have a3 := itoa_len (n := x.size) (by omega) (by omega)
    refine qldB c3 (j := 5) (l := .i .i64) (x := x.size) i5 (qdec (by omega) ⟨(by show (_ : Int) ≤ 9223372036854775807; simp only [ByteArray.size_append, bs_size, z32, z114, z2, z10, z109, z58, List.length_cons, List.length_append, List.length_nil]; omega), (by show (_ : Int) ≤ 9223372036854775807; simp only [ByteArray.size_append, bs_size, z32, z114, z2, z10, z109, z58, List.length_cons, List.length_append, List.length_nil]; omega), (by show (_ : Int) ≤ 9223372036854775807; simp only [ByteArray.size_append, bs_size, z32, z114, z2, z10, z109, z58, List.length_cons, List.length_append, List.length_nil]; omega), qldB c3 (j := 2) (l := .i .i64) (x := x.src) i2 (qdec (by omega) ⟨(by show (_ : Int) ≤ 9223372036854775807; simp only [ByteArray.size_append, bs_size, z32, z114, z2, z10, z109, z58, List.length_cons, List.length_append, List.length_nil]; omega), (by show (_ : Int) ≤ 9223372036854775807; simp only [ByteArray.size_append, bs_size, z32, z114, z2, z10, z109, z58, List.length_cons, List.length_append, List.length_nil]; omega), qldB c3 (j := 3) (l := .i .i64) (x := x.off) i3 (qdec (by omega) ⟨(by show (_ : Int) ≤ 9223372036854775807; simp only [ByteArray.size_append, bs_size, z32, z114, z2, z10, z109, z58, List.length_cons, List.length_append, List.length_nil]; omega), fun w4 hb => fin hb ?_⟩)⟩)⟩)
    rw [e32, e2]; simp only [bs_app]
    congr 1
    unfold lineO; rw [if_neg h, if_neg h3, if_neg h4, if_pos h5]; simp
  · have h : ¬ (1 ≤ x.op ∧ x.op ≤ 11) := by simpa using h
    have h3 : ¬ (12 ≤ x.op ∧ x.op ≤ 15) := by simpa using h3
    have h4 : ¬ x.op = 16 := by simpa using h4
    have h5 : ¬ x.op = 17 := by simpa using h5
    have h6 : x.op = 18 := by simpa using h6
    have hz := hsize (.inr h6)
    have a3 := itoa_len (n := x.size) (by omega) (by omega)
    refine qldB c3 (j := 5) (l := .i .i64) (x := x.size) i5 (qdec (by omega) ⟨(by show (_ : Int) ≤ 9223372036854775807; simp only [ByteArray.size_append, bs_size, z32, z114, z2, z10, z109, z58, List.length_cons, List.length_append, List.length_nil]; omega), (by show (_ : Int) ≤ 9223372036854775807; simp only [ByteArray.size_append, bs_size, z32, z114, z2, z10, z109, z58, List.length_cons, List.length_append, List.length_nil]; omega), (by show (_ : Int) ≤ 9223372036854775807; simp only [ByteArray.size_append, bs_size, z32, z114, z2, z10, z109, z58, List.length_cons, List.length_append, List.length_nil]; omega), qldB c3 (j := 3) (l := .i .i64) (x := x.off) i3 (qdec (by omega) ⟨(by show (_ : Int) ≤ 9223372036854775807; simp only [ByteArray.size_append, bs_size, z32, z114, z2, z10, z109, z58, List.length_cons, List.length_append, List.length_nil]; omega), (by show (_ : Int) ≤ 9223372036854775807; simp only [ByteArray.size_append, bs_size, z32, z114, z2, z10, z109, z58, List.length_cons, List.length_append, List.length_nil]; omega), qldB c3 (j := 2) (l := .i .i64) (x := x.src) i2 (qldB c3 (j := 4) (l := .i .i64) (x := x.imm) i4 (qreg ⟨(by show (_ : Int) ≤ 9223372036854775807; simp only [ByteArray.size_append, bs_size, z32, z114, z2, z10, z109, z58, List.length_cons, List.length_append, List.length_nil]; omega), fun w4 hb => fin hb ?_⟩))⟩)⟩)
    rw [e32, e2]; simp only [bs_app]
    congr 1
    unfold lineO; rw [if_neg h, if_neg h3, if_neg h4, if_neg h5, if_pos h6]; simp
  · have h : ¬ (1 ≤ x.op ∧ x.op ≤ 11) := by simpa using h
    have h3 : ¬ (12 ≤ x.op ∧ x.op ≤ 15) := by simpa using h3
    have h4 : ¬ x.op = 16 := by simpa using h4
    have h5 : ¬ x.op = 17 := by simpa using h5
    have h6 : ¬ x.op = 18 := by simpa using h6
    have h7 : x.op = 19 := by simpa using h7
    have hc := hcall h7
    have c4 : ∀ {w' : World}, StR w3 w' → w'.heap[w.heap.size]? = _ := fun hs => (hs.block _ (Array.getElem?_eq_some_iff.1 c3).1).trans c3
    refine ⟨StR, stOk w3, eqG (bs (opA x.op ++ [32])), keptE, fun s w' => OwnS kS 9 0 w' s (callW.map bs), keptOw, eqG x.imm, keptE, AtW [.string (bs (callA x.imm))], keptAw, eqG (bs (callA x.imm)), keptE, eqG (bs ((opA x.op ++ [32]) ++ callA x.imm)), keptE, ?_⟩
    refine ⟨fun w' hs => ⟨(by show (_ : Int) ≤ 9223372036854775807; simp only [ByteArray.size_append, bs_size, z32, z114, z2, z10, z109, z58, List.length_cons, List.length_append, List.length_nil]; omega), gkE (congrArg Value.string (bs_app _ _)) (Below.refl _ _)⟩, fun t98 => ⟨fun w' hs => spec.l1Calls.t fun s w'' hb ho => ⟨s, rfl, hb, ho.low (Nat.zero_le _)⟩, fun t99 => ⟨fun w' hs => ldB (c4 hs) (j := 4) (l := .i .i64) (x := x.imm) i4 (gkE rfl (Below.refl _ _)), fun t101 => ⟨fun w' hs f99 f101 => ?_, fun t102 => ⟨fun w' hs f102 => wordLd f102 (gkE rfl (Below.refl _ _)), fun t111 => ⟨fun w' hs f98 f111 => ?_, fun t103 w4 hs _ _ _ _ _ f103 => ?_⟩⟩⟩⟩⟩⟩
    · cases f101
      exact wordAt f99 (by omega) (by simp [callW]; omega) rfl fun a ha => ⟨a, rfl, Below.refl _ _, ha⟩
    · cases f98; cases f111; exact ⟨(by show (_ : Int) ≤ 9223372036854775807; simp only [ByteArray.size_append, bs_size, z32, z114, z2, z10, z109, z58, List.length_cons, List.length_append, List.length_nil]; omega), gkE (congrArg Value.string (bs_app _ _)) (Below.refl _ _)⟩
    · cases f103
      refine fin hs ?_
      congr 1
      unfold lineO; rw [if_neg h, if_neg h3, if_neg h4, if_neg h5, if_neg h6, if_pos h7]; simp
  · have h : ¬ (1 ≤ x.op ∧ x.op ≤ 11) := by simpa using h
    have h3 : ¬ (12 ≤ x.op ∧ x.op ≤ 15) := by simpa using h3
    have h4 : ¬ x.op = 16 := by simpa using h4
    have h5 : ¬ x.op = 17 := by simpa using h5
    have h6 : ¬ x.op = 18 := by simpa using h6
    have h7 : ¬ x.op = 19 := by simpa using h7
    refine fin r3 ?_
    unfold lineO; rw [if_neg h, if_neg h3, if_neg h4, if_neg h5, if_neg h6, if_neg h7]
end
end Go.Proofs.YteggdoigliddkaaGreatDoor.V

/- Contracts: programs as lines with marks. -/
namespace Go.Proofs.YteggdoigliddkaaGreatDoor.V
open Go Go.RowKit
set_option linter.unusedVariables false
set_option linter.unusedSimpArgs false
theorem below_drewN (w : World) (q : Nat) : Below w.heap.size w (w.drewN q) := ⟨rfl, rfl, rfl, Nat.le_refl _, fun _ _ => rfl⟩
theorem i64_succ {n m : Nat} (h : n < m) (hm : m ≤ 4611686018427387904) : IntKind.wrap .i64 ((n : Int) + 1) = ((n + 1 : Nat) : Int) := by rw [i64_of (by omega) (by omega)]; omega
section
variable {w : World}
theorem search.c {s : Sl} {zs : List Int} {x : Int} {K : Int × Bool × Unit → World → Prop} (h : SlR kI w s zs) (hz : zs.length ≤ 1000000) (hs : zs.Pairwise (· ≤ ·)) (hk : ∀ w', Below w.heap.size w w' → K ((zs.countP (· < x) : Nat), zs.contains x, ()) w') :
    CallT (.n [(.lf (.i .i64)), (.lf .b)]) P0 27 [s.v, .int .i64 x] w K := by
  have hn := h.len; have hm := h.max
  rcases h.2.2.2 with h0 | ⟨b, o, ha, hat⟩
  · subst h0
    have e : s.v = .slice s.a 0 s.c := by unfold Sl.v; rw [hn]; rfl
    rw [e]
    exact (Tryz.slices_BinarySearch_int_empty s.a s.c x w).mono fun e w' ⟨he, hw⟩ => ⟨((0 : Nat), false, ()), he, hk w' (by rw [hw]; exact Below.refl _ _)⟩
  · have e : s.v = .slice (some ⟨b, o, none⟩) zs.length s.c := by unfold Sl.v; rw [hn, ha]
    rw [e]
    have := Tryz.slices_BinarySearch_int b o zs.length s.c zs x w (Nat.le_refl _) (by omega) (fun j hj => by
      obtain ⟨z, hz⟩ := get_some (l := zs) (k := j) hj
      have h1 := hat j z hz 0 (.int .i64 z) rfl
      rw [List.getD_eq_getElem?_getD, hz]
      have e : o + j * kI.ls.length + 0 = o + j := by show o + j * 1 + 0 = o + j; omega
      rw [e] at h1
      exact h1) (by rw [List.take_length]; exact hs)
    rw [List.take_length] at this
    exact this.mono fun e w' ⟨he, q, hw⟩ => ⟨((zs.countP (· < x) : Nat), zs.contains x, ()), he, hk w' (by rw [hw]; exact below_drewN w q)⟩
end
/-- A Builder that holds these bytes; what is beside it stays. -/
def BdF (B b : Nat) (l : By) (w : World) : Prop := Lib.IsBuilderF 55 5 B b (Lib.byteCells l) w
theorem BdF.new {B b : Nat} {w' : World} (hB : B ≤ b) (hc : w'.heap[b]? = some (.cells #[.pointer none, .slice none 0 0] 55 (0, 0))) : BdF B b [] w' := Lib.IsBuilderF.of (Bd.new hB hc)
theorem BdF.lt {B b : Nat} {l : By} {w : World} (h : BdF B b l w) : b < w.heap.size := h.elim Lib.BuilderAtF.lt Lib.BuilderAtF.lt
theorem bdAtF_below {B b : Nat} {p : Value} {l : By} {w w' : World} (h : Lib.BuilderAtF 55 5 B b p (Lib.byteCells l) w) (hb : Below w.heap.size w w') : Lib.BuilderAtF 55 5 B b p (Lib.byteCells l) w' := by
  obtain ⟨hB, v, hc, ho, hn⟩ := h
  refine ⟨hB, v, (hb.block b (Array.getElem?_eq_some_iff.1 hc).1).trans hc, ho.kept (grown_of_below hb) ?_, hn⟩
  by_cases e : v.ownBlock = none
  · exact .inl e
  · exact .inr e
theorem BdF.below {B b : Nat} {l : By} {w w' : World} (h : BdF B b l w) (hb : Below w.heap.size w w') : BdF B b l w' := h.imp (bdAtF_below · hb) (bdAtF_below · hb)
section
variable {w : World}
theorem writeK.c {B b : Nat} {l x : By} {K : Int × Value × Unit → World → Prop} (h : BdF B b l w) (hl : l.length + x.length ≤ 140737488355328) (hB : B ≤ w.heap.size) (hk : ∀ r w', BdF B b (l ++ x) w' → Below B w w' → Lib.OthersKept 5 (some b) w w' → K r w') :
    CallT (.n [(.lf (.i .i64)), (.lf .any)]) P0 28 [.pointer (some ⟨b, 0, none⟩), .string (bs x)] w K := by
  refine (Any.Builder_WriteString_k Tryz.laysB166 Tryz.laysB_X B b (Lib.byteCells l) (bs x) w h (by rw [Lib.byteCells_length, bs_size]; exact hl) hB).mono fun e w' ⟨he, h1, h2, h3⟩ => ?_
  refine ⟨(((bs x).size : Int), .nilIface, ()), he, hk _ w' (.inr ?_) h2 h3⟩
  rw [Lib.strCells_eq, bs_data, ← Lib.byteCells_append] at h1
  exact h1
theorem stringK.c {B b : Nat} {l : By} {K : ByteArray → World → Prop} (h : BdF B b l w) (hB : B ≤ w.heap.size) (hk : ∀ w', Below B w w' → K (bs l) w') : CallT (.o (.lf .s)) P0 34 [.pointer (some ⟨b, 0, none⟩)] w K :=
  (Tryz.Builder_String_any_f B b l w h hB).mono fun e w' ⟨he, hf, hw⟩ => ⟨bs l, he, hk w' hw⟩
end
section
variable {w : World} {s : Sl} {l : List Ins}
theorem impl.marks.c {K : Sl → World → Prop} (hq : formP l = 0) (h : SlR kIns w s l)
    (hk : ∀ r w', Below w.heap.size w w' → WrS kI 3 w.heap.size w' r (picks l.length (jmp l)) → K r w') : CallT (.o (.lf .sl)) P0 26 [s.v] w K := by
  have hn := h.len
  have hz := formP_size hq
  refine impl.marks.ok (mapNew fun m w1 hm1 hb1 hs1 => ?_)
  refine ⟨fun i w' => ∃ (n : Nat) (S : List Int), i = n ∧ n ≤ l.length ∧ SetM w.heap.size w' m S ∧ (∀ x, x ∈ S ↔ jumps l n x) ∧ Below w.heap.size w w', fun i _ => l.length - i.toNat,
    ⟨0, _, rfl, by omega, hm1, fun x => by simp [jumps_zero], hb1⟩, ?_⟩
  rintro i w2 ⟨n, S, rfl, hnl, hm2, hS, hb2⟩ _
  have h2 := h.below hb2
  have hSn : S.length ≤ 48 := by
    have := nodup_le (n := l.length) hm2.nodup (fun x hx => jumps_in hq ((hS x).1 hx))
    omega
  refine And.intro (fun hlt => ?_) (fun hge => ?_)
  · simp only [decide_eq_true_eq] at hlt
    obtain ⟨x, hx⟩ := get_some (l := l) (k := n) (by omega)
    have hix := formP_ins hq (List.mem_of_getElem? hx)
    refine ixA h2 (i := n) (by omega) (x := x) (by simpa using hx) rfl ?_
    refine nwStIns (x := x) fun w3 hb3 hs3 hc3 => ?_
    have hm3 := hm2.below hb3
    have hb3' := hb2.trans (hb3.mono hb2.size)
    rw [i64_succ (n := n) (m := l.length) (by omega) (by omega)]
    refine ldB hc3 (x := x.op) rfl (impl.kind.goes.c ?_)
    refine And.intro (fun hg => ?_) (fun hg => ?_)
    · simp only [decide_eq_true_eq] at hg
      have htg := formP_tgt hq hx hg
      refine impl.target.c (h2.below hb3) (by omega) (by simpa using hx) (by omega) hix.2.2.1 ?_
      refine mapPut hm3 (wf_i64 (by omega) (by omega)) (by simp only [maxLen]; omega) fun w4 hm4 hg4 => ?_
      refine ⟨⟨n + 1, _, rfl, by omega, hm4, fun y => ?_, hb3'.grown hg4 hb3'.size (fun b hb => by have := (hm2.blk hb).1; omega)⟩, by simp only [Int.toNat_natCast]; omega⟩
      rw [mem_ins, jumps_succ hx, hS]
      constructor
      · rintro (h | h)
        · exact .inr ⟨hg, h.symm⟩
        · exact .inl h
      · rintro (h | h)
        · exact .inr h
        · exact .inl h.2.symm
    · simp only [decide_eq_false_iff_not] at hg
      refine ⟨⟨n + 1, S, rfl, by omega, hm3, fun y => ?_, hb3'⟩, by simp only [Int.toNat_natCast]; omega⟩
      rw [hS, jumps_succ hx]
      exact ⟨.inl, fun h => h.elim id fun h => absurd h.1 hg⟩
  · simp only [decide_eq_false_iff_not] at hge
    obtain rfl : n = l.length := by omega
    refine impl.places.sorted.c hm2 (by omega) fun r w3 hb3 ho3 => ?_
    rw [jumps_all hq hm2.nodup hS] at ho3
    exact hk r w3 (hb2.trans (hb3.mono hb2.size)) (ho3.wr.low hb2.size)
theorem spec.l13Marks.c {K : Sl → World → Prop} (hq : formP l = 0) (h : SlR kIns w s l)
    (hk : ∀ r w', Below w.heap.size w w' → WrS kB 4 w.heap.size w' r (bits l.length (jmp l)) → K r w') : CallT (.o (.lf .sl)) P0 51 [s.v] w K := by
  have hn := h.len
  have hz := formP_size hq
  refine spec.l13Marks.ok (mkS mkB (by omega) (by simp only [maxLen]; omega) fun r w1 hb1 hr1 => ?_)
  rw [hn, bits_rep] at hr1
  have bk : ∀ b, r.bk = some b → w.heap.size ≤ b := fun b hb => (hr1.blk hb).1
  refine ⟨fun i w' => ∃ (n : Nat) (f : Nat → Bool), i = n ∧ n ≤ l.length ∧ WrS kB 4 w.heap.size w' r (bits l.length f) ∧ (∀ j : Nat, j < l.length → (f j = true ↔ jumps l n j)) ∧ Below w.heap.size w w', fun i _ => l.length - i.toNat,
    ⟨0, _, rfl, by omega, hr1, fun j hj => by simp [jumps_zero], hb1⟩, ?_⟩
  rintro i w2 ⟨n, f, rfl, hnl, hr2, hf, hb2⟩ _
  have h2 := h.below hb2
  refine And.intro (fun hlt => ?_) (fun hge => ?_)
  · simp only [decide_eq_true_eq] at hlt
    obtain ⟨x, hx⟩ := get_some (l := l) (k := n) (by omega)
    have hx' : l[((n : Nat) : Int).toNat]? = some x := by simpa using hx
    have hix := formP_ins hq (List.mem_of_getElem? hx)
    rw [i64_succ (n := n) (m := l.length) (by omega) (by omega)]
    have last : goesP x → ∀ K : World → Prop, (∀ w', WrS kB 4 w.heap.size w' r (bits l.length fun j => f j || decide (j = (tgt n x).toNat)) → Below w.heap.size w w' → K w') →
        Ix s.a s.n (n : Int) 6 w2 fun a w5 => Ld (.i .i64) (Addr.add a 3) w5 fun t35 w6 => Ix r.a r.n (IntKind.wrap .i64 (((n + 1 : Nat) : Int) + t35)) 1 w6 fun a w7 => St a (.bool true) w7 K := by
      intro hg K hK
      have htg := formP_tgt hq hx hg
      refine ixF h2 (by omega) hx' rfl (v := x.off) rfl ?_
      have e : IntKind.wrap .i64 (((n + 1 : Nat) : Int) + x.off) = tgt n x := by unfold tgt at *; rw [i64_of (by omega) (by omega)]; omega
      rw [e]
      exact stBit hr2 htg.1 (by omega) fun w3 hr3 hg3 => hK w3 hr3 (hb2.grown hg3 hb2.size bk)
    have key : goesP x → ∀ j : Nat, j < l.length → ((f j || decide (j = (tgt n x).toNat)) = true ↔ jumps l (n + 1) j) := by
      intro hg j hj
      have htg := formP_tgt hq hx hg
      rw [jumps_succ hx, Bool.or_eq_true, hf j hj, decide_eq_true_eq]
      constructor
      · rintro (h | h)
        · exact .inl h
        · exact .inr ⟨hg, by omega⟩
      · rintro (h | ⟨_, h⟩)
        · exact .inl h
        · exact .inr (by omega)
    refine ixF h2 (by omega) hx' rfl (v := x.op) rfl (spec.l1Jump.c ?_)
    refine And.intro (fun hg => ?_) (fun hg => ?_)
    · simp only [decide_eq_true_eq] at hg
      have hg : goesP x := by unfold goesP; omega
      exact last hg _ fun w' hr hb => ⟨⟨n + 1, _, rfl, by omega, hr, key hg, hb⟩, by simp only [Int.toNat_natCast]; omega⟩
    · simp only [decide_eq_false_iff_not] at hg
      refine ixF h2 (by omega) hx' rfl (v := x.op) rfl ?_
      refine And.intro (fun h16 => ?_) (fun h16 => ?_)
      · simp only [beq_iff_eq] at h16
        have hg : goesP x := by unfold goesP; omega
        exact last hg _ fun w' hr hb => ⟨⟨n + 1, _, rfl, by omega, hr, key hg, hb⟩, by simp only [Int.toNat_natCast]; omega⟩
      · simp only [beq_eq_false_iff_ne, ne_eq] at h16
        have hg : ¬ goesP x := by unfold goesP; omega
        refine ⟨⟨n + 1, f, rfl, by omega, hr2, fun j hj => ?_, hb2⟩, by simp only [Int.toNat_natCast]; omega⟩
        rw [hf j hj, jumps_succ hx]
        exact ⟨.inl, fun h => h.elim id fun h => absurd h.1 hg⟩
  · simp only [decide_eq_false_iff_not] at hge
    obtain rfl : n = l.length := by omega
    have e : bits l.length f = bits l.length (jmp l) := by
      unfold bits
      refine List.map_congr_left fun j hj => ?_
      rw [Bool.eq_iff_iff, hf j (List.mem_range.1 hj), jmp_iff]
    rw [e] at hr2
    exact hk r w2 hb2 hr2
theorem spec.l13Name.c {r : Sl} {m n : Nat} {f : Nat → Bool} {K : ByteArray → World → Prop} (h : SlR kB w r (bits m f)) (hnm : n ≤ m) (hm : m ≤ 1000) (hk : ∀ w', Below w.heap.size w w' → K (bs (markT (picks n f).length)) w') :
    CallT (.o (.lf .s)) P0 52 [r.v, .int .i64 (n : Int)] w K := by
  refine spec.l13Name.ok ⟨fun c i w' => ∃ k : Nat, i = k ∧ k ≤ n ∧ c = ((picks k f).length : Nat) ∧ w' = w, fun _ i _ => n - i.toNat, ⟨0, rfl, by omega, by simp [picks], rfl⟩, ?_⟩
  rintro c i w1 ⟨k, rfl, hkn, rfl, rfl⟩ _
  have hp := picks_le k f
  refine And.intro (fun hlt => ?_) (fun hge => ?_)
  · simp only [decide_eq_true_eq] at hlt
    refine ixL h (i := k) (by omega) (x := f k) (by rw [Int.toNat_natCast]; exact bits_get (by omega)) rfl (l := .b) (v := f k) rfl ?_
    rw [i64_succ (n := k) (m := n) (by omega) (by omega)]
    refine And.intro (fun hf => ?_) (fun hf => ?_)
    · rw [i64_succ (n := (picks k f).length) (m := n) (by omega) (by omega)]
      exact ⟨⟨k + 1, rfl, by omega, by rw [picks_succ, if_pos hf]; simp, rfl⟩, by simp only [Int.toNat_natCast]; omega⟩
    · exact ⟨⟨k + 1, rfl, by omega, by rw [picks_succ, if_neg (by simp [hf])], rfl⟩, by simp only [Int.toNat_natCast]; omega⟩
  · simp only [decide_eq_false_iff_not] at hge
    obtain rfl : k = n := by omega
    have a1 := itoa_len (n := (((picks k f).length : Nat) : Int)) (by omega) (by omega)
    refine spec.l1Dec.t (by omega) (by omega) fun w2 hb => ⟨(by show (_ : Int) ≤ 9223372036854775807; simp only [ByteArray.size_append, bs_size, z32, z114, z2, z10, z109, z58, List.length_cons, List.length_append, List.length_nil]; omega), ?_⟩
    rw [e109, bs_app]; exact hk w2 hb
set_option maxHeartbeats 1000000 in
theorem spec.l13Line.c {r : Sl} {i : Nat} {x : Ins} {K : ByteArray → World → Prop} (hq : formP l = 0) (h : SlR kIns w s l) (hr : SlR kB w r (bits l.length (jmp l))) (hx : l[i]? = some x)
    (hk : ∀ w', Below w.heap.size w w' → K (bs (lineO x (offT l i x))) w') : CallT (.o (.lf .s)) P0 53 [s.v, r.v, .int .i64 (i : Int)] w K := by
  have hz := formP_size hq
  have hi := (List.getElem?_eq_some_iff.1 hx).1
  have hp := formP_ins hq (List.mem_of_getElem? hx)
  have hoff := hp.2.2.1
  refine spec.l13Line.ok (ixA h (i := i) (by omega) (x := x) (by simpa using hx) rfl (nwStIns (x := x) fun w1 b1 s1 c1 => ?_))
  refine ⟨fun w' => w' = w1 ∧ goesP x, ?_, ?_⟩
  · refine ldB c1 (x := x.op) rfl (spec.l1Jump.c (And.intro (fun hg => ldB c1 (x := x.op) rfl (And.intro (fun h16 => ?_) (fun h16 => ⟨rfl, ?_⟩))) (fun hg => ⟨rfl, ?_⟩)))
    · have hg : ¬ (12 ≤ x.op ∧ x.op ≤ 15) := by simp only [Bool.not_eq_true', decide_eq_false_iff_not] at hg; exact hg
      have h16 : ¬ x.op = 16 := by simpa using h16
      refine ldAB c1 (x := x.t) rfl (spec.l1Line.t (x := x) hp fun w2 b2 => ?_)
      have e : Lib.itoa x.off = offT l i x := by unfold offT; rw [if_neg (by unfold goesP; omega)]
      rw [e]
      exact hk w2 (b1.trans (b2.mono b1.size))
    · have h16 : x.op = 16 := by simpa using h16
      unfold goesP; omega
    · have hg : 12 ≤ x.op ∧ x.op ≤ 15 := by simpa using hg
      unfold goesP; omega
  · rintro w2 ⟨rfl, hg⟩ _
    have htg := formP_tgt hq hx hg
    obtain ⟨base, hbase⟩ := lineO_goes hg
    have hlo := lineO_len (off := Lib.itoa x.off) hp (by have := itoa_len (n := x.off) (by omega) (by omega); omega)
    rw [hbase, List.length_append] at hlo
    have hml := markT_len (n := cntJ l (tgt i x).toNat) (by have := cntJ_le l (tgt i x).toNat; omega)
    refine ldAB c1 (x := x.t) rfl (spec.l1Line.t (x := x) hp fun w3 b3 => ?_)
    rw [hbase]
    have b3' := b1.trans (b3.mono b1.size)
    have cc : ∀ {w' : World}, StR w3 w' → w'.heap[w.heap.size]? = _ := fun hs => (hs.block _ (Nat.lt_of_lt_of_le (Array.getElem?_eq_some_iff.1 c1).1 b3.size)).trans ((b3.block _ (Array.getElem?_eq_some_iff.1 c1).1).trans c1)
    refine ⟨StR, stOk w3, eqG x.off, keptE, eqG (bs (Lib.itoa x.off)), keptE, eqG (bs base), keptE, eqG x.off, keptE, eqG (bs (markT (cntJ l (tgt i x).toNat))), keptE, eqG (bs (base ++ markT (cntJ l (tgt i x).toNat))), keptE, ?_⟩
    refine ⟨fun w' hs => ldB (cc hs) (j := 3) (x := x.off) rfl (gkE rfl (Below.refl _ _)), fun t30 => ⟨fun w' hs f30 => ?_, fun t31 => ⟨fun w' hs f31 => ?_, fun t34 => ⟨fun w' hs => ldB (cc hs) (j := 3) (x := x.off) rfl (gkE rfl (Below.refl _ _)), fun t39 => ⟨fun w' hs f39 => ?_, fun t41 => ⟨fun w' hs f34 f41 => ?_, fun t42 w4 hs _ _ _ _ _ f42 => ?_⟩⟩⟩⟩⟩⟩
    · cases f30
      exact spec.l1Dec.t (by omega) (by omega) fun w'' hb => gkE rfl hb
    · cases f31
      rw [bs_size, bs_size, List.length_append]
      have ek : IntKind.wrap .i64 (((base.length + (Lib.itoa x.off).length : Nat) : Int) - ((Lib.itoa x.off).length : Nat)) = (base.length : Int) := by rw [i64_of (by omega) (by omega)]; omega
      rw [ek]
      refine slS (lo := none) (hi := some (base.length : Int)) (f := 0) (k := base.length) rfl rfl (by omega) (by simp) ?_
      have e : ((base ++ Lib.itoa x.off).drop 0).take (base.length - 0) = base := by simp
      rw [e]
      exact gkE rfl (Below.refl _ _)
    · cases f39
      have e : IntKind.wrap .i64 (IntKind.wrap .i64 ((i : Int) + 1) + x.off) = (((tgt i x).toNat : Nat) : Int) := by
        rw [i64_succ (n := i) (m := l.length) hi (by omega)]
        unfold tgt at *
        rw [i64_of (by omega) (by omega)]; omega
      rw [e]
      exact spec.l13Name.c ((hr.below b3').below hs) (by omega) (by omega) fun w'' hb => gkE rfl hb
    · cases f34; cases f41
      refine ⟨szB (by omega), gkE (congrArg Value.string (bs_app _ _)) (Below.refl _ _)⟩
    · cases f42
      have hs : Below w3.heap.size w3 w4 := hs
      have e : base ++ markT (cntJ l (tgt i x).toNat) = lineO x (offT l i x) := by rw [hbase]; unfold offT; rw [if_pos hg]
      rw [e]
      exact hk w4 (b3'.trans (hs.mono b3'.size))
set_option maxHeartbeats 1000000 in
theorem spec.l13Put.c {K : ByteArray → World → Prop} (hq : formP l = 0) (h : SlR kIns w s l) (hk : ∀ w', Below w.heap.size w w' → K (bs (textA l l.length)) w') : CallT (.o (.lf .s)) P0 20 [s.v] w K := by
  have hn := h.len
  have hz := formP_size hq
  refine spec.l13Put.ok (spec.l13Marks.c hq h fun r w1 b1 hr1 => ?_)
  refine ⟨fun out i w' => ∃ n : Nat, i = n ∧ n ≤ l.length ∧ out = bs (textA l n) ∧ Below w1.heap.size w1 w', fun _ i _ => l.length - i.toNat, ⟨0, rfl, by omega, rfl, Below.refl _ _⟩, ?_⟩
  rintro out i w2 ⟨n, rfl, hnl, rfl, b2⟩ _
  have b12 := b1.trans (b2.mono b1.size)
  refine And.intro (fun hlt => ?_) (fun hge => ?_)
  · simp only [decide_eq_true_eq] at hlt
    obtain ⟨x, hx⟩ := get_some (l := l) (k := n) (by omega)
    have hix := formP_ins hq (List.mem_of_getElem? hx)
    have hr2 := (hr1.below b2).read
    have a1 := textA_len hq hnl
    have a2 := offT_len hq hx
    have a3 := lineO_len (off := offT l n x) hix (by omega)
    have a4 := markT_len (n := cntJ l n) (by have := cntJ_le l n; omega)
    have a5 : (markT (picks n (jmp l)).length).length ≤ 22 := a4
    have next : ∀ w', Below w2.heap.size w2 w' → (∃ n' : Nat, ((n + 1 : Nat) : Int) = n' ∧ n' ≤ l.length ∧ bs (textA l n ++ piece l n x) = bs (textA l n') ∧ Below w1.heap.size w1 w') ∧ l.length - ((n + 1 : Nat) : Int).toNat < l.length - ((n : Nat) : Int).toNat := fun w' hb =>
      ⟨⟨n + 1, rfl, by omega, by rw [textA_succ hx], b2.trans (hb.mono b2.size)⟩, by simp only [Int.toNat_natCast]; omega⟩
    rw [i64_succ (n := n) (m := l.length) (by omega) (by omega)]
    refine ixL hr2 (i := n) (by omega) (x := jmp l n) (by rw [Int.toNat_natCast]; exact bits_get (by omega)) rfl (l := .b) (v := jmp l n) rfl ?_
    refine And.intro (fun hj => ?_) (fun hj => ?_)
    · refine spec.l13Name.c hr2 (by omega) (by omega) fun w3 b3 => ?_
      refine ⟨(by show (_ : Int) ≤ 9223372036854775807; simp only [ByteArray.size_append, bs_size, z32, z114, z2, z10, z109, z58, List.length_cons, List.length_append, List.length_nil]; omega), (by show (_ : Int) ≤ 9223372036854775807; simp only [ByteArray.size_append, bs_size, z32, z114, z2, z10, z109, z58, List.length_cons, List.length_append, List.length_nil]; omega), (by show (_ : Int) ≤ 9223372036854775807; simp only [ByteArray.size_append, bs_size, z32, z114, z2, z10, z109, z58, List.length_cons, List.length_append, List.length_nil]; omega), ?_⟩
      refine spec.l13Line.c hq ((h.below b12).below b3) (hr2.below b3) hx fun w4 b4 => ⟨(by show (_ : Int) ≤ 9223372036854775807; simp only [ByteArray.size_append, bs_size, z32, z114, z2, z10, z109, z58, List.length_cons, List.length_append, List.length_nil]; omega), (by show (_ : Int) ≤ 9223372036854775807; simp only [ByteArray.size_append, bs_size, z32, z114, z2, z10, z109, z58, List.length_cons, List.length_append, List.length_nil]; omega), ?_⟩
      have e : (((((bs (textA l n) ++ bs (markT (picks n (jmp l)).length)) ++ (⟨#[58, 10]⟩ : ByteArray)) ++ (⟨#[32]⟩ : ByteArray)) ++ bs (lineO x (offT l n x))) ++ (⟨#[10]⟩ : ByteArray)) = bs (textA l n ++ piece l n x) := by
        rw [e58, e32, e10]; simp only [bs_app]
        congr 1
        unfold piece
        rw [if_pos hj]
        simp [cntJ]
      rw [e]
      exact next w4 (b3.trans (b4.mono b3.size))
    · refine ⟨(by show (_ : Int) ≤ 9223372036854775807; simp only [ByteArray.size_append, bs_size, z32, z114, z2, z10, z109, z58, List.length_cons, List.length_append, List.length_nil]; omega), ?_⟩
      refine spec.l13Line.c hq (h.below b12) hr2 hx fun w4 b4 => ⟨(by show (_ : Int) ≤ 9223372036854775807; simp only [ByteArray.size_append, bs_size, z32, z114, z2, z10, z109, z58, List.length_cons, List.length_append, List.length_nil]; omega), (by show (_ : Int) ≤ 9223372036854775807; simp only [ByteArray.size_append, bs_size, z32, z114, z2, z10, z109, z58, List.length_cons, List.length_append, List.length_nil]; omega), ?_⟩
      have e : (((bs (textA l n) ++ (⟨#[32]⟩ : ByteArray)) ++ bs (lineO x (offT l n x))) ++ (⟨#[10]⟩ : ByteArray)) = bs (textA l n ++ piece l n x) := by
        rw [e32, e10]; simp only [bs_app]
        congr 1
        unfold piece
        rw [if_neg (by simp [hj])]
        simp
      rw [e]
      exact next w4 b4
  · simp only [decide_eq_false_iff_not] at hge
    obtain rfl : n = l.length := by omega
    exact hk w2 b12
theorem spec.AsmPut.c {K : ByteArray → World → Prop} (h : SlR kIns w s l) (hl : l.length ≤ 1048576) (hk : ∀ w', Below w.heap.size w w' → K (bs (putA l)) w') : CallT (.o (.lf .s)) P0 13 [s.v] w K := by
  refine spec.AsmPut.ok (spec.l1Form.c h hl fun w1 b1 => And.intro (fun hq => ?_) (fun hq => ?_))
  · have hq : ¬ formP l = 0 := by simpa using hq
    have e : (⟨#[]⟩ : ByteArray) = bs (putA l) := by rw [putA_no hq]; rfl
    rw [e]; exact hk w1 b1
  · have hq : formP l = 0 := by simpa using hq
    refine spec.l13Put.c hq (h.below b1) fun w2 b2 => ?_
    rw [← putA_of hq]
    exact hk w2 (b1.trans (b2.mono b1.size))
set_option maxHeartbeats 1000000 in
theorem impl.AsmPut.c {K : ByteArray → World → Prop} (ht : Tb w) (h : SlR kIns w s l) (hl : l.length ≤ 1048576) (hk : ∀ w', Below w.heap.size w w' → K (bs (putA l)) w') : CallT (.o (.lf .s)) P0 12 [s.v] w K := by
  have hn := h.len
  refine impl.AsmPut.ok (impl.ProgForm.c h hl fun w1 b1 => And.intro (fun hq => ?_) (fun hq => ?_))
  · have hq : ¬ formP l = 0 := by simpa using hq
    have e : (⟨#[]⟩ : ByteArray) = bs (putA l) := by rw [putA_no hq]; rfl
    rw [e]; exact hk w1 b1
  · have hq : formP l = 0 := by simpa using hq
    have hz := formP_size hq
    refine impl.marks.c hq (h.below b1) fun r w2 b2' hr2 => ?_
    have b2 := b1.trans (b2'.mono b1.size)
    rw [zBd]
    refine nw fun w3 b3 s3 c3 => ?_
    have d3 : BdF w2.heap.size w2.heap.size [] w3 := BdF.new (Nat.le_refl _) c3
    refine ⟨fun i w' => ∃ n : Nat, i = n ∧ n ≤ l.length ∧ BdF w2.heap.size w2.heap.size (textA l n) w' ∧ Below w2.heap.size w2 w', fun i _ => l.length - i.toNat, ⟨0, rfl, by omega, d3, b3⟩, ?_⟩
    rintro i w4 ⟨n, rfl, hnl, d4, b4⟩ _
    have b24 := b2.trans (b4.mono b2.size)
    refine And.intro (fun hlt => ?_) (fun hge => ?_)
    · simp only [decide_eq_true_eq] at hlt
      obtain ⟨x, hx⟩ := get_some (l := l) (k := n) (by omega)
      have hix := formP_ins hq (List.mem_of_getElem? hx)
      have hoff := hix.2.2.1
      have a1 := textA_len hq hnl
      have a2 := offT_len hq hx
      have a3 := lineO_len (off := offT l n x) hix (by omega)
      have a4 := markT_len (n := cntJ l n) (by have := cntJ_le l n; omega)
      refine ixA (h.below b24) (i := n) (by omega) (x := x) (by simpa using hx) rfl (nwStIns (x := x) fun w5 b5 s5 c5 => ?_)
      have hs4 := b4.size
      have a5 : (Lib.itoa (((picks n (jmp l)).length : Nat) : Int)).length + 1 ≤ 22 := a4
      have hpl : (picks l.length (jmp l)).length ≤ 1000000 := by have := picks_le l.length (jmp l); omega
      have hasc : (picks l.length (jmp l)).Pairwise (· ≤ ·) := (picks_asc _ _).imp fun h => by omega
      rw [i64_succ (n := n) (m := l.length) (by omega) (by omega)]
      have d5 := d4.below b5
      have b25 := b4.trans (b5.mono b4.size)
      refine ⟨fun w' => ∃ mk : By, mk = (if jmp l n = true then markT (cntJ l n) ++ [58, 10] else []) ∧ BdF w2.heap.size w2.heap.size (textA l n ++ mk) w' ∧ Below w2.heap.size w2 w' ∧ w'.heap[w4.heap.size]? = some (.cells x.cs 39 (0, 0)), ?_, ?_⟩
      · refine search.c (x := (n : Int)) ((hr2.below b25).read) hpl hasc fun w6 b6 => ?_
        rw [picks_count n l.length (by omega), picks_has (by omega)]
        have b26 := b25.trans (b6.mono b25.size)
        have c6 := (b6.block _ (Array.getElem?_eq_some_iff.1 c5).1).trans c5
        refine And.intro (fun hj => ?_) (fun hj => ?_)
        · refine impl.mark.t (((ht.below b2).below b26)) (by have := cntJ_le l n; unfold cntJ at this; show (0 : Int) ≤ ((picks n (jmp l)).length : Nat) ∧ (((picks n (jmp l)).length : Nat) : Int) ≤ 1000000; omega) fun w7 b7 => ⟨(by show (_ : Int) ≤ 9223372036854775807; simp only [ByteArray.size_append, bs_size, z32, z114, z2, z10, z109, z58, List.length_cons, List.length_append, List.length_nil]; omega), ?_⟩
          have b27 := b26.trans (b7.mono b26.size)
          have c7 := (b7.block _ (Array.getElem?_eq_some_iff.1 c6).1).trans c6
          have e : bs (109 :: Lib.itoa ((picks n (jmp l)).length : Nat)) ++ (⟨#[58, 10]⟩ : ByteArray) = bs (markT (cntJ l n) ++ [58, 10]) := by rw [e58, bs_app]; rfl
          rw [e]
          refine writeK.c ((d5.below b6).below b7) (by simp; omega) b27.size fun q w8 d8 b8 k8 => ?_
          refine ⟨markT (cntJ l n) ++ [58, 10], by rw [if_pos hj], d8, b27.trans b8, k8 _ _ c7 (by have := d4.lt; simp; omega) (fun c fz e => by injection e with _ e2; exact absurd e2 (by decide))⟩
        · exact ⟨[], by rw [if_neg (by simpa using hj)], by rw [List.append_nil]; exact d5.below b6, b26, c6⟩
      · rintro w6 ⟨mk, hmk, d6, b6, c6⟩ _
        have hmkl : mk.length ≤ 24 := by rw [hmk]; split <;> simp; omega
        have ht6 := (ht.below b2).below b6
        have h6 := (h.below b2).below b6
        refine ldB c6 (j := 3) (x := x.off) rfl (itoa.c ht6 (by omega) (by omega) fun w7 b7 => ?_)
        have b27 := b6.trans (b7.mono b6.size)
        have c7 := (b7.block _ (Array.getElem?_eq_some_iff.1 c6).1).trans c6
        have d7 := d6.below b7
        have fin : ∀ w', Below w2.heap.size w2 w' → w'.heap[w4.heap.size]? = some (.cells x.cs 39 (0, 0)) → BdF w2.heap.size w2.heap.size (textA l n ++ mk) w' → LdA (R 6 (.i .i64)) ⟨w4.heap.size, 0, none⟩ w' fun (t51 : Tup (R 6 (.i .i64))) w__22 =>
            CallT (.o (.lf .s)) P0 33 [(.agg (Tup.cells (R 6 (.i .i64)) t51).toArray), (.string (bs (offT l n x)))] w__22 fun (t53 : ByteArray) w__23 =>
            (((ByteArray.size (⟨#[32]⟩ : ByteArray) + ByteArray.size t53 : Nat) : Int) ≤ IntKind.i64.max) ∧ (((ByteArray.size ((⟨#[32]⟩ : ByteArray) ++ t53) + ByteArray.size (⟨#[10]⟩ : ByteArray) : Nat) : Int) ≤ IntKind.i64.max) ∧
            CallT (.n [(.lf (.i .i64)), (.lf .any)]) P0 28 [(.pointer (some ⟨w2.heap.size, 0, none⟩)), (.string (((⟨#[32]⟩ : ByteArray) ++ t53) ++ (⟨#[10]⟩ : ByteArray)))] w__23 fun (t56 : (Int) × (Value) × Unit) w__24 =>
            ((∃ n' : Nat, ((n + 1 : Nat) : Int) = n' ∧ n' ≤ l.length ∧ BdF w2.heap.size w2.heap.size (textA l n') w__24 ∧ Below w2.heap.size w2 w__24) ∧ l.length - ((n + 1 : Nat) : Int).toNat < l.length - ((n : Nat) : Int).toNat) := by
          intro w' b' c' d'
          refine ldAB c' (x := x.t) rfl (impl.Ins.line.t ((ht.below b2).below b') hix (by omega) fun w8 b8 => ⟨(by show (_ : Int) ≤ 9223372036854775807; simp only [ByteArray.size_append, bs_size, z32, z114, z2, z10, z109, z58, List.length_cons, List.length_append, List.length_nil]; omega), (by show (_ : Int) ≤ 9223372036854775807; simp only [ByteArray.size_append, bs_size, z32, z114, z2, z10, z109, z58, List.length_cons, List.length_append, List.length_nil]; omega), ?_⟩)
          have b28 := b'.trans (b8.mono b'.size)
          have e : ((⟨#[32]⟩ : ByteArray) ++ bs (lineO x (offT l n x))) ++ (⟨#[10]⟩ : ByteArray) = bs (32 :: lineO x (offT l n x) ++ [10]) := by rw [e32, e10]; simp only [bs_app]; rfl
          rw [e]
          refine writeK.c (d'.below b8) (by simp; omega) b28.size fun q w9 d9 b9 k9 => ?_
          refine ⟨⟨n + 1, rfl, by omega, ?_, b28.trans b9⟩, by simp only [Int.toNat_natCast]; omega⟩
          rw [textA_succ hx]
          unfold piece
          rw [← hmk, ← List.append_assoc]
          exact d9
        refine ldB c7 (x := x.op) rfl (impl.kind.goes.c (And.intro (fun hg => ?_) (fun hg => ?_)))
        · have hg : goesP x := of_decide_eq_true hg
          have htg := formP_tgt hq hx hg
          refine impl.target.c ((h.below b2).below b27) (by omega) (by simpa using hx) hl hix.2.2.1 ?_
          refine search.c (x := tgt n x) ((hr2.below b27).read) hpl hasc fun w8 b8 => ?_
          have etg : tgt n x = (((tgt n x).toNat : Nat) : Int) := by omega
          have b28 := b27.trans (b8.mono b27.size)
          have c8 := (b8.block _ (Array.getElem?_eq_some_iff.1 c7).1).trans c7
          rw [etg, picks_count _ l.length (by omega)]
          refine impl.mark.t ((ht.below b2).below b28) (by have := cntJ_le l (tgt n x).toNat; unfold cntJ at this; show (0 : Int) ≤ ((picks (tgt n x).toNat (jmp l)).length : Nat) ∧ (((picks (tgt n x).toNat (jmp l)).length : Nat) : Int) ≤ 1000000; omega) fun w9 b9 => ?_
          have b29 := b28.trans (b9.mono b28.size)
          have c9 := (b9.block _ (Array.getElem?_eq_some_iff.1 c8).1).trans c8
          have e : (109 :: Lib.itoa ((picks (tgt n x).toNat (jmp l)).length : Nat)) = offT l n x := by unfold offT; rw [if_pos hg]; rfl
          rw [e]
          exact fin w9 b29 c9 ((d7.below b8).below b9)
        · have hg : ¬ goesP x := of_decide_eq_false hg
          have e : Lib.itoa x.off = offT l n x := by unfold offT; rw [if_neg hg]
          rw [e]
          exact fin w7 b27 c7 d7
    · simp only [decide_eq_false_iff_not] at hge
      obtain rfl : n = l.length := by omega
      refine stringK.c d4 b4.size fun w5 b5 => ?_
      rw [← putA_of hq]
      exact hk w5 (b2.trans ((b4.trans b5).mono b2.size))
end
end Go.Proofs.YteggdoigliddkaaGreatDoor.V

/- Contracts: an op's line is read, in the reference. -/
namespace Go.Proofs.YteggdoigliddkaaGreatDoor.V
open Go Go.RowKit
set_option linter.unusedVariables false
set_option linter.unusedSimpArgs false
theorem itoa_pos {n : Int} (h : 0 ≤ n) : ∃ c r, Lib.itoa n = c :: r ∧ 48 ≤ c.toNat ∧ c.toNat ≤ 57 := by
  rw [itoa_fig h]
  obtain ⟨c, r, hd⟩ := List.exists_cons_of_ne_nil (dec_ne n.toNat)
  exact ⟨c, r, hd, dec_fig _ c (by rw [hd]; exact List.mem_cons_self)⟩
theorem itoa_minus {n : Int} (h : n < 0) : Lib.itoa n = 45 :: Lib.decDigits n.natAbs := by unfold Lib.itoa; rw [if_pos h]
section
variable {w : World}
theorem spec.l1Signed.t {z : By} {K : Int → World → Prop} (hl : z.length ≤ 2000000) (hk : ∀ r : Int, (∀ n : Int, -128 ≤ n → n ≤ 127 → z = Lib.itoa n → r = n) → K r w) : CallT (.o (.lf (.i .i64))) P0 99 [.string (bs z)] w K := by
  refine spec.l1Signed.ok ?_
  unfold spec.l1Signed.vc
  rw [bs_size]
  -- a number without a sign
  have pos : (∀ n : Int, -128 ≤ n → n < 0 → z ≠ Lib.itoa n) → CallT (.o (.lf (.i .i64))) P0 49 [(.string (bs z))] w fun (t21 : Int) w__3 =>
      ((decide ((t21 : Int) < 0)) = true → K 1000 w__3) ∧ ((decide ((t21 : Int) < 0)) = false → K t21 w__3) := by
    intro hneg
    refine spec.l1Num.t (by omega) fun r hr => And.intro (fun h => hk _ fun n h0 h1 e => ?_) (fun h => hk _ fun n h0 h1 e => ?_)
    · exfalso
      rcases Int.lt_or_le n 0 with h2 | h2
      · exact hneg n h0 h2 e
      · have := hr n.toNat (by omega) (by rw [e, itoa_fig h2])
        simp only [decide_eq_true_eq] at h; omega
    · rcases Int.lt_or_le n 0 with h2 | h2
      · exact absurd e (hneg n h0 h2)
      · have := hr n.toNat (by omega) (by rw [e, itoa_fig h2])
        omega
  refine And.intro (fun h => ?_) (fun h => pos fun n h0 h2 e => ?_)
  · simp only [decide_eq_true_eq] at h
    obtain ⟨c, hc⟩ := get_some (l := z) (k := 0) (by omega)
    refine sxB (by omega) (b := c) (by simpa using hc) (And.intro (fun h45 => ?_) (fun h45 => pos fun n h0 h2 e => ?_))
    · have hc45 : c = 45 := by apply UInt8.toNat_inj.1; simp at h45; show c.toNat = 45; omega
      refine slS (lo := some 1) (hi := none) (f := 1) (k := z.length) rfl rfl (by omega) (Nat.le_refl _) ?_
      have hz : z = c :: z.drop 1 := by cases z with | nil => simp at h | cons x xs => simp at hc; simp [hc]
      have hd : (z.drop 1).take (z.length - 1) = z.drop 1 := List.take_of_length_le (by simp)
      rw [hd]
      have key : ∀ r : Int, (∀ u : Nat, u < 10000000000 → z.drop 1 = Lib.decDigits u → r = u) → ∀ n : Int, -128 ≤ n → n ≤ 127 → z = Lib.itoa n → n < 0 ∧ r = -n := by
        intro r hr n h0 h1 e
        rcases Int.lt_or_le n 0 with h2 | h2
        · refine ⟨h2, ?_⟩
          rw [itoa_minus h2] at e
          have := hr n.natAbs (by omega) (by rw [e]; rfl)
          omega
        · exfalso
          obtain ⟨c', r', e1, e2, e3⟩ := itoa_pos h2
          rw [e1, hz] at e
          simp only [List.cons.injEq] at e
          rw [← e.1, hc45] at e2
          simp at e2
      refine spec.l1Num.t (by simp; omega) fun r hr => And.intro (fun h => hk _ fun n h0 h1 e => ?_) (fun h => hk _ fun n h0 h1 e => ?_)
      · have := key r hr n h0 h1 e
        simp only [decide_eq_true_eq] at h; omega
      · have := key r hr n h0 h1 e
        rw [i64_of (by omega) (by omega)]; omega
    · rw [e, itoa_minus h2] at hc
      simp at hc
      rw [← hc] at h45
      simp at h45
  · simp only [decide_eq_false_iff_not] at h
    rw [itoa_minus h2] at e
    have h3 := congrArg List.length e
    have h4 := List.length_pos_iff.2 (dec_ne n.natAbs)
    simp at h3; omega
theorem spec.l1ReadReg.t {z : By} {K : Int × Int × Unit → World → Prop} (hl : z.length ≤ 2000000) (hk : ∀ a b : Int, (∀ src imm : Int, -1 ≤ src → src ≤ 10 → 0 ≤ imm → imm ≤ 4294967295 → (src < 0 ∨ imm = 0) → z = regL src imm → a = src ∧ b = imm) → K (a, b, ()) w) :
    CallT (.n [(.lf (.i .i64)), (.lf (.i .i64))]) P0 98 [.string (bs z)] w K := by
  refine spec.l1ReadReg.ok ?_
  unfold spec.l1ReadReg.vc
  rw [bs_size]
  have num : (∀ src imm : Int, 0 ≤ src → z ≠ regL src imm) → CallT (.o (.lf (.i .i64))) P0 49 [(.string (bs z))] w fun (t20 : Int) w__3 => K ((-1), (t20, ())) w__3 := by
    intro hno
    refine spec.l1Num.t (by omega) fun r hr => hk _ _ fun src imm h0 h1 h2 h3 h4 e => ?_
    rcases Int.lt_or_le src 0 with h5 | h5
    · have e2 : z = Lib.decDigits imm.toNat := by rw [e]; unfold regL; rw [if_pos h5, itoa_fig h2]
      have := hr imm.toNat (by omega) e2
      omega
    · exact absurd e (hno src imm h5)
  refine And.intro (fun h => ?_) (fun h => num fun src imm h5 e => ?_)
  · simp only [decide_eq_true_eq] at h
    obtain ⟨c, hc⟩ := get_some (l := z) (k := 0) (by omega)
    refine sxB (by omega) (b := c) (by simpa using hc) (And.intro (fun hr => ?_) (fun hr => num fun src imm h5 e => ?_))
    · have hc114 : c = 114 := by apply UInt8.toNat_inj.1; simp at hr; show c.toNat = 114; omega
      refine slS (lo := some 1) (hi := none) (f := 1) (k := z.length) rfl rfl (by omega) (Nat.le_refl _) ?_
      have hz : z = c :: z.drop 1 := by cases z with | nil => simp at h | cons x xs => simp at hc; simp [hc]
      have hd : (z.drop 1).take (z.length - 1) = z.drop 1 := List.take_of_length_le (by simp)
      rw [hd]
      have key : ∀ r : Int, (∀ u : Nat, u < 10000000000 → z.drop 1 = Lib.decDigits u → r = u) → ∀ src imm : Int, -1 ≤ src → src ≤ 10 → 0 ≤ imm → imm ≤ 4294967295 → (src < 0 ∨ imm = 0) → z = regL src imm → 0 ≤ src ∧ r = src ∧ imm = 0 := by
        intro r hr src imm h0 h1 h2 h3 h4 e
        rcases Int.lt_or_le src 0 with h5 | h5
        · exfalso
          unfold regL at e
          rw [if_pos h5, hz, hc114] at e
          exact itoa_not_r _ e.symm
        · unfold regL at e
          rw [if_neg (by omega), itoa_fig h5] at e
          have := hr src.toNat (by omega) (by rw [e]; rfl)
          omega
      refine spec.l1Num.t (by simp; omega) fun r hr => And.intro (fun h => hk _ _ fun src imm h0 h1 h2 h3 h4 e => ?_) (fun h => hk _ _ fun src imm h0 h1 h2 h3 h4 e => ?_)
      · have := key r hr src imm h0 h1 h2 h3 h4 e
        simp only [decide_eq_true_eq] at h; omega
      · have := key r hr src imm h0 h1 h2 h3 h4 e
        omega
    · unfold regL at e
      rw [if_neg (by omega)] at e
      rw [e] at hc
      simp at hc
      rw [← hc] at hr
      simp at hr
  · simp only [decide_eq_false_iff_not] at h
    unfold regL at e
    rw [if_neg (by omega), itoa_fig h5] at e
    have h3 := congrArg List.length e
    have h4 := List.length_pos_iff.2 (dec_ne src.toNat)
    simp at h3; omega
end
theorem go_fields {x : Ins} {n : Int} (hp : InsP x) : x.go n = ⟨x.op, x.dst, x.src, if 12 ≤ x.op ∧ x.op ≤ 18 then n else 0, x.imm, x.size⟩ := by
  have hb := hp.2.2.2.2
  unfold Ins.go
  by_cases h : 12 ≤ x.op ∧ x.op ≤ 18
  · rw [if_pos h, if_pos h]
  · rw [if_neg h, if_neg h]
    have h0 : x.off = 0 := by unfold BareP szP at hb; omega
    rw [← h0]
theorem e108 : (⟨#[108, 111, 97, 100]⟩ : ByteArray) = bs [108, 111, 97, 100] := rfl
theorem e115 : (⟨#[115, 116, 111, 114, 101]⟩ : ByteArray) = bs [115, 116, 111, 114, 101] := rfl
theorem headW_load {x : Ins} {q : Int} (hp : InsP x) (hq : q = 1 ∨ q = 2 ∨ q = 4) (h : headW x = [108, 111, 97, 100] ++ Lib.itoa q ∨ headW x = [115, 116, 111, 114, 101] ++ Lib.itoa q) : (x.op = 17 ∨ x.op = 18) ∧ x.size = q := by
  have e := headS_headW hp
  have hop := insP_op hp
  rcases h with h | h
  · rw [h, show [108, 111, 97, 100] = opA 17 from rfl, headS_size (.inl rfl) (by unfold szP; omega)] at e
    simp only [Prod.mk.injEq] at e
    have := opIdxA (n := x.op) (by omega)
    rw [← e.1, opIdxA (by omega)] at this
    omega
  · rw [h, show [115, 116, 111, 114, 101] = opA 18 from rfl, headS_size (.inr rfl) (by unfold szP; omega)] at e
    simp only [Prod.mk.injEq] at e
    have := opIdxA (n := x.op) (by omega)
    rw [← e.1, opIdxA (by omega)] at this
    omega
theorem headW_is {x : Ins} (hp : InsP x) (h : x.op = 17 ∨ x.op = 18) : (headW x = [108, 111, 97, 100] ++ Lib.itoa x.size ∨ headW x = [115, 116, 111, 114, 101] ++ Lib.itoa x.size) ∧ (headW x).dropLast = opA x.op ∧ szP x.size := by
  have hs : szP x.size := by have := hp.2.2.2.2; grind [BareP]
  have hs' : 0 ≤ x.size ∧ x.size ≤ 9 := by unfold szP at hs; omega
  unfold headW
  rw [if_pos h]
  refine ⟨?_, by rw [itoa_one hs', List.dropLast_concat], hs⟩
  rcases h with h | h
  · rw [h]; exact .inl rfl
  · rw [h]; exact .inr rfl
end Go.Proofs.YteggdoigliddkaaGreatDoor.V

/- Contracts: an op's words are read, in the program: the walk. -/
namespace Go.Proofs.YteggdoigliddkaaGreatDoor.V
open Go Go.RowKit
set_option linter.unusedVariables false
set_option linter.unusedSimpArgs false
section
variable {w : World}
set_option maxHeartbeats 8000000 in
theorem impl.readIns.t' {s : Sl} {zs : List ByteArray} {z : Nat → By} {K : Tup (R 6 (.i .i64)) × Bool × Unit → World → Prop} (ht : Te w) (h : SlR kS w s zs) (hn0 : 0 < zs.length) (hz : ∀ i, i < zs.length → zs[i]? = some (bs (z i))) (hzl : ∀ i, i < zs.length → (z i).length ≤ 1048576)
    {op : Int} (hop : (if (0 : Int) > Lib.idxOfS (opW.map bs) (bs (headS (z 0)).1) then 0 else Lib.idxOfS (opW.map bs) (bs (headS (z 0)).1)) = op)
    (hk : ∀ (r : Ins) ok w', Below w.heap.size w w' → (∀ r', readR op (headS (z 0)).2 zs.length z = some r' → ok = true ∧ r = r') → K (r.t, ok, ()) w') :
    CallT (.n [(.ag (R 6 (.i .i64))), (.lf .b)]) P0 59 [s.v] w K := by
  have hn := h.len
  have sep : ∀ b', s.bk = some b' → b' < w.heap.size := fun b' hb => bk_lt h (hz 0 hn0) (v := .string (bs (z 0))) rfl hb
  refine impl.readIns.ok (nwIz fun w1 b1 s1 c1 => ?_)
  have h1 := h.below b1
  refine ixL h1 (i := 0) (by omega) (x := bs (z 0)) (by simpa using hz 0 hn0) rfl (l := .s) (v := bs (z 0)) rfl ?_
  rw [bs_size]
  have hl0 := hzl 0 hn0
  have ew : 1 < (z 0).length → IntKind.wrap .i64 (((z 0).length : Int) - 1) = (((z 0).length - 1 : Nat) : Int) := fun h => by rw [i64_of (by omega) (by omega)]; omega
  refine ⟨fun hd sz w' => hd = bs (headS (z 0)).1 ∧ sz = (headS (z 0)).2 ∧ w' = w1, ⟨fun t w' => w' = w1 ∧ (t = true ↔ ∃ c, (z 0).getLast? = some c ∧ 1 < (z 0).length ∧ 48 ≤ c.toNat ∧ c.toNat ≤ 57), ?_, ?_⟩, ?_⟩
  · refine And.intro (fun h => ?_) (fun h => ⟨rfl, ?_⟩)
    · have h : 1 < (z 0).length := by simp at h; omega
      rw [ew h]
      obtain ⟨c, hc⟩ := get_some (l := z 0) (k := (z 0).length - 1) (by omega)
      have hlast : (z 0).getLast? = some c := by rw [List.getLast?_eq_getElem?]; exact hc
      refine sxB (by omega) (b := c) (by simpa using hc) (And.intro (fun h48 => sxB (by omega) (b := c) (by simpa using hc) ⟨rfl, ?_⟩) (fun h48 => ⟨rfl, ?_⟩))
      · simp only [decide_eq_true_eq] at h48 ⊢
        constructor
        · intro h57; exact ⟨c, hlast, h, by omega, by omega⟩
        · rintro ⟨c', hc', _, _, h57⟩
          rw [hlast] at hc'; simp only [Option.some.injEq] at hc'; subst hc'; omega
      · simp only [decide_eq_false_iff_not] at h48
        constructor
        · intro h; simp at h
        · rintro ⟨c', hc', _, h57, _⟩
          rw [hlast] at hc'; simp only [Option.some.injEq] at hc'; subst hc'; omega
    · simp only [decide_eq_false_iff_not] at h
      constructor
      · intro h; simp at h
      · rintro ⟨_, _, h2, _⟩; omega
  · rintro t w2 ⟨rfl, ht33⟩ _
    refine And.intro (fun e => ?_) (fun e => ⟨?_, ?_, rfl⟩)
    · obtain ⟨c, hlast, h, h48, h57⟩ := ht33.1 e
      have hc : (z 0)[(z 0).length - 1]? = some c := by rw [← List.getLast?_eq_getElem?]; exact hlast
      have eh : headS (z 0) = ((z 0).dropLast, (c.toNat : Int) - 48) := by unfold headS; rw [hlast]; simp only; rw [if_pos ⟨h, h48, h57⟩]
      rw [ew h]
      refine sxB (by omega) (b := c) (by simpa using hc) ?_
      refine slS (lo := none) (hi := some (((z 0).length - 1 : Nat) : Int)) (f := 0) (k := (z 0).length - 1) rfl rfl (by omega) (by omega) ?_
      have ed : ((z 0).drop 0).take ((z 0).length - 1 - 0) = (z 0).dropLast := by rw [List.dropLast_eq_take]; rfl
      have e2 : IntKind.wrap .i64 (IntKind.wrap .u8 ((c.toNat : Int) - 48)) = (c.toNat : Int) - 48 := by
        have : IntKind.wrap .u8 ((c.toNat : Int) - 48) = (c.toNat : Int) - 48 := by simp only [IntKind.wrap, IntKind.bits, IntKind.signed]; simp; omega
        rw [this, i64_of (by omega) (by omega)]
      rw [ed, e2, eh]
      exact ⟨rfl, rfl, rfl⟩
    · have eh : headS (z 0) = (z 0, 0) := by
        unfold headS
        split
        · rename_i c hc
          rw [if_neg]
          intro hx
          have := ht33.2 ⟨c, hc, hx⟩
          rw [e] at this; simp at this
        · rfl
      rw [eh]
    · have eh : headS (z 0) = (z 0, 0) := by
        unfold headS
        split
        · rename_i c hc
          rw [if_neg]
          intro hx
          have := ht33.2 ⟨c, hc, hx⟩
          rw [e] at this; simp at this
        · rfl
      rw [eh]
  rintro hd sz w2 ⟨rfl, rfl, rfl⟩ _
  refine impl.opWords.t fun w2 b2' => opsBox fun bo w3 b3' hbo ho => sliceOps ho fun so hso => index.c hso ?_
  generalize (headS (z 0)).2 = sz at hk ⊢
  rw [hop]
  have b2 := b1.trans (b2'.mono b1.size)
  have b3 := b2.trans (b3'.mono b2.size)
  have hs2 := b2'.size
  have hs3 := b3'.size
  refine nwStIns (x := ⟨op, 0, -1, 0, 0, sz⟩) fun w4 b4' s4 c4 => ?_
  have b4 := b3.trans (b4'.mono b3.size)
  have r4 : RdI w s zs w3.heap.size ⟨op, 0, -1, 0, 0, sz⟩ w4 := ⟨b4, (b4'.block _ (by omega)).trans ((b3'.block _ (by omega)).trans ((b2'.block _ (by omega)).trans c1)), c4, by omega, h.below b4, sep, ht⟩
  clear c4 b4 b4' b3 b2 ho hso hop
  -- one word, read
  have reg : ∀ {r : Ins} {w' : World} (i : Nat), RdI w s zs w3.heap.size r w' → i < zs.length → ∀ {K : Int → World → Prop}, (∀ w'', RdI w s zs w3.heap.size r w'' → K (regA (z i)) w'') → Ix s.a s.n (i : Int) 1 w' fun a w'' => Ld .s a w'' fun x w'' => CallT (.o (.lf (.i .i64))) P0 89 [.string x] w'' K := fun {r w'} i hr hi {K} hK =>
    hr.word (hz i hi) (impl.readReg.t hr.te (hzl i hi) fun w'' hb => hK w'' (hr.below hb))
  have num : ∀ {r : Ins} {w' : World} (i : Nat), RdI w s zs w3.heap.size r w' → i < zs.length → ∀ {K : Int → World → Prop}, (∀ w'', RdI w s zs w3.heap.size r w'' → K (numA (z i)) w'') → Ix s.a s.n (i : Int) 1 w' fun a w'' => Ld .s a w'' fun x w'' => CallT (.o (.lf (.i .i64))) P0 91 [.string x] w'' K := fun {r w'} i hr hi {K} hK =>
    hr.word (hz i hi) (impl.number.c hr.te (by have := hzl i hi; omega) fun w'' hb => hK w'' (hr.below hb))
  have fail : ∀ {w' : World}, RdI w s zs w3.heap.size ⟨op, 0, -1, 0, 0, sz⟩ w' → readR op sz zs.length z = none → StA P0 ⟨w.heap.size, 0, none⟩ (Tup.cells (R 6 (.i .i64)) ins0.t) w' fun w'' => LdA (R 6 (.i .i64)) ⟨w.heap.size, 0, none⟩ w'' fun r w3 => K (r, (false, ())) w'' := by
    intro w' hr hno
    refine stI hr.2.1 fun w5 g5 s5 c5 => ldI c5 ?_
    exact hk ins0 false w5 (hr.1.grown g5 hr.1.size (fun g hg => by simp only [Option.some.injEq] at hg; omega)) fun r' e => by rw [hno] at e; simp at e
  refine ⟨fun w' => ∃ r, RdI w s zs w3.heap.size r w' ∧ readR op sz zs.length z = some r, ⟨fun t w' => w' = w4 ∧ (t = true ↔ (1 ≤ op ∧ op ≤ 11 ∧ zs.length = 3) ∨ (12 ≤ op ∧ op ≤ 15 ∧ zs.length = 4)), ?_, ?_⟩, ?_⟩
  · refine impl.kind.reckons.c (And.intro (fun ha => And.intro (fun h3 => ⟨rfl, ?_⟩) (fun h3 => impl.kind.asks.c (And.intro (fun hb => ⟨rfl, ?_⟩) (fun hb => ⟨rfl, ?_⟩)))) (fun ha => impl.kind.asks.c (And.intro (fun hb => ⟨rfl, ?_⟩) (fun hb => ⟨rfl, ?_⟩))))
    all_goals (simp only [decide_eq_true_eq, decide_eq_false_iff_not, beq_iff_eq, beq_eq_false_iff_ne, ne_eq, Bool.false_eq_true] at *; constructor <;> intro hh <;> first | exact hh.elim | omega)
  · rintro t w5 ⟨rfl, htt⟩ _
    refine And.intro (fun e => ?_) (fun e => ?_)
    · have hc := htt.1 e
      have hl3 : 3 ≤ zs.length := by omega
      refine reg 1 r4 (by omega) fun w6 r6 => ?_
      refine r6.st (j := 1) (r' := ⟨op, regA (z 1), -1, 0, 0, sz⟩) (by omega) rfl fun w7 r7 => ?_
      refine r7.word (i := 2) (hz 2 (by omega)) (impl.Ins.setValue.t r7 (hzl 2 (by omega)) rfl fun w8 r8 => ?_)
      refine impl.kind.asks.c (And.intro (fun ha => ?_) (fun ha => ⟨_, r8, ?_⟩))
      · have ha : 12 ≤ op ∧ op ≤ 15 := by simpa using ha
        refine num 3 r8 (by omega) fun w9 r9 => ?_
        refine r9.st (j := 3) (r' := ⟨op, regA (z 1), (valA (z 2)).1, numA (z 3), (valA (z 2)).2, sz⟩) (by omega) rfl fun w10 r10 => ⟨_, r10, ?_⟩
        unfold readR
        rw [if_neg (by omega), if_pos (by omega)]
      · have ha : ¬ (12 ≤ op ∧ op ≤ 15) := of_decide_eq_false ha
        unfold readR
        rw [if_pos (by omega)]
    have c1 : ¬ ((1 ≤ op ∧ op ≤ 11 ∧ zs.length = 3) ∨ (12 ≤ op ∧ op ≤ 15 ∧ zs.length = 4)) := fun hc => by rw [htt.2 hc] at e; simp at e
    refine ⟨fun t w' => w' = w5 ∧ (t = true ↔ op = 16 ∧ zs.length = 2), And.intro (fun hb => ⟨rfl, ?_⟩) (fun hb => ⟨rfl, ?_⟩), ?_⟩
    · simp only [beq_iff_eq] at hb ⊢; constructor <;> intro hh <;> omega
    · simp only [beq_eq_false_iff_ne, ne_eq, Bool.false_eq_true] at hb ⊢; constructor <;> intro hh <;> first | exact hh.elim | omega
    rintro t w6 ⟨rfl, htt⟩ _
    refine And.intro (fun e => ?_) (fun e => ?_)
    · have hc := htt.1 e
      refine num 1 r4 (by omega) fun w7 r7 => ?_
      refine r7.st (j := 3) (r' := ⟨op, 0, -1, numA (z 1), 0, sz⟩) (by omega) rfl fun w8 r8 => ⟨_, r8, ?_⟩
      unfold readR
      rw [if_neg (by omega), if_neg (by omega), if_pos (by omega)]
    have c2 : ¬ (op = 16 ∧ zs.length = 2) := fun hc => by rw [htt.2 hc] at e; simp at e
    refine ⟨fun t w' => w' = w6 ∧ (t = true ↔ op = 17 ∧ zs.length = 4), And.intro (fun hb => ⟨rfl, ?_⟩) (fun hb => ⟨rfl, ?_⟩), ?_⟩
    · simp only [beq_iff_eq] at hb ⊢; constructor <;> intro hh <;> omega
    · simp only [beq_eq_false_iff_ne, ne_eq, Bool.false_eq_true] at hb ⊢; constructor <;> intro hh <;> first | exact hh.elim | omega
    rintro t w7 ⟨rfl, htt⟩ _
    have cdr : ∀ {w' : World} {D S : Int}, SpDS w3.heap.size D S w7 w' → ∃ d e, RdI w s zs w3.heap.size ⟨op, d, e, 0, 0, sz⟩ w' ∧ (d = 0 ∨ d = D) ∧ (e = -1 ∨ e = S) := fun hs => r4.sp hs
    have hcH : w.heap.size ≤ w3.heap.size := by have := r4.2.2.2.1; omega
    have wH : ∀ {w' : World} {D S : Int} (i : Nat), i < zs.length → SpDS w3.heap.size D S w7 w' → Ix s.a s.n (i : Int) 1 w' fun a w'' => GK (.o (.lf .ad)) (SpDS w3.heap.size D S) w' (AtH w.heap.size [.string (bs (z i))]) (.pointer (some a)) w'' := fun {w' D S} i hi hs => by
      obtain ⟨d, e, hr, _⟩ := cdr hs
      exact hr.wordH (hz i hi) fun a ha => ⟨a, rfl, SpDS.refl, ha⟩
    have lH : ∀ {w' : World} {D S : Int} (i : Nat) {t : Addr}, AtH w.heap.size [.string (bs (z i))] t w' → Ld .s t w' fun x w'' => GK (.o (.lf .s)) (SpDS w3.heap.size D S) w' (eqG (bs (z i))) (.string x) w'' := fun {w' D S} i {t} h => wordLd h.w (gkE rfl SpDS.refl)
    have hTe : ∀ {w' : World} {D S : Int}, SpDS w3.heap.size D S w7 w' → Te w' := fun hs => by obtain ⟨d, e, hr, _⟩ := cdr hs; exact hr.te
    have fin : ∀ {w' : World} {D S : Int}, SpDS w3.heap.size D S w7 w' → FD w3.heap.size D w' → FS w3.heap.size S w' → RdI w s zs w3.heap.size ⟨op, D, S, 0, 0, sz⟩ w' := fun {w' D S} hs hd hsr => by
      obtain ⟨d, e, hr, _, _⟩ := cdr hs
      obtain ⟨q, hq, hq2⟩ := hd
      obtain ⟨q', hq', hq2'⟩ := hsr
      have e1 := bI_inj hr.2.2.1 hq
      have e2 := bI_inj hr.2.2.1 hq'
      subst e1
      rw [← e2] at hq2'
      simp only at hq2 hq2'
      rw [← hq2, ← hq2']; exact hr
    refine And.intro (fun e => ?_) (fun e => ?_)
    · have hc := htt.1 e
      refine ⟨SpDS w3.heap.size (regA (z 1)) (regA (z 2)), spdsOk _ _ _ _, AtH w.heap.size [.string (bs (z 1))], athKept hcH, eqG (bs (z 1)), fun _ _ _ h _ => h, eqG (regA (z 1)), fun _ _ _ h _ => h,
        AtH w.heap.size [.string (bs (z 2))], athKept hcH, eqG (bs (z 2)), fun _ _ _ h _ => h, eqG (regA (z 2)), fun _ _ _ h _ => h,
        AtH w.heap.size [.string (bs (z 3))], athKept hcH, eqG (bs (z 3)), fun _ _ _ h _ => h, eqG (numA (z 3)), fun _ _ _ h _ => h,
        fun _ w' => FD w3.heap.size (regA (z 1)) w', fdKept, fun _ w' => FS w3.heap.size (regA (z 2)) w', fsKept, ?_⟩
      refine ⟨fun w' hs => wH 1 (by omega) hs, fun t104 => ⟨fun w' hs f => lH 1 f, fun t105 => ⟨fun w' hs f => ?_, fun t106 => ⟨fun w' hs => wH 2 (by omega) hs, fun t108 => ⟨fun w' hs f => lH 2 f, fun t109 => ⟨fun w' hs f => ?_, fun t110 => ⟨fun w' hs => wH 3 (by omega) hs, fun t112 => ⟨fun w' hs f => lH 3 f, fun t113 => ⟨fun w' hs f => ?_, fun t114 => ⟨fun w' hs f => ?_, fun u => ⟨fun w' hs f => ?_, fun u2 w8 hs _ _ _ _ _ _ _ _ f114 fd fs => ?_⟩⟩⟩⟩⟩⟩⟩⟩⟩⟩⟩
      · cases f; exact impl.readReg.t (hTe hs) (hzl 1 (by omega)) fun w'' hb => gkE rfl (SpDS.below hb)
      · cases f; exact impl.readReg.t (hTe hs) (hzl 2 (by omega)) fun w'' hb => gkE rfl (SpDS.below hb)
      · cases f; exact impl.number.c (hTe hs) (by have := hzl 3 (by omega); omega) fun w'' hb => gkE rfl (SpDS.below hb)
      · cases f
        obtain ⟨d, e, hr, _⟩ := cdr hs
        exact hr.stD fun w'' hs2 hf => ⟨(), rfl, hs2, hf⟩
      · cases f
        obtain ⟨d, e, hr, _⟩ := cdr hs
        exact hr.stS fun w'' hs2 hf => ⟨(), rfl, hs2, hf⟩
      · cases f114
        refine (fin hs fd fs).st (j := 3) (r' := ⟨op, regA (z 1), regA (z 2), numA (z 3), 0, sz⟩) (by omega) rfl fun w9 r9 => ⟨_, r9, ?_⟩
        unfold readR
        rw [if_neg (by omega), if_neg (by omega), if_neg (by omega), if_pos (by omega)]
    have c3 : ¬ (op = 17 ∧ zs.length = 4) := fun hc => by rw [htt.2 hc] at e; simp at e
    refine ⟨fun t w' => w' = w7 ∧ (t = true ↔ op = 18 ∧ zs.length = 4), And.intro (fun hb => ⟨rfl, ?_⟩) (fun hb => ⟨rfl, ?_⟩), ?_⟩
    · simp only [beq_iff_eq] at hb ⊢; constructor <;> intro hh <;> omega
    · simp only [beq_eq_false_iff_ne, ne_eq, Bool.false_eq_true] at hb ⊢; constructor <;> intro hh <;> first | exact hh.elim | omega
    rintro t w8 ⟨rfl, htt⟩ _
    refine And.intro (fun e => ?_) (fun e => ?_)
    · have hc := htt.1 e
      refine ⟨SpDS w3.heap.size (regA (z 1)) (-1), spdsOk _ _ _ _, AtH w.heap.size [.string (bs (z 1))], athKept hcH, eqG (bs (z 1)), fun _ _ _ h _ => h, eqG (regA (z 1)), fun _ _ _ h _ => h,
        AtH w.heap.size [.string (bs (z 2))], athKept hcH, eqG (bs (z 2)), fun _ _ _ h _ => h, eqG (numA (z 2)), fun _ _ _ h _ => h, fun _ w' => FD w3.heap.size (regA (z 1)) w', fdKept, ?_⟩
      refine ⟨fun w' hs => wH 1 (by omega) hs, fun t126 => ⟨fun w' hs f => lH 1 f, fun t127 => ⟨fun w' hs f => ?_, fun t128 => ⟨fun w' hs => wH 2 (by omega) hs, fun t130 => ⟨fun w' hs f => lH 2 f, fun t131 => ⟨fun w' hs f => ?_, fun t132 => ⟨fun w' hs f => ?_, fun u w9 hs _ _ _ _ _ f132 fd => ?_⟩⟩⟩⟩⟩⟩⟩
      · cases f; exact impl.readReg.t (hTe hs) (hzl 1 (by omega)) fun w'' hb => gkE rfl (SpDS.below hb)
      · cases f; exact impl.number.c (hTe hs) (by have := hzl 2 (by omega); omega) fun w'' hb => gkE rfl (SpDS.below hb)
      · cases f
        obtain ⟨d, e, hr, _⟩ := cdr hs
        exact hr.stD fun w'' hs2 hf => ⟨(), rfl, hs2, hf⟩
      · cases f132
        obtain ⟨d, e2, hr, _, he2⟩ := cdr hs
        have he2 : e2 = -1 := by omega
        subst he2
        refine (fin hs fd ⟨_, hr.2.2.1, rfl⟩).st (j := 3) (r' := ⟨op, regA (z 1), -1, numA (z 2), 0, sz⟩) (by omega) rfl fun w10 r10 => ?_
        refine r10.word (i := 3) (hz 3 (by omega)) (impl.Ins.setValue.t r10 (hzl 3 (by omega)) rfl fun w11 r11 => ⟨_, r11, ?_⟩)
        unfold readR
        rw [if_neg (by omega), if_neg (by omega), if_neg (by omega), if_neg (by omega), if_pos (by omega)]
    have c4 : ¬ (op = 18 ∧ zs.length = 4) := fun hc => by rw [htt.2 hc] at e; simp at e
    refine ⟨fun t w' => w' = w8 ∧ (t = true ↔ op = 19 ∧ zs.length = 2), And.intro (fun hb => ⟨rfl, ?_⟩) (fun hb => ⟨rfl, ?_⟩), ?_⟩
    · simp only [beq_iff_eq] at hb ⊢; constructor <;> intro hh <;> omega
    · simp only [beq_eq_false_iff_ne, ne_eq, Bool.false_eq_true] at hb ⊢; constructor <;> intro hh <;> first | exact hh.elim | omega
    rintro t w9 ⟨rfl, htt⟩ _
    refine And.intro (fun e => ?_) (fun e => ?_)
    · have hc := htt.1 e
      refine impl.callWords.t fun w10 b10 => callsBox fun bc w11 b11 hbc hbo2 => ?_
      have r11 := (r4.below b10).below b11
      refine ⟨StR, stOk w11, fun s w' => SlR kS w' s (callW.map bs), keptSl, AtW [.string (bs (z 1))], keptAw, eqG (bs (z 1)), keptE, eqG (Lib.idxOfS (callW.map bs) (bs (z 1))), keptE,
        eqG (if (0 : Int) > Lib.idxOfS (callW.map bs) (bs (z 1)) then 0 else Lib.idxOfS (callW.map bs) (bs (z 1))), keptE, ?_⟩
      refine ⟨fun w' hs => ?_, fun t147 => ⟨fun w' hs => ?_, fun t149 => ⟨fun w' hs f => wordLd f (gkE rfl (Below.refl _ _)), fun t150 => ⟨fun w' hs f147 f150 => ?_, fun t151 => ⟨fun w' hs f => ?_, fun t152 w12 hs _ _ _ _ f152 => ?_⟩⟩⟩⟩⟩
      · exact sliceCalls ((hs.block _ (Array.getElem?_eq_some_iff.1 hbo2).1).trans hbo2) fun s hS => ⟨s, rfl, Below.refl _ _, hS⟩
      · exact (r11.below hs).wordH (i := 1) (hz 1 (by omega)) fun a ha => ⟨a, rfl, Below.refl _ _, ha.w⟩
      · cases f150; exact index.c f147 (gkE rfl (Below.refl _ _))
      · cases f; exact gkE rfl (Below.refl _ _)
      · cases f152
        refine (r11.below hs).st (j := 4) (r' := ⟨op, 0, -1, 0, if (0 : Int) > Lib.idxOfS (callW.map bs) (bs (z 1)) then 0 else Lib.idxOfS (callW.map bs) (bs (z 1)), sz⟩) (by omega) rfl fun w13 r13 => ⟨_, r13, ?_⟩
        unfold readR
        rw [if_neg (by omega), if_neg (by omega), if_neg (by omega), if_neg (by omega), if_neg (by omega), if_pos (by omega)]
    have c5 : ¬ (op = 19 ∧ zs.length = 2) := fun hc => by rw [htt.2 hc] at e; simp at e
    have no : ¬ (op = 20 ∧ zs.length = 1) → readR op sz zs.length z = none := fun hx => by
      unfold readR
      rw [if_neg (by omega), if_neg (by omega), if_neg (by omega), if_neg (by omega), if_neg (by omega), if_neg (by omega), if_neg hx]
    refine And.intro (fun h20 => fail r4 (no ?_)) (fun h20 => And.intro (fun h1 => fail r4 (no ?_)) (fun h1 => ⟨_, r4, ?_⟩))
    · simp only [bne_iff_ne, ne_eq] at h20; omega
    · simp only [bne_iff_ne, ne_eq] at h1; omega
    · have h20 : op = 20 := by simpa using h20
      have h1 : zs.length = 1 := by simp at h1; omega
      unfold readR
      rw [if_neg (by omega), if_neg (by omega), if_neg (by omega), if_neg (by omega), if_neg (by omega), if_neg (by omega), if_pos ⟨h20, h1⟩]
  · rintro w5 ⟨r, hr, he⟩ _
    refine ldI hr.2.2.1 (stI hr.2.1 fun w6 g6 s6 c6 => ldI c6 ?_)
    exact hk r true w6 (hr.1.grown g6 hr.1.size (fun g hg => by simp only [Option.some.injEq] at hg; omega)) fun r' e => ⟨rfl, by rw [he] at e; simpa using e⟩
theorem impl.readIns.t {s : Sl} {zs : List ByteArray} {K : Tup (R 6 (.i .i64)) × Bool × Unit → World → Prop} (ht : Te w) (h : SlR kS w s zs) (hn0 : 0 < zs.length) (hzl : ∀ y ∈ zs, y.size ≤ 1048576)
    (hk : ∀ (r : Ins) ok w', Below w.heap.size w w' → (∀ x n, InsP x → -128 ≤ n → n ≤ 127 → zs = (lineW x (Lib.itoa n)).map bs → ok = true ∧ r = x.go n) → K (r.t, ok, ()) w') :
    CallT (.n [(.ag (R 6 (.i .i64))), (.lf .b)]) P0 59 [s.v] w K := by
  have hz : ∀ i, i < zs.length → zs[i]? = some (bs ((zs.getD i (bs [])).data.toList)) := fun i hi => by
    obtain ⟨x, hx⟩ := get_some (l := zs) (k := i) hi
    rw [List.getD_eq_getElem?_getD, hx]
    simp only [Option.getD_some]
    rw [bs_of]
  refine impl.readIns.t' (z := fun i => (zs.getD i (bs [])).data.toList) ht h hn0 hz (fun i hi => ?_) rfl fun r ok w' hb he => hk r ok w' hb fun x n hp h0 h1 hzx => ?_
  · have h2 := hzl _ (List.mem_of_getElem? (hz i hi))
    rw [bs_size] at h2; exact h2
  · have hv : ∀ i v, (lineW x (Lib.itoa n))[i]? = some v → (zs.getD i (bs [])).data.toList = v := fun i v hv => by
      rw [hzx, List.getD_eq_getElem?_getD, List.getElem?_map, hv]; rfl
    have h3 := readR_line hp h0 h1 hv
    have hop := insP_op hp
    have e0 : (zs.getD 0 (bs [])).data.toList = headW x := hv 0 _ lineW_head
    have e1 := headS_headW hp
    have hlen : zs.length = (lineW x (Lib.itoa n)).length := by rw [hzx, List.length_map]
    refine he _ ?_
    rw [e0, e1]
    show readR (if (0 : Int) > Lib.idxOfS (opW.map bs) (bs (opA x.op)) then 0 else Lib.idxOfS (opW.map bs) (bs (opA x.op))) x.size zs.length _ = _
    rw [opIdxA (by omega), if_neg (by omega), hlen]
    exact h3
end
end Go.Proofs.YteggdoigliddkaaGreatDoor.V

/- Contracts: an op's line is read, in the reference: the walk. -/
namespace Go.Proofs.YteggdoigliddkaaGreatDoor.V
open Go Go.RowKit
set_option linter.unusedVariables false
set_option linter.unusedSimpArgs false
theorem ldI0 {W w : World} {s : Sl} {zs : List ByteArray} {b : Nat} {r : Ins} (h : RdI W s zs b r w) {K : Int → World → Prop} (hk : K r.op w) : Ld (.i .i64) (Addr.add ⟨b, 0, none⟩ 0) w K := ldB h.2.2.1 (j := 0) (x := r.op) rfl hk
section
variable {w : World}
set_option maxHeartbeats 8000000 in
theorem spec.l1Read.t {s : Sl} {zs : List ByteArray} {K : Tup (R 6 (.i .i64)) → World → Prop} (ht : Te w) (h : SlR kS w s zs) (hn0 : 0 < zs.length) (hzl0 : ∀ y ∈ zs, y.size ≤ 2000000)
    (hk : ∀ (r : Ins) w', Below w.heap.size w w' → (∀ x n, InsP x → -128 ≤ n → n ≤ 127 → zs = (lineW x (Lib.itoa n)).map bs → r = x.go n) → K r.t w') : CallT (.o (.ag (R 6 (.i .i64)))) P0 80 [s.v] w K := by
  have hn := h.len
  obtain ⟨z, hz⟩ : ∃ z : Nat → By, ∀ i, i < zs.length → zs[i]? = some (bs (z i)) := ⟨fun i => (zs.getD i (bs [])).data.toList, fun i hi => by
    obtain ⟨x, hx⟩ := get_some (l := zs) (k := i) hi
    show zs[i]? = some (bs (zs.getD i (bs [])).data.toList)
    rw [List.getD_eq_getElem?_getD, hx]
    simp only [Option.getD_some]
    rw [bs_of]⟩
  have hzl : ∀ i, i < zs.length → (z i).length ≤ 2000000 := fun i hi => by
    have h2 := hzl0 _ (List.mem_of_getElem? (hz i hi))
    rw [bs_size] at h2; exact h2
  have hzw : ∀ x off i v, zs = (lineW x off).map bs → (lineW x off)[i]? = some v → z i = v := by
    intro x off i v e hv
    have hi := lt_of_get hv
    have := hz i (by rw [e, List.length_map]; exact hi)
    rw [e, List.getElem?_map, hv] at this
    simp only [Option.map_some, Option.some.injEq] at this
    exact (bs_inj this).symm
  have sep : ∀ b', s.bk = some b' → b' < w.heap.size := fun b' hb => bk_lt h (hz 0 hn0) (v := .string (bs (z 0))) rfl hb
  have hl0 := hzl 0 hn0
  refine spec.l1Read.ok (nwIz fun w1 b1 s1 c1 => ?_)
  have hs1 := b1.size
  generalize hidx : Lib.idxOfS (opW.map bs) (bs (z 0)) = idx
  have wd : ∀ {w' : World} (i : Nat), i < zs.length → SlR kS w' s zs → ∀ {K : Addr → World → Prop}, (∀ a, AtW [.string (bs (z i))] a w' → K a w') → Ix s.a s.n (i : Int) 1 w' K := fun {w'} i hi ho {K} hK =>
    ixRb ho (i := (i : Int)) (by omega) (x := bs (z i)) (by simpa using hz i hi) rfl fun b o hb hA => hK _ ⟨b, o, rfl, bk_lt ho (hz i hi) (v := .string (bs (z i))) rfl hb, hA⟩
  refine ⟨StR, stOk w1, fun r w' => SlR kS w' r (opW.map bs), keptSl, AtW [.string (bs (z 0))], keptAw, eqG (bs (z 0)), keptE, eqG idx, keptE, eqG (⟨idx, 0, -1, 0, 0, 0⟩ : Ins).t, keptE, fun a w' => ∃ b, a = ⟨b, 0, none⟩ ∧ w.heap.size < b ∧ w'.heap[b]? = some (bI ins0), ?_, ?_⟩
  · rintro a x y ⟨b, h1, h2, h3⟩ hs
    exact ⟨b, h1, h2, (Below.block hs b (Array.getElem?_eq_some_iff.1 h3).1).trans h3⟩
  refine ⟨fun w' hs => spec.l1Words.t fun r w'' hb ho => ⟨r, rfl, hb, ho.read⟩, fun t18 => ⟨fun w' hs => ?_, fun t20 => ⟨fun w' hs f => wordLd f (gkE rfl (Below.refl _ _)), fun t21 => ⟨fun w' hs f18 f21 => ?_, fun t22 => ⟨fun w' hs f => ?_, fun t23 => ⟨fun w' hs => ?_, fun x w2 hs _ _ _ _ f23 hx => ?_⟩⟩⟩⟩⟩⟩
  · exact wd 0 hn0 (h.below (b1.trans (Below.mono hs hs1))) fun a ha => ⟨a, rfl, Below.refl _ _, ha⟩
  · cases f21; rw [← hidx]; exact spec.l1Find.t f18 (gkE rfl (Below.refl _ _))
  · cases f; exact ⟨(⟨idx, 0, -1, 0, 0, 0⟩ : Ins).t, rfl, Below.refl _ _, rfl⟩
  · exact nwIz fun w3 hb3 hs3 hc3 => ⟨⟨w'.heap.size, 0, none⟩, rfl, hb3, w'.heap.size, rfl, by have := Below.size hs; omega, hc3⟩
  obtain ⟨bx, rfl, hbx, hcx⟩ := hx
  cases f23
  have hs : Below w1.heap.size w1 w2 := hs
  have b2 := b1.trans (hs.mono hs1)
  refine stI (m := ins0) (y := ⟨idx, 0, -1, 0, 0, 0⟩) hcx fun w3 g3 s3 c3 => ?_
  have r3 : RdI w s zs bx ⟨idx, 0, -1, 0, 0, 0⟩ w3 := by
    have r2 : RdI w s zs bx ins0 w2 := ⟨b2, (hs.block _ (by omega)).trans c1, hcx, hbx, h.below b2, sep, ht⟩
    exact r2.grown g3 c3
  clear hcx g3 c3
  refine ⟨fun size w' => (size = 1 ∨ size = 2 ∨ size = 4 ∨ size = 8) ∧ ∃ op sz, RdI w s zs bx ⟨op, 0, -1, 0, 0, sz⟩ w' ∧ (∀ x off, InsP x → zs = (lineW x off).map bs → ((x.op = 17 ∨ x.op = 18) → x.size < size → op = x.op ∧ sz = x.size) ∧ (¬ (x.op = 17 ∨ x.op = 18) → op = x.op ∧ sz = x.size)),
    fun size _ => 8 - size.toNat, ⟨.inl rfl, idx, 0, r3, fun x off hp he => ⟨fun ho hlt => ?_, fun ho => ?_⟩⟩, ?_⟩
  · have := (headW_is hp ho).2.2; unfold szP at this; omega
  · have e0 := hzw x off 0 _ he lineW_head
    have hop := insP_op hp
    have hsz : x.size = 0 := by have := hp.2.2.2.2; unfold BareP szP at this; omega
    refine ⟨?_, hsz.symm⟩
    rw [← hidx, e0]
    unfold headW
    rw [if_neg ho]
    exact opIdxA (by omega)
  rintro size w4 ⟨hsize, op, sz, r4, hop⟩ _
  have h4 := r4.2.2.2.2.1
  have cl : ∀ w5 w6 : World, Below w4.heap.size w4 w5 → Below w5.heap.size w5 w6 → Below w4.heap.size w4 w6 := fun w5 w6 h5 h6 => h5.trans (h6.mono h5.size)
  refine And.intro (fun hlt => ?_) (fun hge => ?_)
  · simp only [decide_eq_true_eq] at hlt
    have next : IntKind.wrap .i64 (size * 2) = size * 2 := i64_of (by omega) (by omega)
    have a1 := itoa_len (n := size) (by omega) (by omega)
    rw [next]
    refine ⟨fun t w' => Below w4.heap.size w4 w' ∧ (t = true ↔ z 0 = [108, 111, 97, 100] ++ Lib.itoa size ∨ z 0 = [115, 116, 111, 114, 101] ++ Lib.itoa size), ?_, ?_⟩
    · refine qixL h4 (i := 0) (by omega) (x := bs (z 0)) (by simpa using hz 0 hn0) rfl (l := .s) (v := bs (z 0)) rfl ?_
      refine qcl (bs (Lib.itoa size)) (fun w5 hb5 => spec.l1Dec.t (by omega) (by omega) fun w6 hb6 => ⟨rfl, cl _ _ hb5 hb6⟩) ?_
      refine ⟨szB (a := [108, 111, 97, 100]) (by simp; omega), fun he w5 hb5 => ⟨hb5, ?_⟩, fun he => ?_⟩
      · rw [e108, bs_app, bs_toList, bs_toList] at he
        have he := beq_iff_eq.1 he
        exact ⟨fun _ => .inl he, fun _ => rfl⟩
      · rw [e108, bs_app, bs_toList, bs_toList] at he
        have he := beq_eq_false_iff_ne.1 he
        refine qixL h4 (i := 0) (by omega) (x := bs (z 0)) (by simpa using hz 0 hn0) rfl (l := .s) (v := bs (z 0)) rfl ?_
        refine qcl (bs (Lib.itoa size)) (fun w5 hb5 => spec.l1Dec.t (by omega) (by omega) fun w6 hb6 => ⟨rfl, cl _ _ hb5 hb6⟩) ?_
        refine ⟨szB (a := [115, 116, 111, 114, 101]) (by simp; omega), fun w5 hb5 => ⟨hb5, ?_⟩⟩
        rw [e115, bs_app, bs_toList, bs_toList, beq_iff_eq]
        exact ⟨.inr, fun h => h.elim (fun h => absurd h he) id⟩
    · rintro t w5 ⟨b45, htt⟩ _
      have r5 := r4.below b45
      refine And.intro (fun e => ?_) (fun e => ?_)
      · have hform := htt.1 e
        have hzlen : 1 ≤ (z 0).length := by rcases hform with h | h <;> (rw [h]; simp)
        refine ⟨StR, stOk w5, fun r w' => SlR kS w' r (opW.map bs), keptSl, AtW [.string (bs (z 0))], keptAw, eqG (bs (z 0)), keptE, AtW [.string (bs (z 0))], keptAw, eqG (bs (z 0)), keptE, eqG (bs (z 0).dropLast), keptE, eqG (Lib.idxOfS (opW.map bs) (bs (z 0).dropLast)), keptE, ?_⟩
        refine ⟨fun w' hs => spec.l1Words.t fun r w'' hb ho => ⟨r, rfl, hb, ho.read⟩, fun t44 => ⟨fun w' hs => ?_, fun t46 => ⟨fun w' hs f => wordLd f (gkE rfl (Below.refl _ _)), fun t47 => ⟨fun w' hs => ?_, fun t49 => ⟨fun w' hs f => wordLd f (gkE rfl (Below.refl _ _)), fun t50 => ⟨fun w' hs f47 f50 => ?_, fun t53 => ⟨fun w' hs f44 f53 => ?_, fun t54 w6 hs _ _ _ _ _ _ f54 => ?_⟩⟩⟩⟩⟩⟩⟩
        · exact wd 0 hn0 (r5.below hs).2.2.2.2.1 fun a ha => ⟨a, rfl, Below.refl _ _, ha⟩
        · exact wd 0 hn0 (r5.below hs).2.2.2.2.1 fun a ha => ⟨a, rfl, Below.refl _ _, ha⟩
        · cases f47; cases f50
          rw [bs_size]
          have ew : IntKind.wrap .i64 (((z 0).length : Int) - 1) = (((z 0).length - 1 : Nat) : Int) := by rw [i64_of (by omega) (by omega)]; omega
          rw [ew]
          refine slS (lo := none) (hi := some (((z 0).length - 1 : Nat) : Int)) (f := 0) (k := (z 0).length - 1) rfl rfl (by omega) (by omega) ?_
          have ed : ((z 0).drop 0).take ((z 0).length - 1 - 0) = (z 0).dropLast := by rw [List.dropLast_eq_take]; rfl
          rw [ed]
          exact gkE rfl (Below.refl _ _)
        · cases f53; exact spec.l1Find.t f44 (gkE rfl (Below.refl _ _))
        · cases f54
          refine (r5.below hs).st (j := 0) (r' := ⟨Lib.idxOfS (opW.map bs) (bs (z 0).dropLast), 0, -1, 0, 0, sz⟩) (by omega) rfl fun w7 r7 => ?_
          refine r7.st (j := 5) (r' := ⟨Lib.idxOfS (opW.map bs) (bs (z 0).dropLast), 0, -1, 0, 0, size⟩) (by omega) rfl fun w8 r8 => ?_
          refine ⟨⟨by omega, _, size, r8, fun x off hp he => ?_⟩, by simp only; omega⟩
          have e0 := hzw x off 0 _ he lineW_head
          rw [e0] at hform
          obtain ⟨q1, q2⟩ := headW_load hp (by omega) hform
          obtain ⟨_, q3, _⟩ := headW_is hp q1
          have hopx := insP_op hp
          refine ⟨fun _ _ => ⟨?_, q2.symm⟩, fun hno => absurd q1 hno⟩
          rw [e0, q3]
          exact opIdxA (by omega)
      · refine ⟨⟨by omega, op, sz, r5, fun x off hp he => ⟨fun ho hlt2 => ?_, (hop x off hp he).2⟩⟩, by simp only; omega⟩
        have e0 := hzw x off 0 _ he lineW_head
        obtain ⟨q1, _, q3⟩ := headW_is hp ho
        by_cases hq : x.size = size
        · exfalso
          rw [hq, ← e0] at q1
          rw [htt.2 q1] at e; simp at e
        · refine (hop x off hp he).1 ho ?_
          unfold szP at q3; omega
  · have hge : size = 8 := by simp only [decide_eq_false_iff_not] at hge; omega
    have known : ∀ x off, InsP x → zs = (lineW x off).map bs → op = x.op ∧ sz = x.size := by
      intro x off hp he
      by_cases ho : x.op = 17 ∨ x.op = 18
      · exact (hop x off hp he).1 ho (by have := (headW_is hp ho).2.2; unfold szP at this; omega)
      · exact (hop x off hp he).2 ho
    have size_of : ∀ x off, InsP x → zs = (lineW x off).map bs → zs.length = if x.op ≤ 11 then 3 else if x.op ≤ 15 then 4 else if x.op = 16 then 2 else if x.op ≤ 18 then 4 else if x.op = 19 then 2 else 1 := by
      intro x off hp he
      rw [← lineW_size (off := off) hp, he, List.length_map]
    clear hop hsize hge
    have rr : ∀ {r : Ins} {w' : World} (i : Nat), RdI w s zs bx r w' → i < zs.length → ∀ {K : Int × Int × Unit → World → Prop}, (∀ a b : Int, (∀ src imm : Int, -1 ≤ src → src ≤ 10 → 0 ≤ imm → imm ≤ 4294967295 → (src < 0 ∨ imm = 0) → z i = regL src imm → a = src ∧ b = imm) → K (a, b, ()) w') →
        Ix s.a s.n (i : Int) 1 w' fun a w'' => Ld .s a w'' fun y w'' => CallT (.n [(.lf (.i .i64)), (.lf (.i .i64))]) P0 98 [.string y] w'' K := fun {r w'} i hr hi {K} hK =>
      hr.word (hz i hi) (spec.l1ReadReg.t (hzl i hi) hK)
    have rs : ∀ {r : Ins} {w' : World} (i : Nat), RdI w s zs bx r w' → i < zs.length → ∀ {K : Int → World → Prop}, (∀ q : Int, (∀ n : Int, -128 ≤ n → n ≤ 127 → z i = Lib.itoa n → q = n) → K q w') →
        Ix s.a s.n (i : Int) 1 w' fun a w'' => Ld .s a w'' fun y w'' => CallT (.o (.lf (.i .i64))) P0 99 [.string y] w'' K := fun {r w'} i hr hi {K} hK =>
      hr.word (hz i hi) (spec.l1Signed.t (hzl i hi) hK)
    have reg0 : ∀ {a b : Int} {i : Nat} {q : Int}, (∀ src imm : Int, -1 ≤ src → src ≤ 10 → 0 ≤ imm → imm ≤ 4294967295 → (src < 0 ∨ imm = 0) → z i = regL src imm → a = src ∧ b = imm) → 0 ≤ q → q ≤ 10 → z i = 114 :: Lib.itoa q → a = q := fun hh h0 h1 e =>
      (hh _ 0 (by omega) h1 (by omega) (by omega) (.inr rfl) (by rw [e]; unfold regL; rw [if_neg (by omega)])).1
    refine ⟨fun w' => ∃ r, RdI w s zs bx r w' ∧ (∀ x n, InsP x → -128 ≤ n → n ≤ 127 → zs = (lineW x (Lib.itoa n)).map bs → r = x.go n), ⟨fun t w' => w' = w4 ∧ (t = true ↔ (1 ≤ op ∧ op ≤ 11 ∧ zs.length = 3) ∨ (12 ≤ op ∧ op ≤ 15 ∧ zs.length = 4)), ?_, ?_⟩, ?_⟩
    · refine ldI0 r4 (spec.l1Alu.c (And.intro (fun ha => And.intro (fun h3 => ⟨rfl, ?_⟩) (fun h3 => ldI0 r4 (spec.l1Jump.c (And.intro (fun hb => ⟨rfl, ?_⟩) (fun hb => ⟨rfl, ?_⟩))))) (fun ha => ldI0 r4 (spec.l1Jump.c (And.intro (fun hb => ⟨rfl, ?_⟩) (fun hb => ⟨rfl, ?_⟩))))))
      all_goals (simp only [decide_eq_true_eq, decide_eq_false_iff_not, beq_iff_eq, beq_eq_false_iff_ne, ne_eq, Bool.false_eq_true, true_iff] at *; first | omega | (constructor <;> intro hh <;> first | exact hh.elim | omega))
    · rintro t w5 ⟨rfl, htt⟩ _
      refine And.intro (fun e => ?_) (fun e => ?_)
      · have hc := htt.1 e
        refine rr 1 r4 (by omega) fun a1 b1 ha1 => rr 2 r4 (by omega) fun a2 b2 ha2 => ?_
        refine r4.st (j := 1) (r' := ⟨op, a1, -1, 0, 0, sz⟩) (by omega) rfl fun w6 r6 => r6.st (j := 2) (r' := ⟨op, a1, a2, 0, 0, sz⟩) (by omega) rfl fun w7 r7 => r7.st (j := 4) (r' := ⟨op, a1, a2, 0, b2, sz⟩) (by omega) rfl fun w8 r8 => ?_
        refine And.intro (fun h4 => ?_) (fun h4 => ⟨_, r8, fun x n hp h0 h1 he => ?_⟩)
        · have h4 : zs.length = 4 := by simp only [beq_iff_eq] at h4; omega
          refine rs 3 r8 (by omega) fun q hq => r8.st (j := 3) (r' := ⟨op, a1, a2, q, b2, sz⟩) (by omega) rfl fun w9 r9 => ⟨_, r9, fun x n hp h0 h1 he => ?_⟩
          obtain ⟨k1, k2⟩ := known x _ hp he
          have hb := hp.2.2.2.2
          have hw : lineW x (Lib.itoa n) = [opA x.op, 114 :: Lib.itoa x.dst, regL x.src x.imm, Lib.itoa n] := by unfold lineW; rw [if_neg (by omega), if_pos (by omega)]
          have z1 := reg0 ha1 hp.1.1 hp.1.2 (hzw x _ 1 _ he (by rw [hw]; rfl))
          have z2 := ha2 x.src x.imm hp.2.1.1 hp.2.1.2 hp.2.2.2.1.1 hp.2.2.2.1.2 (by unfold BareP szP at hb; omega) (hzw x _ 2 _ he (by rw [hw]; rfl))
          have z3 := hq n h0 h1 (hzw x _ 3 _ he (by rw [hw]; rfl))
          rw [go_fields hp, if_pos (by omega), k1, k2, z1, z2.1, z2.2, z3]
        · have h3 : zs.length = 3 := by simp only [beq_eq_false_iff_ne, ne_eq] at h4; omega
          obtain ⟨k1, k2⟩ := known x _ hp he
          have hb := hp.2.2.2.2
          have hw : lineW x (Lib.itoa n) = [opA x.op, 114 :: Lib.itoa x.dst, regL x.src x.imm] := by unfold lineW; rw [if_pos (by omega)]
          have z1 := reg0 ha1 hp.1.1 hp.1.2 (hzw x _ 1 _ he (by rw [hw]; rfl))
          have z2 := ha2 x.src x.imm hp.2.1.1 hp.2.1.2 hp.2.2.2.1.1 hp.2.2.2.1.2 (by unfold BareP szP at hb; omega) (hzw x _ 2 _ he (by rw [hw]; rfl))
          rw [go_fields hp, if_neg (by omega), k1, k2, z1, z2.1, z2.2]
      have c1 : ¬ ((1 ≤ op ∧ op ≤ 11 ∧ zs.length = 3) ∨ (12 ≤ op ∧ op ≤ 15 ∧ zs.length = 4)) := fun hc => by rw [htt.2 hc] at e; simp at e
      refine ⟨fun t w' => w' = w5 ∧ (t = true ↔ op = 16 ∧ zs.length = 2), ldI0 r4 (And.intro (fun hb => ⟨rfl, ?_⟩) (fun hb => ⟨rfl, ?_⟩)), ?_⟩
      · simp only [beq_iff_eq] at hb ⊢; constructor <;> intro hh <;> omega
      · simp only [beq_eq_false_iff_ne, ne_eq, Bool.false_eq_true] at hb ⊢; constructor <;> intro hh <;> first | exact hh.elim | omega
      rintro t w6 ⟨rfl, htt⟩ _
      refine And.intro (fun e => ?_) (fun e => ?_)
      · have hc := htt.1 e
        refine rs 1 r4 (by omega) fun q hq => r4.st (j := 3) (r' := ⟨op, 0, -1, q, 0, sz⟩) (by omega) rfl fun w9 r9 => ⟨_, r9, fun x n hp h0 h1 he => ?_⟩
        obtain ⟨k1, k2⟩ := known x _ hp he
        have hb := hp.2.2.2.2
        have hw : lineW x (Lib.itoa n) = [opA x.op, Lib.itoa n] := by unfold lineW; rw [if_neg (by omega), if_neg (by omega), if_pos (by omega)]
        have z1 := hq n h0 h1 (hzw x _ 1 _ he (by rw [hw]; rfl))
        have hq : x.dst = 0 ∧ x.src = -1 ∧ x.imm = 0 := by unfold BareP szP at hb; omega
        rw [go_fields hp, if_pos (by omega), k1, k2, z1, hq.1, hq.2.1, hq.2.2]
      have c2 : ¬ (op = 16 ∧ zs.length = 2) := fun hc => by rw [htt.2 hc] at e; simp at e
      refine ⟨fun t w' => w' = w6 ∧ (t = true ↔ op = 17 ∧ zs.length = 4), ldI0 r4 (And.intro (fun hb => ⟨rfl, ?_⟩) (fun hb => ⟨rfl, ?_⟩)), ?_⟩
      · simp only [beq_iff_eq] at hb ⊢; constructor <;> intro hh <;> omega
      · simp only [beq_eq_false_iff_ne, ne_eq, Bool.false_eq_true] at hb ⊢; constructor <;> intro hh <;> first | exact hh.elim | omega
      rintro t w7 ⟨rfl, htt⟩ _
      refine And.intro (fun e => ?_) (fun e => ?_)
      · have hc := htt.1 e
        refine rr 1 r4 (by omega) fun a1 b1 ha1 => rr 2 r4 (by omega) fun a2 b2 ha2 => ?_
        refine r4.st (j := 1) (r' := ⟨op, a1, -1, 0, 0, sz⟩) (by omega) rfl fun w6 r6 => r6.st (j := 2) (r' := ⟨op, a1, a2, 0, 0, sz⟩) (by omega) rfl fun w8 r8 => ?_
        refine rs 3 r8 (by omega) fun q hq => r8.st (j := 3) (r' := ⟨op, a1, a2, q, 0, sz⟩) (by omega) rfl fun w9 r9 => ⟨_, r9, fun x n hp h0 h1 he => ?_⟩
        obtain ⟨k1, k2⟩ := known x _ hp he
        have hb := hp.2.2.2.2
        have hw : lineW x (Lib.itoa n) = [opA x.op ++ Lib.itoa x.size, 114 :: Lib.itoa x.dst, 114 :: Lib.itoa x.src, Lib.itoa n] := by unfold lineW; rw [if_neg (by omega), if_neg (by omega), if_neg (by omega), if_pos (by omega)]
        have hq2 : x.imm = 0 ∧ 0 ≤ x.src := by unfold BareP szP at hb; omega
        have z1 := reg0 ha1 hp.1.1 hp.1.2 (hzw x _ 1 _ he (by rw [hw]; rfl))
        have z2 := reg0 ha2 hq2.2 hp.2.1.2 (hzw x _ 2 _ he (by rw [hw]; rfl))
        have z3 := hq n h0 h1 (hzw x _ 3 _ he (by rw [hw]; rfl))
        rw [go_fields hp, if_pos (by omega), k1, k2, z1, z2, z3, hq2.1]
      have c3 : ¬ (op = 17 ∧ zs.length = 4) := fun hc => by rw [htt.2 hc] at e; simp at e
      refine ⟨fun t w' => w' = w7 ∧ (t = true ↔ op = 18 ∧ zs.length = 4), ldI0 r4 (And.intro (fun hb => ⟨rfl, ?_⟩) (fun hb => ⟨rfl, ?_⟩)), ?_⟩
      · simp only [beq_iff_eq] at hb ⊢; constructor <;> intro hh <;> omega
      · simp only [beq_eq_false_iff_ne, ne_eq, Bool.false_eq_true] at hb ⊢; constructor <;> intro hh <;> first | exact hh.elim | omega
      rintro t w8 ⟨rfl, htt⟩ _
      refine And.intro (fun e => ?_) (fun e => ?_)
      · have hc := htt.1 e
        refine rr 1 r4 (by omega) fun a1 b1 ha1 => rr 3 r4 (by omega) fun a2 b2 ha2 => ?_
        refine r4.st (j := 1) (r' := ⟨op, a1, -1, 0, 0, sz⟩) (by omega) rfl fun w6 r6 => rs 2 r6 (by omega) fun q hq => r6.st (j := 3) (r' := ⟨op, a1, -1, q, 0, sz⟩) (by omega) rfl fun w7 r7 => r7.st (j := 2) (r' := ⟨op, a1, a2, q, 0, sz⟩) (by omega) rfl fun w8 r8 => r8.st (j := 4) (r' := ⟨op, a1, a2, q, b2, sz⟩) (by omega) rfl fun w9 r9 => ⟨_, r9, fun x n hp h0 h1 he => ?_⟩
        obtain ⟨k1, k2⟩ := known x _ hp he
        have hb := hp.2.2.2.2
        have hw : lineW x (Lib.itoa n) = [opA x.op ++ Lib.itoa x.size, 114 :: Lib.itoa x.dst, Lib.itoa n, regL x.src x.imm] := by unfold lineW; rw [if_neg (by omega), if_neg (by omega), if_neg (by omega), if_neg (by omega), if_pos (by omega)]
        have z1 := reg0 ha1 hp.1.1 hp.1.2 (hzw x _ 1 _ he (by rw [hw]; rfl))
        have z2 := ha2 x.src x.imm hp.2.1.1 hp.2.1.2 hp.2.2.2.1.1 hp.2.2.2.1.2 (by unfold BareP szP at hb; omega) (hzw x _ 3 _ he (by rw [hw]; rfl))
        have z3 := hq n h0 h1 (hzw x _ 2 _ he (by rw [hw]; rfl))
        rw [go_fields hp, if_pos (by omega), k1, k2, z1, z2.1, z2.2, z3]
      have c4 : ¬ (op = 18 ∧ zs.length = 4) := fun hc => by rw [htt.2 hc] at e; simp at e
      have last : (¬ (op = 19 ∧ zs.length = 2)) → ∀ x n, InsP x → -128 ≤ n → n ≤ 127 → zs = (lineW x (Lib.itoa n)).map bs → (⟨op, 0, -1, 0, 0, sz⟩ : Ins) = x.go n := by
        intro c5 x n hp h0 h1 he
        obtain ⟨k1, k2⟩ := known x _ hp he
        have hl := size_of x _ hp he
        have hb := hp.2.2.2.2
        have hopx := insP_op hp
        have h20 : x.op = 20 := by
          rw [k1] at c1 c2 c3 c4 c5
          split at hl
          · omega
          · split at hl
            · omega
            · split at hl
              · omega
              · split at hl
                · omega
                · split at hl
                  · omega
                  · omega
        have hq : x.dst = 0 ∧ x.src = -1 ∧ x.imm = 0 := by unfold BareP szP at hb; omega
        rw [go_fields hp, if_neg (by omega), k1, k2, hq.1, hq.2.1, hq.2.2]
      refine ldI0 r4 (And.intro (fun h19 => And.intro (fun h2 => ?_) (fun h2 => ⟨_, r4, last ?_⟩)) (fun h19 => ⟨_, r4, last ?_⟩))
      · have h19 : op = 19 := by simpa using h19
        have h2 : zs.length = 2 := by simp only [beq_iff_eq] at h2; omega
        refine ⟨StR, stOk w8, fun r w' => SlR kS w' r (callW.map bs), keptSl, AtW [.string (bs (z 1))], keptAw, eqG (bs (z 1)), keptE, eqG (Lib.idxOfS (callW.map bs) (bs (z 1))), keptE, ?_⟩
        refine ⟨fun w' hs => spec.l1Calls.t fun r w'' hb ho => ⟨r, rfl, hb, ho.read⟩, fun t189 => ⟨fun w' hs => ?_, fun t191 => ⟨fun w' hs f => wordLd f (gkE rfl (Below.refl _ _)), fun t192 => ⟨fun w' hs f189 f192 => ?_, fun t193 w9 hs _ _ _ f193 => ?_⟩⟩⟩⟩
        · exact wd 1 (by omega) (r4.below hs).2.2.2.2.1 fun a ha => ⟨a, rfl, Below.refl _ _, ha⟩
        · cases f192; exact spec.l1Find.t f189 (gkE rfl (Below.refl _ _))
        · cases f193
          refine (r4.below hs).st (j := 4) (r' := ⟨op, 0, -1, 0, Lib.idxOfS (callW.map bs) (bs (z 1)), sz⟩) (by omega) rfl fun w10 r10 => ⟨_, r10, fun x n hp h0 h1 he => ?_⟩
          obtain ⟨k1, k2⟩ := known x _ hp he
          have hb := hp.2.2.2.2
          have hw : lineW x (Lib.itoa n) = [opA x.op, callA x.imm] := by unfold lineW; rw [if_neg (by omega), if_neg (by omega), if_neg (by omega), if_neg (by omega), if_neg (by omega), if_pos (by omega)]
          have z1 := hzw x _ 1 _ he (by rw [hw]; rfl)
          have hq : x.dst = 0 ∧ x.src = -1 ∧ 1 ≤ x.imm ∧ x.imm ≤ 6 := by unfold BareP szP at hb; omega
          rw [go_fields hp, if_neg (by omega), k1, k2, z1, callIdx (by omega), hq.1, hq.2.1]
      · simp only [beq_eq_false_iff_ne, ne_eq] at h2; omega
      · simp only [beq_eq_false_iff_ne, ne_eq] at h19; omega
    · rintro w5 ⟨r, hr, he⟩ _
      refine ldI hr.2.2.1 (stI hr.2.1 fun w6 g6 s6 c6 => ldI c6 ?_)
      exact hk r w6 (hr.1.grown g6 hr.1.size (fun g hg => by simp only [Option.some.injEq] at hg; omega)) he
end
end Go.Proofs.YteggdoigliddkaaGreatDoor.V

/- Contracts: the draws of the flow's laws, and what the laws use. -/
namespace Go.Proofs.YteggdoigliddkaaGreatDoor.V
open Go Go.RowKit
set_option linter.unusedVariables false
set_option linter.unusedSimpArgs false
section
variable {w : World} {a b : Sl} {xs ys : List Int}
end
theorem u8_all {bs : List Int} (h : ∀ x ∈ bs, (Lit.int .u8 x).wf = true) : ∀ x ∈ bs, 0 ≤ x ∧ x ≤ 255 := fun x hx => by
  have := h x hx
  simp only [Lit.wf, Bool.and_eq_true, decide_eq_true_eq] at this
  exact this
section
variable {w : World} {code : Sl} {bs : List Int}
/-- What a draw of a program begins with. -/
theorem prog0 {Kp : Option Addr → World → Prop} (h : SlR kU8 w code bs) (hb : ∀ x ∈ bs, 0 ≤ x ∧ x ≤ 255)
    (hk : ∀ w1, Below w.heap.size w w1 → RdS w.heap.size w.heap.size 0 w1 → Kp (some ⟨w.heap.size, 0, none⟩) w1) : CallT (.o (.lf .p)) P0 37 [code.v] w Kp := spec.l20Open.c h hb hk
theorem spec.DrawProgForm.c {K : Sl → World → Prop} (h : SlR kU8 w code bs) (hb : ∀ x ∈ bs, 0 ≤ x ∧ x ≤ 255)
    (hk : ∀ r w' ys, Below w.heap.size w w' → SlR kIns w' r ys → ys.length ≤ 64 → K r w') : CallT (.o (.lf .sl)) P0 25 [code.v] w K := by
  refine spec.DrawProgForm.ok (spec.l20Open.c h hb fun w1 b1 r1 => ?_)
  have hbr := r1.lt
  refine spec.l20Prog.c r1 (by omega) fun r w2 ys g2 r2 o2 h1 h2 => ?_
  have b2 : Below w.heap.size w w2 := b1.grown g2 b1.size (fun b hb => by simp only [Option.some.injEq] at hb; omega)
  have hon := o2.len
  have hoc := o2.cap
  have o2' := o2.low (B' := w.heap.size) b1.size
  refine spec.l20Rd.pick.c r2 (by omega) (by omega) fun t10 w3 _ _ g3 r3 => ?_
  have b3 : Below w.heap.size w w3 := b2.grown g3 b2.size (fun b hb => by simp only [Option.some.injEq] at hb; omega)
  have o3 := o2.keptBr g3 hbr
  refine And.intro (fun _ => ?_) (fun _ => And.intro (fun _ => ?_) (fun _ => And.intro (fun _ => hk _ _ [] b3 (SlR.nil _ _) (by simp)) (fun _ => hk _ _ ys b3 o3.read (by omega))))
  · rw [i64_of (by omega) (by omega)]
    refine slcR (k := kIns) (e := 39) (by kernel_rfl) (by kernel_rfl) o3.read (lo := none) (hi := some ((r.n : Int) - 1)) (mx := none) (l := 0) (h' := r.n - 1) (m := r.c) rfl (by simp; omega) rfl (by simp) (by omega) (by omega) (by omega) (by omega) fun q hq _ hq2 _ => ?_
    exact hk _ _ _ b3 hq2 (by simp; omega)
  · refine ⟨fun list w' => ∃ zs, OwnS kIns 39 w1.heap.size w' list zs ∧ zs.length ≤ 49 ∧ RdS w.heap.size w.heap.size (400 + zs.length) w' ∧ Below w.heap.size w w' ∧ w1.heap.size ≤ w'.heap.size, fun list _ => 60 - list.n, ⟨ys, o3, by omega, r3.more (by omega), b3, by have := g2.size; have := g3.size; omega⟩, ?_⟩
    rintro list w4 ⟨zs, o4, hz, r4, b4, hs4⟩ _
    have hln := o4.len
    refine spec.l20Rd.pick.c r4 (by omega) (by omega) fun t23 w5 _ _ g5 r5 => ?_
    have b5 : Below w.heap.size w w5 := b4.grown g5 b4.size (fun b hb => by simp only [Option.some.injEq] at hb; omega)
    have o5 := o4.keptBr g5 hbr
    rw [i64_of (n := 48 + t23) (by omega) (by omega)]
    refine And.intro (fun hlt => ?_) (fun _ => hk _ _ zs b5 o5.read (by omega))
    simp only [decide_eq_true_eq] at hlt
    have hs5 := b5.size
    have hw15 : w1.heap.size ≤ w5.heap.size := by have := g5.size; omega
    refine ap1 elIns o5 ⟨20, 0, -1, 0, 0, 0⟩ rfl (by omega) (by omega) hw15 fun o' w6 o6 g6 _ => ?_
    have hl6 := o6.len
    simp only [List.length_append, List.length_cons, List.length_nil] at hl6
    exact ⟨⟨_, o6, by simp; omega, (r5.keptO o5 g6 hbr).more (by simp; omega), b5.grown g6 b5.size (fun b hb => by have := (o5.blk hb).1; have := b1.size; omega), by have := g6.size; omega⟩, by simp only; omega⟩
end
end Go.Proofs.YteggdoigliddkaaGreatDoor.V

/- The laws ExactAsmPut and AsmLines: both sides write the same lines; each op has a line, and each place to which something jumps a mark. -/
namespace Go.Proofs.YteggdoigliddkaaGreatDoor.V
open Go Go.RowKit
set_option linter.unusedVariables false
set_option linter.unusedSimpArgs false
end Go.Proofs.YteggdoigliddkaaGreatDoor.V

/- Contracts: numbers, lines and marks, in the reference. -/
namespace Go.Proofs.YteggdoigliddkaaGreatDoor.V
open Go Go.RowKit
set_option linter.unusedVariables false
set_option linter.unusedSimpArgs false
open Classical in
/-- The number of a word; -1, if it is none. -/
noncomputable def numS (l : By) : Int := if Fig l ∧ l.length ≤ 10 ∧ l ≠ [] ∧ ¬ (1 < l.length ∧ l.head? = some 48) then (figN l : Int) else -1
theorem numS_dec {u : Nat} (h : u < 10000000000) : numS (Lib.decDigits u) = u := by
  unfold numS
  rw [if_pos, figN_dec]
  refine ⟨dec_fig u, dec_len u 9 (by omega), dec_ne u, fun hc => ?_⟩
  obtain ⟨c, r, hd⟩ := List.exists_cons_of_ne_nil (dec_ne u)
  rw [hd] at hc
  have h48 : c = 48 := by simpa using hc.2
  have := dec_head u c r hd h48
  rw [this] at hc
  simp at hc
section
variable {w : World}
theorem spec.l1Num.f {l : By} {K : Int → World → Prop} (hl : l.length ≤ 281474976710656) (hk : K (numS l) w) : CallT (.o (.lf (.i .i64))) P0 49 [.string (bs l)] w K := by
  refine spec.l1Num.ok ?_
  unfold spec.l1Num.vc
  rw [bs_size]
  have no : ¬ (Fig l ∧ l.length ≤ 10 ∧ l ≠ [] ∧ ¬ (1 < l.length ∧ l.head? = some 48)) → K (-1) w := fun h => by
    have e : numS l = -1 := by unfold numS; rw [if_neg h]
    rw [e] at hk; exact hk
  refine ⟨fun n i w' => ∃ k : Nat, i = k ∧ k ≤ l.length ∧ k ≤ 10 ∧ w' = w ∧ Fig (l.take k) ∧ n = figN (l.take k), fun _ i _ => l.length - i.toNat, ⟨0, rfl, by omega, by omega, rfl, by simp [Fig], by simp [figN]⟩, ?_⟩
  rintro n i w' ⟨k, rfl, hk1, hk10, rfl, hf, rfl⟩ _
  refine And.intro (fun hlt => ?_) (fun hge => ?_)
  · simp only [decide_eq_true_eq] at hlt
    obtain ⟨c, hc⟩ := get_some (l := l) (k := k) (by omega)
    have hcm := List.mem_of_getElem? hc
    have hcn := c.toNat_lt
    refine ⟨fun w'' => w'' = w' ∧ 48 ≤ c.toNat ∧ c.toNat ≤ 57 ∧ k < 10, ?_, ?_⟩
    · refine sxB (by omega) (by simpa using hc) (And.intro (fun h => no fun hh => ?_) (fun h1 => sxB (by omega) (by simpa using hc) (And.intro (fun h => no fun hh => ?_) (fun h2 => And.intro (fun h => no fun hh => ?_) (fun h3 => ⟨rfl, ?_, ?_, ?_⟩)))))
      · have := hh.1 c hcm; simp only [decide_eq_true_eq] at h; omega
      · have := hh.1 c hcm; simp only [decide_eq_true_eq] at h; omega
      · have := hh.2.1; simp only [decide_eq_true_eq] at h; omega
      · simp only [decide_eq_false_iff_not] at h1; omega
      · simp only [decide_eq_false_iff_not] at h2; omega
      · simp only [decide_eq_false_iff_not] at h3; omega
    · rintro w'' ⟨rfl, h48, h57, hk9⟩ _
      refine sxB (by omega) (by simpa using hc) ?_
      have ei : IntKind.wrap .i64 ((k : Int) + 1) = ((k + 1 : Nat) : Int) := by rw [i64_of (by omega) (by omega)]; omega
      rw [ei]
      have hlt2 := figN_lt (l.take k) hf
      have hkl : (l.take k).length = k := by rw [List.length_take]; omega
      have hp : 10 ^ k ≤ 10 ^ 10 := Nat.pow_le_pow_right (by omega) (by omega)
      rw [hkl] at hlt2
      have e1 : l.take (k + 1) = l.take k ++ [c] := by rw [List.take_add_one, hc]; rfl
      have e2 : IntKind.wrap .u8 ((c.toNat : Int) - 48) = (c.toNat : Int) - 48 := by simp only [IntKind.wrap, IntKind.bits, IntKind.signed]; simp; omega
      refine ⟨⟨k + 1, rfl, by omega, by omega, rfl, ?_, ?_⟩, by simp only [Int.toNat_natCast]; omega⟩
      · rw [e1]
        intro x hx
        rcases List.mem_append.1 hx with h | h
        · exact hf x h
        · simp only [List.mem_singleton] at h; subst h; exact ⟨h48, h57⟩
      · rw [e1, figN_app, e2, i64_of (n := (figN (l.take k) : Int) * 10) (by omega) (by omega), i64_of (n := (c.toNat : Int) - 48) (by omega) (by omega), i64_of (by omega) (by omega)]
        omega
  · simp only [decide_eq_false_iff_not] at hge
    have hkk : k = l.length := by omega
    subst hkk
    rw [List.take_length] at hf ⊢
    have yes : l ≠ [] → ¬ (1 < l.length ∧ l.head? = some 48) → K (figN l : Int) w' := fun h1 h2 => by
      have e : numS l = figN l := by unfold numS; rw [if_pos ⟨hf, hk10, h1, h2⟩]
      rw [e] at hk; exact hk
    refine And.intro (fun h => no fun hh => ?_) (fun h0 => ?_)
    · have h' : l.length = 0 := by simp at h; simp [h]
      exact hh.2.2.1 (List.eq_nil_of_length_eq_zero h')
    · have hne : l ≠ [] := fun e => by rw [e] at h0; simp at h0
      have hpos := List.length_pos_iff.2 hne
      refine And.intro (fun h1 => ?_) (fun h1 => yes hne fun hh => ?_)
      · simp only [decide_eq_true_eq] at h1
        obtain ⟨c, hc⟩ := get_some (l := l) (k := 0) (by omega)
        have hhead : l.head? = some c := by rw [List.head?_eq_getElem?]; exact hc
        refine sxB (by omega) (by simpa using hc) (And.intro (fun h => no fun hh => ?_) (fun h => yes hne fun hh => ?_))
        · have h48 : c = 48 := by apply UInt8.toNat_inj.1; simp at h; show c.toNat = 48; omega
          exact hh.2.2.2 ⟨by omega, by rw [hhead, h48]⟩
        · rw [hhead] at hh
          have : c = 48 := by simpa using hh.2
          rw [this] at h; simp at h
      · simp only [decide_eq_false_iff_not] at h1; omega
theorem cutN_ne (c : UInt8) (k : Nat) (l : By) : cutN c k l ≠ [] := by
  cases k with
  | zero => simp [cutN]
  | succ k => unfold cutN; split <;> simp
theorem joinW_mem (c : UInt8) : ∀ {ws : List By} {z : By}, z ∈ ws → z.length ≤ (joinW c ws).length
  | [], z, h => by simp at h
  | [x], z, h => by simp at h; subst h; exact Nat.le_refl _
  | x :: y :: ys, z, h => by
    rw [joinW_cons (by simp)]
    rcases List.mem_cons.1 h with h | h
    · subst h; simp
    · have := joinW_mem c h
      simp; omega
theorem cutN_mem {c : UInt8} {k : Nat} {l z : By} (h : z ∈ cutN c k l) : z.length ≤ l.length := by
  have := joinW_mem c h
  rwa [join_cut] at this
theorem cutN_len (c : UInt8) : ∀ (k : Nat) (l : By), (cutN c k l).length ≤ l.length + 1
  | 0, l => by simp [cutN]
  | k + 1, l => by
    unfold cutN
    split
    · simp
    · rename_i a b h
      have h1 := (cut1_some h).1
      have := cutN_len c k b
      rw [h1]
      simp; omega
theorem spec.LineGet.t {l : By} {K : Tup (R 6 (.i .i64)) × Bool × Unit → World → Prop} (ht : Te w) (hl : l.length ≤ 2000000) (hk : ∀ (r : Ins) ok w', Below w.heap.size w w' → (∀ x, InsP x → l = lineO x (Lib.itoa x.off) → ok = true ∧ r = x) → K (r.t, ok, ()) w') :
    CallT (.n [(.ag (R 6 (.i .i64))), (.lf .b)]) P0 47 [.string (bs l)] w K := by
  refine spec.LineGet.ok (nwIz fun w1 b1 s1 c1 => ?_)
  refine spec.l1Cut.t (c := 32) (most := 5) (by omega) (by omega) fun s w2 b2' o2 => ?_
  have b2 := b1.trans (b2'.mono b1.size)
  refine spec.l1Read.t (ht.below b2) o2.read (by rw [List.length_map]; exact List.length_pos_iff.2 (cutN_ne _ _ _)) (fun y hy => by
    obtain ⟨z, hz, rfl⟩ := List.mem_map.1 hy
    have := cutN_mem hz
    rw [bs_size]; omega) fun r w3 b3' hr => ?_
  have b3 := b2.trans (b3'.mono b2.size)
  have hs1 := b1.size
  have hs2 := b2'.size
  have hs3 := b3'.size
  refine nwStIns (x := r) fun w4 b4' s4 c4 => ?_
  have b4 := b3.trans (b4'.mono b3.size)
  have z4 := (b4'.block _ (by omega)).trans ((b3'.block _ (by omega)).trans ((b2'.block _ (by omega)).trans c1))
  refine ldI c4 (spec.l1InsOk.c (x := r) fun w5 b5' => ?_)
  have b5 := b4.trans (b5'.mono b4.size)
  have c5 := (b5'.block _ (Array.getElem?_eq_some_iff.1 c4).1).trans c4
  have z5 := (b5'.block _ (Array.getElem?_eq_some_iff.1 z4).1).trans z4
  have want : ∀ x, InsP x → l = lineO x (Lib.itoa x.off) → r = x := by
    intro x hp he
    have e : cutN 32 5 l = lineW x (Lib.itoa x.off) := by
      rw [he, lineO_words]
      exact cutN_join 5 (lineW_ne _ _) (by have := lineW_len x (Lib.itoa x.off); omega) (lineW_no (.inr (.inl rfl)) (itoa_no (.inr (.inl rfl)) _))
    have := hr x x.off hp hp.2.2.1.1 hp.2.2.1.2 (by rw [e])
    rwa [go_self hp] at this
  have fin : ∀ {w' : World} (y : Ins) (ok : Bool), Below w.heap.size w w' → w'.heap[w.heap.size]? = some (bI ins0) → (∀ x, InsP x → l = lineO x (Lib.itoa x.off) → ok = true ∧ y = x) →
      StA P0 ⟨w.heap.size, 0, none⟩ (Tup.cells (R 6 (.i .i64)) y.t) w' fun w'' => LdA (R 6 (.i .i64)) ⟨w.heap.size, 0, none⟩ w'' fun r w3 => K (r, (ok, ())) w'' := by
    intro w' y ok hb hz hh
    exact stI hz fun w6 g6 s6 c6 => ldI c6 (hk y ok w6 (hb.grown g6 hb.size (fun g hg => by simp only [Option.some.injEq] at hg; omega)) hh)
  refine And.intro (fun h => ?_) (fun h => ?_)
  · have hp : ¬ InsP r := by simp only [Bool.not_eq_true', decide_eq_false_iff_not] at h; exact h
    exact fin ins0 false b5 z5 fun x hx he => absurd (want x hx he ▸ hx) hp
  · have hp : InsP r := by simp only [Bool.not_eq_false', decide_eq_true_eq] at h; exact h
    refine ldI c5 (spec.l1Line.t (x := r) hp fun w6 b6' => ?_)
    have b6 := b5.trans (b6'.mono b5.size)
    have c6 := (b6'.block _ (Array.getElem?_eq_some_iff.1 c5).1).trans c5
    have z6 := (b6'.block _ (Array.getElem?_eq_some_iff.1 z5).1).trans z5
    rw [bs_toList, bs_toList]
    refine And.intro (fun h => ?_) (fun h => ?_)
    · refine fin ins0 false b6 z6 fun x hx he => ?_
      have := want x hx he
      subst this
      rw [← he] at h; simp at h
    · exact ldI c6 (fin r true b6 z6 fun x hx he => ⟨rfl, want x hx he⟩)
end
end Go.Proofs.YteggdoigliddkaaGreatDoor.V

/- Contracts: a line is taken, in the program. -/
namespace Go.Proofs.YteggdoigliddkaaGreatDoor.V
open Go Go.RowKit
set_option linter.unusedVariables false
set_option linter.unusedSimpArgs false
theorem lineW_last {x : Ins} (h : goesP x) : ∃ init : List By, init ≠ [] ∧ ∀ off, lineW x off = init ++ [off] := by
  unfold goesP at h
  by_cases h1 : x.op = 16
  · exact ⟨[opA x.op], by simp, fun off => by unfold lineW; rw [if_neg (by omega), if_neg (by omega), if_pos h1]; rfl⟩
  · exact ⟨[opA x.op, 114 :: Lib.itoa x.dst, regL x.src x.imm], by simp, fun off => by unfold lineW; rw [if_neg (by omega), if_pos (by omega)]; rfl⟩
theorem itoa_head (n : Int) : (Lib.itoa n).head? ≠ some 109 := by
  intro h
  have h1 : (109 : UInt8) ∈ Lib.itoa n := List.mem_of_mem_head? (by simpa using h)
  unfold Lib.itoa at h1
  split at h1
  · rcases List.mem_cons.1 h1 with h2 | h2
    · exact absurd h2 (by decide)
    · have := dec_fig _ _ h2; simp at this
  · have := dec_fig _ _ h1; simp at this
theorem regL_head (a b : Int) : (regL a b).head? ≠ some 109 := by
  unfold regL
  split
  · exact itoa_head _
  · simp
theorem callA_head (n : Int) : (callA n).head? ≠ some 109 := by
  unfold callA
  by_cases h : n.toNat < 7
  · have hx : ∀ j < 7, (callW.getD j []).head? ≠ some 109 := by decide
    exact hx _ h
  · rw [List.getD_eq_getElem?_getD, List.getElem?_eq_none (by simp [callW]; omega)]; simp
/-- The last word of an op that does not go on is no mark. -/
theorem lineW_nomark {x : Ins} {n : Int} (hp : InsP x) (h : ¬ goesP x) : (∃ z, (lineW x (Lib.itoa n)).getLast? = some z ∧ z.head? ≠ some 109) ∨ (lineW x (Lib.itoa n)).length = 1 := by
  have hop := insP_op hp
  unfold goesP at h
  unfold lineW
  split
  · exact .inl ⟨_, rfl, regL_head _ _⟩
  · split
    · omega
    · split
      · omega
      · split
        · exact .inl ⟨_, rfl, itoa_head _⟩
        · split
          · exact .inl ⟨_, rfl, regL_head _ _⟩
          · split
            · exact .inl ⟨_, rfl, callA_head _⟩
            · exact .inr rfl
section
variable {w : World}
theorem cutPre'.c {l : By} {d : UInt8} {K : ByteArray × Bool × Unit → World → Prop} (hl : l.length ≤ 4611686018427387904) (hk : ∀ (m : By) ok, m.length ≤ l.length → (ok = true → l = d :: m) → (ok = false → l.head? ≠ some d) → K (bs m, ok, ()) w) :
    CallT (.n [(.lf .s), (.lf .b)]) P0 56 [.string (bs l), .string (bs [d])] w K :=
  cutPre.c hl (fun r e => hk r true (by rw [e]; simp) (fun _ => e) (fun h => by simp at h)) (fun h => hk l false (Nat.le_refl _) (fun h => by simp at h) (fun _ => h))
theorem split1.c {l : By} {c : UInt8} {K : Sl → World → Prop} (h : Te w) (hl : l.length < 4294967281) (hk : ∀ s zs w', Below w.heap.size w w' → OwnS kS 9 w.heap.size w' s zs → 1 ≤ zs.length → zs.length ≤ l.length + 1 → (∀ z ∈ zs, z.size ≤ l.length) → (∀ ws : List By, ws ≠ [] → (∀ x ∈ ws, c ∉ x) → l = joinW c ws → zs = ws.map bs) → K s w') :
    CallT (.o (.lf .sl)) P0 57 [.string (bs l), .string (bs [c])] w K := by
  obtain ⟨⟨m, h1⟩, _⟩ := h
  refine (Tryz.strings_Split (bs l) (bs [c]) m w (by rw [bs_size]; exact hl) h1 (by rw [bs_size]; simp)).mono fun e w' ⟨he, hw⟩ => ⟨⟨some ⟨w.heap.size, 0, none⟩, _, _⟩, he, ?_⟩
  have hlen := Lib.splitB_all (bs [c]) (by rw [bs_size]; simp) 0 _ (bs l) rfl
  have hle := Lib.countB_le (bs [c]) (by rw [bs_size]; simp) (bs l).size (bs l) (Nat.le_refl _)
  rw [bs_size] at hle
  have hc : w'.heap[w.heap.size]? = some (.cells ((Lib.splitB (bs [c]) 0 (Lib.countB (bs l) (bs [c])) (bs l)).map Value.string).toArray 9 (0, 0)) := by rw [hw]; exact Array.getElem?_push_size
  have hb : Below w.heap.size w w' := by rw [hw]; exact (Below.refl _ w).alloc (Nat.le_refl _) _
  refine hk _ (Lib.splitB (bs [c]) 0 (Lib.countB (bs l) (bs [c])) (bs l)) w' hb (OwnS.lit (k := kS) (Nat.le_refl _) hc hlen.symm (flatS _) (by simp only [maxLen]; omega)) (by omega) (by omega) (fun z hz => split_size _ _ z hz) fun ws hn hw2 he2 => ?_
  rw [he2]; exact split_words hn hw2
end
/-- What is read of lines so far. -/
def AsB (sl : Sl) (mW mT : Option Nat) : Obj := .cells #[sl.v, .map mW, .map mT] 46 (0, 0)
def AsS (B A : Nat) (w : World) (xs : List Ins) (m : Nat) (nW nT : Nat) (F : By → Option Int) (T : Int → Option By) : Prop :=
  ∃ sl mW mT, w.heap[A]? = some (AsB sl mW mT) ∧ B ≤ A ∧ OwnS kIns 39 B w sl xs ∧ MpS B w mW nW F ∧ MpI B w mT nT T ∧ mW ≠ mT ∧ (∀ z v, F z = some v → 0 ≤ v ∧ v ≤ xs.length) ∧ (∀ i v, T i = some v → 0 ≤ i ∧ i < m ∧ v.length ≤ 1048576)
theorem tIA : (39 : TypeId) ≠ 46 := by decide
theorem tIS : (39 : TypeId) ≠ 9 := by decide
section
variable {B A m nW nT : Nat} {w w' : World} {xs : List Ins} {F : By → Option Int} {T : Int → Option By}
theorem AsS.below (h : AsS B A w xs m nW nT F T) (hb : Below w.heap.size w w') : AsS B A w' xs m nW nT F T := by
  obtain ⟨sl, mW, mT, h1, h2, h3, h4, h5, h6⟩ := h
  exact ⟨sl, mW, mT, (hb.block _ (Array.getElem?_eq_some_iff.1 h1).1).trans h1, h2, h3.below hb, h4.below hb, h5.below hb, h6⟩
theorem AsS.lt (h : AsS B A w xs m nW nT F T) : A < w.heap.size := by
  obtain ⟨sl, mW, mT, h1, _⟩ := h
  exact (Array.getElem?_eq_some_iff.1 h1).1
/-- What is beside it stays. -/
theorem AsS.grown {row : Option Nat} {cs : Array Value} {t : TypeId} {g : Nat} (h : AsS B A w xs m nW nT F T) (hg : w.grownBy w' row) (hr : row = some g) (hc : w.heap[g]? = some (.cells cs t (0, 0))) (h1 : t ≠ 39) (h2 : t ≠ 46) : AsS B A w' xs m nW nT F T := by
  subst hr
  obtain ⟨sl, mW, mT, h3, h4, h5, h6, h7, h8⟩ := h
  refine ⟨sl, mW, mT, heapG h3 hg (fun e => ?_), h4, h5.kept hg (fun b hb e => ?_), h6.kept hg (fun e => ?_), h7.kept hg (fun e => ?_), h8⟩
  · simp only [Option.some.injEq] at e; subst e
    rw [hc] at h3; simp only [AsB, Option.some.injEq, Obj.cells.injEq] at h3
    exact h2 h3.2.1
  · simp only [Option.some.injEq] at hb; subst hb
    obtain ⟨cur, hcur⟩ := own_ty h5 e
    rw [hc] at hcur; simp only [Option.some.injEq, Obj.cells.injEq] at hcur
    exact h1 hcur.2.1
  · obtain ⟨es, ck, he⟩ := h6.cell e
    rw [hc] at he; simp at he
  · obtain ⟨es, ck, he⟩ := h7.cell e
    rw [hc] at he; simp at he
end
theorem tSI : (9 : TypeId) ≠ 39 := by decide
theorem tSA : (9 : TypeId) ≠ 46 := by decide
set_option maxHeartbeats 4000000 in
theorem impl.asm.take.t {B A nW nT : Nat} {w : World} {xs : List Ins} {F : By → Option Int} {T : Int → Option By} {line : By} {K : Bool → World → Prop} (ht : ∀ w', Below B w w' → Te w') (h : AsS B A w xs xs.length nW nT F T) (hB : B ≤ w.heap.size) (hl : line.length ≤ 1048576) (hx : xs.length ≤ 49) (hW : nW ≤ 2000000) (hT : nT ≤ 1000)
    (hk : ∀ ok w' xs' nW' nT' F' T', Below B w w' → AsS B A w' xs' xs'.length nW' nT' F' T' → nW' ≤ nW + 1 → nT' + xs.length ≤ nT + xs'.length → xs'.length ≤ xs.length + 1 →
      (∀ z, line = z ++ [58] → ok = true ∧ xs' = xs ∧ F' = (fun y => if y = z then some (xs.length : Int) else F y) ∧ T' = T) →
      (∀ x off, InsP x → line = 32 :: lineO x off → (goesP x ∧ (∃ k, off = markT k) ∨ ¬ goesP x ∧ off = Lib.itoa x.off) → ok = true ∧ xs' = xs ++ [x.bare] ∧ F' = F ∧ T' = (fun y => if goesP x ∧ y = (xs.length : Int) then some off else T y)) → K ok w') :
    CallT (.o (.lf .b)) P0 22 [.pointer (some ⟨A, 0, none⟩), .string (bs line)] w K := by
  have off58 : ∀ (x : Ins) (off : By), (goesP x ∧ (∃ k, off = markT k) ∨ ¬ goesP x ∧ off = Lib.itoa x.off) → ∀ c, Gap c → c ∉ off := by
    rintro x off (⟨_, k, rfl⟩ | ⟨_, rfl⟩) c hc
    · exact markT_no hc k
    · exact itoa_no hc _
  obtain ⟨sl, mW, mT, hA, hBA, ho, hmW, hmT, hne, hF, hTb⟩ := h
  have hAl := (Array.getElem?_eq_some_iff.1 hA).1
  have hsn := ho.len
  have kA : ∀ {w' : World}, StR w w' → w'.heap[A]? = some (AsB sl mW mT) := fun hs => (hs.block _ hAl).trans hA
  refine impl.asm.take.ok (cutSuf.c (d := 58) (by omega) (fun r e => And.intro (fun _ => ?_) (fun h => by simp at h)) (fun hns => And.intro (fun h => by simp at h) (fun _ => ?_)))
  · -- a mark
    refine ⟨StR, stOk w, eqG ⟨A, 0, none⟩, keptE, eqG mW, keptE, eqG ⟨A, 0, none⟩, keptE, eqG sl, keptE, ?_⟩
    refine ⟨fun w' hs => ⟨_, rfl, gkE rfl (Below.refl _ _)⟩, fun t20 => ⟨fun w' hs f => ?_, fun t22 => ⟨fun w' hs => ⟨_, rfl, gkE rfl (Below.refl _ _)⟩, fun t25 => ⟨fun w' hs f => ?_, fun t27 w1 hs f20 f22 f25 f27 => ?_⟩⟩⟩⟩
    · cases f; exact ldB (kA hs) (j := 1) (l := .m) (x := mW) rfl (gkE rfl (Below.refl _ _))
    · cases f; exact ldB (kA hs) (j := 0) (l := .sl) (x := sl) rfl (gkE rfl (Below.refl _ _))
    · cases f22; cases f27
      have hs : Below w.heap.size w w1 := hs
      have b1 : Below B w w1 := hs.mono hB
      have hr : r.length ≤ 1048576 := by rw [e] at hl; simp at hl; omega
      refine mpsPut (by kernel_rfl) (hmW.below hs) (by simp only [maxLen]; omega) (wf_i64 (by omega) (by omega)) (by simp only [maxLen]; omega) fun w2 hm2 hg2 => ?_
      have hAm : mW ≠ some A := fun e => by
        obtain ⟨es, ck, he⟩ := hmW.cell e
        rw [hA] at he; simp [AsB] at he
      have b2 : Below B w w2 := b1.grown hg2 (Nat.le_trans hB hs.size) (fun b hb => (hmW.blk hb).1)
      have o2 := (ho.below hs).kept hg2 (fun b hb e => by
        obtain ⟨es, ck, he⟩ := (hmW.below hs).cell hb
        obtain ⟨cur, hcur⟩ := own_ty (ho.below hs) e
        rw [he] at hcur; simp at hcur)
      rw [hsn] at hm2
      refine hk true w2 xs (nW + 1) nT _ T b2 ⟨sl, mW, mT, heapG (kA hs) hg2 hAm, hBA, o2, hm2, (hmT.below hs).kept hg2 (fun e => hne e.symm), hne, fun z v hv => ?_, hTb⟩ (by omega) (by omega) (by omega) (fun z hz => ⟨rfl, rfl, ?_, rfl⟩) (fun x off hp he ho2 => ?_)
      · by_cases hz : z = r
        · simp only [if_pos hz, Option.some.injEq] at hv; omega
        · simp only [if_neg hz] at hv; exact hF z v hv
      · have : z = r := List.append_cancel_right (hz.symm.trans e)
        subst this; rfl
      · exfalso
        have h58 : (58 : UInt8) ∈ line := by rw [e]; simp
        rw [he] at h58
        have := lineO_no (c := 58) (x := x) (.inr (.inr rfl)) (by decide) (off58 x off ho2 58 (.inr (.inr rfl)))
        simp at h58
        exact this h58
  · -- an op
    have nocol : ∀ z, line ≠ z ++ [58] := fun z e => hns (by rw [e]; simp)
    refine cutPre'.c (d := 32) (by omega) fun tx okp htx hok1 hok0 => ?_
    refine split1.c (c := 32) (ht w (Below.refl _ _)) (by omega) fun ws zs w1 b1' o1 hz1 hzn hzl hzw => ?_
    have hwn := o1.len
    have el : IntKind.wrap .i64 ((ws.n : Int) - 1) = ((zs.length - 1 : Nat) : Int) := by rw [i64_of (by omega) (by omega)]; omega
    rw [el]
    have b1 : Below B w w1 := b1'.mono hB
    have hB1 := Nat.le_trans hB b1'.size
    obtain ⟨y, hy⟩ := get_some (l := zs) (k := zs.length - 1) (by omega)
    have hyl := hzl y (List.mem_of_getElem? hy)
    have hyd : y = bs y.data.toList := (bs_of y).symm
    have hydl : y.data.toList.length ≤ 1048576 := by have h2 : y.data.toList.length = y.size := Array.length_toList; omega
    generalize y.data.toList = last at hyd hydl
    subst hyd
    refine ixL o1.read (i := ((zs.length - 1 : Nat) : Int)) (by omega) (x := bs last) (by simpa using hy) rfl (l := .s) (v := bs last) rfl ?_
    have a1 : AsS B A w1 xs xs.length nW nT F T := AsS.below ⟨sl, mW, mT, hA, hBA, ho, hmW, hmT, hne, hF, hTb⟩ b1'
    have known : ∀ x off, InsP x → line = 32 :: lineO x off → (goesP x ∧ (∃ k, off = markT k) ∨ ¬ goesP x ∧ off = Lib.itoa x.off) → okp = true ∧ zs = (lineW x off).map bs := by
      intro x off hp he ho2
      have hok : okp = true := by
        cases hh : okp with
        | true => rfl
        | false => exact absurd (by rw [he]; rfl) (hok0 hh)
      have htx2 := hok1 hok
      rw [he] at htx2
      simp only [List.cons.injEq, true_and] at htx2
      refine ⟨hok, hzw _ (lineW_ne x off) (lineW_no (.inr (.inl rfl)) (off58 x off ho2 32 (.inr (.inl rfl)))) ?_⟩
      rw [← htx2, lineO_words]
    have lastw : ∀ x off, zs = (lineW x off).map bs → (lineW x off).getLast? = some last := by
      intro x off he
      rw [he, List.length_map] at hy
      rw [List.getElem?_map] at hy
      obtain ⟨v, hv, hv2⟩ := Option.map_eq_some_iff.1 hy
      rw [List.getLast?_eq_getElem?, hv, bs_inj hv2]
    -- the words, and where marks are asked for
    refine ⟨fun w' => ∃ zs' nT' T', Below B w w' ∧ Te w' ∧ WrS kS 9 w.heap.size w' ws zs' ∧ zs'.length = zs.length ∧ (∀ z ∈ zs', z.size ≤ 1048576) ∧ AsS B A w' xs (xs.length + 1) nW nT' F T' ∧ nT' ≤ nT + 1 ∧
        (∀ x off, InsP x → line = 32 :: lineO x off → (goesP x ∧ (∃ k, off = markT k) ∨ ¬ goesP x ∧ off = Lib.itoa x.off) → (∃ n, -128 ≤ n ∧ n ≤ 127 ∧ zs' = (lineW x (Lib.itoa n)).map bs ∧ x.go n = x.bare) ∧ T' = (fun y => if goesP x ∧ y = (xs.length : Int) then some off else T y)),
      ⟨fun t w' => w' = w1 ∧ (t = true ↔ last.head? = some 109 ∧ 1 < zs.length), ?_, ?_⟩, ?_⟩
    · refine hasPre.c (d := 109) (by omega) (And.intro (fun hp => ⟨rfl, ?_⟩) (fun hp => ⟨rfl, ?_⟩))
      · have hp : last.head? = some 109 := by simpa using hp
        simp only [decide_eq_true_eq, hp, true_and]; omega
      · have hp : last.head? ≠ some 109 := by simpa using hp
        simp [hp]
    · rintro t w2 ⟨rfl, htt⟩ _
      obtain ⟨_, _, _, hA1, _, ho1, hmW1, hmT1, _⟩ := a1
      refine And.intro (fun e => ?_) (fun e => ?_)
      · obtain ⟨hmk, hlen⟩ := htt.1 e
        have kA1 : ∀ {w' : World}, StR w2 w' → w'.heap[A]? = some (AsB sl mW mT) := fun hs => (hs.block _ (Nat.lt_of_lt_of_le hAl b1'.size)).trans ((b1'.block _ hAl).trans hA)
        refine ⟨StR, stOk w2, eqG ⟨A, 0, none⟩, keptE, eqG mT, keptE, eqG ⟨A, 0, none⟩, keptE, eqG sl, keptE, ?_⟩
        refine ⟨fun w' hs => ⟨_, rfl, gkE rfl (Below.refl _ _)⟩, fun t50 => ⟨fun w' hs f => ?_, fun t52 => ⟨fun w' hs => ⟨_, rfl, gkE rfl (Below.refl _ _)⟩, fun t54 => ⟨fun w' hs f => ?_, fun t56 w3 hs f50 f52 f54 f56 => ?_⟩⟩⟩⟩
        · cases f; exact ldB (kA1 hs) (j := 2) (l := .m) (x := mT) rfl (gkE rfl (Below.refl _ _))
        · cases f; exact ldB (kA1 hs) (j := 0) (l := .sl) (x := sl) rfl (gkE rfl (Below.refl _ _))
        · cases f52; cases f56
          have hs : Below w2.heap.size w2 w3 := hs
          have bw3 : Below w.heap.size w w3 := b1'.trans (hs.mono b1'.size)
          rw [hsn]
          refine mpiPut (by kernel_rfl) (hmT.below bw3) (wf_i64 (by omega) (by omega)) (by simp only [maxLen]; omega) (by simp only [maxLen]; omega) fun w4 hm4 hg4 => ?_
          have mTc : ∀ {g : Nat}, mT = some g → ∃ es ck, w3.heap[g]? = some (.map es ck) := fun e => (hmT.below bw3).cell e
          have hA4 := heapG (kA1 hs) hg4 (fun e => by obtain ⟨es, ck, he⟩ := mTc e; rw [kA1 hs] at he; simp [AsB] at he)
          have o4 := (ho.below bw3).kept hg4 (fun b hb e => by
            obtain ⟨es, ck, he⟩ := mTc hb
            obtain ⟨cur, hcur⟩ := own_ty (ho.below bw3) e
            rw [he] at hcur; simp at hcur)
          have w4o := (o1.below hs).kept hg4 (fun b hb e => by
            obtain ⟨es, ck, he⟩ := mTc hb
            obtain ⟨cur, hcur⟩ := own_ty (o1.below hs) e
            rw [he] at hcur; simp at hcur)
          have b4 : Below B w w4 := (bw3.mono hB).grown hg4 (Nat.le_trans hB bw3.size) (fun b hb => (hmT.blk hb).1)
          have hm4W := (hmW.below bw3).kept hg4 hne
          have as4 : AsS B A w4 xs (xs.length + 1) nW (nT + 1) F (fun y => if y = (xs.length : Int) then some last else T y) := ⟨sl, mW, mT, hA4, hBA, o4, hm4W, hm4, hne, hF, fun i v hv => by
            by_cases hi : i = (xs.length : Int)
            · simp only [if_pos hi, Option.some.injEq] at hv; subst hv; omega
            · simp only [if_neg hi] at hv; have := hTb i v hv; omega⟩
          refine ixStL w4o.wr (i := ((zs.length - 1 : Nat) : Int)) (by omega) (x := bs last) (by simpa using hy) rfl rfl rfl (bs [48]) rfl fun w5 hw5 hg5 hs5 => ?_
          obtain ⟨cb, hcb⟩ : ∃ g, ws.bk = some g := by
            obtain ⟨b', o', ha', _⟩ := w4o.read.at hy
            exact ⟨b', by simp [Sl.bk, ha']⟩
          obtain ⟨cur, hcur⟩ := own_ty w4o (g := cb) (by rw [ob_bk]; exact hcb)
          have as5 := as4.grown hg5 hcb hcur tSI tSA
          have b5 : Below B w w5 := b4.grown hg5 (Nat.le_trans hB (Nat.le_trans bw3.size hg4.size)) (fun b hb => by
            have := (o1.blk (b := b) (by rw [ob_bk]; exact hb)).1; omega)
          have te5 : Te w5 := ht w5 b5
          refine ⟨_, nT + 1, _, b5, te5, hw5, by simp, fun z hz => ?_, as5, Nat.le_refl _, fun x off hp he ho2 => ?_⟩
          · rcases List.mem_or_eq_of_mem_set hz with h2 | h2
            · have := hzl z h2; omega
            · subst h2; rw [bs_size]; simp
          · obtain ⟨hok, hzs⟩ := known x off hp he ho2
            have hlw := lastw x off hzs
            rcases ho2 with ⟨hg, k, hoff⟩ | ⟨hg, hoff⟩
            · obtain ⟨init, hin, hli⟩ := lineW_last hg
              have hlo : off = last := by rw [hli, List.getLast?_concat] at hlw; simpa using hlw
              refine ⟨⟨0, by omega, by omega, ?_, by have := go_bare hp; rwa [if_pos hg] at this⟩, ?_⟩
              · have : zs.length - 1 = (init.map bs).length := by rw [hzs, hli]; simp
                rw [Int.toNat_natCast, this, hzs, hli, hli, List.map_append, List.map_append]
                simp only [List.map_cons, List.map_nil]
                rw [List.set_append_right _ _ (Nat.le_refl _), Nat.sub_self, List.set_cons_zero, itoa_one (by omega)]
                rfl
              · funext y
                simp only [hg, true_and, hlo]
            · exfalso
              rcases lineW_nomark (n := x.off) hp hg with ⟨z, h1, h2⟩ | h1
              · rw [hoff, h1] at hlw
                simp only [Option.some.injEq] at hlw
                exact h2 (hlw ▸ hmk)
              · rw [hzs, hoff, List.length_map, h1] at hlen; omega
      · refine ⟨zs, nT, T, b1, ht _ b1, o1.wr, rfl, fun z hz => by have := hzl z hz; omega, ⟨sl, mW, mT, (b1'.block _ hAl).trans hA, hBA, ho.below b1', hmW.below b1', hmT.below b1', hne, hF, fun i v hv => by have := hTb i v hv; omega⟩, by omega, fun x off hp he ho2 => ?_⟩
        obtain ⟨hok, hzs⟩ := known x off hp he ho2
        have hlw := lastw x off hzs
        rcases ho2 with ⟨hg, k, hoff⟩ | ⟨hg, hoff⟩
        · exfalso
          obtain ⟨init, hin, hli⟩ := lineW_last hg
          have hlo : off = last := by rw [hli, List.getLast?_concat] at hlw; simpa using hlw
          have : t = true := htt.2 ⟨by rw [← hlo, hoff]; rfl, by rw [hzs, hli]; have := List.length_pos_iff.2 hin; simp; omega⟩
          rw [e] at this; simp at this
        · refine ⟨⟨x.off, hp.2.2.1.1, hp.2.2.1.2, by rw [hzs, hoff], by have := go_bare hp; rwa [if_neg hg] at this⟩, ?_⟩
          funext y
          rw [if_neg (fun h => hg h.1)]
    · rintro w2 ⟨zs', nT', T', b2, ht2, o2, hz', hzl', ⟨sl2, mW2, mT2, hA2, hBA2, o2s, hmW2, hmT2, hne2, hF2, hT2⟩, hnT', hkn⟩ _
      have hB2 := Nat.le_trans hB b2.size
      refine impl.readIns.t ht2 o2.read (by omega) hzl' fun r ok w3 b3' hrd => nwStIns (x := r) fun w4 b4' s4 c4 => ?_
      have b24 := b3'.trans (b4'.mono b3'.size)
      have B4 : Below B w w4 := b2.trans (b24.mono hB2)
      have hA2l := (Array.getElem?_eq_some_iff.1 hA2).1
      have hA4 := (b24.block _ hA2l).trans hA2
      have o4 := o2s.below b24
      have hmW4 := hmW2.below b24
      have hmT4 := hmT2.below b24
      have hvo : ∀ g, (Value.slice sl2.a sl2.n sl2.c).ownBlock = some g → g < w2.heap.size := fun g hg => (o2s.blk hg).2
      have h23 := b3'.size
      have h24 := b24.size
      refine ⟨fun a b => a.grownBy b (Value.slice sl2.a sl2.n sl2.c).ownBlock, ⟨fun a => grown_refl _ _, fun a b c h1 h2 => grown_trans h1 h2, grown_any (Below.refl _ _).drew⟩, fun a b => Below a.heap.size a b, ⟨fun a => Below.refl _ _, fun a b h => grown_any h⟩,
        fun w' => OwnS kIns 39 B w' sl2 xs, o4.below (Below.refl _ _).drew, fun a b h hb => h.below hb,
        eqG ⟨A, 0, none⟩, fun _ _ _ h _ => h, eqG sl2, fun _ _ _ h _ => h, eqG r.t, fun _ _ _ h _ => h, fun x w' => OwnS kIns 39 w4.heap.size w' x [r], ?_, fun x w' => OwnS kIns 39 B w' x (xs ++ [r]), ?_, eqG ⟨A, 0, none⟩, fun _ _ _ h _ => h, ?_⟩
      · rintro x a b hy hg
        exact hy.kept hg (fun g hg e => by have := hvo g hg; have := (hy.blk e).1; omega)
      · rintro x a b hy hb
        exact hy.below hb
      have nb : ∀ {a b : World}, Below a.heap.size a b → NewOnly w4.heap.size a b := fun hb => ⟨hb.size, fun g _ hg => hb.block g hg⟩
      have sA : ∀ {w' : World}, w4.grownBy w' (Value.slice sl2.a sl2.n sl2.c).ownBlock → w'.heap[A]? = some (AsB sl2 mW2 mT2) := fun hs => heapG hA4 hs (fun e => by
        obtain ⟨cur, hcur⟩ := own_ty o4 e
        rw [hA4] at hcur; simp only [AsB, Option.some.injEq, Obj.cells.injEq] at hcur
        exact tIA hcur.2.1.symm)
      have sX : ∀ {w' : World}, w4.grownBy w' (Value.slice sl2.a sl2.n sl2.c).ownBlock → w'.heap[w3.heap.size]? = some (bI r) := fun hs => heapG c4 hs (fun e => by have := hvo _ e; omega)
      refine ⟨fun w' hs => ⟨_, rfl, ⟨_, rfl, ⟨Below.refl _ _, nb (Below.refl _ _)⟩, rfl⟩⟩, fun t71 => ⟨fun w' hs f => ?_, fun t73 => ⟨fun w' hs => ?_, fun t74 => ⟨fun w' hs f => ?_, fun t75 => ⟨fun w' hs hN f73 f75 => ?_, fun t76 => ⟨fun w' hs => ⟨_, rfl, ⟨_, rfl, ⟨Below.refl _ _, nb (Below.refl _ _)⟩, rfl⟩⟩, fun t77 w5 hs f71 f73 f74 f75 f76 f77 _ => ?_⟩⟩⟩⟩⟩⟩
      · cases f; exact ldB (sA hs) (j := 0) (l := .sl) (x := sl2) rfl ⟨sl2, rfl, ⟨Below.refl _ _, nb (Below.refl _ _)⟩, rfl⟩
      · exact ldI (sX hs) ⟨r.t, rfl, ⟨Below.refl _ _, nb (Below.refl _ _)⟩, rfl⟩
      · cases f
        exact nw fun w'' hb hs2 hc2 => ⟨⟨some ⟨w'.heap.size, 0, none⟩, 1, 1⟩, rfl, ⟨hb, nb hb⟩, OwnS.lit (k := kIns) (B := w4.heap.size) (xs := [r]) (n := 1) hs.size hc2 rfl rfl (by simp [maxLen])⟩
      · cases f73
        refine apS (tR := 22) elIns hN f75.read (by simp; omega) (by simp; omega) (by have := hs.size; omega) fun x w'' hx hg _ _ => ?_
        exact ⟨x, rfl, ⟨hg, hg.size, fun g hg1 hg2 => hg.block g hg2 (fun e => by have := hvo g e.symm; omega)⟩, hx⟩
      · cases f77
        refine stB (sA hs) rfl (by simp) fun w6 g6 s6 c6 => ?_
        have c6 : w6.heap[A]? = some (AsB t76 mW2 mT2) := c6
        have mc : ∀ {g : Nat}, mW2 = some g ∨ mT2 = some g → ∃ es ck, w4.heap[g]? = some (.map es ck) := fun e => e.elim (fun e => hmW4.cell e) (fun e => hmT4.cell e)
        have m1 : ∀ {q : Option Nat}, q = mW2 ∨ q = mT2 → q ≠ (Value.slice sl2.a sl2.n sl2.c).ownBlock := fun {q} hq e => by
          cases hb : (Value.slice sl2.a sl2.n sl2.c).ownBlock with
          | none =>
            rw [hb] at e
            rcases hq with h | h
            · obtain ⟨_, _, h2, _⟩ := hmW4; rw [← h, e] at h2; simp at h2
            · obtain ⟨_, _, h2, _⟩ := hmT4; rw [← h, e] at h2; simp at h2
          | some g =>
            rw [hb] at e
            obtain ⟨es, ck, he⟩ := mc (g := g) (hq.imp (fun h => h.symm.trans e) (fun h => h.symm.trans e))
            obtain ⟨cur, hcur⟩ := own_ty o4 hb
            rw [he] at hcur; simp at hcur
        have m2 : ∀ {q : Option Nat}, q = mW2 ∨ q = mT2 → q ≠ some A := fun {q} hq e => by
          obtain ⟨es, ck, he⟩ := mc (g := A) (hq.imp (fun h => h.symm.trans e) (fun h => h.symm.trans e))
          rw [hA4] at he; simp [AsB] at he
        have o6 : OwnS kIns 39 B w6 t76 (xs ++ [r]) := f76.kept g6 (fun b hb e => by
          simp only [Option.some.injEq] at hb; subst hb
          obtain ⟨cur, hcur⟩ := own_ty f76 e
          rw [sA hs] at hcur; simp only [AsB, Option.some.injEq, Obj.cells.injEq] at hcur
          exact tIA hcur.2.1.symm)
        have b5 : Below B w w5 := B4.grown hs (Nat.le_trans hB2 h24) (fun b hb => (o4.blk hb).1)
        have b6 : Below B w w6 := b5.grown g6 (Nat.le_trans hB b5.size) (fun b hb => by simp only [Option.some.injEq] at hb; omega)
        have as6 : AsS B A w6 (xs ++ [r]) (xs ++ [r]).length nW nT' F T' := ⟨t76, mW2, mT2, c6, hBA2, o6, (hmW4.kept hs (m1 (.inl rfl))).kept g6 (m2 (.inl rfl)), (hmT4.kept hs (m1 (.inr rfl))).kept g6 (m2 (.inr rfl)), hne2,
          fun z v hv => by have := hF2 z v hv; simp; omega, fun i v hv => by have := hT2 i v hv; simp; omega⟩
        refine And.intro (fun e1 => ?_) (fun e0 => ?_)
        · refine hk ok w6 (xs ++ [r]) nW nT' F T' b6 as6 (by omega) (by simp; omega) (by simp) (fun z hz => absurd hz (nocol z)) (fun x off hp he ho2 => ?_)
          obtain ⟨⟨n, h0, h1, hzs, hgo⟩, hT3⟩ := hkn x off hp he ho2
          obtain ⟨h3, h4⟩ := hrd x n hp h0 h1 hzs
          exact ⟨h3, by rw [h4, hgo], rfl, hT3⟩
        · refine hk false w6 (xs ++ [r]) nW nT' F T' b6 as6 (by omega) (by simp; omega) (by simp) (fun z hz => absurd hz (nocol z)) (fun x off hp he ho2 => ?_)
          exfalso
          have := (known x off hp he ho2).1
          simp only at e0
          rw [this] at e0; simp at e0
end Go.Proofs.YteggdoigliddkaaGreatDoor.V

/- Contracts: lines with marks are read, in the program. -/
namespace Go.Proofs.YteggdoigliddkaaGreatDoor.V
open Go Go.RowKit
set_option linter.unusedVariables false
set_option linter.unusedSimpArgs false
/-- What is left when so many ops, and half an op's mark, were read. -/
noncomputable def tailA (L : List Ins) (n : Nat) (half : Bool) : By :=
  if half = true then (match L[n]? with | some x => opL L n x ++ 10 :: restA L (n + 1) (L.drop (n + 1)) | none => []) else restA L n (L.drop n)
def Pos (L xs : List Ins) (F : By → Option Int) (T : Int → Option By) (m : By) : Prop :=
  ∃ (n : Nat) (half : Bool), n ≤ L.length ∧ (half = true → n < L.length ∧ jmp L n = true) ∧ m = tailA L n half ∧ xs.length = n ∧ (∀ i x, i < n → L[i]? = some x → xs[i]? = some x.bare) ∧
    (∀ k, jmp L k = true → (k < n ∨ (k = n ∧ half = true)) → F (markT (cntJ L k)) = some (k : Int)) ∧
    (∀ (i : Nat) x, i < n → L[i]? = some x → T (i : Int) = if goesP x then some (markT (cntJ L (tgt i x).toNat)) else none) ∧ (∀ i : Int, (n : Int) ≤ i → T i = none)
def Done (L xs : List Ins) (F : By → Option Int) (T : Int → Option By) : Prop :=
  xs.length = L.length ∧ (∀ (i : Nat) x, L[i]? = some x → xs[i]? = some x.bare) ∧ (∀ k, jmp L k = true → k < L.length → F (markT (cntJ L k)) = some (k : Int)) ∧
    (∀ (i : Nat) x, L[i]? = some x → T (i : Int) = if goesP x then some (markT (cntJ L (tgt i x).toNat)) else none)
section
variable {L xs : List Ins} {F : By → Option Int} {T : Int → Option By} {m : By}
theorem Pos.start : Pos L [] (fun _ => none) (fun _ => none) (textA L L.length) :=
  ⟨0, false, by omega, fun h => by simp at h, by rw [textA_all]; simp [tailA], rfl, fun i x h => by omega, fun k _ h => by simp at h, fun i x h => by omega, fun _ _ => rfl⟩
theorem piece_ne (L : List Ins) (n : Nat) (x : Ins) : piece L n x ≠ [] := by unfold piece; simp
theorem tail_nil {n : Nat} {half : Bool} (hn : n ≤ L.length) (hh : half = true → n < L.length ∧ jmp L n = true) (h : tailA L n half = []) : n = L.length ∧ half = false := by
  unfold tailA at h
  cases half with
  | true =>
    obtain ⟨x, hx⟩ := get_some (l := L) (k := n) (hh rfl).1
    rw [if_pos rfl, hx] at h
    simp at h
  | false =>
    rw [if_neg (by simp)] at h
    refine ⟨?_, rfl⟩
    rcases Nat.lt_or_ge n L.length with h1 | h1
    · obtain ⟨x, hx⟩ := get_some (l := L) (k := n) h1
      rw [restA_step hx] at h
      exact absurd (List.append_eq_nil_iff.1 h).1 (piece_ne _ _ _)
    · omega
theorem Pos.fin (h : Pos L xs F T []) : Done L xs F T := by
  obtain ⟨n, half, h1, h2, h3, h4, h5, h6, h7, h8⟩ := h
  obtain ⟨rfl, _⟩ := tail_nil h1 h2 h3.symm
  exact ⟨h4, fun i x hx => h5 i x (lt_of_get hx) hx, fun k hj hk => h6 k hj (.inl hk), fun i x hx => h7 i x (lt_of_get hx) hx⟩
theorem Pos.len (h : Pos L xs F T m) : xs.length ≤ L.length := by
  obtain ⟨n, half, h1, h2, h3, h4, _⟩ := h
  omega
theorem Pos.step (hq : formP L = 0) (h : Pos L xs F T m) (hm : m ≠ []) : ∃ line rest, m = line ++ 10 :: rest ∧ (10 : UInt8) ∉ line ∧
    ((∃ z, line = z ++ [58] ∧ Pos L xs (fun y => if y = z then some (xs.length : Int) else F y) T rest) ∨
     ∃ x off, InsP x ∧ line = 32 :: lineO x off ∧ (goesP x ∧ (∃ k, off = markT k) ∨ ¬ goesP x ∧ off = Lib.itoa x.off) ∧ Pos L (xs ++ [x.bare]) F (fun y => if goesP x ∧ y = (xs.length : Int) then some off else T y) rest) := by
  obtain ⟨n, half, h1, h2, h3, h4, h5, h6, h7, h8⟩ := h
  have hn : n < L.length := by
    rcases Nat.lt_or_ge n L.length with h | h
    · exact h
    · exfalso
      have hf : half = false := by
        cases hh : half with
        | false => rfl
        | true => have := (h2 hh).1; omega
      refine hm ?_
      rw [h3, hf]
      unfold tailA
      rw [if_neg (by simp), List.drop_eq_nil_of_le h]; rfl
  obtain ⟨x, hx⟩ := get_some (l := L) (k := n) hn
  have hp := formP_ins hq (List.mem_of_getElem? hx)
  -- an op is read
  have op : (jmp L n = true → half = true) → ∃ x off, InsP x ∧ opL L n x = 32 :: lineO x off ∧ (goesP x ∧ (∃ k, off = markT k) ∨ ¬ goesP x ∧ off = Lib.itoa x.off) ∧ opL L n x = opL L n x ∧ L[n]? = some x ∧ Pos L (xs ++ [x.bare]) F (fun y => if goesP x ∧ y = (xs.length : Int) then some off else T y) (restA L (n + 1) (L.drop (n + 1))) := by
    intro hj
    refine ⟨x, offT L n x, hp, rfl, ?_, rfl, hx, n + 1, false, hn, fun h => by simp at h, by unfold tailA; rw [if_neg (by simp)], by simp [h4], fun i y hi hy => ?_, fun k hk hk2 => ?_, fun i y hi hy => ?_, fun i hi => ?_⟩
    · unfold offT
      by_cases hg : goesP x
      · rw [if_pos hg]; exact .inl ⟨hg, _, rfl⟩
      · rw [if_neg hg]; exact .inr ⟨hg, rfl⟩
    · rcases Nat.lt_or_ge i n with h | h
      · rw [List.getElem?_append_left (by omega)]; exact h5 i y h hy
      · obtain rfl : i = n := by omega
        rw [hx] at hy; simp only [Option.some.injEq] at hy; subst hy
        rw [List.getElem?_append_right (by omega), h4, Nat.sub_self]; rfl
    · rcases Nat.lt_or_ge k n with h | h
      · exact h6 k hk (.inl h)
      · have hkn : k = n := by simp at hk2; omega
        subst hkn
        exact h6 k hk (.inr ⟨rfl, hj hk⟩)
    · rcases Nat.lt_or_ge i n with h | h
      · simp only
        rw [if_neg (by omega)]; exact h7 i y h hy
      · obtain rfl : i = n := by omega
        rw [hx] at hy; simp only [Option.some.injEq] at hy; subst hy
        simp only [h4, and_true]
        by_cases hg : goesP x
        · rw [if_pos hg, if_pos hg]; unfold offT; rw [if_pos hg]
        · rw [if_neg hg, if_neg hg]; exact h8 _ (Int.le_refl _)
    · simp only
      rw [if_neg (by omega)]; exact h8 i (by omega)
  cases hh : half with
  | true =>
    obtain ⟨x', off, q1, q2, q3, _, q5, q6⟩ := op (fun _ => hh)
    rw [hx] at q5; simp only [Option.some.injEq] at q5; subst q5
    refine ⟨opL L n x, _, ?_, opL_no L n x, .inr ⟨x, off, q1, q2, q3, q6⟩⟩
    rw [h3, hh]; unfold tailA; rw [if_pos rfl, hx]
  | false =>
    have ht : m = piece L n x ++ restA L (n + 1) (L.drop (n + 1)) := by
      rw [h3, hh]; unfold tailA; rw [if_neg (by simp), restA_step hx]
    by_cases hj : jmp L n = true
    · refine ⟨markL (cntJ L n), opL L n x ++ 10 :: restA L (n + 1) (L.drop (n + 1)), by rw [ht, piece_mark hj]; simp, markL_no _, .inl ⟨markT (cntJ L n), rfl, n, true, h1, fun _ => ⟨hn, hj⟩, by unfold tailA; rw [if_pos rfl, hx], h4, h5, fun k hk hk2 => ?_, h7, h8⟩⟩
      simp only
      rcases Nat.lt_or_ge k n with h | h
      · rw [if_neg (fun e => by have := cntJ_inj hk hj (markT_inj e); omega)]
        exact h6 k hk (.inl h)
      · have hkn : k = n := by simp at hk2; omega
        subst hkn
        rw [if_pos rfl, h4]
    · obtain ⟨x', off, q1, q2, q3, _, q5, q6⟩ := op (fun h => absurd h hj)
      rw [hx] at q5; simp only [Option.some.injEq] at q5; subst q5
      exact ⟨opL L n x, _, by rw [ht, piece_bare hj]; simp, opL_no L n x, .inr ⟨x, off, q1, q2, q3, q6⟩⟩
end
theorem wr_ty {α : Type} {k : Kd α} {t : TypeId} {B g : Nat} {w : World} {s : Sl} {xs : List α} (h : WrS k t B w s xs) (hg : s.bk = some g) : ∃ cur, w.heap[g]? = some (.cells cur t (0, 0)) := by
  rcases h.2.2.2 with h0 | ⟨b', o, cur, ha, hB, hb, hc⟩
  · simp [Sl.bk, h0.1] at hg
  · simp only [Sl.bk, ha, Option.map_some, Option.some.injEq] at hg
    subst hg
    exact ⟨cur, hb⟩
theorem slices.ClipI.c {w : World} {s : Sl} (hc : s.n ≤ s.c) {K : Sl → World → Prop} (hk : K ⟨s.a, s.n, s.n⟩ w) : CallT (.o (.lf .sl)) P0 23 [s.v] w K :=
  slices.Clip_Ins.ok ⟨⟨s.a, s.n, s.n⟩, w, run_clip (e := 39) (sz := 6) (by kernel_rfl) (by kernel_rfl) hc, hk⟩
theorem WrS.clipI {B : Nat} {w : World} {s : Sl} {xs : List Ins} {t : TypeId} (h : WrS kIns t B w s xs) : WrS kIns t B w ⟨s.a, s.n, s.n⟩ xs :=
  ⟨h.1, Nat.le_refl _, Nat.le_trans h.2.1 h.2.2.1, h.2.2.2⟩
section
variable {w : World} {l : By}
set_option maxHeartbeats 8000000 in
theorem impl.AsmGet.t {K : Sl × Bool × Unit → World → Prop} (ht : Tb w) (hte : Te w) (hl : l.length ≤ 1048576)
    (hk : ∀ s ok w' out, Below w.heap.size w w' → WrS kIns 39 w.heap.size w' s out → (ok = true → formP out = 0 ∧ textA out out.length = l ∧ ∀ L, formP L = 0 → textA L L.length = l → out = L) → (ok = false → out = [] ∧ ∀ L, formP L = 0 → textA L L.length ≠ l) → K (s, ok, ()) w') :
    CallT (.n [(.lf .sl), (.lf .b)]) P0 7 [.string (bs l)] w K := by
  have noK : ∀ {w' : World}, Below w.heap.size w w' → (∀ L, formP L = 0 → textA L L.length ≠ l) → K (⟨none, 0, 0⟩, (false, ())) w' := fun hb h => hk _ false _ [] hb (WrS.nil _ _ _ _) (fun h => by simp at h) (fun _ => ⟨rfl, h⟩)
  refine impl.AsmGet.ok (mpsNew fun m1 w1 hm1 b1 s1 e1 => mpiNew fun m2 w2 hm2 b2' s2 e2 => nw fun w3 b3' s3 c3 => ?_)
  have b2 := b1.trans (b2'.mono b1.size)
  have b3 := b2.trans (b3'.mono b2.size)
  have hs1 := b1.size
  have hs2 := b2'.size
  have a3 : AsS w.heap.size w2.heap.size w3 [] ([] : List Ins).length 0 0 (fun _ => none) (fun _ => none) :=
    ⟨⟨none, 0, 0⟩, m1, m2, c3, by omega, OwnS.nil _ _ _ _, (hm1.below b2').below b3', by
      obtain ⟨b, D, q1, q2, q3⟩ := hm2.below b3'
      exact ⟨b, D, q1, by omega, q3⟩, by rw [e1, e2]; simp; omega, fun z v h => by simp at h, fun i v h => by simp at h⟩
  refine ⟨fun w' => ∃ xs nW nT F T, xs.length ≤ 49 ∧ AsS w.heap.size w2.heap.size w' xs xs.length nW nT F T ∧ Below w.heap.size w w' ∧ (∀ L, formP L = 0 → textA L L.length = l → Done L xs F T), ?_, ?_⟩
  · refine ⟨fun rest w' => ∃ m xs nW nT F T, rest = bs m ∧ m.length ≤ l.length ∧ xs.length ≤ 49 ∧ nW + m.length ≤ l.length ∧ nT ≤ xs.length ∧ AsS w.heap.size w2.heap.size w' xs xs.length nW nT F T ∧ Below w.heap.size w w' ∧ (∀ L, formP L = 0 → textA L L.length = l → Pos L xs F T m),
      fun rest _ => rest.size, ⟨l, [], 0, 0, _, _, rfl, Nat.le_refl _, by simp, by omega, by simp, a3, b3, fun L _ he => by rw [← he]; exact Pos.start⟩, ?_⟩
    rintro rest w4 ⟨m, xs, nW, nT, F, T, rfl, hm, hx49, hnW, hnT, a4, b4, hL⟩ _
    rw [eqEmpty]
    refine ⟨fun w' => w' = w4 ∧ m ≠ [] ∧ xs.length ≤ 48, And.intro (fun h => ?_) (fun h => ?_), ?_⟩
    · have hne : m ≠ [] := by simpa using h
      obtain ⟨sl, mW, mT, hA, hr⟩ := id a4
      have hsn := hr.2.1.len
      refine ldB hA (j := 0) (l := .sl) (x := sl) rfl (And.intro (fun h2 => ⟨rfl, hne, ?_⟩) (fun h2 => ⟨xs, nW, nT, F, T, hx49, a4, b4, fun L hp he => ?_⟩))
      · simp only [decide_eq_true_eq] at h2; omega
      · exfalso
        simp only [decide_eq_false_iff_not] at h2
        have := (hL L hp he).len
        have := formP_size hp
        omega
    · have hm0 : m = [] := by simpa using h
      subst hm0
      exact ⟨xs, nW, nT, F, T, hx49, a4, b4, fun L hp he => (hL L hp he).fin⟩
    rintro w5 ⟨rfl, hne, hx48⟩ _
    refine cut.c (c := 10) (hte.below b4) (by omega) fun w6 b6' => ?_
    have b6 := b4.trans (b6'.mono b4.size)
    have hc1 := cut_len1 m 10
    have hc2 := cut_len m 10 hne
    refine impl.asm.take.t (fun w' hb => hte.below (b6.trans hb)) (a4.below b6') b6.size (by omega) hx49 (by omega) (by omega) fun ok w7 xs' nW' nT' F' T' b7' a7 h1 h2 h3 hmark hop => ?_
    have b7 := b6.trans b7'
    have both : ∀ L, formP L = 0 → textA L L.length = l → ok = true ∧ Pos L xs' F' T' (Lib.cut m [10]).2.1 := by
      intro L hp he
      obtain ⟨line, rest, e1, e2, hor⟩ := (hL L hp he).step hp hne
      have hcut := cut_cut (b := rest) e2
      rw [← e1] at hcut
      rw [hcut] at hmark hop ⊢
      rcases hor with ⟨z, hz, hpos⟩ | ⟨x, off, q1, q2, q3, hpos⟩
      · obtain ⟨r1, r2, r3, r4⟩ := hmark z hz
        exact ⟨r1, by rw [r2, r3, r4]; exact hpos⟩
      · obtain ⟨r1, r2, r3, r4⟩ := hop x off q1 q2 q3
        exact ⟨r1, by rw [r2, r3, r4]; exact hpos⟩
    refine And.intro (fun h => noK b7 fun L hp he => ?_) (fun h => ?_)
    · rw [(both L hp he).1] at h; simp at h
    · refine ⟨⟨_, xs', nW', nT', F', T', rfl, by omega, by omega, by omega, by omega, a7, b7, fun L hp he => (both L hp he).2⟩, ?_⟩
      show (bs (Lib.cut m [10]).2.1).size < (bs m).size
      rw [bs_size, bs_size]; exact hc2
  · rintro w4 ⟨xs, nW, nT, F, T, hx49, ⟨sl, mW, mT, hA4, hBA, o4, hmW4, hmT4, hne, hF, hT⟩, b4, hD⟩ _
    have hxn := o4.len
    refine ldB hA4 (j := 2) (l := .m) (x := mT) rfl (mpiRange (by kernel_rfl) hmT4 fun a w5 hr5 b5' => ?_)
    have b5 := b4.trans (b5'.mono b4.size)
    refine ⟨fun w' => ∃ ss ys, w'.heap[w2.heap.size]? = some (AsB sl mW mT) ∧ WrS kIns 39 w.heap.size w' sl ys ∧ MpS w.heap.size w' mW nW F ∧ RgI w.heap.size w4.heap.size w' mT a nT T ss ∧ Below w.heap.size w w' ∧ ys.length = xs.length ∧
        (∀ L, formP L = 0 → textA L L.length = l → ∀ (i : Nat) x, L[i]? = some x → ys[i]? = some (if (i : Int) ∈ ss then x else x.bare)), fun w' => rgl w' mT a,
      ⟨[], xs, (b5'.block _ (Array.getElem?_eq_some_iff.1 hA4).1).trans hA4, (o4.below b5').wr, hmW4.below b5', hr5, b5, rfl, fun L hp he i x hx => by simpa using (hD L hp he).2.1 i x hx⟩, ?_⟩
    rintro w6 ⟨ss, ys, hA6, hy6, hW6, hr6, b6, hyl, hL6⟩ _
    obtain ⟨ia, ib, ic, id', hit⟩ := hr6.ablk
    have hAa : w2.heap.size ≠ a.block := fun e => by rw [← e, hA6] at hit; simp [AsB] at hit
    refine mpiNext hr6 (fun x v w7 hx hnx hw hr7 hg7 hlt => ?_) (fun hall => ?_)
    · have hA7 := heapG hA6 hg7 (fun e => by simp only [Option.some.injEq] at e; exact hAa e.symm)
      have hy7 := hy6.kept hg7 (fun b hb e => by
        simp only [Option.some.injEq] at hb; subst hb
        obtain ⟨cur, hcur⟩ := wr_ty hy6 e
        rw [hcur] at hit; simp at hit)
      have hW7 := hW6.kept hg7 (fun e => by obtain ⟨es, ck, he⟩ := hW6.cell e; rw [he] at hit; simp at hit)
      have b7 := b6.grown hg7 b6.size (fun b hb => by simp only [Option.some.injEq] at hb; subst hb; have := hr6.blk.1; have := b4.size; omega)
      have hTx := hT x v hx
      refine ldB hA7 (j := 1) (l := .m) (x := mW) rfl (mpsGet (by kernel_rfl) hW7 (by simp only [maxLen]; omega) (fun hno => And.intro (fun _ => noK b7 fun L hp he => ?_) (fun h => by simp at h)) (fun too hto => And.intro (fun h => by simp at h) (fun _ => ?_)))
      · obtain ⟨d1, d2, d3, d4⟩ := hD L hp he
        obtain ⟨X, hX⟩ := get_some (l := L) (k := x.toNat) (by omega)
        have h4 := d4 x.toNat X hX
        rw [show ((x.toNat : Nat) : Int) = x by omega, hx] at h4
        by_cases hg : goesP X
        · rw [if_pos hg] at h4
          simp only [Option.some.injEq] at h4
          have htg := formP_tgt hp hX hg
          have := d3 _ (jmp_tgt hp hX hg) (by omega)
          rw [show ((x.toNat : Nat) : Int) = x by omega] at this
          rw [h4, this] at hno; simp at hno
        · rw [if_neg hg] at h4; simp at h4
      · have hFt := hF v too hto
        obtain ⟨y0, hy0⟩ := get_some (l := ys) (k := x.toNat) (by omega)
        refine ldB hA7 (j := 0) (l := .sl) (x := sl) rfl (ixStF hy7 (i := x) hTx.1 (x := y0) hy0 rfl (j := 3) (by decide) rfl ⟨y0.op, y0.dst, y0.src, IntKind.wrap .i64 (IntKind.wrap .i64 (too - x) - 1), y0.imm, y0.size⟩ rfl fun w8 hy8 hg8 hs8 => ?_)
        have hA8 := heapG hA7 hg8 (fun e => by
          obtain ⟨cur, hcur⟩ := wr_ty hy7 e
          rw [hA7] at hcur; simp only [AsB, Option.some.injEq, Obj.cells.injEq] at hcur
          exact tIA hcur.2.1.symm)
        have mk : ∀ {q : Nat}, sl.bk = some q → ∃ cur, w7.heap[q]? = some (.cells cur 39 (0, 0)) := fun e => wr_ty hy7 e
        obtain ⟨bW, DW, eW, _⟩ := id hW7
        have hW8 := hW7.kept hg8 (fun e => by
          obtain ⟨es, ck, he⟩ := hW7.cell eW
          obtain ⟨cur, hcur⟩ := mk (e.symm.trans eW)
          rw [he] at hcur; simp at hcur)
        obtain ⟨bT, rT, DT, lT, cT, eT, _⟩ := id hr7
        have hr8 := hr7.kept hg8 (fun e => by
          obtain ⟨es, ck, he⟩ := hr7.mblk eT
          obtain ⟨cur, hcur⟩ := mk (e.symm.trans eT)
          rw [he] at hcur; simp at hcur) (fun e => by
          obtain ⟨_, _, _, _, he⟩ := hr7.ablk
          obtain ⟨cur, hcur⟩ := mk e.symm
          rw [he] at hcur; simp at hcur)
        refine ⟨⟨ss ++ [x], _, hA8, hy8, hW8, hr8.1, b7.grown hg8 b7.size (fun b hb => (hy7.blk hb).1), by simp [hyl], fun L hp he i X hX => ?_⟩, by show rgl w8 mT a < rgl w6 mT a; rw [hr8.2]; exact hlt⟩
        have h6 := hL6 L hp he i X hX
        obtain ⟨d1, d2, d3, d4⟩ := hD L hp he
        by_cases hi : (i : Int) = x
        · have hix : i = x.toNat := by omega
          rw [if_pos (by simp [hi]), hix, List.getElem?_set_self (by omega)]
          have h4 := d4 i X hX
          rw [hi, hx] at h4
          by_cases hg : goesP X
          · rw [if_pos hg] at h4
            simp only [Option.some.injEq] at h4
            have htg := formP_tgt hp hX hg
            have hoff := (formP_ins hp (List.mem_of_getElem? hX)).2.2.1
            have h3 := d3 _ (jmp_tgt hp hX hg) (by omega)
            rw [hi] at h3 htg
            rw [h4, h3] at hto
            simp only [Option.some.injEq] at hto
            rw [if_neg (by rw [hi]; exact hnx), hix, hy0] at h6
            simp only [Option.some.injEq] at h6
            have hto2 : too = x + 1 + X.off := by unfold tgt at *; omega
            have ew : IntKind.wrap .i64 (IntKind.wrap .i64 (too - x) - 1) = X.off := by rw [i64_of (n := too - x) (by omega) (by omega), i64_of (by omega) (by omega)]; omega
            rw [ew, h6]
            unfold Ins.bare
            rw [if_pos hg]
          · rw [if_neg hg] at h4; simp at h4
        · rw [List.getElem?_set_ne (by omega), h6]
          have : ((i : Int) ∈ ss ++ [x]) ↔ (i : Int) ∈ ss := by simp [hi]
          simp only [this]
    · have hys : ∀ L, formP L = 0 → textA L L.length = l → ys = L := by
        intro L hp he
        obtain ⟨d1, d2, d3, d4⟩ := hD L hp he
        refine List.ext_getElem? fun i => ?_
        cases hX : L[i]? with
        | none =>
          have := List.getElem?_eq_none_iff.1 hX
          exact List.getElem?_eq_none (by omega)
        | some X =>
          rw [hL6 L hp he i X hX]
          by_cases hi : (i : Int) ∈ ss
          · rw [if_pos hi]
          · rw [if_neg hi]
            by_cases hg : goesP X
            · exfalso
              have h4 := d4 i X hX
              rw [if_pos hg] at h4
              exact hi (hall _ _ h4)
            · unfold Ins.bare; rw [if_neg hg]
      refine ldB hA6 (j := 0) (l := .sl) (x := sl) rfl (impl.ProgForm.c hy6.read (by omega) fun w7 b7' => ?_)
      have b7 := b6.trans (b7'.mono b6.size)
      have hA7 := (b7'.block _ (Array.getElem?_eq_some_iff.1 hA6).1).trans hA6
      refine And.intro (fun h => noK b7 fun L hp he => ?_) (fun h => ?_)
      · have := hys L hp he
        subst this
        rw [hp] at h; simp at h
      · have hp : formP ys = 0 := by simpa using h
        refine ldB hA7 (j := 0) (l := .sl) (x := sl) rfl (impl.AsmPut.c (ht.below b7) (hy6.below b7').read (by omega) fun w8 b8' => ?_)
        have b8 := b7.trans (b8'.mono b7.size)
        have hA8 := (b8'.block _ (Array.getElem?_eq_some_iff.1 hA7).1).trans hA7
        rw [putA_of hp, bs_toList, bs_toList]
        refine And.intro (fun h2 => noK b8 fun L hp2 he => ?_) (fun h2 => ?_)
        · have := hys L hp2 he
          subst this
          rw [he] at h2; simp at h2
        · have he : textA ys ys.length = l := by simpa using h2
          have hy8 := (hy6.below b7').below b8'
          refine ldB hA8 (j := 0) (l := .sl) (x := sl) rfl (slices.ClipI.c hy8.2.1 ?_)
          exact hk _ true w8 ys b8 hy8.clipI (fun _ => ⟨hp, he, hys⟩) (fun h => by simp at h)
end
end Go.Proofs.YteggdoigliddkaaGreatDoor.V
