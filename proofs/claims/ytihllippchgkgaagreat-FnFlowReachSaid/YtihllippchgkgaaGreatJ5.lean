/- Texts of one proof, put together in build order by pack.py (the last one states what is proved). -/
import Derived.Test.YtihllippchgkgaaGreatJ4
/- Verification conditions, printed by this session's own program (wip/vc.py) and checked by the kernel. -/
namespace Go.Proofs.YtihllippchgkgaaGreat.V
open Go Go.RowKit
set_option linter.unusedVariables false
/- (impl.Know).isPlace -/
def impl.Know.isPlace.pl : Pl := (.s (.r (D 2)) (.s (.r [.d, (.l (.lf (.i .i64))), (.c (.o (.lf .b))), .d]) .z))
def impl.Know.isPlace.vc (k : Tup (R 9 (.i .i64))) (w : World) (K : Bool → World → Prop) : Prop :=
Nw (Tup.cells (R 9 (.i .i64)) k).toArray 92 w fun a_k w_ =>
Ld (.i .i64) (Addr.add a_k 0) w_ fun (t4 : Int) w__1 =>
CallT (.o (.lf .b)) P0 26 [(.int .i64 t4), (.int .i64 2), (.int .i64 4)] w__1 fun (t5 : Bool) w__2 =>
K t5 w__2
theorem impl.Know.isPlace.ok {k : Tup (R 9 (.i .i64))} {w : World} {K : Bool → World → Prop} (h : impl.Know.isPlace.vc k w K) : CallT (.o (.lf .b)) P0 201 [(.agg (Tup.cells (R 9 (.i .i64)) k).toArray)] w K :=
  call_of Tryz.func201 rfl rfl (pl := impl.Know.isPlace.pl) (show VC P0 Tryz.f201 impl.Know.isPlace.pl (.o (.lf .b)) [(.agg (Tup.cells (R 9 (.i .i64)) k).toArray)] w K noP from Eq.mp (by kernel_rfl) h)
/- (impl.Know).isMaybe -/
def impl.Know.isMaybe.pl : Pl := (.s (.r (D 2)) (.s (.r [.d, (.l (.lf (.i .i64))), .d, (.sp .d), .d, (.l (.lf (.i .i64))), .d, .d, .d]) .z))
def impl.Know.isMaybe.vc (k : Tup (R 9 (.i .i64))) (w : World) (K : Bool → World → Prop) : Prop :=
Nw (Tup.cells (R 9 (.i .i64)) k).toArray 92 w fun a_k w_ =>
Ld (.i .i64) (Addr.add a_k 0) w_ fun (t4 : Int) w__1 =>
(((t4 : Int) == 5) = true → K true w__1) ∧
(((t4 : Int) == 5) = false → Ld (.i .i64) (Addr.add a_k 0) w__1 fun (t8 : Int) w__2 =>
K ((t8 : Int) == 7) w__2)
theorem impl.Know.isMaybe.ok {k : Tup (R 9 (.i .i64))} {w : World} {K : Bool → World → Prop} (h : impl.Know.isMaybe.vc k w K) : CallT (.o (.lf .b)) P0 173 [(.agg (Tup.cells (R 9 (.i .i64)) k).toArray)] w K :=
  call_of Tryz.func173 rfl rfl (pl := impl.Know.isMaybe.pl) (show VC P0 Tryz.f173 impl.Know.isMaybe.pl (.o (.lf .b)) [(.agg (Tup.cells (R 9 (.i .i64)) k).toArray)] w K noP from Eq.mp (by kernel_rfl) h)
/- (impl.proof).size -/
def impl.proof.size.pl : Pl := (.s (.r (D 2)) (.s (.s (.r [.d, (.l (.lf (.i .i64)))]) (.b (.s (.r (D 2)) (.c (.s (.r (D 1)) .z) (.s (.r (D 2)) (.c (.s (.r (D 1)) .z) .z)))))) (.s (.r [.d, .n, .d, (.l (.lf .sl)), .d, (.l (.lf (.i .i64))), .d, .d, (.l (.lf (.i .i64))), .d]) .z)))
def impl.proof.size.vc (p : Option Addr) (v : Tup (R 9 (.i .i64))) (w : World) (K : Int → World → Prop) : Prop :=
Nw (Tup.cells (R 9 (.i .i64)) v).toArray 92 w fun a_v w_ =>
Ld (.i .i64) (Addr.add a_v 0) w_ fun (t6 : Int) w__1 =>
(((t6 : Int) == 2) = true → K 16 w__1) ∧
(((t6 : Int) == 2) = false → (((t6 : Int) == 3) = true → K 12 w__1) ∧
(((t6 : Int) == 3) = false → ∃ a_t12, p = some a_t12 ∧ QLd .sl (Addr.add a_t12 1) (fun w' => Below (World.heap w__1).size w__1 w') fun (t14 : Sl) =>
QLd (.i .i64) (Addr.add a_v 7) (fun w' => Below (World.heap w__1).size w__1 w') fun (t16 : Int) =>
QIx t14.a t14.n t16 5 fun a_t17 =>
QLd (.i .i64) (Addr.add a_t17 1) (fun w' => Below (World.heap w__1).size w__1 w') fun (t19 : Int) =>
∀ w__2, Below (World.heap w__1).size w__1 w__2 →
K t19 w__2))
theorem impl.proof.size.ok {p : Option Addr} {v : Tup (R 9 (.i .i64))} {w : World} {K : Int → World → Prop} (h : impl.proof.size.vc p v w K) : CallT (.o (.lf (.i .i64))) P0 218 [(.pointer p), (.agg (Tup.cells (R 9 (.i .i64)) v).toArray)] w K :=
  call_of Tryz.func218 rfl rfl (pl := impl.proof.size.pl) (show VC P0 Tryz.f218 impl.proof.size.pl (.o (.lf (.i .i64))) [(.pointer p), (.agg (Tup.cells (R 9 (.i .i64)) v).toArray)] w K noP from Eq.mp (by kernel_rfl) h)
/- (impl.proof).fresh -/
def impl.proof.fresh.pl : Pl := (.s (.r (D 1)) (.s (.r [.d, .n, .d, (.l (.lf (.i .i64))), .d, .n, .d, .d]) (.s (.r [.d, .n, .d, (.l (.lf (.i .i64))), .d]) .z)))
def impl.proof.fresh.vc (p : Option Addr) (w : World) (K : Int → World → Prop) : Prop :=
Nc p w fun a_t4 w_ =>
Ld (.i .i64) (Addr.add a_t4 3) w_ fun (t6 : Int) w__1 =>
Nc p w__1 fun a_t8 w__2 =>
St (Addr.add a_t8 3) (.int .i64 (IntKind.wrap .i64 (t6 + 1))) w__2 fun w__3 =>
Nc p w__3 fun a_t11 w__4 =>
Ld (.i .i64) (Addr.add a_t11 3) w__4 fun (t13 : Int) w__5 =>
K t13 w__5
theorem impl.proof.fresh.ok {p : Option Addr} {w : World} {K : Int → World → Prop} (h : impl.proof.fresh.vc p w K) : CallT (.o (.lf (.i .i64))) P0 207 [(.pointer p)] w K :=
  call_of Tryz.func207 rfl rfl (pl := impl.proof.fresh.pl) (show VC P0 Tryz.f207 impl.proof.fresh.pl (.o (.lf (.i .i64))) [(.pointer p)] w K noP from Eq.mp (by kernel_rfl) h)
/- impl.begun -/
def impl.begun.pl : Pl := (.s (.r (D 1)) (.s (.r (D 3)) (.s (.r [.d, .d, (.t (.o (.lf .ad))), .d]) (.s (.r [.d, .d, (.t (.o (.lf .ad))), .d]) (.s (.r [(.l (.ag (R 99 (.i .i64) ++ R 16 .b ++ [.sl]))), .d]) .z)))))
def impl.begun.vc  (w : World) (K : Tup (R 99 (.i .i64) ++ R 16 .b ++ [.sl]) → World → Prop) : Prop :=
Nw (zc P0 95) 95 w fun a_t0 w_ =>
Nw (zc P0 95) 95 w_ fun a_k w__1 =>
StA P0 a_k [(.int .i64 0), (.int .i64 0), (.int .i64 0), (.int .i64 0), (.int .i64 0), (.int .i64 0), (.int .i64 0), (.int .i64 0), (.int .i64 0), (.int .i64 0), (.int .i64 0), (.int .i64 0), (.int .i64 0), (.int .i64 0), (.int .i64 0), (.int .i64 0), (.int .i64 0), (.int .i64 0), (.int .i64 0), (.int .i64 0), (.int .i64 0), (.int .i64 0), (.int .i64 0), (.int .i64 0), (.int .i64 0), (.int .i64 0), (.int .i64 0), (.int .i64 0), (.int .i64 0), (.int .i64 0), (.int .i64 0), (.int .i64 0), (.int .i64 0), (.int .i64 0), (.int .i64 0), (.int .i64 0), (.int .i64 0), (.int .i64 0), (.int .i64 0), (.int .i64 0), (.int .i64 0), (.int .i64 0), (.int .i64 0), (.int .i64 0), (.int .i64 0), (.int .i64 0), (.int .i64 0), (.int .i64 0), (.int .i64 0), (.int .i64 0), (.int .i64 0), (.int .i64 0), (.int .i64 0), (.int .i64 0), (.int .i64 0), (.int .i64 0), (.int .i64 0), (.int .i64 0), (.int .i64 0), (.int .i64 0), (.int .i64 0), (.int .i64 0), (.int .i64 0), (.int .i64 0), (.int .i64 0), (.int .i64 0), (.int .i64 0), (.int .i64 0), (.int .i64 0), (.int .i64 0), (.int .i64 0), (.int .i64 0), (.int .i64 0), (.int .i64 0), (.int .i64 0), (.int .i64 0), (.int .i64 0), (.int .i64 0), (.int .i64 0), (.int .i64 0), (.int .i64 0), (.int .i64 0), (.int .i64 0), (.int .i64 0), (.int .i64 0), (.int .i64 0), (.int .i64 0), (.int .i64 0), (.int .i64 0), (.int .i64 0), (.int .i64 0), (.int .i64 0), (.int .i64 0), (.int .i64 0), (.int .i64 0), (.int .i64 0), (.int .i64 0), (.int .i64 0), (.int .i64 0), (.bool false), (.bool false), (.bool false), (.bool false), (.bool false), (.bool false), (.bool false), (.bool false), (.bool false), (.bool false), (.bool false), (.bool false), (.bool false), (.bool false), (.bool false), (.bool false), (.slice none 0 0)] w__1 fun w__2 =>
RunT (.o (.lf .ad)) P0 (Instr.indexAt 93 (.pointer (some (Addr.add a_k 0))) (.int .i64 1)) w__2 fun (a_t5 : Addr) w__3 =>
StA P0 a_t5 [(.int .i64 3), (.int .i64 0), (.int .i64 0), (.int .i64 0), (.int .i64 0), (.int .i64 0), (.int .i64 0), (.int .i64 0), (.int .i64 0)] w__3 fun w__4 =>
RunT (.o (.lf .ad)) P0 (Instr.indexAt 93 (.pointer (some (Addr.add a_k 0))) (.int .i64 10)) w__4 fun (a_t8 : Addr) w__5 =>
StA P0 a_t8 [(.int .i64 2), (.int .i64 0), (.int .i64 0), (.int .i64 0), (.int .i64 0), (.int .i64 16), (.int .i64 16), (.int .i64 0), (.int .i64 0)] w__5 fun w__6 =>
LdA (R 99 (.i .i64) ++ R 16 .b ++ [.sl]) a_k w__6 fun (t9 : Tup (R 99 (.i .i64) ++ R 16 .b ++ [.sl])) w__7 =>
StA P0 a_t0 (Tup.cells (R 99 (.i .i64) ++ R 16 .b ++ [.sl]) t9) w__7 fun w__8 =>
LdA (R 99 (.i .i64) ++ R 16 .b ++ [.sl]) a_t0 w__8 fun r w__9 =>
K r w__8
theorem impl.begun.ok  {w : World} {K : Tup (R 99 (.i .i64) ++ R 16 .b ++ [.sl]) → World → Prop} (h : impl.begun.vc  w K) : CallT (.o (.ag (R 99 (.i .i64) ++ R 16 .b ++ [.sl]))) P0 93 [] w K :=
  call_of Tryz.func93 rfl rfl (pl := impl.begun.pl) (show VC P0 Tryz.f93 impl.begun.pl (.o (.ag (R 99 (.i .i64) ++ R 16 .b ++ [.sl]))) [] w K noP from Eq.mp (by kernel_rfl) h)
/- impl.live -/
def impl.live.pl : Pl := (.s (.r (D 1)) (.s (.r [.d, .d, (.t (.o (.lf .sl))), .d]) (.s (.s (.r (D 3)) (.b (.l [(3, .sl), (11, (.i .i64))] (.s (.r (D 1)) (.s (.c .z .z) (.s (.b (.s (.r [.d, .d, (.l (.lf .sl)), .d, .d]) (.s (.r (D 3)) (.c (.r [.d, .d, .d, (.t (.o (.lf .sl))), .d]) .z)))) (.r (D 2)))))))) (.s (.r [.d, .d, .d, .d, .d, (.t (.o (.lf .sl))), .d]) .z))))
def impl.live.vc (all : Sl) (w : World) (K : Sl → World → Prop) : Prop :=
RunT (.o (.lf .sl)) P0 (Instr.makeSlice 25 (.int .i64 0) (.int .i64 ((all.n : Nat) : Int))) w fun (t8 : Sl) w_ =>
∃ (I : Sl → Int → World → Prop) (M : Sl → Int → World → Nat),
I t8 0 w_ ∧
(∀ (out : Sl) (t11 : Int) w__1, I out t11 w__1 → ∀ _ : Nat → Value,
((decide ((t11 : Int) < ((all.n : Nat) : Int))) = true → Ix all.a all.n t11 1 w__1 fun a_t14 w__2 =>
Ld .sl a_t14 w__2 fun (t15 : Sl) w__3 =>
((decide ((((t15.n : Nat) : Int) : Int) > 0)) = true → Nw #[(.int .i64 t11)] 3 w__3 fun a_t21 w__4 =>
RunT (.o (.lf .sl)) P0 (Builtin.append_ #[25, 25] 25 #[out.v, (.slice (some a_t21) 1 1)]) w__4 fun (t22 : Sl) w__5 =>
(I t22 (IntKind.wrap .i64 (t11 + 1)) w__5 ∧ M t22 (IntKind.wrap .i64 (t11 + 1)) w__5 < M out t11 w__1)) ∧
((decide ((((t15.n : Nat) : Int) : Int) > 0)) = false → (I out (IntKind.wrap .i64 (t11 + 1)) w__3 ∧ M out (IntKind.wrap .i64 (t11 + 1)) w__3 < M out t11 w__1))) ∧
((decide ((t11 : Int) < ((all.n : Nat) : Int))) = false → RunT (.o (.lf .sl)) P0 (Instr.sliceAt 25 out.v none (some (.int .i64 ((out.n : Nat) : Int))) (some (.int .i64 ((out.n : Nat) : Int)))) w__1 fun (t29 : Sl) w__6 =>
K t29 w__6))
theorem impl.live.ok {all : Sl} {w : World} {K : Sl → World → Prop} (h : impl.live.vc all w K) : CallT (.o (.lf .sl)) P0 29 [all.v] w K :=
  call_of Tryz.func29 rfl rfl (pl := impl.live.pl) (show VC P0 Tryz.f29 impl.live.pl (.o (.lf .sl)) [all.v] w K noP from Eq.mp (by kernel_rfl) h)
/- impl.tablesOk -/
def impl.tablesOk.pl : Pl := (.s (.r (D 1)) (.s (.r [.d, .d, .d, (.sp .d), .d, (.c (.o (.lf .b))), .d, .d, .d]) .z))
def impl.tablesOk.vc (list : Sl) (w : World) (K : Bool → World → Prop) : Prop :=
((decide ((((list.n : Nat) : Int) : Int) ≤ 3)) = true → CallT (.o (.lf .b)) P0 72 [list.v, (.func (.func 73) #[] #[])] w fun (t8 : Bool) w_ =>
K (!t8) w_) ∧
((decide ((((list.n : Nat) : Int) : Int) ≤ 3)) = false → K false w)
theorem impl.tablesOk.ok {list : Sl} {w : World} {K : Bool → World → Prop} (h : impl.tablesOk.vc list w K) : CallT (.o (.lf .b)) P0 39 [list.v] w K :=
  call_of Tryz.func39 rfl rfl (pl := impl.tablesOk.pl) (show VC P0 Tryz.f39 impl.tablesOk.pl (.o (.lf .b)) [list.v] w K noP from Eq.mp (by kernel_rfl) h)
/- impl.fail -/
def impl.fail.pl : Pl := (.r (D 3))
def impl.fail.vc (code : Int) (w : World) (K : Unit → World → Prop) (Kp : List PanicEntry → World → Prop) : Prop :=
Kp [{ v := (.iface 109 (.int .i64 code)), recovered := false }] w
theorem impl.fail.ok {code : Int} {w : World} {K : Unit → World → Prop} {Kp : List PanicEntry → World → Prop} (h : impl.fail.vc code w K Kp) : CallP .z P0 99 [(.int .i64 code)] w K Kp :=
  callP_of Tryz.func99 rfl rfl (pl := impl.fail.pl) (show VC P0 Tryz.f99 impl.fail.pl .z [(.int .i64 code)] w K Kp from Eq.mp (by kernel_rfl) h)
/- impl.need -/
def impl.need.pl : Pl := (.s (.r (D 2)) (.c (.r [.d, (.cp .z)]) .z))
def impl.need.vc (is : Bool) (code : Int) (w : World) (K : Unit → World → Prop) (Kp : List PanicEntry → World → Prop) : Prop :=
((!is) = true → CallP .z P0 99 [(.int .i64 code)] w (fun (u : Unit) w_ =>
K () w_) Kp) ∧
((!is) = false → K () w)
theorem impl.need.ok {is : Bool} {code : Int} {w : World} {K : Unit → World → Prop} {Kp : List PanicEntry → World → Prop} (h : impl.need.vc is code w K Kp) : CallP .z P0 57 [(.bool is), (.int .i64 code)] w K Kp :=
  callP_of Tryz.func57 rfl rfl (pl := impl.need.pl) (show VC P0 Tryz.f57 impl.need.pl .z [(.bool is), (.int .i64 code)] w K Kp from Eq.mp (by kernel_rfl) h)
/- (impl.known).read -/
def impl.known.read.pl : Pl := (.s (.r (D 1)) (.s (.r [.d, .d, .n, .d, (.t (.o (.lf .ad))), .d, (.l (.lf (.i .i64))), .d, (.cp .z)]) (.s (.r [.d, .d, .n, .d, (.t (.o (.lf .ad))), (.l (.ag (R 9 (.i .i64)))), .d]) .z)))
def impl.known.read.vc (k : Option Addr) (reg : Int) (w : World) (K : Tup (R 9 (.i .i64)) → World → Prop) (Kp : List PanicEntry → World → Prop) : Prop :=
Nw (zc P0 92) 92 w fun a_t4 w_ =>
Nc k w_ fun a_t7 w__1 =>
RunT (.o (.lf .ad)) P0 (Instr.indexAt 93 (.pointer (some (Addr.add a_t7 0))) (.int .i64 reg)) w__1 fun (a_t9 : Addr) w__2 =>
Ld (.i .i64) (Addr.add a_t9 0) w__2 fun (t11 : Int) w__3 =>
CallP .z P0 57 [(.bool ((t11 : Int) != 0)), (.int .i64 2)] w__3 (fun (u : Unit) w__4 =>
Nc k w__4 fun a_t16 w__6 =>
RunT (.o (.lf .ad)) P0 (Instr.indexAt 93 (.pointer (some (Addr.add a_t16 0))) (.int .i64 reg)) w__6 fun (a_t18 : Addr) w__7 =>
LdA (R 9 (.i .i64)) a_t18 w__7 fun (t19 : Tup (R 9 (.i .i64))) w__8 =>
StA P0 a_t4 (Tup.cells (R 9 (.i .i64)) t19) w__8 fun w__9 =>
LdA (R 9 (.i .i64)) a_t4 w__9 fun r w__10 =>
K r w__9) Kp
theorem impl.known.read.ok {k : Option Addr} {reg : Int} {w : World} {K : Tup (R 9 (.i .i64)) → World → Prop} {Kp : List PanicEntry → World → Prop} (h : impl.known.read.vc k reg w K Kp) : CallP (.o (.ag (R 9 (.i .i64)))) P0 140 [(.pointer k), (.int .i64 reg)] w K Kp :=
  callP_of Tryz.func140 rfl rfl (pl := impl.known.read.pl) (show VC P0 Tryz.f140 impl.known.read.pl (.o (.ag (R 9 (.i .i64)))) [(.pointer k), (.int .i64 reg)] w K Kp from Eq.mp (by kernel_rfl) h)
/- (impl.known).operand -/
def impl.known.operand.pl : Pl := (.s (.r (D 2)) (.s (.s (.r [.d, (.l (.lf (.i .i64))), .d]) (.c (.s (.r [.d, (.l (.lf (.i .i64))), (.c (.o (.ag (R 4 (.i .i64))))), (.c (.o (.ag (R 9 (.i .i64))))), .d]) .z) .z)) (.s (.r [.d, .d, (.l (.lf (.i .i64))), (.cp (.o (.ag (R 9 (.i .i64))))), .d]) .z)))
def impl.known.operand.vc (k : Option Addr) (x : Tup (R 6 (.i .i64))) (w : World) (K : Tup (R 9 (.i .i64)) → World → Prop) (Kp : List PanicEntry → World → Prop) : Prop :=
Nw (Tup.cells (R 6 (.i .i64)) x).toArray 82 w fun a_x w_ =>
Nw (zc P0 92) 92 w_ fun a_t4 w__1 =>
Ld (.i .i64) (Addr.add a_x 2) w__1 fun (t6 : Int) w__2 =>
(((t6 : Int) == (-1)) = true → Ld (.i .i64) (Addr.add a_x 4) w__2 fun (t9 : Int) w__3 =>
CallT (.o (.ag (R 4 (.i .i64)))) P0 193 [(.int .i64 t9)] w__3 fun (t10 : Tup (R 4 (.i .i64))) w__4 =>
CallT (.o (.ag (R 9 (.i .i64)))) P0 192 [(.agg (Tup.cells (R 4 (.i .i64)) t10).toArray)] w__4 fun (t11 : Tup (R 9 (.i .i64))) w__5 =>
StA P0 a_t4 (Tup.cells (R 9 (.i .i64)) t11) w__5 fun w__6 =>
LdA (R 9 (.i .i64)) a_t4 w__6 fun r w__7 =>
K r w__6) ∧
(((t6 : Int) == (-1)) = false → Ld (.i .i64) (Addr.add a_x 2) w__2 fun (t14 : Int) w__8 =>
CallP (.o (.ag (R 9 (.i .i64)))) P0 140 [(.pointer k), (.int .i64 t14)] w__8 (fun (t15 : Tup (R 9 (.i .i64))) w__9 =>
StA P0 a_t4 (Tup.cells (R 9 (.i .i64)) t15) w__9 fun w__11 =>
LdA (R 9 (.i .i64)) a_t4 w__11 fun r_1 w__12 =>
K r_1 w__11) Kp)
theorem impl.known.operand.ok {k : Option Addr} {x : Tup (R 6 (.i .i64))} {w : World} {K : Tup (R 9 (.i .i64)) → World → Prop} {Kp : List PanicEntry → World → Prop} (h : impl.known.operand.vc k x w K Kp) : CallP (.o (.ag (R 9 (.i .i64)))) P0 172 [(.pointer k), (.agg (Tup.cells (R 6 (.i .i64)) x).toArray)] w K Kp :=
  callP_of Tryz.func172 rfl rfl (pl := impl.known.operand.pl) (show VC P0 Tryz.f172 impl.known.operand.pl (.o (.ag (R 9 (.i .i64)))) [(.pointer k), (.agg (Tup.cells (R 6 (.i .i64)) x).toArray)] w K Kp from Eq.mp (by kernel_rfl) h)
/- (impl.known).give -/
def impl.known.give.pl : Pl := (.s (.r (D 1)) (.s (.r [.d, .d, (.cp .z)]) (.g [(.q, []), (.q, []), ((.g (.o (.ag (R 9 (.i .i64)))) (.l (.ag (R 9 (.i .i64))))), []), ((.g (.o (.lf .ad)) .n), []), (.q, [3]), ((.g (.o (.lf .ad)) (.t (.o (.lf .ad)))), [3]), ((.g .z .d), [2, 5])] [])))
def impl.known.give.vc (k : Option Addr) (reg : Int) (v : Tup (R 9 (.i .i64))) (w : World) (K : Unit → World → Prop) (Kp : List PanicEntry → World → Prop) : Prop :=
Nw (Tup.cells (R 9 (.i .i64)) v).toArray 92 w fun a_v w_ =>
CallP .z P0 57 [(.bool ((reg : Int) != 10)), (.int .i64 3)] w_ (fun (u : Unit) w__1 =>
∃ Sp : World → World → Prop, SpOk Sp w__1 ∧
∃ G_t11 : Tup (R 9 (.i .i64)) → World → Prop, Kept Sp G_t11 ∧
∃ G_t12 : Addr → World → Prop, Kept Sp G_t12 ∧
∃ G_t14 : Addr → World → Prop, Kept Sp G_t14 ∧
∃ G_st : Unit → World → Prop, Kept Sp G_st ∧
(∀ w__3, Sp w__1 w__3 → LdA (R 9 (.i .i64)) a_v w__3 fun (t11 : Tup (R 9 (.i .i64))) w__4 =>
GK (.o (.ag (R 9 (.i .i64)))) Sp w__3 G_t11 (.agg (Tup.cells (R 9 (.i .i64)) t11).toArray) w__4) ∧
∀ (t11_1 : Tup (R 9 (.i .i64))), (∀ w__5, Sp w__1 w__5 → Nc k w__5 fun a_t12 w__6 =>
GK (.o (.lf .ad)) Sp w__5 G_t12 (.pointer (some a_t12)) w__6) ∧
∀ (t12 : Addr), (∀ w__7, Sp w__1 w__7 → G_t12 t12 w__7 → RunT (.o (.lf .ad)) P0 (Instr.indexAt 93 (.pointer (some (Addr.add t12 0))) (.int .i64 reg)) w__7 fun (a_t14 : Addr) w__8 =>
GK (.o (.lf .ad)) Sp w__7 G_t14 (.pointer (some a_t14)) w__8) ∧
∀ (t14 : Addr), (∀ w__9, Sp w__1 w__9 → G_t11 t11_1 w__9 → G_t14 t14 w__9 → StA P0 t14 (Tup.cells (R 9 (.i .i64)) t11_1) w__9 fun w__10 =>
GK .z Sp w__9 G_st (.tuple #[]) w__10) ∧
∀ (st : Unit), ∀ w__11, Sp w__1 w__11 → G_t11 t11_1 w__11 → G_t12 t12 w__11 → G_t14 t14 w__11 → G_st st w__11 → 
K () w__11) Kp
theorem impl.known.give.ok {k : Option Addr} {reg : Int} {v : Tup (R 9 (.i .i64))} {w : World} {K : Unit → World → Prop} {Kp : List PanicEntry → World → Prop} (h : impl.known.give.vc k reg v w K Kp) : CallP .z P0 200 [(.pointer k), (.int .i64 reg), (.agg (Tup.cells (R 9 (.i .i64)) v).toArray)] w K Kp :=
  callP_of Tryz.func200 rfl rfl (pl := impl.known.give.pl) (show VC P0 Tryz.f200 impl.known.give.pl .z [(.pointer k), (.int .i64 reg), (.agg (Tup.cells (R 9 (.i .i64)) v).toArray)] w K Kp from Eq.mp (by kernel_rfl) h)
/- (impl.Know).number -/
def impl.Know.number.pl : Pl := (.s (.r (D 2)) (.s (.r [.d, (.l (.lf (.i .i64))), .d, (.cp .z)]) (.s (.r [.d, (.l (.ag (R 4 (.i .i64)))), .d]) .z)))
def impl.Know.number.vc (v : Tup (R 9 (.i .i64))) (w : World) (K : Tup (R 4 (.i .i64)) → World → Prop) (Kp : List PanicEntry → World → Prop) : Prop :=
Nw (Tup.cells (R 9 (.i .i64)) v).toArray 92 w fun a_v w_ =>
Nw (zc P0 90) 90 w_ fun a_t2 w__1 =>
Ld (.i .i64) (Addr.add a_v 0) w__1 fun (t4 : Int) w__2 =>
CallP .z P0 57 [(.bool ((t4 : Int) == 1)), (.int .i64 3)] w__2 (fun (u : Unit) w__3 =>
LdA (R 4 (.i .i64)) (Addr.add a_v 1) w__3 fun (t8 : Tup (R 4 (.i .i64))) w__5 =>
StA P0 a_t2 (Tup.cells (R 4 (.i .i64)) t8) w__5 fun w__6 =>
LdA (R 4 (.i .i64)) a_t2 w__6 fun r w__7 =>
K r w__6) Kp
theorem impl.Know.number.ok {v : Tup (R 9 (.i .i64))} {w : World} {K : Tup (R 4 (.i .i64)) → World → Prop} {Kp : List PanicEntry → World → Prop} (h : impl.Know.number.vc v w K Kp) : CallP (.o (.ag (R 4 (.i .i64)))) P0 141 [(.agg (Tup.cells (R 9 (.i .i64)) v).toArray)] w K Kp :=
  callP_of Tryz.func141 rfl rfl (pl := impl.Know.number.pl) (show VC P0 Tryz.f141 impl.Know.number.pl (.o (.ag (R 4 (.i .i64)))) [(.agg (Tup.cells (R 9 (.i .i64)) v).toArray)] w K Kp from Eq.mp (by kernel_rfl) h)
/- (impl.Know).shift -/
def impl.Know.shift.pl : Pl := (.s (.r (D 3)) (.s (.r [.d, (.l (.lf (.i .i64))), (.c (.o (.lf (.i .i64)))), .d, (.l (.lf (.i .i64))), (.c (.o (.lf (.i .i64)))), .d, .d]) (.s (.r [.d, .d, .d, (.cp .z)]) (.j [(7, (.i .i64)), (8, (.i .i64))] (.s (.r (D 2)) (.c (.r (D 6)) .z)) (.s (.r [.d, (.l (.lf (.i .i64))), .d, .d, .d, .d]) (.s (.r [.d, (.l (.lf (.i .i64))), .d, .d, .d, .d]) (.s (.r [.d, (.l (.lf (.i .i64))), (.c (.o (.lf .b))), (.sp .d), .d, (.l (.lf (.i .i64))), (.c (.o (.lf .b))), .d, (.cp .z)]) (.s (.r [(.l (.ag (R 9 (.i .i64)))), .d]) .z))))))))
def impl.Know.shift.vc (v : Tup (R 9 (.i .i64))) (op : Int) (r : Tup (R 4 (.i .i64))) (w : World) (K : Tup (R 9 (.i .i64)) → World → Prop) (Kp : List PanicEntry → World → Prop) : Prop :=
Nw (Tup.cells (R 9 (.i .i64)) v).toArray 92 w fun a_v w_ =>
Nw (Tup.cells (R 4 (.i .i64)) r).toArray 90 w_ fun a_r w__1 =>
Nw (zc P0 92) 92 w__1 fun a_t6 w__2 =>
QLd (.i .i64) (Addr.add a_r 0) (fun w' => Below (World.heap w__2).size w__2 w') fun (t10 : Int) =>
QCl (.o (.lf (.i .i64))) P0 181 [(.int .i64 t10)] (fun w' => Below (World.heap w__2).size w__2 w') fun (t11 : Int) =>
QLd (.i .i64) (Addr.add a_r 1) (fun w' => Below (World.heap w__2).size w__2 w') fun (t13 : Int) =>
QCl (.o (.lf (.i .i64))) P0 181 [(.int .i64 t13)] (fun w' => Below (World.heap w__2).size w__2 w') fun (t14 : Int) =>
∀ w__3, Below (World.heap w__2).size w__2 w__3 →
CallP .z P0 57 [(.bool (decide ((t11 : Int) ≤ t14))), (.int .i64 4)] w__3 (fun (u : Unit) w__4 =>
∃ J : Int → Int → World → Prop,
((((op : Int) == 3) = true → J (IntKind.wrap .i64 (0 - t14)) (IntKind.wrap .i64 (0 - t11)) w__4) ∧
(((op : Int) == 3) = false → J t11 t14 w__4)) ∧
(∀ (least : Int) (most : Int) w__6, J least most w__6 → ∀ _ : Nat → Value,
Ld (.i .i64) (Addr.add a_v 5) w__6 fun (t26 : Int) w__7 =>
St (Addr.add a_v 5) (.int .i64 (IntKind.wrap .i64 (t26 + least))) w__7 fun w__8 =>
Ld (.i .i64) (Addr.add a_v 6) w__8 fun (t31 : Int) w__9 =>
St (Addr.add a_v 6) (.int .i64 (IntKind.wrap .i64 (t31 + most))) w__9 fun w__10 =>
Ld (.i .i64) (Addr.add a_v 5) w__10 fun (t36 : Int) w__11 =>
CallT (.o (.lf .b)) P0 26 [(.int .i64 t36), (.int .i64 (-1000000)), (.int .i64 1000000)] w__11 fun (t37 : Bool) w__12 =>
(t37 = true → Ld (.i .i64) (Addr.add a_v 6) w__12 fun (t40 : Int) w__13 =>
CallT (.o (.lf .b)) P0 26 [(.int .i64 t40), (.int .i64 (-1000000)), (.int .i64 1000000)] w__13 fun (t41 : Bool) w__14 =>
CallP .z P0 57 [(.bool t41), (.int .i64 4)] w__14 (fun (u_1 : Unit) w__15 =>
LdA (R 9 (.i .i64)) a_v w__15 fun (t44 : Tup (R 9 (.i .i64))) w__17 =>
StA P0 a_t6 (Tup.cells (R 9 (.i .i64)) t44) w__17 fun w__18 =>
LdA (R 9 (.i .i64)) a_t6 w__18 fun r_1 w__19 =>
K r_1 w__18) Kp) ∧
(t37 = false → CallP .z P0 57 [(.bool false), (.int .i64 4)] w__12 (fun (u_2 : Unit) w__20 =>
LdA (R 9 (.i .i64)) a_v w__20 fun (t44_1 : Tup (R 9 (.i .i64))) w__22 =>
StA P0 a_t6 (Tup.cells (R 9 (.i .i64)) t44_1) w__22 fun w__23 =>
LdA (R 9 (.i .i64)) a_t6 w__23 fun r_2 w__24 =>
K r_2 w__23) Kp))) Kp
theorem impl.Know.shift.ok {v : Tup (R 9 (.i .i64))} {op : Int} {r : Tup (R 4 (.i .i64))} {w : World} {K : Tup (R 9 (.i .i64)) → World → Prop} {Kp : List PanicEntry → World → Prop} (h : impl.Know.shift.vc v op r w K Kp) : CallP (.o (.ag (R 9 (.i .i64)))) P0 202 [(.agg (Tup.cells (R 9 (.i .i64)) v).toArray), (.int .i64 op), (.agg (Tup.cells (R 4 (.i .i64)) r).toArray)] w K Kp :=
  callP_of Tryz.func202 rfl rfl (pl := impl.Know.shift.pl) (show VC P0 Tryz.f202 impl.Know.shift.pl (.o (.ag (R 9 (.i .i64)))) [(.agg (Tup.cells (R 9 (.i .i64)) v).toArray), (.int .i64 op), (.agg (Tup.cells (R 4 (.i .i64)) r).toArray)] w K Kp from Eq.mp (by kernel_rfl) h)
/- (impl.known).reckons -/
def impl.known.reckons.pl : Pl := (.s (.r (D 1)) (.s (.s (.r [.d, (.l (.lf (.i .i64))), .d]) (.c (.s (.g [(.q, []), (.q, []), ((.g (.o (.lf (.i .i64))) (.l (.lf (.i .i64)))), []), (.q, []), ((.g (.o (.ag (R 6 (.i .i64)))) (.l (.ag (R 6 (.i .i64))))), []), ((.g (.o (.ag (R 9 (.i .i64)))) (.cp (.o (.ag (R 9 (.i .i64)))))), [4]), ((.g (.n []) (.cp .z)), [2, 5])] []) .z) .z)) (.s (.r [.d, .d, (.l (.lf (.i .i64))), (.cp (.o (.ag (R 9 (.i .i64))))), .d, .d]) (.s (.r [.d, (.l (.ag (R 6 (.i .i64)))), (.cp (.o (.ag (R 9 (.i .i64))))), .d, .d]) (.s (.j [(34, .b)] (.r [(.l (.ag (R 9 (.i .i64)))), (.c (.o (.lf .b))), (.sp .d), .d, (.l (.lf (.i .i64))), .d, (.sp .d), .d, (.l (.lf (.i .i64))), .d, .d, .d]) (.c (.s (.g [(.q, []), (.q, []), ((.g (.o (.lf (.i .i64))) (.l (.lf (.i .i64)))), []), ((.g (.o (.ag (R 9 (.i .i64)))) (.l (.ag (R 9 (.i .i64))))), []), (.q, []), ((.g (.o (.lf (.i .i64))) (.l (.lf (.i .i64)))), []), ((.g (.o (.ag (R 9 (.i .i64)))) (.l (.ag (R 9 (.i .i64))))), []), ((.g (.o (.ag (R 4 (.i .i64)))) (.cp (.o (.ag (R 4 (.i .i64)))))), [6]), ((.g (.o (.ag (R 9 (.i .i64)))) (.cp (.o (.ag (R 9 (.i .i64)))))), [3, 5, 7]), ((.g (.n []) (.cp .z)), [2, 8])] []) .z) .z)) (.g [(.q, []), (.q, []), ((.g (.o (.lf (.i .i64))) (.l (.lf (.i .i64)))), []), (.q, []), ((.g (.o (.lf (.i .i64))) (.l (.lf (.i .i64)))), []), ((.g (.o (.ag (R 9 (.i .i64)))) (.l (.ag (R 9 (.i .i64))))), []), ((.g (.o (.ag (R 4 (.i .i64)))) (.cp (.o (.ag (R 4 (.i .i64)))))), [5]), ((.g (.o (.ag (R 9 (.i .i64)))) (.l (.ag (R 9 (.i .i64))))), []), ((.g (.o (.ag (R 4 (.i .i64)))) (.cp (.o (.ag (R 4 (.i .i64)))))), [7]), ((.g (.o (.ag (R 4 (.i .i64)))) (.c (.o (.ag (R 4 (.i .i64)))))), [4, 6, 8]), ((.g (.o (.ag (R 9 (.i .i64)))) (.c (.o (.ag (R 9 (.i .i64)))))), [9]), ((.g (.n []) (.cp .z)), [2, 10])] []))))))
set_option maxHeartbeats 4000000 in
def impl.known.reckons.vc (k : Option Addr) (x : Tup (R 6 (.i .i64))) (w : World) (K : Unit → World → Prop) (Kp : List PanicEntry → World → Prop) : Prop :=
Nw (Tup.cells (R 6 (.i .i64)) x).toArray 82 w fun a_x w_ =>
Ld (.i .i64) (Addr.add a_x 0) w_ fun (t7 : Int) w__1 =>
(((t7 : Int) == 1) = true → ∃ Sp : World → World → Prop, SpOk Sp w__1 ∧
∃ G_t11 : Int → World → Prop, Kept Sp G_t11 ∧
∃ G_t13 : Tup (R 6 (.i .i64)) → World → Prop, Kept Sp G_t13 ∧
∃ G_t14 : Tup (R 9 (.i .i64)) → World → Prop, Kept Sp G_t14 ∧
∃ G_t15 : Unit → World → Prop, Kept Sp G_t15 ∧
(∀ w__2, Sp w__1 w__2 → Ld (.i .i64) (Addr.add a_x 1) w__2 fun (t11 : Int) w__3 =>
GK (.o (.lf (.i .i64))) Sp w__2 G_t11 (.int .i64 t11) w__3) ∧
∀ (t11_1 : Int), (∀ w__4, Sp w__1 w__4 → LdA (R 6 (.i .i64)) a_x w__4 fun (t13 : Tup (R 6 (.i .i64))) w__5 =>
GK (.o (.ag (R 6 (.i .i64)))) Sp w__4 G_t13 (.agg (Tup.cells (R 6 (.i .i64)) t13).toArray) w__5) ∧
∀ (t13_1 : Tup (R 6 (.i .i64))), (∀ w__6, Sp w__1 w__6 → G_t13 t13_1 w__6 → CallP (.o (.ag (R 9 (.i .i64)))) P0 172 [(.pointer k), (.agg (Tup.cells (R 6 (.i .i64)) t13_1).toArray)] w__6 (fun (t14 : Tup (R 9 (.i .i64))) w__7 =>
GK (.o (.ag (R 9 (.i .i64)))) Sp w__6 G_t14 (.agg (Tup.cells (R 9 (.i .i64)) t14).toArray) w__7) (fun ch w' => ∀ _ : Env, Kp ch w')) ∧
∀ (t14_1 : Tup (R 9 (.i .i64))), (∀ w__9, Sp w__1 w__9 → G_t11 t11_1 w__9 → G_t14 t14_1 w__9 → CallP .z P0 200 [(.pointer k), (.int .i64 t11_1), (.agg (Tup.cells (R 9 (.i .i64)) t14_1).toArray)] w__9 (fun (u : Unit) w__10 =>
GK (.n []) Sp w__9 G_t15 (.tuple #[]) w__10) (fun ch w' => ∀ _ : Env, Kp ch w')) ∧
∀ (t15 : Unit), ∀ w__12, Sp w__1 w__12 → G_t11 t11_1 w__12 → G_t13 t13_1 w__12 → G_t14 t14_1 w__12 → G_t15 t15 w__12 → 
K () w__12) ∧
(((t7 : Int) == 1) = false → Ld (.i .i64) (Addr.add a_x 1) w__1 fun (t18 : Int) w__13 =>
CallP (.o (.ag (R 9 (.i .i64)))) P0 140 [(.pointer k), (.int .i64 t18)] w__13 (fun (t19 : Tup (R 9 (.i .i64))) w__14 =>
Nw (zc P0 92) 92 w__14 fun a_a w__16 =>
StA P0 a_a (Tup.cells (R 9 (.i .i64)) t19) w__16 fun w__17 =>
LdA (R 6 (.i .i64)) a_x w__17 fun (t21 : Tup (R 6 (.i .i64))) w__18 =>
CallP (.o (.ag (R 9 (.i .i64)))) P0 172 [(.pointer k), (.agg (Tup.cells (R 6 (.i .i64)) t21).toArray)] w__18 (fun (t22 : Tup (R 9 (.i .i64))) w__19 =>
Nw (zc P0 92) 92 w__19 fun a_b w__21 =>
StA P0 a_b (Tup.cells (R 9 (.i .i64)) t22) w__21 fun w__22 =>
∃ J : Bool → World → Prop,
(LdA (R 9 (.i .i64)) a_a w__22 fun (t23 : Tup (R 9 (.i .i64))) w__23 =>
CallT (.o (.lf .b)) P0 201 [(.agg (Tup.cells (R 9 (.i .i64)) t23).toArray)] w__23 fun (t24 : Bool) w__24 =>
(t24 = true → Ld (.i .i64) (Addr.add a_x 0) w__24 fun (t27 : Int) w__25 =>
(((t27 : Int) == 2) = true → J true w__25) ∧
(((t27 : Int) == 2) = false → Ld (.i .i64) (Addr.add a_x 0) w__25 fun (t31 : Int) w__26 =>
J ((t31 : Int) == 3) w__26)) ∧
(t24 = false → J false w__24)) ∧
(∀ (t34 : Bool) w__27, J t34 w__27 → ∀ _ : Nat → Value,
(t34 = true → ∃ Sp_1 : World → World → Prop, SpOk Sp_1 w__27 ∧
∃ G_t37 : Int → World → Prop, Kept Sp_1 G_t37 ∧
∃ G_t38 : Tup (R 9 (.i .i64)) → World → Prop, Kept Sp_1 G_t38 ∧
∃ G_t40 : Int → World → Prop, Kept Sp_1 G_t40 ∧
∃ G_t41 : Tup (R 9 (.i .i64)) → World → Prop, Kept Sp_1 G_t41 ∧
∃ G_t42 : Tup (R 4 (.i .i64)) → World → Prop, Kept Sp_1 G_t42 ∧
∃ G_t43 : Tup (R 9 (.i .i64)) → World → Prop, Kept Sp_1 G_t43 ∧
∃ G_t44 : Unit → World → Prop, Kept Sp_1 G_t44 ∧
(∀ w__28, Sp_1 w__27 w__28 → Ld (.i .i64) (Addr.add a_x 1) w__28 fun (t37 : Int) w__29 =>
GK (.o (.lf (.i .i64))) Sp_1 w__28 G_t37 (.int .i64 t37) w__29) ∧
∀ (t37_1 : Int), (∀ w__30, Sp_1 w__27 w__30 → LdA (R 9 (.i .i64)) a_a w__30 fun (t38 : Tup (R 9 (.i .i64))) w__31 =>
GK (.o (.ag (R 9 (.i .i64)))) Sp_1 w__30 G_t38 (.agg (Tup.cells (R 9 (.i .i64)) t38).toArray) w__31) ∧
∀ (t38_1 : Tup (R 9 (.i .i64))), (∀ w__32, Sp_1 w__27 w__32 → Ld (.i .i64) (Addr.add a_x 0) w__32 fun (t40 : Int) w__33 =>
GK (.o (.lf (.i .i64))) Sp_1 w__32 G_t40 (.int .i64 t40) w__33) ∧
∀ (t40_1 : Int), (∀ w__34, Sp_1 w__27 w__34 → LdA (R 9 (.i .i64)) a_b w__34 fun (t41 : Tup (R 9 (.i .i64))) w__35 =>
GK (.o (.ag (R 9 (.i .i64)))) Sp_1 w__34 G_t41 (.agg (Tup.cells (R 9 (.i .i64)) t41).toArray) w__35) ∧
∀ (t41_1 : Tup (R 9 (.i .i64))), (∀ w__36, Sp_1 w__27 w__36 → G_t41 t41_1 w__36 → CallP (.o (.ag (R 4 (.i .i64)))) P0 141 [(.agg (Tup.cells (R 9 (.i .i64)) t41_1).toArray)] w__36 (fun (t42 : Tup (R 4 (.i .i64))) w__37 =>
GK (.o (.ag (R 4 (.i .i64)))) Sp_1 w__36 G_t42 (.agg (Tup.cells (R 4 (.i .i64)) t42).toArray) w__37) (fun ch w' => ∀ _ : Env, Kp ch w')) ∧
∀ (t42_1 : Tup (R 4 (.i .i64))), (∀ w__39, Sp_1 w__27 w__39 → G_t38 t38_1 w__39 → G_t40 t40_1 w__39 → G_t42 t42_1 w__39 → CallP (.o (.ag (R 9 (.i .i64)))) P0 202 [(.agg (Tup.cells (R 9 (.i .i64)) t38_1).toArray), (.int .i64 t40_1), (.agg (Tup.cells (R 4 (.i .i64)) t42_1).toArray)] w__39 (fun (t43 : Tup (R 9 (.i .i64))) w__40 =>
GK (.o (.ag (R 9 (.i .i64)))) Sp_1 w__39 G_t43 (.agg (Tup.cells (R 9 (.i .i64)) t43).toArray) w__40) (fun ch w' => ∀ _ : Env, Kp ch w')) ∧
∀ (t43_1 : Tup (R 9 (.i .i64))), (∀ w__42, Sp_1 w__27 w__42 → G_t37 t37_1 w__42 → G_t43 t43_1 w__42 → CallP .z P0 200 [(.pointer k), (.int .i64 t37_1), (.agg (Tup.cells (R 9 (.i .i64)) t43_1).toArray)] w__42 (fun (u_1 : Unit) w__43 =>
GK (.n []) Sp_1 w__42 G_t44 (.tuple #[]) w__43) (fun ch w' => ∀ _ : Env, Kp ch w')) ∧
∀ (t44 : Unit), ∀ w__45, Sp_1 w__27 w__45 → G_t37 t37_1 w__45 → G_t38 t38_1 w__45 → G_t40 t40_1 w__45 → G_t41 t41_1 w__45 → G_t42 t42_1 w__45 → G_t43 t43_1 w__45 → G_t44 t44 w__45 → 
K () w__45) ∧
(t34 = false → ∃ Sp_2 : World → World → Prop, SpOk Sp_2 w__27 ∧
∃ G_t47 : Int → World → Prop, Kept Sp_2 G_t47 ∧
∃ G_t49 : Int → World → Prop, Kept Sp_2 G_t49 ∧
∃ G_t50 : Tup (R 9 (.i .i64)) → World → Prop, Kept Sp_2 G_t50 ∧
∃ G_t51 : Tup (R 4 (.i .i64)) → World → Prop, Kept Sp_2 G_t51 ∧
∃ G_t52 : Tup (R 9 (.i .i64)) → World → Prop, Kept Sp_2 G_t52 ∧
∃ G_t53 : Tup (R 4 (.i .i64)) → World → Prop, Kept Sp_2 G_t53 ∧
∃ G_t54 : Tup (R 4 (.i .i64)) → World → Prop, Kept Sp_2 G_t54 ∧
∃ G_t55 : Tup (R 9 (.i .i64)) → World → Prop, Kept Sp_2 G_t55 ∧
∃ G_t56 : Unit → World → Prop, Kept Sp_2 G_t56 ∧
(∀ w__46, Sp_2 w__27 w__46 → Ld (.i .i64) (Addr.add a_x 1) w__46 fun (t47 : Int) w__47 =>
GK (.o (.lf (.i .i64))) Sp_2 w__46 G_t47 (.int .i64 t47) w__47) ∧
∀ (t47_1 : Int), (∀ w__48, Sp_2 w__27 w__48 → Ld (.i .i64) (Addr.add a_x 0) w__48 fun (t49 : Int) w__49 =>
GK (.o (.lf (.i .i64))) Sp_2 w__48 G_t49 (.int .i64 t49) w__49) ∧
∀ (t49_1 : Int), (∀ w__50, Sp_2 w__27 w__50 → LdA (R 9 (.i .i64)) a_a w__50 fun (t50 : Tup (R 9 (.i .i64))) w__51 =>
GK (.o (.ag (R 9 (.i .i64)))) Sp_2 w__50 G_t50 (.agg (Tup.cells (R 9 (.i .i64)) t50).toArray) w__51) ∧
∀ (t50_1 : Tup (R 9 (.i .i64))), (∀ w__52, Sp_2 w__27 w__52 → G_t50 t50_1 w__52 → CallP (.o (.ag (R 4 (.i .i64)))) P0 141 [(.agg (Tup.cells (R 9 (.i .i64)) t50_1).toArray)] w__52 (fun (t51 : Tup (R 4 (.i .i64))) w__53 =>
GK (.o (.ag (R 4 (.i .i64)))) Sp_2 w__52 G_t51 (.agg (Tup.cells (R 4 (.i .i64)) t51).toArray) w__53) (fun ch w' => ∀ _ : Env, Kp ch w')) ∧
∀ (t51_1 : Tup (R 4 (.i .i64))), (∀ w__55, Sp_2 w__27 w__55 → LdA (R 9 (.i .i64)) a_b w__55 fun (t52 : Tup (R 9 (.i .i64))) w__56 =>
GK (.o (.ag (R 9 (.i .i64)))) Sp_2 w__55 G_t52 (.agg (Tup.cells (R 9 (.i .i64)) t52).toArray) w__56) ∧
∀ (t52_1 : Tup (R 9 (.i .i64))), (∀ w__57, Sp_2 w__27 w__57 → G_t52 t52_1 w__57 → CallP (.o (.ag (R 4 (.i .i64)))) P0 141 [(.agg (Tup.cells (R 9 (.i .i64)) t52_1).toArray)] w__57 (fun (t53 : Tup (R 4 (.i .i64))) w__58 =>
GK (.o (.ag (R 4 (.i .i64)))) Sp_2 w__57 G_t53 (.agg (Tup.cells (R 4 (.i .i64)) t53).toArray) w__58) (fun ch w' => ∀ _ : Env, Kp ch w')) ∧
∀ (t53_1 : Tup (R 4 (.i .i64))), (∀ w__60, Sp_2 w__27 w__60 → G_t49 t49_1 w__60 → G_t51 t51_1 w__60 → G_t53 t53_1 w__60 → CallT (.o (.ag (R 4 (.i .i64)))) P0 203 [(.int .i64 t49_1), (.agg (Tup.cells (R 4 (.i .i64)) t51_1).toArray), (.agg (Tup.cells (R 4 (.i .i64)) t53_1).toArray)] w__60 fun (t54 : Tup (R 4 (.i .i64))) w__61 =>
GK (.o (.ag (R 4 (.i .i64)))) Sp_2 w__60 G_t54 (.agg (Tup.cells (R 4 (.i .i64)) t54).toArray) w__61) ∧
∀ (t54_1 : Tup (R 4 (.i .i64))), (∀ w__62, Sp_2 w__27 w__62 → G_t54 t54_1 w__62 → CallT (.o (.ag (R 9 (.i .i64)))) P0 192 [(.agg (Tup.cells (R 4 (.i .i64)) t54_1).toArray)] w__62 fun (t55 : Tup (R 9 (.i .i64))) w__63 =>
GK (.o (.ag (R 9 (.i .i64)))) Sp_2 w__62 G_t55 (.agg (Tup.cells (R 9 (.i .i64)) t55).toArray) w__63) ∧
∀ (t55_1 : Tup (R 9 (.i .i64))), (∀ w__64, Sp_2 w__27 w__64 → G_t47 t47_1 w__64 → G_t55 t55_1 w__64 → CallP .z P0 200 [(.pointer k), (.int .i64 t47_1), (.agg (Tup.cells (R 9 (.i .i64)) t55_1).toArray)] w__64 (fun (u_2 : Unit) w__65 =>
GK (.n []) Sp_2 w__64 G_t56 (.tuple #[]) w__65) (fun ch w' => ∀ _ : Env, Kp ch w')) ∧
∀ (t56 : Unit), ∀ w__67, Sp_2 w__27 w__67 → G_t47 t47_1 w__67 → G_t49 t49_1 w__67 → G_t50 t50_1 w__67 → G_t51 t51_1 w__67 → G_t52 t52_1 w__67 → G_t53 t53_1 w__67 → G_t54 t54_1 w__67 → G_t55 t55_1 w__67 → G_t56 t56 w__67 → 
K () w__67))) Kp) Kp)
theorem impl.known.reckons.ok {k : Option Addr} {x : Tup (R 6 (.i .i64))} {w : World} {K : Unit → World → Prop} {Kp : List PanicEntry → World → Prop} (h : impl.known.reckons.vc k x w K Kp) : CallP .z P0 176 [(.pointer k), (.agg (Tup.cells (R 6 (.i .i64)) x).toArray)] w K Kp :=
  callP_of Tryz.func176 rfl rfl (pl := impl.known.reckons.pl) (show VC P0 Tryz.f176 impl.known.reckons.pl .z [(.pointer k), (.agg (Tup.cells (R 6 (.i .i64)) x).toArray)] w K Kp from Eq.mp (by kernel_rfl) h)
/- (impl.proof).place -/
def impl.proof.place.pl : Pl := (.s (.r (D 4)) (.s (.r [.d, (.l (.lf (.i .i64))), .d, (.l (.lf (.i .i64))), .d, .d, (.l (.lf (.i .i64))), .d, (.l (.lf (.i .i64))), .d, .d, .d]) (.s (.g [(.q, []), (.q, []), (.sq, []), (.q, []), (.q, []), ((.g (.o (.ag (R 9 (.i .i64)))) (.l (.ag (R 9 (.i .i64))))), []), ((.g (.o (.lf (.i .i64))) (.c (.o (.lf (.i .i64))))), [5]), (.q, []), ((.g (.o (.lf (.i .i64))) (.l (.lf (.i .i64)))), []), (.q, [6, 8]), (.q, [6, 8]), (.q, [6, 8]), ((.g (.n []) (.cp .z)), [6, 8])] []) (.s (.r (D 4)) .z))))
def impl.proof.place.vc (p : Option Addr) (v : Tup (R 9 (.i .i64))) (x : Tup (R 6 (.i .i64))) (w : World) (K : (Int) × (Int) × Unit → World → Prop) (Kp : List PanicEntry → World → Prop) : Prop :=
Nw (Tup.cells (R 9 (.i .i64)) v).toArray 92 w fun a_v w_ =>
Nw (Tup.cells (R 6 (.i .i64)) x).toArray 82 w_ fun a_x w__1 =>
QLd (.i .i64) (Addr.add a_v 5) (fun w' => Below (World.heap w__1).size w__1 w') fun (t11 : Int) =>
QLd (.i .i64) (Addr.add a_x 3) (fun w' => Below (World.heap w__1).size w__1 w') fun (t13 : Int) =>
QLd (.i .i64) (Addr.add a_v 6) (fun w' => Below (World.heap w__1).size w__1 w') fun (t16 : Int) =>
QLd (.i .i64) (Addr.add a_x 3) (fun w' => Below (World.heap w__1).size w__1 w') fun (t18 : Int) =>
∀ w__2, Below (World.heap w__1).size w__1 w__2 →
∃ Sp : World → World → Prop, SpOk Sp w__2 ∧
∃ G_t25 : Tup (R 9 (.i .i64)) → World → Prop, Kept Sp G_t25 ∧
∃ G_t26 : Int → World → Prop, Kept Sp G_t26 ∧
∃ G_t28 : Int → World → Prop, Kept Sp G_t28 ∧
∃ G_t32 : Unit → World → Prop, Kept Sp G_t32 ∧
((decide (((IntKind.wrap .i64 (t11 + t13)) : Int) ≥ 0)) = true → (∀ w__3, Sp w__2 w__3 → LdA (R 9 (.i .i64)) a_v w__3 fun (t25 : Tup (R 9 (.i .i64))) w__4 =>
GK (.o (.ag (R 9 (.i .i64)))) Sp w__3 G_t25 (.agg (Tup.cells (R 9 (.i .i64)) t25).toArray) w__4) ∧
∀ (t25_1 : Tup (R 9 (.i .i64))), (∀ w__5, Sp w__2 w__5 → G_t25 t25_1 w__5 → CallT (.o (.lf (.i .i64))) P0 218 [(.pointer p), (.agg (Tup.cells (R 9 (.i .i64)) t25_1).toArray)] w__5 fun (t26 : Int) w__6 =>
GK (.o (.lf (.i .i64))) Sp w__5 G_t26 (.int .i64 t26) w__6) ∧
∀ (t26_1 : Int), (∀ w__7, Sp w__2 w__7 → Ld (.i .i64) (Addr.add a_x 5) w__7 fun (t28 : Int) w__8 =>
GK (.o (.lf (.i .i64))) Sp w__7 G_t28 (.int .i64 t28) w__8) ∧
∀ (t28_1 : Int), (∀ w__9, Sp w__2 w__9 → G_t26 t26_1 w__9 → G_t28 t28_1 w__9 → CallP .z P0 57 [(.bool (decide (((IntKind.wrap .i64 (t16 + t18)) : Int) ≤ (IntKind.wrap .i64 (t26_1 - t28_1))))), (.int .i64 4)] w__9 (fun (u : Unit) w__10 =>
GK (.n []) Sp w__9 G_t32 (.tuple #[]) w__10) (fun ch w' => ∀ _ : Env, Kp ch w')) ∧
∀ (t32 : Unit), ∀ w__12, Sp w__2 w__12 → G_t25 t25_1 w__12 → G_t26 t26_1 w__12 → G_t28 t28_1 w__12 → G_t32 t32 w__12 → 
K ((IntKind.wrap .i64 (t11 + t13)), ((IntKind.wrap .i64 (t16 + t18)), ())) w__12) ∧
((decide (((IntKind.wrap .i64 (t11 + t13)) : Int) ≥ 0)) = false → (∀ w__13, Sp w__2 w__13 → fT w__13 → fT w__13 → CallP .z P0 57 [(.bool false), (.int .i64 4)] w__13 (fun (u_1 : Unit) w__14 =>
GK (.n []) Sp w__13 G_t32 (.tuple #[]) w__14) (fun ch w' => ∀ _ : Env, Kp ch w')) ∧
∀ (t32_1 : Unit), ∀ w__16, Sp w__2 w__16 → fT w__16 → fT w__16 → fT w__16 → G_t32 t32_1 w__16 → 
K ((IntKind.wrap .i64 (t11 + t13)), ((IntKind.wrap .i64 (t16 + t18)), ())) w__16)
theorem impl.proof.place.ok {p : Option Addr} {v : Tup (R 9 (.i .i64))} {x : Tup (R 6 (.i .i64))} {w : World} {K : (Int) × (Int) × Unit → World → Prop} {Kp : List PanicEntry → World → Prop} (h : impl.proof.place.vc p v x w K Kp) : CallP (.n [(.lf (.i .i64)), (.lf (.i .i64))]) P0 204 [(.pointer p), (.agg (Tup.cells (R 9 (.i .i64)) v).toArray), (.agg (Tup.cells (R 6 (.i .i64)) x).toArray)] w K Kp :=
  callP_of Tryz.func204 rfl rfl (pl := impl.proof.place.pl) (show VC P0 Tryz.f204 impl.proof.place.pl (.n [(.lf (.i .i64)), (.lf (.i .i64))]) [(.pointer p), (.agg (Tup.cells (R 9 (.i .i64)) v).toArray), (.agg (Tup.cells (R 6 (.i .i64)) x).toArray)] w K Kp from Eq.mp (by kernel_rfl) h)
/- (impl.proof).load -/
def impl.proof.load.pl : Pl := (.s (.r (D 1)) (.s (.r [.d, .d, (.l (.lf (.i .i64))), (.cp (.o (.ag (R 9 (.i .i64))))), .d, .d]) (.s (.r [(.l (.ag (R 9 (.i .i64)))), (.c (.o (.lf .b))), (.cp .z)]) (.s (.r [.d, (.l (.ag (R 9 (.i .i64)))), (.l (.ag (R 6 (.i .i64)))), (.cp (.n [(.lf (.i .i64)), (.lf (.i .i64))])), .d, .d, .d, .d, .d]) (.s (.s (.r [.d, (.l (.lf (.i .i64))), .d]) (.c (.g [(.q, []), ((.g (.o (.lf .ad)) .n), []), (.q, [1]), (.q, []), (.q, []), (.q, []), ((.g (.o (.lf (.i .i64))) (.l (.lf (.i .i64)))), []), (.q, [6]), ((.g (.o (.lf .sl)) (.t (.o (.lf .sl)))), [1, 6]), ((.g (.o (.lf .b)) (.c (.o (.lf .b)))), [8]), (.q, [9]), ((.g (.n []) (.cp .z)), [9])] []) .z)) (.g [(.q, []), (.q, []), ((.g (.o (.lf (.i .i64))) (.l (.lf (.i .i64)))), []), (.q, []), ((.g (.o (.lf (.i .i64))) (.l (.lf (.i .i64)))), []), (.q, [4]), ((.g (.o (.lf (.i .i64))) .d), [4]), (.q, [6]), ((.g (.o (.ag (R 4 (.i .i64)))) (.c (.o (.ag (R 4 (.i .i64)))))), [6]), ((.g (.o (.ag (R 9 (.i .i64)))) (.c (.o (.ag (R 9 (.i .i64)))))), [8]), ((.g (.n []) (.cp .z)), [2, 9])] []))))))
set_option maxHeartbeats 4000000 in
def impl.proof.load.vc (p : Option Addr) (k : Option Addr) (x : Tup (R 6 (.i .i64))) (w : World) (K : Unit → World → Prop) (Kp : List PanicEntry → World → Prop) : Prop :=
Nw (Tup.cells (R 6 (.i .i64)) x).toArray 82 w fun a_x w_ =>
Ld (.i .i64) (Addr.add a_x 2) w_ fun (t11 : Int) w__1 =>
CallP (.o (.ag (R 9 (.i .i64)))) P0 140 [(.pointer k), (.int .i64 t11)] w__1 (fun (t12 : Tup (R 9 (.i .i64))) w__2 =>
Nw (zc P0 92) 92 w__2 fun a_v w__4 =>
StA P0 a_v (Tup.cells (R 9 (.i .i64)) t12) w__4 fun w__5 =>
LdA (R 9 (.i .i64)) a_v w__5 fun (t13 : Tup (R 9 (.i .i64))) w__6 =>
CallT (.o (.lf .b)) P0 201 [(.agg (Tup.cells (R 9 (.i .i64)) t13).toArray)] w__6 fun (t14 : Bool) w__7 =>
CallP .z P0 57 [(.bool t14), (.int .i64 3)] w__7 (fun (u : Unit) w__8 =>
LdA (R 9 (.i .i64)) a_v w__8 fun (t18 : Tup (R 9 (.i .i64))) w__10 =>
LdA (R 6 (.i .i64)) a_x w__10 fun (t19 : Tup (R 6 (.i .i64))) w__11 =>
CallP (.n [(.lf (.i .i64)), (.lf (.i .i64))]) P0 204 [(.pointer p), (.agg (Tup.cells (R 9 (.i .i64)) t18).toArray), (.agg (Tup.cells (R 6 (.i .i64)) t19).toArray)] w__11 (fun (t20 : (Int) × (Int) × Unit) w__12 =>
Ld (.i .i64) (Addr.add a_v 0) w__12 fun (t24 : Int) w__14 =>
(((t24 : Int) == 2) = true → ∃ Sp : World → World → Prop, SpOk Sp w__14 ∧
∃ G_t27 : Addr → World → Prop, Kept Sp G_t27 ∧
∃ G_t32 : Int → World → Prop, Kept Sp G_t32 ∧
∃ G_t34 : Sl → World → Prop, Kept Sp G_t34 ∧
∃ G_t35 : Bool → World → Prop, Kept Sp G_t35 ∧
∃ G_t37 : Unit → World → Prop, Kept Sp G_t37 ∧
(∀ w__15, Sp w__14 w__15 → Nc k w__15 fun a_t27 w__16 =>
GK (.o (.lf .ad)) Sp w__15 G_t27 (.pointer (some a_t27)) w__16) ∧
∀ (t27 : Addr), (∀ w__17, Sp w__14 w__17 → Ld (.i .i64) (Addr.add a_x 5) w__17 fun (t32 : Int) w__18 =>
GK (.o (.lf (.i .i64))) Sp w__17 G_t32 (.int .i64 t32) w__18) ∧
∀ (t32_1 : Int), (∀ w__19, Sp w__14 w__19 → G_t27 t27 w__19 → G_t32 t32_1 w__19 → RunT (.o (.lf .sl)) P0 (Instr.sliceAt 65 (.pointer (some (Addr.add t27 99))) (some (.int .i64 t20.1)) (some (.int .i64 (IntKind.wrap .i64 (t20.2.1 + t32_1)))) none) w__19 fun (t34 : Sl) w__20 =>
GK (.o (.lf .sl)) Sp w__19 G_t34 t34.v w__20) ∧
∀ (t34_1 : Sl), (∀ w__21, Sp w__14 w__21 → G_t34 t34_1 w__21 → CallT (.o (.lf .b)) P0 155 [t34_1.v, (.bool false)] w__21 fun (t35 : Bool) w__22 =>
GK (.o (.lf .b)) Sp w__21 G_t35 (.bool t35) w__22) ∧
∀ (t35_1 : Bool), (∀ w__23, Sp w__14 w__23 → G_t35 t35_1 w__23 → CallP .z P0 57 [(.bool (!t35_1)), (.int .i64 5)] w__23 (fun (u_1 : Unit) w__24 =>
GK (.n []) Sp w__23 G_t37 (.tuple #[]) w__24) (fun ch w' => ∀ _ : Env, Kp ch w')) ∧
∀ (t37 : Unit), ∀ w__26, Sp w__14 w__26 → G_t27 t27 w__26 → G_t32 t32_1 w__26 → G_t34 t34_1 w__26 → G_t35 t35_1 w__26 → G_t37 t37 w__26 → 
∃ Sp_1 : World → World → Prop, SpOk Sp_1 w__26 ∧
∃ G_t40 : Int → World → Prop, Kept Sp_1 G_t40 ∧
∃ G_t42 : Int → World → Prop, Kept Sp_1 G_t42 ∧
∃ G_t44 : Int → World → Prop, Kept Sp_1 G_t44 ∧
∃ G_t46 : Tup (R 4 (.i .i64)) → World → Prop, Kept Sp_1 G_t46 ∧
∃ G_t47 : Tup (R 9 (.i .i64)) → World → Prop, Kept Sp_1 G_t47 ∧
∃ G_t48 : Unit → World → Prop, Kept Sp_1 G_t48 ∧
(∀ w__27, Sp_1 w__26 w__27 → Ld (.i .i64) (Addr.add a_x 1) w__27 fun (t40 : Int) w__28 =>
GK (.o (.lf (.i .i64))) Sp_1 w__27 G_t40 (.int .i64 t40) w__28) ∧
∀ (t40_1 : Int), (∀ w__29, Sp_1 w__26 w__29 → Ld (.i .i64) (Addr.add a_x 5) w__29 fun (t42 : Int) w__30 =>
GK (.o (.lf (.i .i64))) Sp_1 w__29 G_t42 (.int .i64 t42) w__30) ∧
∀ (t42_1 : Int), (∀ w__31, Sp_1 w__26 w__31 → G_t42 t42_1 w__31 → (0 : Int) ≤ (IntKind.wrap .i64 (8 * t42_1)) ∧ GK (.o (.lf (.i .i64))) Sp_1 w__31 G_t44 (.int .i64 (IntKind.wrap .i64 (1 * 2 ^ (min (Int.toNat (IntKind.wrap .i64 (8 * t42_1))) (IntKind.bits .i64))))) w__31) ∧
∀ (t44 : Int), (∀ w__32, Sp_1 w__26 w__32 → G_t44 t44 w__32 → CallT (.o (.ag (R 4 (.i .i64)))) P0 205 [(.int .i64 0), (.int .i64 (IntKind.wrap .i64 (t44 - 1)))] w__32 fun (t46 : Tup (R 4 (.i .i64))) w__33 =>
GK (.o (.ag (R 4 (.i .i64)))) Sp_1 w__32 G_t46 (.agg (Tup.cells (R 4 (.i .i64)) t46).toArray) w__33) ∧
∀ (t46_1 : Tup (R 4 (.i .i64))), (∀ w__34, Sp_1 w__26 w__34 → G_t46 t46_1 w__34 → CallT (.o (.ag (R 9 (.i .i64)))) P0 192 [(.agg (Tup.cells (R 4 (.i .i64)) t46_1).toArray)] w__34 fun (t47 : Tup (R 9 (.i .i64))) w__35 =>
GK (.o (.ag (R 9 (.i .i64)))) Sp_1 w__34 G_t47 (.agg (Tup.cells (R 9 (.i .i64)) t47).toArray) w__35) ∧
∀ (t47_1 : Tup (R 9 (.i .i64))), (∀ w__36, Sp_1 w__26 w__36 → G_t40 t40_1 w__36 → G_t47 t47_1 w__36 → CallP .z P0 200 [(.pointer k), (.int .i64 t40_1), (.agg (Tup.cells (R 9 (.i .i64)) t47_1).toArray)] w__36 (fun (u_2 : Unit) w__37 =>
GK (.n []) Sp_1 w__36 G_t48 (.tuple #[]) w__37) (fun ch w' => ∀ _ : Env, Kp ch w')) ∧
∀ (t48 : Unit), ∀ w__39, Sp_1 w__26 w__39 → G_t40 t40_1 w__39 → G_t42 t42_1 w__39 → G_t44 t44 w__39 → G_t46 t46_1 w__39 → G_t47 t47_1 w__39 → G_t48 t48 w__39 → 
K () w__39) ∧
(((t24 : Int) == 2) = false → ∃ Sp_2 : World → World → Prop, SpOk Sp_2 w__14 ∧
∃ G_t40_1 : Int → World → Prop, Kept Sp_2 G_t40_1 ∧
∃ G_t42_1 : Int → World → Prop, Kept Sp_2 G_t42_1 ∧
∃ G_t44_1 : Int → World → Prop, Kept Sp_2 G_t44_1 ∧
∃ G_t46_1 : Tup (R 4 (.i .i64)) → World → Prop, Kept Sp_2 G_t46_1 ∧
∃ G_t47_1 : Tup (R 9 (.i .i64)) → World → Prop, Kept Sp_2 G_t47_1 ∧
∃ G_t48_1 : Unit → World → Prop, Kept Sp_2 G_t48_1 ∧
(∀ w__40, Sp_2 w__14 w__40 → Ld (.i .i64) (Addr.add a_x 1) w__40 fun (t40_2 : Int) w__41 =>
GK (.o (.lf (.i .i64))) Sp_2 w__40 G_t40_1 (.int .i64 t40_2) w__41) ∧
∀ (t40_3 : Int), (∀ w__42, Sp_2 w__14 w__42 → Ld (.i .i64) (Addr.add a_x 5) w__42 fun (t42_2 : Int) w__43 =>
GK (.o (.lf (.i .i64))) Sp_2 w__42 G_t42_1 (.int .i64 t42_2) w__43) ∧
∀ (t42_3 : Int), (∀ w__44, Sp_2 w__14 w__44 → G_t42_1 t42_3 w__44 → (0 : Int) ≤ (IntKind.wrap .i64 (8 * t42_3)) ∧ GK (.o (.lf (.i .i64))) Sp_2 w__44 G_t44_1 (.int .i64 (IntKind.wrap .i64 (1 * 2 ^ (min (Int.toNat (IntKind.wrap .i64 (8 * t42_3))) (IntKind.bits .i64))))) w__44) ∧
∀ (t44_1 : Int), (∀ w__45, Sp_2 w__14 w__45 → G_t44_1 t44_1 w__45 → CallT (.o (.ag (R 4 (.i .i64)))) P0 205 [(.int .i64 0), (.int .i64 (IntKind.wrap .i64 (t44_1 - 1)))] w__45 fun (t46_2 : Tup (R 4 (.i .i64))) w__46 =>
GK (.o (.ag (R 4 (.i .i64)))) Sp_2 w__45 G_t46_1 (.agg (Tup.cells (R 4 (.i .i64)) t46_2).toArray) w__46) ∧
∀ (t46_3 : Tup (R 4 (.i .i64))), (∀ w__47, Sp_2 w__14 w__47 → G_t46_1 t46_3 w__47 → CallT (.o (.ag (R 9 (.i .i64)))) P0 192 [(.agg (Tup.cells (R 4 (.i .i64)) t46_3).toArray)] w__47 fun (t47_2 : Tup (R 9 (.i .i64))) w__48 =>
GK (.o (.ag (R 9 (.i .i64)))) Sp_2 w__47 G_t47_1 (.agg (Tup.cells (R 9 (.i .i64)) t47_2).toArray) w__48) ∧
∀ (t47_3 : Tup (R 9 (.i .i64))), (∀ w__49, Sp_2 w__14 w__49 → G_t40_1 t40_3 w__49 → G_t47_1 t47_3 w__49 → CallP .z P0 200 [(.pointer k), (.int .i64 t40_3), (.agg (Tup.cells (R 9 (.i .i64)) t47_3).toArray)] w__49 (fun (u_3 : Unit) w__50 =>
GK (.n []) Sp_2 w__49 G_t48_1 (.tuple #[]) w__50) (fun ch w' => ∀ _ : Env, Kp ch w')) ∧
∀ (t48_1 : Unit), ∀ w__52, Sp_2 w__14 w__52 → G_t40_1 t40_3 w__52 → G_t42_1 t42_3 w__52 → G_t44_1 t44_1 w__52 → G_t46_1 t46_3 w__52 → G_t47_1 t47_3 w__52 → G_t48_1 t48_1 w__52 → 
K () w__52)) Kp) Kp) Kp
theorem impl.proof.load.ok {p : Option Addr} {k : Option Addr} {x : Tup (R 6 (.i .i64))} {w : World} {K : Unit → World → Prop} {Kp : List PanicEntry → World → Prop} (h : impl.proof.load.vc p k x w K Kp) : CallP .z P0 177 [(.pointer p), (.pointer k), (.agg (Tup.cells (R 6 (.i .i64)) x).toArray)] w K Kp :=
  callP_of Tryz.func177 rfl rfl (pl := impl.proof.load.pl) (show VC P0 Tryz.f177 impl.proof.load.pl .z [(.pointer p), (.pointer k), (.agg (Tup.cells (R 6 (.i .i64)) x).toArray)] w K Kp from Eq.mp (by kernel_rfl) h)
/- (impl.proof).store -/
def impl.proof.store.pl : Pl := (.s (.r (D 1)) (.s (.r [.d, .d, (.l (.lf (.i .i64))), (.cp (.o (.ag (R 9 (.i .i64))))), .d, .d]) (.s (.r [.d, (.l (.ag (R 6 (.i .i64)))), (.cp (.o (.ag (R 9 (.i .i64))))), .d, .d]) (.j [] (.r [.d, (.l (.lf (.i .i64))), .d, (.sp .d), .d, (.l (.lf (.i .i64))), .d, .d, (.cp .z)]) (.s (.r [(.l (.ag (R 9 (.i .i64)))), (.cp (.o (.ag (R 4 (.i .i64)))))]) (.s (.r [.d, (.l (.ag (R 9 (.i .i64)))), (.l (.ag (R 6 (.i .i64)))), (.cp (.n [(.lf (.i .i64)), (.lf (.i .i64))])), .d, .d, .d, .d, .d]) (.j [(43, .b)] (.r [.d, (.l (.lf (.i .i64))), .d, (.sp .d), .d, .d, .d, .d]) (.c (.s (.r [.d, (.l (.lf (.i .i64))), .d]) (.b (.l [(46, (.i .i64))] (.s (.r (D 1)) (.s (.c .z .z) (.s (.b (.s (.r (D 2)) (.r [.d, .d, .d, .d, .n, .d, (.t (.o (.lf .ad))), .d]))) (.r (D 2)))))))) .z))))))))
def impl.proof.store.vc (p : Option Addr) (k : Option Addr) (x : Tup (R 6 (.i .i64))) (w : World) (K : Unit → World → Prop) (Kp : List PanicEntry → World → Prop) : Prop :=
Nw (Tup.cells (R 6 (.i .i64)) x).toArray 82 w fun a_x w_ =>
Ld (.i .i64) (Addr.add a_x 1) w_ fun (t13 : Int) w__1 =>
CallP (.o (.ag (R 9 (.i .i64)))) P0 140 [(.pointer k), (.int .i64 t13)] w__1 (fun (t14 : Tup (R 9 (.i .i64))) w__2 =>
Nw (zc P0 92) 92 w__2 fun a_v w__4 =>
StA P0 a_v (Tup.cells (R 9 (.i .i64)) t14) w__4 fun w__5 =>
LdA (R 6 (.i .i64)) a_x w__5 fun (t16 : Tup (R 6 (.i .i64))) w__6 =>
CallP (.o (.ag (R 9 (.i .i64)))) P0 172 [(.pointer k), (.agg (Tup.cells (R 6 (.i .i64)) t16).toArray)] w__6 (fun (t17 : Tup (R 9 (.i .i64))) w__7 =>
Nw (zc P0 92) 92 w__7 fun a_b w__9 =>
StA P0 a_b (Tup.cells (R 9 (.i .i64)) t17) w__9 fun w__10 =>
∃ J : World → Prop,
(Ld (.i .i64) (Addr.add a_v 0) w__10 fun (t19 : Int) w__11 =>
(((t19 : Int) == 2) = true → CallP .z P0 57 [(.bool true), (.int .i64 3)] w__11 (fun (u : Unit) w__12 =>
J w__12) Kp) ∧
(((t19 : Int) == 2) = false → Ld (.i .i64) (Addr.add a_v 0) w__11 fun (t23 : Int) w__14 =>
CallP .z P0 57 [(.bool ((t23 : Int) == 4)), (.int .i64 3)] w__14 (fun (u_1 : Unit) w__15 =>
J w__15) Kp)) ∧
(∀  w__17, J w__17 → ∀ _ : Nat → Value,
LdA (R 9 (.i .i64)) a_b w__17 fun (t27 : Tup (R 9 (.i .i64))) w__18 =>
CallP (.o (.ag (R 4 (.i .i64)))) P0 141 [(.agg (Tup.cells (R 9 (.i .i64)) t27).toArray)] w__18 (fun (t28 : Tup (R 4 (.i .i64))) w__19 =>
LdA (R 9 (.i .i64)) a_v w__19 fun (t31 : Tup (R 9 (.i .i64))) w__21 =>
LdA (R 6 (.i .i64)) a_x w__21 fun (t32 : Tup (R 6 (.i .i64))) w__22 =>
CallP (.n [(.lf (.i .i64)), (.lf (.i .i64))]) P0 204 [(.pointer p), (.agg (Tup.cells (R 9 (.i .i64)) t31).toArray), (.agg (Tup.cells (R 6 (.i .i64)) t32).toArray)] w__22 (fun (t33 : (Int) × (Int) × Unit) w__23 =>
∃ J_1 : Bool → World → Prop,
(Ld (.i .i64) (Addr.add a_v 0) w__23 fun (t37 : Int) w__25 =>
(((t37 : Int) == 2) = true → J_1 ((t33.1 : Int) == t33.2.1) w__25) ∧
(((t37 : Int) == 2) = false → J_1 false w__25)) ∧
(∀ (t43 : Bool) w__26, J_1 t43 w__26 → ∀ _ : Nat → Value,
(t43 = true → Ld (.i .i64) (Addr.add a_x 5) w__26 fun (t45 : Int) w__27 =>
∃ (I : Int → World → Prop) (M : Int → World → Nat),
I 0 w__27 ∧
(∀ (t46 : Int) w__28, I t46 w__28 → ∀ _ : Nat → Value,
((decide ((t46 : Int) < t45)) = true → Nc k w__28 fun a_t53 w__29 =>
RunT (.o (.lf .ad)) P0 (Instr.indexAt 65 (.pointer (some (Addr.add a_t53 99))) (.int .i64 (IntKind.wrap .i64 (t33.1 + t46)))) w__29 fun (a_t55 : Addr) w__30 =>
St a_t55 (.bool true) w__30 fun w__31 =>
(I (IntKind.wrap .i64 (t46 + 1)) w__31 ∧ M (IntKind.wrap .i64 (t46 + 1)) w__31 < M t46 w__28)) ∧
((decide ((t46 : Int) < t45)) = false → K () w__28))) ∧
(t43 = false → K () w__26))) Kp) Kp)) Kp) Kp
theorem impl.proof.store.ok {p : Option Addr} {k : Option Addr} {x : Tup (R 6 (.i .i64))} {w : World} {K : Unit → World → Prop} {Kp : List PanicEntry → World → Prop} (h : impl.proof.store.vc p k x w K Kp) : CallP .z P0 178 [(.pointer p), (.pointer k), (.agg (Tup.cells (R 6 (.i .i64)) x).toArray)] w K Kp :=
  callP_of Tryz.func178 rfl rfl (pl := impl.proof.store.pl) (show VC P0 Tryz.f178 impl.proof.store.pl .z [(.pointer p), (.pointer k), (.agg (Tup.cells (R 6 (.i .i64)) x).toArray)] w K Kp from Eq.mp (by kernel_rfl) h)
/- (impl.proof).table -/
def impl.proof.table.pl : Pl := (.s (.r (D 1)) (.s (.r [.d, (.cp (.o (.ag (R 9 (.i .i64))))), (.cp (.o (.ag (R 4 (.i .i64))))), .d, .d]) (.s (.g [(.q, []), ((.g (.o (.lf (.i .i64))) (.l (.lf (.i .i64)))), []), (.q, []), ((.g (.o (.lf (.i .i64))) (.l (.lf (.i .i64)))), []), (.q, [1, 3]), (.sq, [1, 3]), (.q, [1, 3]), ((.g (.o (.lf (.i .i64))) (.l (.lf (.i .i64)))), [1, 3]), (.q, [1, 3]), ((.g (.o (.lf .ad)) .n), [1, 3]), (.q, [1, 3, 9]), ((.g (.o (.lf .sl)) (.l (.lf .sl))), [1, 3, 9]), (.q, [1, 3, 11]), (.q, [1, 3, 7, 11]), (.q, [1, 3, 7, 11]), ((.g (.n []) (.cp .z)), [1, 3, 7, 11])] []) (.s (.r [.d, (.l (.lf (.i .i64))), .d]) .z))))
def impl.proof.table.vc (p : Option Addr) (k : Option Addr) (w : World) (K : Int → World → Prop) (Kp : List PanicEntry → World → Prop) : Prop :=
CallP (.o (.ag (R 9 (.i .i64)))) P0 140 [(.pointer k), (.int .i64 1)] w (fun (t7 : Tup (R 9 (.i .i64))) w_ =>
CallP (.o (.ag (R 4 (.i .i64)))) P0 141 [(.agg (Tup.cells (R 9 (.i .i64)) t7).toArray)] w_ (fun (t8 : Tup (R 4 (.i .i64))) w__2 =>
Nw (zc P0 90) 90 w__2 fun a_r w__4 =>
StA P0 a_r (Tup.cells (R 4 (.i .i64)) t8) w__4 fun w__5 =>
∃ Sp : World → World → Prop, SpOk Sp w__5 ∧
∃ G_t10 : Int → World → Prop, Kept Sp G_t10 ∧
∃ G_t12 : Int → World → Prop, Kept Sp G_t12 ∧
∃ G_t16 : Int → World → Prop, Kept Sp G_t16 ∧
∃ G_t18 : Addr → World → Prop, Kept Sp G_t18 ∧
∃ G_t20 : Sl → World → Prop, Kept Sp G_t20 ∧
∃ G_t24 : Unit → World → Prop, Kept Sp G_t24 ∧
(∀ w__6, Sp w__5 w__6 → Ld (.i .i64) (Addr.add a_r 0) w__6 fun (t10 : Int) w__7 =>
GK (.o (.lf (.i .i64))) Sp w__6 G_t10 (.int .i64 t10) w__7) ∧
∀ (t10_1 : Int), (∀ w__8, Sp w__5 w__8 → Ld (.i .i64) (Addr.add a_r 1) w__8 fun (t12 : Int) w__9 =>
GK (.o (.lf (.i .i64))) Sp w__8 G_t12 (.int .i64 t12) w__9) ∧
∀ (t12_1 : Int), (((t10_1 : Int) == t12_1) = true → (∀ w__10, Sp w__5 w__10 → G_t10 t10_1 w__10 → G_t12 t12_1 w__10 → Ld (.i .i64) (Addr.add a_r 0) w__10 fun (t16 : Int) w__11 =>
GK (.o (.lf (.i .i64))) Sp w__10 G_t16 (.int .i64 t16) w__11) ∧
∀ (t16_1 : Int), (∀ w__12, Sp w__5 w__12 → G_t10 t10_1 w__12 → G_t12 t12_1 w__12 → Nc p w__12 fun a_t18 w__13 =>
GK (.o (.lf .ad)) Sp w__12 G_t18 (.pointer (some a_t18)) w__13) ∧
∀ (t18 : Addr), (∀ w__14, Sp w__5 w__14 → G_t10 t10_1 w__14 → G_t12 t12_1 w__14 → G_t18 t18 w__14 → Ld .sl (Addr.add t18 1) w__14 fun (t20 : Sl) w__15 =>
GK (.o (.lf .sl)) Sp w__14 G_t20 t20.v w__15) ∧
∀ (t20_1 : Sl), (∀ w__16, Sp w__5 w__16 → G_t10 t10_1 w__16 → G_t12 t12_1 w__16 → G_t16 t16_1 w__16 → G_t20 t20_1 w__16 → CallP .z P0 57 [(.bool (decide ((t16_1 : Int) < ((t20_1.n : Nat) : Int)))), (.int .i64 6)] w__16 (fun (u : Unit) w__17 =>
GK (.n []) Sp w__16 G_t24 (.tuple #[]) w__17) (fun ch w' => ∀ _ : Env, Kp ch w')) ∧
∀ (t24 : Unit), ∀ w__19, Sp w__5 w__19 → G_t10 t10_1 w__19 → G_t12 t12_1 w__19 → G_t16 t16_1 w__19 → G_t18 t18 w__19 → G_t20 t20_1 w__19 → G_t24 t24 w__19 → 
Ld (.i .i64) (Addr.add a_r 0) w__19 fun (t26 : Int) w__20 =>
K t26 w__20) ∧
(((t10_1 : Int) == t12_1) = false → (∀ w__21, Sp w__5 w__21 → G_t10 t10_1 w__21 → G_t12 t12_1 w__21 → fT w__21 → fT w__21 → CallP .z P0 57 [(.bool false), (.int .i64 6)] w__21 (fun (u_1 : Unit) w__22 =>
GK (.n []) Sp w__21 G_t24 (.tuple #[]) w__22) (fun ch w' => ∀ _ : Env, Kp ch w')) ∧
∀ (t24_1 : Unit), ∀ w__24, Sp w__5 w__24 → G_t10 t10_1 w__24 → G_t12 t12_1 w__24 → fT w__24 → fT w__24 → fT w__24 → G_t24 t24_1 w__24 → 
Ld (.i .i64) (Addr.add a_r 0) w__24 fun (t26_1 : Int) w__25 =>
K t26_1 w__25)) Kp) Kp
theorem impl.proof.table.ok {p : Option Addr} {k : Option Addr} {w : World} {K : Int → World → Prop} {Kp : List PanicEntry → World → Prop} (h : impl.proof.table.vc p k w K Kp) : CallP (.o (.lf (.i .i64))) P0 206 [(.pointer p), (.pointer k)] w K Kp :=
  callP_of Tryz.func206 rfl rfl (pl := impl.proof.table.pl) (show VC P0 Tryz.f206 impl.proof.table.pl (.o (.lf (.i .i64))) [(.pointer p), (.pointer k)] w K Kp from Eq.mp (by kernel_rfl) h)
/- (impl.known).free -/
def impl.known.free.pl : Pl := (.s (.r (D 1)) (.r [.d, .d, .n, .d, (.l (.lf .sl)), (.c (.o (.lf .sl))), .d, (.c (.o (.lf .sl))), .n, .d, .d]))
def impl.known.free.vc (k : Option Addr) (id : Int) (w : World) (K : Unit → World → Prop) : Prop :=
Nw #[(.int .i64 id)] 3 w fun a_id w_ =>
Nc k w_ fun a_t6 w__1 =>
Ld .sl (Addr.add a_t6 115) w__1 fun (t8 : Sl) w__2 =>
CallT (.o (.lf .sl)) P0 146 [t8.v] w__2 fun (t9 : Sl) w__3 =>
CallT (.o (.lf .sl)) P0 210 [t9.v, (.func (.func 211) #[] #[(.pointer (some a_id))])] w__3 fun (t11 : Sl) w__4 =>
Nc k w__4 fun a_t12 w__5 =>
St (Addr.add a_t12 115) t11.v w__5 fun w__6 =>
K () w__6
theorem impl.known.free.ok {k : Option Addr} {id : Int} {w : World} {K : Unit → World → Prop} (h : impl.known.free.vc k id w K) : CallT .z P0 194 [(.pointer k), (.int .i64 id)] w K :=
  call_of Tryz.func194 rfl rfl (pl := impl.known.free.pl) (show VC P0 Tryz.f194 impl.known.free.pl .z [(.pointer k), (.int .i64 id)] w K noP from Eq.mp (by kernel_rfl) h)
/- (impl.proof).call -/
def impl.proof.call.pl : Pl := (.s (.r (D 1)) (.s (.s (.r (D 1)) (.b (.s (.r (D 2)) (.c (.s (.r [.d, .d, (.cp (.o (.lf (.i .i64)))), .d]) (.s (.r [.d, (.cp (.o (.ag (R 9 (.i .i64))))), (.cp (.o (.ag (R 4 (.i .i64)))))]) (.s (.r [.d, .d, (.c (.o (.lf (.i .i64)))), .d, .d]) .z))) (.s (.r (D 2)) (.c (.s (.r [.d, .d, (.cp (.o (.lf (.i .i64))))]) (.s (.r [.d, (.cp (.o (.ag (R 9 (.i .i64))))), (.cp (.o (.ag (R 4 (.i .i64)))))]) (.s (.r [.d, (.cp (.o (.ag (R 9 (.i .i64))))), (.cp (.o (.ag (R 4 (.i .i64)))))]) (.s (.r [(.c (.o (.ag (R 4 (.i .i64))))), (.c (.o (.ag (R 9 (.i .i64))))), .d]) .z)))) (.s (.r (D 2)) (.c (.s (.r [.d, (.cp (.o (.ag (R 9 (.i .i64))))), (.cp (.o (.ag (R 4 (.i .i64)))))]) (.s (.r [.d, (.c (.o (.lf (.i .i64)))), .d]) (.s (.r [.d, .d, .n, .d, (.l (.lf .sl)), (.c (.o (.lf .sl))), .d, .d, (.t (.o (.lf .sl))), .n, .d, .d]) (.s (.r (D 3)) .z)))) (.s (.r (D 2)) (.c (.s (.r [.d, (.cp (.o (.ag (R 9 (.i .i64))))), .d, .d]) (.s (.r [.d, (.l (.lf (.i .i64))), .d, (.cp .z)]) (.s (.r [.d, .d, (.l (.lf (.i .i64))), (.c .z)]) (.s (.r [.d, .n, .d, (.l (.ag (R 99 (.i .i64)))), .d]) (.b (.l [(77, (.i .i64))] (.s (.r (D 1)) (.s (.c .z .z) (.s (.b (.s (.r [.d, (.t (.o (.ag (R 9 (.i .i64))))), .d, .d, .d]) (.s (.r [.d, (.l (.lf (.i .i64))), .d, (.sp .d), .d, (.l (.lf (.i .i64))), .d, (.l (.lf (.i .i64))), .d, .d]) (.c (.r [.d, .d, .d, .n, .d, (.t (.o (.lf .ad))), .d]) .z)))) (.r (D 2))))))))))) (.s (.r (D 2)) (.c (.s (.r [(.c (.o (.ag (R 4 (.i .i64))))), (.c (.o (.ag (R 9 (.i .i64))))), .d]) .z) (.r [.d, (.cp (.o (.ag (R 9 (.i .i64))))), (.cp (.o (.ag (R 4 (.i .i64)))))]))))))))))))) (.s (.r [(.c (.o (.ag (R 4 (.i .i64))))), (.c (.o (.ag (R 9 (.i .i64))))), .d]) .z)))
set_option maxHeartbeats 4000000 in
def impl.proof.call.vc (p : Option Addr) (k : Option Addr) (which : Int) (w : World) (K : Tup (R 9 (.i .i64)) → World → Prop) (Kp : List PanicEntry → World → Prop) : Prop :=
Nw (zc P0 92) 92 w fun a_t6 w_ =>
(((which : Int) == 1) = true → CallP (.o (.lf (.i .i64))) P0 206 [(.pointer p), (.pointer k)] w_ (fun (t20 : Int) w__1 =>
CallP (.o (.ag (R 9 (.i .i64)))) P0 140 [(.pointer k), (.int .i64 2)] w__1 (fun (t22 : Tup (R 9 (.i .i64))) w__3 =>
CallP (.o (.ag (R 4 (.i .i64)))) P0 141 [(.agg (Tup.cells (R 9 (.i .i64)) t22).toArray)] w__3 (fun (t23 : Tup (R 4 (.i .i64))) w__5 =>
CallT (.o (.lf (.i .i64))) P0 207 [(.pointer p)] w__5 fun (t26 : Int) w__7 =>
StA P0 a_t6 [(.int .i64 5), (.int .i64 0), (.int .i64 0), (.int .i64 0), (.int .i64 0), (.int .i64 0), (.int .i64 0), (.int .i64 t20), (.int .i64 t26)] w__7 fun w__8 =>
LdA (R 9 (.i .i64)) a_t6 w__8 fun r w__9 =>
K r w__8) Kp) Kp) Kp) ∧
(((which : Int) == 1) = false → (((which : Int) == 2) = true → CallP (.o (.lf (.i .i64))) P0 206 [(.pointer p), (.pointer k)] w_ (fun (t32 : Int) w__10 =>
CallP (.o (.ag (R 9 (.i .i64)))) P0 140 [(.pointer k), (.int .i64 2)] w__10 (fun (t34 : Tup (R 9 (.i .i64))) w__12 =>
CallP (.o (.ag (R 4 (.i .i64)))) P0 141 [(.agg (Tup.cells (R 9 (.i .i64)) t34).toArray)] w__12 (fun (t35 : Tup (R 4 (.i .i64))) w__14 =>
CallP (.o (.ag (R 9 (.i .i64)))) P0 140 [(.pointer k), (.int .i64 3)] w__14 (fun (t37 : Tup (R 9 (.i .i64))) w__16 =>
CallP (.o (.ag (R 4 (.i .i64)))) P0 141 [(.agg (Tup.cells (R 9 (.i .i64)) t37).toArray)] w__16 (fun (t38 : Tup (R 4 (.i .i64))) w__18 =>
CallT (.o (.ag (R 4 (.i .i64)))) P0 205 [(.int .i64 0), (.int .i64 3)] w__18 fun (t39 : Tup (R 4 (.i .i64))) w__20 =>
CallT (.o (.ag (R 9 (.i .i64)))) P0 192 [(.agg (Tup.cells (R 4 (.i .i64)) t39).toArray)] w__20 fun (t40 : Tup (R 9 (.i .i64))) w__21 =>
StA P0 a_t6 (Tup.cells (R 9 (.i .i64)) t40) w__21 fun w__22 =>
LdA (R 9 (.i .i64)) a_t6 w__22 fun r_1 w__23 =>
K r_1 w__22) Kp) Kp) Kp) Kp) Kp) ∧
(((which : Int) == 2) = false → (((which : Int) == 3) = true → CallP (.o (.ag (R 9 (.i .i64)))) P0 140 [(.pointer k), (.int .i64 1)] w_ (fun (t44 : Tup (R 9 (.i .i64))) w__24 =>
CallP (.o (.ag (R 4 (.i .i64)))) P0 141 [(.agg (Tup.cells (R 9 (.i .i64)) t44).toArray)] w__24 (fun (t45 : Tup (R 4 (.i .i64))) w__26 =>
CallT (.o (.lf (.i .i64))) P0 207 [(.pointer p)] w__26 fun (t47 : Int) w__28 =>
Nc k w__28 fun a_t50 w__29 =>
Ld .sl (Addr.add a_t50 115) w__29 fun (t52 : Sl) w__30 =>
CallT (.o (.lf .sl)) P0 146 [t52.v] w__30 fun (t53 : Sl) w__31 =>
Nw #[(.int .i64 t47)] 3 w__31 fun a_t55 w__32 =>
RunT (.o (.lf .sl)) P0 (Builtin.append_ #[25, 25] 25 #[t53.v, (.slice (some a_t55) 1 1)]) w__32 fun (t56 : Sl) w__33 =>
Nc k w__33 fun a_t57 w__34 =>
St (Addr.add a_t57 115) t56.v w__34 fun w__35 =>
StA P0 a_t6 [(.int .i64 7), (.int .i64 0), (.int .i64 0), (.int .i64 0), (.int .i64 0), (.int .i64 0), (.int .i64 0), (.int .i64 0), (.int .i64 t47)] w__35 fun w__36 =>
LdA (R 9 (.i .i64)) a_t6 w__36 fun r_2 w__37 =>
K r_2 w__36) Kp) Kp) ∧
(((which : Int) == 3) = false → (((which : Int) == 4) = true → CallP (.o (.ag (R 9 (.i .i64)))) P0 140 [(.pointer k), (.int .i64 1)] w_ (fun (t64 : Tup (R 9 (.i .i64))) w__38 =>
Nw (zc P0 92) 92 w__38 fun a_v w__40 =>
StA P0 a_v (Tup.cells (R 9 (.i .i64)) t64) w__40 fun w__41 =>
Ld (.i .i64) (Addr.add a_v 0) w__41 fun (t66 : Int) w__42 =>
CallP .z P0 57 [(.bool ((t66 : Int) == 6)), (.int .i64 3)] w__42 (fun (u : Unit) w__43 =>
Ld (.i .i64) (Addr.add a_v 8) w__43 fun (t71 : Int) w__45 =>
CallT .z P0 194 [(.pointer k), (.int .i64 t71)] w__45 fun (u_1 : Unit) w__46 =>
Nc k w__46 fun a_t74 w__47 =>
LdA (R 99 (.i .i64)) (Addr.add a_t74 0) w__47 fun (t76 : Tup (R 99 (.i .i64))) w__48 =>
∃ (I : Int → World → Prop) (M : Int → World → Nat),
I 0 w__48 ∧
(∀ (t77 : Int) w__49, I t77 w__49 → ∀ _ : Nat → Value,
((decide ((t77 : Int) < 11)) = true → RunT (.o (.ag (R 9 (.i .i64)))) P0 (Instr.index 93 (.agg (Tup.cells (R 99 (.i .i64)) t76).toArray) (.int .i64 t77)) w__49 fun (t80 : Tup (R 9 (.i .i64))) w__50 =>
Nw (zc P0 92) 92 w__50 fun a_w w__51 =>
StA P0 a_w (Tup.cells (R 9 (.i .i64)) t80) w__51 fun w__52 =>
Ld (.i .i64) (Addr.add a_w 0) w__52 fun (t82 : Int) w__53 =>
(((t82 : Int) == 6) = true → Ld (.i .i64) (Addr.add a_w 8) w__53 fun (t86 : Int) w__54 =>
Ld (.i .i64) (Addr.add a_v 8) w__54 fun (t88 : Int) w__55 =>
(((t86 : Int) == t88) = true → Nc k w__55 fun a_t94 w__56 =>
RunT (.o (.lf .ad)) P0 (Instr.indexAt 93 (.pointer (some (Addr.add a_t94 0))) (.int .i64 t77)) w__56 fun (a_t96 : Addr) w__57 =>
StA P0 a_t96 [(.int .i64 0), (.int .i64 0), (.int .i64 0), (.int .i64 0), (.int .i64 0), (.int .i64 0), (.int .i64 0), (.int .i64 0), (.int .i64 0)] w__57 fun w__58 =>
(I (IntKind.wrap .i64 (t77 + 1)) w__58 ∧ M (IntKind.wrap .i64 (t77 + 1)) w__58 < M t77 w__49)) ∧
(((t86 : Int) == t88) = false → (I (IntKind.wrap .i64 (t77 + 1)) w__55 ∧ M (IntKind.wrap .i64 (t77 + 1)) w__55 < M t77 w__49))) ∧
(((t82 : Int) == 6) = false → (I (IntKind.wrap .i64 (t77 + 1)) w__53 ∧ M (IntKind.wrap .i64 (t77 + 1)) w__53 < M t77 w__49))) ∧
((decide ((t77 : Int) < 11)) = false → CallT (.o (.ag (R 4 (.i .i64)))) P0 193 [(.int .i64 0)] w__49 fun (t102 : Tup (R 4 (.i .i64))) w__59 =>
CallT (.o (.ag (R 9 (.i .i64)))) P0 192 [(.agg (Tup.cells (R 4 (.i .i64)) t102).toArray)] w__59 fun (t103 : Tup (R 9 (.i .i64))) w__60 =>
StA P0 a_t6 (Tup.cells (R 9 (.i .i64)) t103) w__60 fun w__61 =>
LdA (R 9 (.i .i64)) a_t6 w__61 fun r_3 w__62 =>
K r_3 w__61))) Kp) Kp) ∧
(((which : Int) == 4) = false → (((which : Int) == 5) = true → CallT (.o (.ag (R 4 (.i .i64)))) P0 208 [] w_ fun (t100 : Tup (R 4 (.i .i64))) w__63 =>
CallT (.o (.ag (R 9 (.i .i64)))) P0 192 [(.agg (Tup.cells (R 4 (.i .i64)) t100).toArray)] w__63 fun (t101 : Tup (R 9 (.i .i64))) w__64 =>
StA P0 a_t6 (Tup.cells (R 9 (.i .i64)) t101) w__64 fun w__65 =>
LdA (R 9 (.i .i64)) a_t6 w__65 fun r_4 w__66 =>
K r_4 w__65) ∧
(((which : Int) == 5) = false → CallP (.o (.ag (R 9 (.i .i64)))) P0 140 [(.pointer k), (.int .i64 1)] w_ (fun (t14 : Tup (R 9 (.i .i64))) w__67 =>
CallP (.o (.ag (R 4 (.i .i64)))) P0 141 [(.agg (Tup.cells (R 9 (.i .i64)) t14).toArray)] w__67 (fun (t15 : Tup (R 4 (.i .i64))) w__69 =>
CallT (.o (.ag (R 4 (.i .i64)))) P0 193 [(.int .i64 0)] w__69 fun (t102_1 : Tup (R 4 (.i .i64))) w__71 =>
CallT (.o (.ag (R 9 (.i .i64)))) P0 192 [(.agg (Tup.cells (R 4 (.i .i64)) t102_1).toArray)] w__71 fun (t103_1 : Tup (R 9 (.i .i64))) w__72 =>
StA P0 a_t6 (Tup.cells (R 9 (.i .i64)) t103_1) w__72 fun w__73 =>
LdA (R 9 (.i .i64)) a_t6 w__73 fun r_5 w__74 =>
K r_5 w__73) Kp) Kp)))))
theorem impl.proof.call.ok {p : Option Addr} {k : Option Addr} {which : Int} {w : World} {K : Tup (R 9 (.i .i64)) → World → Prop} {Kp : List PanicEntry → World → Prop} (h : impl.proof.call.vc p k which w K Kp) : CallP (.o (.ag (R 9 (.i .i64)))) P0 179 [(.pointer p), (.pointer k), (.int .i64 which)] w K Kp :=
  callP_of Tryz.func179 rfl rfl (pl := impl.proof.call.pl) (show VC P0 Tryz.f179 impl.proof.call.pl (.o (.ag (R 9 (.i .i64)))) [(.pointer p), (.pointer k), (.int .i64 which)] w K Kp from Eq.mp (by kernel_rfl) h)
/- (impl.known).turned -/
def impl.known.turned.pl : Pl := (.s (.r (D 1)) (.s (.s (.r [.d, .n, .d, (.l (.ag (R 99 (.i .i64)))), .d]) (.b (.l [(12, (.i .i64))] (.s (.r (D 1)) (.s (.c .z .z) (.s (.b (.s (.r [.d, (.t (.o (.ag (R 9 (.i .i64))))), .d, .d, .d]) (.b (.j [(24, .b)] (.r [.d, (.l (.lf (.i .i64))), .d, (.l (.lf (.i .i64))), .d, (.sp .d), .d, (.l (.lf (.i .i64))), .d, (.l (.lf (.i .i64))), .d, .d, .d]) (.c .z (.s (.r (D 2)) (.c (.g [(.q, []), (.q, []), ((.g (.o (.ag (R 4 (.i .i64)))) (.c (.o (.ag (R 4 (.i .i64)))))), []), ((.g (.o (.ag (R 9 (.i .i64)))) (.c (.o (.ag (R 9 (.i .i64)))))), [2]), ((.g (.o (.lf .ad)) .n), []), (.q, [4]), ((.g (.o (.lf .ad)) (.t (.o (.lf .ad)))), [4]), ((.g .z .d), [3, 6])] []) (.s (.r [.d, (.l (.lf (.i .i64))), .d, .d]) (.c (.g [(.q, []), (.q, []), (.q, []), ((.g (.o (.lf (.i .i64))) (.l (.lf (.i .i64)))), []), ((.g (.o (.ag (R 9 (.i .i64)))) .d), [3]), ((.g (.o (.lf .ad)) .n), []), (.q, [5]), ((.g (.o (.lf .ad)) (.t (.o (.lf .ad)))), [5]), ((.g .z .d), [4, 7])] []) (.g [(.q, []), (.q, []), (.q, []), ((.g (.o (.lf (.i .i64))) (.l (.lf (.i .i64)))), []), ((.g (.o (.ag (R 9 (.i .i64)))) .d), [3]), ((.g (.o (.lf .ad)) .n), []), (.q, [5]), ((.g (.o (.lf .ad)) (.t (.o (.lf .ad)))), [5]), ((.g .z .d), [4, 7])] [])))))))))) (.r (D 2)))))))) (.s (.r [.d, (.sp .d), .d, (.l (.lf (.i .i64))), .d, .d]) (.c (.r [.d, .d, (.l (.lf (.i .i64))), (.c .z)]) .z))))
set_option maxHeartbeats 4000000 in
def impl.known.turned.vc (k : Option Addr) (v : Tup (R 9 (.i .i64))) (nought : Bool) (w : World) (K : Unit → World → Prop) : Prop :=
Nw (Tup.cells (R 9 (.i .i64)) v).toArray 92 w fun a_v w_ =>
Nc k w_ fun a_t9 w__1 =>
LdA (R 99 (.i .i64)) (Addr.add a_t9 0) w__1 fun (t11 : Tup (R 99 (.i .i64))) w__2 =>
∃ (I : Int → World → Prop) (M : Int → World → Nat),
I 0 w__2 ∧
(∀ (t12 : Int) w__3, I t12 w__3 → ∀ _ : Nat → Value,
((decide ((t12 : Int) < 11)) = true → RunT (.o (.ag (R 9 (.i .i64)))) P0 (Instr.index 93 (.agg (Tup.cells (R 99 (.i .i64)) t11).toArray) (.int .i64 t12)) w__3 fun (t15 : Tup (R 9 (.i .i64))) w__4 =>
Nw (zc P0 92) 92 w__4 fun a_w w__5 =>
StA P0 a_w (Tup.cells (R 9 (.i .i64)) t15) w__5 fun w__6 =>
∃ J : Bool → World → Prop,
(Ld (.i .i64) (Addr.add a_w 0) w__6 fun (t26 : Int) w__7 =>
Ld (.i .i64) (Addr.add a_v 0) w__7 fun (t28 : Int) w__8 =>
(((t26 : Int) != t28) = true → J true w__8) ∧
(((t26 : Int) != t28) = false → Ld (.i .i64) (Addr.add a_w 8) w__8 fun (t32 : Int) w__9 =>
Ld (.i .i64) (Addr.add a_v 8) w__9 fun (t34 : Int) w__10 =>
J ((t32 : Int) != t34) w__10)) ∧
(∀ (t24 : Bool) w__11, J t24 w__11 → ∀ _ : Nat → Value,
(t24 = true → (I (IntKind.wrap .i64 (t12 + 1)) w__11 ∧ M (IntKind.wrap .i64 (t12 + 1)) w__11 < M t12 w__3)) ∧
(t24 = false → (nought = true → ∃ Sp : World → World → Prop, SpOk Sp w__11 ∧
∃ G_t41 : Tup (R 4 (.i .i64)) → World → Prop, Kept Sp G_t41 ∧
∃ G_t42 : Tup (R 9 (.i .i64)) → World → Prop, Kept Sp G_t42 ∧
∃ G_t43 : Addr → World → Prop, Kept Sp G_t43 ∧
∃ G_t45 : Addr → World → Prop, Kept Sp G_t45 ∧
∃ G_st : Unit → World → Prop, Kept Sp G_st ∧
(∀ w__12, Sp w__11 w__12 → CallT (.o (.ag (R 4 (.i .i64)))) P0 193 [(.int .i64 0)] w__12 fun (t41 : Tup (R 4 (.i .i64))) w__13 =>
GK (.o (.ag (R 4 (.i .i64)))) Sp w__12 G_t41 (.agg (Tup.cells (R 4 (.i .i64)) t41).toArray) w__13) ∧
∀ (t41_1 : Tup (R 4 (.i .i64))), (∀ w__14, Sp w__11 w__14 → G_t41 t41_1 w__14 → CallT (.o (.ag (R 9 (.i .i64)))) P0 192 [(.agg (Tup.cells (R 4 (.i .i64)) t41_1).toArray)] w__14 fun (t42 : Tup (R 9 (.i .i64))) w__15 =>
GK (.o (.ag (R 9 (.i .i64)))) Sp w__14 G_t42 (.agg (Tup.cells (R 9 (.i .i64)) t42).toArray) w__15) ∧
∀ (t42_1 : Tup (R 9 (.i .i64))), (∀ w__16, Sp w__11 w__16 → Nc k w__16 fun a_t43 w__17 =>
GK (.o (.lf .ad)) Sp w__16 G_t43 (.pointer (some a_t43)) w__17) ∧
∀ (t43 : Addr), (∀ w__18, Sp w__11 w__18 → G_t43 t43 w__18 → RunT (.o (.lf .ad)) P0 (Instr.indexAt 93 (.pointer (some (Addr.add t43 0))) (.int .i64 t12)) w__18 fun (a_t45 : Addr) w__19 =>
GK (.o (.lf .ad)) Sp w__18 G_t45 (.pointer (some a_t45)) w__19) ∧
∀ (t45 : Addr), (∀ w__20, Sp w__11 w__20 → G_t42 t42_1 w__20 → G_t45 t45 w__20 → StA P0 t45 (Tup.cells (R 9 (.i .i64)) t42_1) w__20 fun w__21 =>
GK .z Sp w__20 G_st (.tuple #[]) w__21) ∧
∀ (st : Unit), ∀ w__22, Sp w__11 w__22 → G_t41 t41_1 w__22 → G_t42 t42_1 w__22 → G_t43 t43 w__22 → G_t45 t45 w__22 → G_st st w__22 → 
(I (IntKind.wrap .i64 (t12 + 1)) w__22 ∧ M (IntKind.wrap .i64 (t12 + 1)) w__22 < M t12 w__3)) ∧
(nought = false → Ld (.i .i64) (Addr.add a_v 0) w__11 fun (t48 : Int) w__23 =>
(((t48 : Int) == 5) = true → ∃ Sp_1 : World → World → Prop, SpOk Sp_1 w__23 ∧
∃ G_t53 : Int → World → Prop, Kept Sp_1 G_t53 ∧
∃ G_t54 : Tup (R 9 (.i .i64)) → World → Prop, Kept Sp_1 G_t54 ∧
∃ G_t55 : Addr → World → Prop, Kept Sp_1 G_t55 ∧
∃ G_t57 : Addr → World → Prop, Kept Sp_1 G_t57 ∧
∃ G_st_1 : Unit → World → Prop, Kept Sp_1 G_st_1 ∧
(∀ w__24, Sp_1 w__23 w__24 → Ld (.i .i64) (Addr.add a_v 7) w__24 fun (t53 : Int) w__25 =>
GK (.o (.lf (.i .i64))) Sp_1 w__24 G_t53 (.int .i64 t53) w__25) ∧
∀ (t53_1 : Int), (∀ w__26, Sp_1 w__23 w__26 → G_t53 t53_1 w__26 → GK (.o (.ag (R 9 (.i .i64)))) Sp_1 w__26 G_t54 (.agg #[(.int .i64 4), (.int .i64 0), (.int .i64 0), (.int .i64 0), (.int .i64 0), (.int .i64 0), (.int .i64 0), (.int .i64 t53_1), (.int .i64 0)]) w__26) ∧
∀ (t54 : Tup (R 9 (.i .i64))), (∀ w__27, Sp_1 w__23 w__27 → Nc k w__27 fun a_t55 w__28 =>
GK (.o (.lf .ad)) Sp_1 w__27 G_t55 (.pointer (some a_t55)) w__28) ∧
∀ (t55 : Addr), (∀ w__29, Sp_1 w__23 w__29 → G_t55 t55 w__29 → RunT (.o (.lf .ad)) P0 (Instr.indexAt 93 (.pointer (some (Addr.add t55 0))) (.int .i64 t12)) w__29 fun (a_t57 : Addr) w__30 =>
GK (.o (.lf .ad)) Sp_1 w__29 G_t57 (.pointer (some a_t57)) w__30) ∧
∀ (t57 : Addr), (∀ w__31, Sp_1 w__23 w__31 → G_t54 t54 w__31 → G_t57 t57 w__31 → StA P0 t57 (Tup.cells (R 9 (.i .i64)) t54) w__31 fun w__32 =>
GK .z Sp_1 w__31 G_st_1 (.tuple #[]) w__32) ∧
∀ (st_1 : Unit), ∀ w__33, Sp_1 w__23 w__33 → G_t53 t53_1 w__33 → G_t54 t54 w__33 → G_t55 t55 w__33 → G_t57 t57 w__33 → G_st_1 st_1 w__33 → 
(I (IntKind.wrap .i64 (t12 + 1)) w__33 ∧ M (IntKind.wrap .i64 (t12 + 1)) w__33 < M t12 w__3)) ∧
(((t48 : Int) == 5) = false → ∃ Sp_2 : World → World → Prop, SpOk Sp_2 w__23 ∧
∃ G_t19 : Int → World → Prop, Kept Sp_2 G_t19 ∧
∃ G_t20 : Tup (R 9 (.i .i64)) → World → Prop, Kept Sp_2 G_t20 ∧
∃ G_t21 : Addr → World → Prop, Kept Sp_2 G_t21 ∧
∃ G_t23 : Addr → World → Prop, Kept Sp_2 G_t23 ∧
∃ G_st_1 : Unit → World → Prop, Kept Sp_2 G_st_1 ∧
(∀ w__34, Sp_2 w__23 w__34 → Ld (.i .i64) (Addr.add a_v 8) w__34 fun (t19 : Int) w__35 =>
GK (.o (.lf (.i .i64))) Sp_2 w__34 G_t19 (.int .i64 t19) w__35) ∧
∀ (t19_1 : Int), (∀ w__36, Sp_2 w__23 w__36 → G_t19 t19_1 w__36 → GK (.o (.ag (R 9 (.i .i64)))) Sp_2 w__36 G_t20 (.agg #[(.int .i64 6), (.int .i64 0), (.int .i64 0), (.int .i64 0), (.int .i64 0), (.int .i64 0), (.int .i64 0), (.int .i64 0), (.int .i64 t19_1)]) w__36) ∧
∀ (t20 : Tup (R 9 (.i .i64))), (∀ w__37, Sp_2 w__23 w__37 → Nc k w__37 fun a_t21 w__38 =>
GK (.o (.lf .ad)) Sp_2 w__37 G_t21 (.pointer (some a_t21)) w__38) ∧
∀ (t21 : Addr), (∀ w__39, Sp_2 w__23 w__39 → G_t21 t21 w__39 → RunT (.o (.lf .ad)) P0 (Instr.indexAt 93 (.pointer (some (Addr.add t21 0))) (.int .i64 t12)) w__39 fun (a_t23 : Addr) w__40 =>
GK (.o (.lf .ad)) Sp_2 w__39 G_t23 (.pointer (some a_t23)) w__40) ∧
∀ (t23 : Addr), (∀ w__41, Sp_2 w__23 w__41 → G_t20 t20 w__41 → G_t23 t23 w__41 → StA P0 t23 (Tup.cells (R 9 (.i .i64)) t20) w__41 fun w__42 =>
GK .z Sp_2 w__41 G_st_1 (.tuple #[]) w__42) ∧
∀ (st_2 : Unit), ∀ w__43, Sp_2 w__23 w__43 → G_t19 t19_1 w__43 → G_t20 t20 w__43 → G_t21 t21 w__43 → G_t23 t23 w__43 → G_st_1 st_2 w__43 → 
(I (IntKind.wrap .i64 (t12 + 1)) w__43 ∧ M (IntKind.wrap .i64 (t12 + 1)) w__43 < M t12 w__3)))))) ∧
((decide ((t12 : Int) < 11)) = false → (nought = true → Ld (.i .i64) (Addr.add a_v 0) w__3 fun (t62 : Int) w__44 =>
(((t62 : Int) == 7) = true → Ld (.i .i64) (Addr.add a_v 8) w__44 fun (t67 : Int) w__45 =>
CallT .z P0 194 [(.pointer k), (.int .i64 t67)] w__45 fun (u : Unit) w__46 =>
K () w__46) ∧
(((t62 : Int) == 7) = false → K () w__44)) ∧
(nought = false → K () w__3)))
theorem impl.known.turned.ok {k : Option Addr} {v : Tup (R 9 (.i .i64))} {nought : Bool} {w : World} {K : Unit → World → Prop} (h : impl.known.turned.vc k v nought w K) : CallT .z P0 174 [(.pointer k), (.agg (Tup.cells (R 9 (.i .i64)) v).toArray), (.bool nought)] w K :=
  call_of Tryz.func174 rfl rfl (pl := impl.known.turned.pl) (show VC P0 Tryz.f174 impl.known.turned.pl .z [(.pointer k), (.agg (Tup.cells (R 9 (.i .i64)) v).toArray), (.bool nought)] w K noP from Eq.mp (by kernel_rfl) h)
/- (impl.known).side -/
def impl.known.side.pl : Pl := (.s (.r (D 2)) (.s (.r [.d, .d, (.l (.lf (.i .i64))), (.cp (.o (.ag (R 9 (.i .i64))))), .d, .d]) (.s (.r [.d, (.l (.ag (R 6 (.i .i64)))), (.cp (.o (.ag (R 9 (.i .i64))))), .d, .d]) (.j [(9, .b)] (.r [.d, (.l (.lf (.i .i64))), .d, (.sp .d), .d, (.l (.lf (.i .i64))), .d, .d, .d]) (.s (.j [(44, .b)] (.r [.d, (.l (.lf (.i .i64))), .d, (.sp .d), .d, (.l (.lf (.i .i64))), .d, .d, (.sp .d), .d, (.l (.lf (.i .i64))), .d, .d, (.sp .d), .d, .d]) (.c (.s (.r [.d, .d, (.l (.lf (.i .i64))), .d, .d, .d]) (.s (.s (.r [(.l (.ag (R 9 (.i .i64)))), (.c (.o (.lf .b))), .d]) (.c (.s (.r (D 3)) .z) .z)) (.s (.r [.d, (.l (.ag (R 9 (.i .i64)))), .d, (.c .z)]) (.s (.r (D 1)) .z)))) .z)) (.s (.x [(.q, []), ((.g (.o (.lf (.i .i64))) (.l (.lf (.i .i64)))), []), ((.g (.o (.ag (R 9 (.i .i64)))) (.l (.ag (R 9 (.i .i64))))), []), ((.g (.o (.ag (R 4 (.i .i64)))) (.cp (.o (.ag (R 4 (.i .i64)))))), [2]), ((.g (.o (.ag (R 9 (.i .i64)))) (.l (.ag (R 9 (.i .i64))))), []), ((.g (.o (.ag (R 4 (.i .i64)))) (.cp (.o (.ag (R 4 (.i .i64)))))), [4]), (.q, []), ((.g (.n [(.ag (R 4 (.i .i64))), (.ag (R 4 (.i .i64))), (.lf .b)]) (.c (.n [(.ag (R 4 (.i .i64))), (.ag (R 4 (.i .i64))), (.lf .b)]))), [1, 3, 5]), (.q, [7]), (.q, [7]), (.q, [7]), (.q, [7]), ((.a 90), []), ((.a 90), []), ((.s 12 90 (.o (.ag (R 4 (.i .i64)))) .d), [7]), ((.s 13 90 (.o (.ag (R 4 (.i .i64)))) .d), [7])] [.d]) (.s (.j [(78, .b)] (.r [.d, (.sp .d), .d, (.l (.lf (.i .i64))), .d, (.l (.lf (.i .i64))), .d, .d]) (.c (.s (.g [(.q, []), (.q, []), ((.g (.o (.lf (.i .i64))) (.l (.lf (.i .i64)))), []), ((.g (.o (.ag (R 4 (.i .i64)))) (.l (.ag (R 4 (.i .i64))))), []), ((.g (.o (.lf .ad)) .n), []), (.q, [4]), ((.g (.o (.lf .ad)) (.t (.o (.lf .ad)))), [2, 4]), (.q, [6]), ((.g .z .d), [3, 6])] []) (.s (.r [.d, (.l (.lf (.i .i64))), .d]) (.c (.g [(.q, []), (.q, []), ((.g (.o (.lf (.i .i64))) (.l (.lf (.i .i64)))), []), ((.g (.o (.ag (R 4 (.i .i64)))) (.l (.ag (R 4 (.i .i64))))), []), ((.g (.o (.lf .ad)) .n), []), (.q, [4]), ((.g (.o (.lf .ad)) (.t (.o (.lf .ad)))), [2, 4]), (.q, [6]), ((.g .z .d), [3, 6])] []) .z))) .z)) (.s (.r (D 2)) .z))))))))
set_option maxHeartbeats 4000000 in
def impl.known.side.vc (k : Option Addr) (x : Tup (R 6 (.i .i64))) (is : Bool) (w : World) (K : Bool → World → Prop) (Kp : List PanicEntry → World → Prop) : Prop :=
Nw (Tup.cells (R 6 (.i .i64)) x).toArray 82 w fun a_x w_ =>
Ld (.i .i64) (Addr.add a_x 1) w_ fun (t16 : Int) w__1 =>
CallP (.o (.ag (R 9 (.i .i64)))) P0 140 [(.pointer k), (.int .i64 t16)] w__1 (fun (t17 : Tup (R 9 (.i .i64))) w__2 =>
Nw (zc P0 92) 92 w__2 fun a_a w__4 =>
StA P0 a_a (Tup.cells (R 9 (.i .i64)) t17) w__4 fun w__5 =>
LdA (R 6 (.i .i64)) a_x w__5 fun (t19 : Tup (R 6 (.i .i64))) w__6 =>
CallP (.o (.ag (R 9 (.i .i64)))) P0 172 [(.pointer k), (.agg (Tup.cells (R 6 (.i .i64)) t19).toArray)] w__6 (fun (t20 : Tup (R 9 (.i .i64))) w__7 =>
Nw (zc P0 92) 92 w__7 fun a_b w__9 =>
StA P0 a_b (Tup.cells (R 9 (.i .i64)) t20) w__9 fun w__10 =>
∃ J : Bool → World → Prop,
(Ld (.i .i64) (Addr.add a_x 0) w__10 fun (t22 : Int) w__11 =>
(((t22 : Int) == 12) = true → J true w__11) ∧
(((t22 : Int) == 12) = false → Ld (.i .i64) (Addr.add a_x 0) w__11 fun (t26 : Int) w__12 =>
J ((t26 : Int) == 13) w__12)) ∧
(∀ (equal : Bool) w__13, J equal w__13 → ∀ _ : Nat → Value,
∃ J_1 : Bool → World → Prop,
(Ld (.i .i64) (Addr.add a_a 0) w__13 fun (t30 : Int) w__14 =>
(((t30 : Int) != 1) = true → Ld (.i .i64) (Addr.add a_x 2) w__14 fun (t34 : Int) w__15 =>
(((t34 : Int) == (-1)) = true → Ld (.i .i64) (Addr.add a_x 4) w__15 fun (t39 : Int) w__16 =>
(((t39 : Int) == 0) = true → J_1 equal w__16) ∧
(((t39 : Int) == 0) = false → J_1 false w__16)) ∧
(((t34 : Int) == (-1)) = false → J_1 false w__15)) ∧
(((t30 : Int) != 1) = false → J_1 false w__14)) ∧
(∀ (t44 : Bool) w__17, J_1 t44 w__17 → ∀ _ : Nat → Value,
(t44 = true → Ld (.i .i64) (Addr.add a_x 0) w__17 fun (t47 : Int) w__18 =>
LdA (R 9 (.i .i64)) a_a w__18 fun (t50 : Tup (R 9 (.i .i64))) w__19 =>
CallT (.o (.lf .b)) P0 173 [(.agg (Tup.cells (R 9 (.i .i64)) t50).toArray)] w__19 fun (t51 : Bool) w__20 =>
((!t51) = true → K (!(is == ((t47 : Int) == 12))) w__20) ∧
((!t51) = false → LdA (R 9 (.i .i64)) a_a w__20 fun (t56 : Tup (R 9 (.i .i64))) w__21 =>
CallT .z P0 174 [(.pointer k), (.agg (Tup.cells (R 9 (.i .i64)) t56).toArray), (.bool (is == ((t47 : Int) == 12)))] w__21 fun (u : Unit) w__22 =>
K true w__22)) ∧
(t44 = false → ∃ Sp : World → World → Prop, SpOk Sp w__17 ∧
∃ G_t61 : Int → World → Prop, Kept Sp G_t61 ∧
∃ G_t62 : Tup (R 9 (.i .i64)) → World → Prop, Kept Sp G_t62 ∧
∃ G_t63 : Tup (R 4 (.i .i64)) → World → Prop, Kept Sp G_t63 ∧
∃ G_t64 : Tup (R 9 (.i .i64)) → World → Prop, Kept Sp G_t64 ∧
∃ G_t65 : Tup (R 4 (.i .i64)) → World → Prop, Kept Sp G_t65 ∧
∃ G_t67 : (Tup (R 4 (.i .i64))) × (Tup (R 4 (.i .i64))) × (Bool) × Unit → World → Prop, Kept Sp G_t67 ∧
∃ G_st : Tup (R 4 (.i .i64)) → World → Prop, Kept Sp G_st ∧
∃ G_st_1 : Tup (R 4 (.i .i64)) → World → Prop, Kept Sp G_st_1 ∧
(∀ w__23, Sp w__17 w__23 → Ld (.i .i64) (Addr.add a_x 0) w__23 fun (t61 : Int) w__24 =>
GK (.o (.lf (.i .i64))) (Sb (World.heap w__17).size Sp) w__23 G_t61 (.int .i64 t61) w__24) ∧
∀ (t61_1 : Int), (∀ w__25, Sp w__17 w__25 → LdA (R 9 (.i .i64)) a_a w__25 fun (t62 : Tup (R 9 (.i .i64))) w__26 =>
GK (.o (.ag (R 9 (.i .i64)))) (Sb (World.heap w__17).size Sp) w__25 G_t62 (.agg (Tup.cells (R 9 (.i .i64)) t62).toArray) w__26) ∧
∀ (t62_1 : Tup (R 9 (.i .i64))), (∀ w__27, Sp w__17 w__27 → G_t62 t62_1 w__27 → CallP (.o (.ag (R 4 (.i .i64)))) P0 141 [(.agg (Tup.cells (R 9 (.i .i64)) t62_1).toArray)] w__27 (fun (t63 : Tup (R 4 (.i .i64))) w__28 =>
GK (.o (.ag (R 4 (.i .i64)))) (Sb (World.heap w__17).size Sp) w__27 G_t63 (.agg (Tup.cells (R 4 (.i .i64)) t63).toArray) w__28) (fun ch w' => ∀ _ : Env, Kp ch w')) ∧
∀ (t63_1 : Tup (R 4 (.i .i64))), (∀ w__30, Sp w__17 w__30 → LdA (R 9 (.i .i64)) a_b w__30 fun (t64 : Tup (R 9 (.i .i64))) w__31 =>
GK (.o (.ag (R 9 (.i .i64)))) (Sb (World.heap w__17).size Sp) w__30 G_t64 (.agg (Tup.cells (R 9 (.i .i64)) t64).toArray) w__31) ∧
∀ (t64_1 : Tup (R 9 (.i .i64))), (∀ w__32, Sp w__17 w__32 → G_t64 t64_1 w__32 → CallP (.o (.ag (R 4 (.i .i64)))) P0 141 [(.agg (Tup.cells (R 9 (.i .i64)) t64_1).toArray)] w__32 (fun (t65 : Tup (R 4 (.i .i64))) w__33 =>
GK (.o (.ag (R 4 (.i .i64)))) (Sb (World.heap w__17).size Sp) w__32 G_t65 (.agg (Tup.cells (R 4 (.i .i64)) t65).toArray) w__33) (fun ch w' => ∀ _ : Env, Kp ch w')) ∧
∀ (t65_1 : Tup (R 4 (.i .i64))), (∀ w__35, Sp w__17 w__35 → G_t61 t61_1 w__35 → G_t63 t63_1 w__35 → G_t65 t65_1 w__35 → CallT (.n [(.ag (R 4 (.i .i64))), (.ag (R 4 (.i .i64))), (.lf .b)]) P0 175 [(.int .i64 t61_1), (.agg (Tup.cells (R 4 (.i .i64)) t63_1).toArray), (.agg (Tup.cells (R 4 (.i .i64)) t65_1).toArray), (.bool is)] w__35 fun (t67 : (Tup (R 4 (.i .i64))) × (Tup (R 4 (.i .i64))) × (Bool) × Unit) w__36 =>
GK (.n [(.ag (R 4 (.i .i64))), (.ag (R 4 (.i .i64))), (.lf .b)]) (Sb (World.heap w__17).size Sp) w__35 G_t67 (.tuple #[(.agg (Tup.cells (R 4 (.i .i64)) t67.1).toArray), (.agg (Tup.cells (R 4 (.i .i64)) t67.2.1).toArray), (.bool t67.2.2.1)]) w__36) ∧
∀ (t67_1 : (Tup (R 4 (.i .i64))) × (Tup (R 4 (.i .i64))) × (Bool) × Unit), (∀ w__37, Sp w__17 w__37 → Nw (zc P0 90) 90 w__37 fun a_m w__38 =>
AXp (World.heap w__17).size 90 (zc P0 90) Sp w__37 (.pointer (some a_m)) w__38) ∧
∀ (m : Nat), (∀ w__39, Sp w__17 w__39 → Nw (zc P0 90) 90 w__39 fun a_n w__40 =>
AXp (World.heap w__17).size 90 (zc P0 90) Sp w__39 (.pointer (some a_n)) w__40) ∧
∀ (n : Nat), (∀ w__41, Sp w__17 w__41 → G_t67 t67_1 w__41 → (World.heap w__17).size ≤ m → (World.heap w__41)[m]? = some (.cells (zc P0 90) 90 (0, 0)) → StA P0 (⟨m, 0, none⟩ : Addr) (Tup.cells (R 4 (.i .i64)) t67_1.1) w__41 fun w__42 =>
GS (.o (.ag (R 4 (.i .i64)))) Sp w__41 G_st m 90 (.agg (Tup.cells (R 4 (.i .i64)) t67_1.1).toArray) w__42) ∧
(∃ st : Tup (R 4 (.i .i64)), ((.agg (Tup.cells (R 4 (.i .i64)) t67_1.1).toArray) : Value) = (.agg (Tup.cells (R 4 (.i .i64)) st).toArray)) ∧
∀ (st : Tup (R 4 (.i .i64))), ((.agg (Tup.cells (R 4 (.i .i64)) t67_1.1).toArray) : Value) = (.agg (Tup.cells (R 4 (.i .i64)) st).toArray) → (∀ w__43, Sp w__17 w__43 → G_t67 t67_1 w__43 → (World.heap w__17).size ≤ n → (World.heap w__43)[n]? = some (.cells (zc P0 90) 90 (0, 0)) → StA P0 (⟨n, 0, none⟩ : Addr) (Tup.cells (R 4 (.i .i64)) t67_1.2.1) w__43 fun w__44 =>
GS (.o (.ag (R 4 (.i .i64)))) Sp w__43 G_st_1 n 90 (.agg (Tup.cells (R 4 (.i .i64)) t67_1.2.1).toArray) w__44) ∧
(∃ st_1 : Tup (R 4 (.i .i64)), ((.agg (Tup.cells (R 4 (.i .i64)) t67_1.2.1).toArray) : Value) = (.agg (Tup.cells (R 4 (.i .i64)) st_1).toArray)) ∧
∀ (st_1 : Tup (R 4 (.i .i64))), ((.agg (Tup.cells (R 4 (.i .i64)) t67_1.2.1).toArray) : Value) = (.agg (Tup.cells (R 4 (.i .i64)) st_1).toArray) → ∀ w__45, Sp w__17 w__45 → G_t61 t61_1 w__45 → G_t62 t62_1 w__45 → G_t63 t63_1 w__45 → G_t64 t64_1 w__45 → G_t65 t65_1 w__45 → G_t67 t67_1 w__45 → G_st st w__45 → G_st_1 st_1 w__45 → BxD (World.heap w__17).size w__45 [(m, ((.agg (Tup.cells (R 4 (.i .i64)) st).toArray) : Value).cells, 90), (n, ((.agg (Tup.cells (R 4 (.i .i64)) st_1).toArray) : Value).cells, 90)] → 
∃ J_2 : Bool → World → Prop,
((t67_1.2.2.1 = true → Ld (.i .i64) (Addr.add a_x 1) w__45 fun (t74 : Int) w__46 =>
Ld (.i .i64) (Addr.add a_x 2) w__46 fun (t76 : Int) w__47 =>
J_2 ((t74 : Int) != t76) w__47) ∧
(t67_1.2.2.1 = false → J_2 false w__45)) ∧
(∀ (t78 : Bool) w__48, J_2 t78 w__48 → ∀ _ : Nat → Value,
(t78 = true → ∃ Sp_1 : World → World → Prop, SpOk Sp_1 w__48 ∧
∃ G_t81 : Int → World → Prop, Kept Sp_1 G_t81 ∧
∃ G_t82 : Tup (R 4 (.i .i64)) → World → Prop, Kept Sp_1 G_t82 ∧
∃ G_t83 : Addr → World → Prop, Kept Sp_1 G_t83 ∧
∃ G_t85 : Addr → World → Prop, Kept Sp_1 G_t85 ∧
∃ G_st_1 : Unit → World → Prop, Kept Sp_1 G_st_1 ∧
(∀ w__49, Sp_1 w__48 w__49 → Ld (.i .i64) (Addr.add a_x 1) w__49 fun (t81 : Int) w__50 =>
GK (.o (.lf (.i .i64))) Sp_1 w__49 G_t81 (.int .i64 t81) w__50) ∧
∀ (t81_1 : Int), (∀ w__51, Sp_1 w__48 w__51 → LdA (R 4 (.i .i64)) (⟨m, 0, none⟩ : Addr) w__51 fun (t82 : Tup (R 4 (.i .i64))) w__52 =>
GK (.o (.ag (R 4 (.i .i64)))) Sp_1 w__51 G_t82 (.agg (Tup.cells (R 4 (.i .i64)) t82).toArray) w__52) ∧
∀ (t82_1 : Tup (R 4 (.i .i64))), (∀ w__53, Sp_1 w__48 w__53 → Nc k w__53 fun a_t83 w__54 =>
GK (.o (.lf .ad)) Sp_1 w__53 G_t83 (.pointer (some a_t83)) w__54) ∧
∀ (t83 : Addr), (∀ w__55, Sp_1 w__48 w__55 → G_t81 t81_1 w__55 → G_t83 t83 w__55 → RunT (.o (.lf .ad)) P0 (Instr.indexAt 93 (.pointer (some (Addr.add t83 0))) (.int .i64 t81_1)) w__55 fun (a_t85 : Addr) w__56 =>
GK (.o (.lf .ad)) Sp_1 w__55 G_t85 (.pointer (some a_t85)) w__56) ∧
∀ (t85 : Addr), (∀ w__57, Sp_1 w__48 w__57 → G_t82 t82_1 w__57 → G_t85 t85 w__57 → StA P0 (Addr.add t85 1) (Tup.cells (R 4 (.i .i64)) t82_1) w__57 fun w__58 =>
GK .z Sp_1 w__57 G_st_1 (.tuple #[]) w__58) ∧
∀ (st_2 : Unit), ∀ w__59, Sp_1 w__48 w__59 → G_t81 t81_1 w__59 → G_t82 t82_1 w__59 → G_t83 t83 w__59 → G_t85 t85 w__59 → G_st_1 st_2 w__59 → 
Ld (.i .i64) (Addr.add a_x 2) w__59 fun (t88 : Int) w__60 =>
(((t88 : Int) != (-1)) = true → ∃ Sp_2 : World → World → Prop, SpOk Sp_2 w__60 ∧
∃ G_t92 : Int → World → Prop, Kept Sp_2 G_t92 ∧
∃ G_t93 : Tup (R 4 (.i .i64)) → World → Prop, Kept Sp_2 G_t93 ∧
∃ G_t94 : Addr → World → Prop, Kept Sp_2 G_t94 ∧
∃ G_t96 : Addr → World → Prop, Kept Sp_2 G_t96 ∧
∃ G_st_1 : Unit → World → Prop, Kept Sp_2 G_st_1 ∧
(∀ w__61, Sp_2 w__60 w__61 → Ld (.i .i64) (Addr.add a_x 2) w__61 fun (t92 : Int) w__62 =>
GK (.o (.lf (.i .i64))) Sp_2 w__61 G_t92 (.int .i64 t92) w__62) ∧
∀ (t92_1 : Int), (∀ w__63, Sp_2 w__60 w__63 → LdA (R 4 (.i .i64)) (⟨n, 0, none⟩ : Addr) w__63 fun (t93 : Tup (R 4 (.i .i64))) w__64 =>
GK (.o (.ag (R 4 (.i .i64)))) Sp_2 w__63 G_t93 (.agg (Tup.cells (R 4 (.i .i64)) t93).toArray) w__64) ∧
∀ (t93_1 : Tup (R 4 (.i .i64))), (∀ w__65, Sp_2 w__60 w__65 → Nc k w__65 fun a_t94 w__66 =>
GK (.o (.lf .ad)) Sp_2 w__65 G_t94 (.pointer (some a_t94)) w__66) ∧
∀ (t94 : Addr), (∀ w__67, Sp_2 w__60 w__67 → G_t92 t92_1 w__67 → G_t94 t94 w__67 → RunT (.o (.lf .ad)) P0 (Instr.indexAt 93 (.pointer (some (Addr.add t94 0))) (.int .i64 t92_1)) w__67 fun (a_t96 : Addr) w__68 =>
GK (.o (.lf .ad)) Sp_2 w__67 G_t96 (.pointer (some a_t96)) w__68) ∧
∀ (t96 : Addr), (∀ w__69, Sp_2 w__60 w__69 → G_t93 t93_1 w__69 → G_t96 t96 w__69 → StA P0 (Addr.add t96 1) (Tup.cells (R 4 (.i .i64)) t93_1) w__69 fun w__70 =>
GK .z Sp_2 w__69 G_st_1 (.tuple #[]) w__70) ∧
∀ (st_3 : Unit), ∀ w__71, Sp_2 w__60 w__71 → G_t92 t92_1 w__71 → G_t93 t93_1 w__71 → G_t94 t94 w__71 → G_t96 t96 w__71 → G_st_1 st_3 w__71 → 
K t67_1.2.2.1 w__71) ∧
(((t88 : Int) != (-1)) = false → K t67_1.2.2.1 w__60)) ∧
(t78 = false → K t67_1.2.2.1 w__48)))))) Kp) Kp
theorem impl.known.side.ok {k : Option Addr} {x : Tup (R 6 (.i .i64))} {is : Bool} {w : World} {K : Bool → World → Prop} {Kp : List PanicEntry → World → Prop} (h : impl.known.side.vc k x is w K Kp) : CallP (.o (.lf .b)) P0 142 [(.pointer k), (.agg (Tup.cells (R 6 (.i .i64)) x).toArray), (.bool is)] w K Kp :=
  callP_of Tryz.func142 rfl rfl (pl := impl.known.side.pl) (show VC P0 Tryz.f142 impl.known.side.pl (.o (.lf .b)) [(.pointer k), (.agg (Tup.cells (R 6 (.i .i64)) x).toArray), (.bool is)] w K Kp from Eq.mp (by kernel_rfl) h)
/- (impl.proof).step -/
def impl.proof.step.pl : Pl := (.s (.r (D 1)) (.b (.s (.r [.d, (.l (.lf (.i .i64))), (.c (.o (.lf .b))), .d]) (.c (.r [.d, (.l (.ag (R 6 (.i .i64)))), (.cp .z)]) (.s (.r [.d, (.l (.lf (.i .i64))), .d, .d]) (.c (.r [.d, .d, (.l (.ag (R 6 (.i .i64)))), (.cp .z)]) (.s (.r [.d, (.l (.lf (.i .i64))), .d, .d]) (.c (.r [.d, .d, (.l (.ag (R 6 (.i .i64)))), (.cp .z)]) (.s (.r [.d, .d, .d, (.l (.lf (.i .i64))), (.cp (.o (.ag (R 9 (.i .i64))))), .d, .d]) (.s (.s (.r (D 1)) (.b (.l [(7, (.i .i64))] (.s (.s (.r (D 2)) (.c .z .z)) (.s (.b (.r [.d, .d, .d, .n, .d, (.t (.o (.lf .ad))), .d])) (.r (D 3))))))) (.g [(.q, []), ((.g (.o (.ag (R 9 (.i .i64)))) (.l (.ag (R 9 (.i .i64))))), []), ((.g (.o (.lf .ad)) .n), []), (.q, [2]), ((.g (.o (.lf .ad)) (.t (.o (.lf .ad)))), [2]), ((.g .z .d), [1, 4])] [])))))))))))
def impl.proof.step.vc (p : Option Addr) (k : Option Addr) (x : Tup (R 6 (.i .i64))) (w : World) (K : Unit → World → Prop) (Kp : List PanicEntry → World → Prop) : Prop :=
Nw (Tup.cells (R 6 (.i .i64)) x).toArray 82 w fun a_x w_ =>
Ld (.i .i64) (Addr.add a_x 0) w_ fun (t30 : Int) w__1 =>
CallT (.o (.lf .b)) P0 84 [(.int .i64 t30)] w__1 fun (t31 : Bool) w__2 =>
(t31 = true → LdA (R 6 (.i .i64)) a_x w__2 fun (t33 : Tup (R 6 (.i .i64))) w__3 =>
CallP .z P0 176 [(.pointer k), (.agg (Tup.cells (R 6 (.i .i64)) t33).toArray)] w__3 (fun (u : Unit) w__4 =>
K () w__4) Kp) ∧
(t31 = false → Ld (.i .i64) (Addr.add a_x 0) w__2 fun (t37 : Int) w__6 =>
(((t37 : Int) == 17) = true → LdA (R 6 (.i .i64)) a_x w__6 fun (t41 : Tup (R 6 (.i .i64))) w__7 =>
CallP .z P0 177 [(.pointer p), (.pointer k), (.agg (Tup.cells (R 6 (.i .i64)) t41).toArray)] w__7 (fun (u_1 : Unit) w__8 =>
K () w__8) Kp) ∧
(((t37 : Int) == 17) = false → Ld (.i .i64) (Addr.add a_x 0) w__6 fun (t45 : Int) w__10 =>
(((t45 : Int) == 18) = true → LdA (R 6 (.i .i64)) a_x w__10 fun (t49 : Tup (R 6 (.i .i64))) w__11 =>
CallP .z P0 178 [(.pointer p), (.pointer k), (.agg (Tup.cells (R 6 (.i .i64)) t49).toArray)] w__11 (fun (u_2 : Unit) w__12 =>
K () w__12) Kp) ∧
(((t45 : Int) == 18) = false → Ld (.i .i64) (Addr.add a_x 4) w__10 fun (t11 : Int) w__14 =>
CallP (.o (.ag (R 9 (.i .i64)))) P0 179 [(.pointer p), (.pointer k), (.int .i64 t11)] w__14 (fun (t12 : Tup (R 9 (.i .i64))) w__15 =>
Nw (zc P0 92) 92 w__15 fun a_v w__17 =>
StA P0 a_v (Tup.cells (R 9 (.i .i64)) t12) w__17 fun w__18 =>
∃ (I : Int → World → Prop) (M : Int → World → Nat),
I 1 w__18 ∧
(∀ (i : Int) w__19, I i w__19 → ∀ _ : Nat → Value,
((decide ((i : Int) ≤ 5)) = true → Nc k w__19 fun a_t20 w__20 =>
RunT (.o (.lf .ad)) P0 (Instr.indexAt 93 (.pointer (some (Addr.add a_t20 0))) (.int .i64 i)) w__20 fun (a_t22 : Addr) w__21 =>
StA P0 a_t22 [(.int .i64 0), (.int .i64 0), (.int .i64 0), (.int .i64 0), (.int .i64 0), (.int .i64 0), (.int .i64 0), (.int .i64 0), (.int .i64 0)] w__21 fun w__22 =>
(I (IntKind.wrap .i64 (i + 1)) w__22 ∧ M (IntKind.wrap .i64 (i + 1)) w__22 < M i w__19)) ∧
((decide ((i : Int) ≤ 5)) = false → ∃ Sp : World → World → Prop, SpOk Sp w__19 ∧
∃ G_t24 : Tup (R 9 (.i .i64)) → World → Prop, Kept Sp G_t24 ∧
∃ G_t25 : Addr → World → Prop, Kept Sp G_t25 ∧
∃ G_t27 : Addr → World → Prop, Kept Sp G_t27 ∧
∃ G_st : Unit → World → Prop, Kept Sp G_st ∧
(∀ w__23, Sp w__19 w__23 → LdA (R 9 (.i .i64)) a_v w__23 fun (t24 : Tup (R 9 (.i .i64))) w__24 =>
GK (.o (.ag (R 9 (.i .i64)))) Sp w__23 G_t24 (.agg (Tup.cells (R 9 (.i .i64)) t24).toArray) w__24) ∧
∀ (t24_1 : Tup (R 9 (.i .i64))), (∀ w__25, Sp w__19 w__25 → Nc k w__25 fun a_t25 w__26 =>
GK (.o (.lf .ad)) Sp w__25 G_t25 (.pointer (some a_t25)) w__26) ∧
∀ (t25 : Addr), (∀ w__27, Sp w__19 w__27 → G_t25 t25 w__27 → RunT (.o (.lf .ad)) P0 (Instr.indexAt 93 (.pointer (some (Addr.add t25 0))) (.int .i64 0)) w__27 fun (a_t27 : Addr) w__28 =>
GK (.o (.lf .ad)) Sp w__27 G_t27 (.pointer (some a_t27)) w__28) ∧
∀ (t27 : Addr), (∀ w__29, Sp w__19 w__29 → G_t24 t24_1 w__29 → G_t27 t27 w__29 → StA P0 t27 (Tup.cells (R 9 (.i .i64)) t24_1) w__29 fun w__30 =>
GK .z Sp w__29 G_st (.tuple #[]) w__30) ∧
∀ (st : Unit), ∀ w__31, Sp w__19 w__31 → G_t24 t24_1 w__31 → G_t25 t25 w__31 → G_t27 t27 w__31 → G_st st w__31 → 
K () w__31))) Kp)))
theorem impl.proof.step.ok {p : Option Addr} {k : Option Addr} {x : Tup (R 6 (.i .i64))} {w : World} {K : Unit → World → Prop} {Kp : List PanicEntry → World → Prop} (h : impl.proof.step.vc p k x w K Kp) : CallP .z P0 143 [(.pointer p), (.pointer k), (.agg (Tup.cells (R 6 (.i .i64)) x).toArray)] w K Kp :=
  callP_of Tryz.func143 rfl rfl (pl := impl.proof.step.pl) (show VC P0 Tryz.f143 impl.proof.step.pl .z [(.pointer p), (.pointer k), (.agg (Tup.cells (R 6 (.i .i64)) x).toArray)] w K Kp from Eq.mp (by kernel_rfl) h)
/- (impl.proof).follow -/
def impl.proof.follow.pl : Pl := (.s (.r (D 1)) (.b (.l [(1, (.i .i64)), (3, (.i .i64))] (.b (.s (.r [.d, .d, .n, .d, .d]) (.j [] (.r [.d, .n, .d, (.l (.lf (.i .i64))), .d, (.sp .d), .d, .d, .d, (.cp .z)]) (.s (.r [.d, .n, .d, (.l (.lf (.i .i64))), .d, .n, .d, .d]) (.s (.r (D 3)) (.s (.g [(.q, []), ((.g (.o (.lf .ad)) .n), []), (.q, [1]), ((.g (.o (.lf (.fn 52 1))) (.l (.lf (.fn 52 1)))), [1]), (.q, []), ((.g (.o (.ag (R 99 (.i .i64) ++ R 16 .b ++ [.sl]))) (.l (.ag (R 99 (.i .i64) ++ R 16 .b ++ [.sl])))), []), ((.h (.n []) (.c .z)), [3, 5])] []) (.s (.r [.d, .n, .d, (.l (.lf .sl)), .d, .d, (.l (.ag (R 6 (.i .i64)))), .d, .d]) (.s (.b (.s (.r [.d, (.l (.lf (.i .i64))), .d, .d]) (.c (.s (.r [(.cp (.o (.ag (R 9 (.i .i64))))), (.cp (.o (.ag (R 4 (.i .i64)))))]) (.s (.r [.d, (.l (.lf .sl)), .d, .d, (.cp .z)]) (.s (.r [.d, .d, .n, .d, (.l (.lf (.i .i64))), .d, .d, .n, .d, .d]) .z))) (.s (.r [.d, (.l (.lf (.i .i64))), .d, .d]) (.c (.s (.r [.d, .n, .d, (.l (.lf .sl)), .d, (.c (.o (.lf (.i .i64)))), .d]) .z) (.s (.r [.d, (.l (.lf (.i .i64))), (.c (.o (.lf .b))), .d]) (.c (.s (.r [(.l (.ag (R 99 (.i .i64) ++ R 16 .b ++ [.sl]))), .d, .d]) (.j [] (.s (.r [(.l (.ag (R 6 (.i .i64)))), (.cp (.o (.lf .b)))]) (.c (.r [.d, .d, .d, (.l (.ag (R 99 (.i .i64) ++ R 16 .b ++ [.sl]))), .d, (.cp .z)]) .z)) (.s (.r [.d, .d, .n, .d, .d]) (.s (.s (.r [(.l (.ag (R 6 (.i .i64)))), (.cp (.o (.lf .b))), .d]) (.c .z .z)) (.s (.g [((.g (.o (.ag (R 99 (.i .i64) ++ R 16 .b ++ [.sl]))) (.l (.ag (R 99 (.i .i64) ++ R 16 .b ++ [.sl])))), []), (.q, []), ((.g (.o (.lf .ad)) .n), []), (.q, [2]), ((.g (.o (.lf .sl)) (.l (.lf .sl))), [2]), (.q, []), ((.g (.o (.lf (.i .i64))) (.c (.o (.lf (.i .i64))))), [4]), ((.g .z .d), [0])] [.d]) .z))))) .z))))))) (.s (.r [.d, (.l (.ag (R 6 (.i .i64)))), (.cp .z)]) (.r (D 3))))))))))))))
set_option maxHeartbeats 4000000 in
def impl.proof.follow.vc (p : Option Addr) (at_ : Int) (k : Tup (R 99 (.i .i64) ++ R 16 .b ++ [.sl])) (many : Int) (w : World) (K : Unit → World → Prop) (Kp : List PanicEntry → World → Prop) : Prop :=
Nw (Tup.cells (R 99 (.i .i64) ++ R 16 .b ++ [.sl]) k).toArray 95 w fun a_k w_ =>
∃ (I : Int → Int → World → Prop) (M : Int → Int → World → Nat),
I at_ many w_ ∧
(∀ (at__1 : Int) (many_1 : Int) w__1, I at__1 many_1 w__1 → ∀ _ : Nat → Value,
Nc p w__1 fun a_t12 w__2 =>
St (Addr.add a_t12 5) (.int .i64 at__1) w__2 fun w__3 =>
∃ J : World → Prop,
(Nc p w__3 fun a_t15 w__4 =>
Ld (.i .i64) (Addr.add a_t15 2) w__4 fun (t17 : Int) w__5 =>
((decide ((t17 : Int) < 1200)) = true → CallP .z P0 57 [(.bool (decide ((many_1 : Int) < 300))), (.int .i64 8)] w__5 (fun (u : Unit) w__6 =>
J w__6) Kp) ∧
((decide ((t17 : Int) < 1200)) = false → CallP .z P0 57 [(.bool false), (.int .i64 8)] w__5 (fun (u_1 : Unit) w__8 =>
J w__8) Kp)) ∧
(∀  w__10, J w__10 → ∀ _ : Nat → Value,
Nc p w__10 fun a_t25 w__11 =>
Ld (.i .i64) (Addr.add a_t25 2) w__11 fun (t27 : Int) w__12 =>
Nc p w__12 fun a_t29 w__13 =>
St (Addr.add a_t29 2) (.int .i64 (IntKind.wrap .i64 (t27 + 1))) w__13 fun w__14 =>
∃ Sp : World → World → Prop, SpOk Sp w__14 ∧
∃ N : World → Prop, NOk N w__14 ∧
∃ G_t34 : Addr → World → Prop, Kept Sp G_t34 ∧
∃ G_t36 : AdT 1 → World → Prop, Kept Sp G_t36 ∧
∃ G_t38 : Tup (R 99 (.i .i64) ++ R 16 .b ++ [.sl]) → World → Prop, Kept Sp G_t38 ∧
∃ G_t39 : Unit → World → Prop, Kept Sp G_t39 ∧
(∀ w__15, Sp w__14 w__15 → Nc p w__15 fun a_t34 w__16 =>
GK (.o (.lf .ad)) (Sk Sp N) w__15 G_t34 (.pointer (some a_t34)) w__16) ∧
∀ (t34 : Addr), (∀ w__17, Sp w__14 w__17 → G_t34 t34 w__17 → Ld (.fn 52 1) (Addr.add t34 6) w__17 fun (t36 : AdT 1) w__18 =>
GK (.o (.lf (.fn 52 1))) (Sk Sp N) w__17 G_t36 (.func (.func 52) #[] #[(.pointer (some t36.1))]) w__18) ∧
∀ (t36_1 : AdT 1), (∀ w__19, Sp w__14 w__19 → LdA (R 99 (.i .i64) ++ R 16 .b ++ [.sl]) a_k w__19 fun (t38 : Tup (R 99 (.i .i64) ++ R 16 .b ++ [.sl])) w__20 =>
GK (.o (.ag (R 99 (.i .i64) ++ R 16 .b ++ [.sl]))) (Sk Sp N) w__19 G_t38 (.agg (Tup.cells (R 99 (.i .i64) ++ R 16 .b ++ [.sl]) t38).toArray) w__20) ∧
∀ (t38_1 : Tup (R 99 (.i .i64) ++ R 16 .b ++ [.sl])), (∀ w__21, Sp w__14 w__21 → N w__21 → G_t36 t36_1 w__21 → G_t38 t38_1 w__21 → CallT .z P0 52 [(.int .i64 at__1), (.agg (Tup.cells (R 99 (.i .i64) ++ R 16 .b ++ [.sl]) t38_1).toArray), (.pointer (some t36_1.1))] w__21 fun (u_2 : Unit) w__22 =>
GK (.n []) Sp w__21 G_t39 (.tuple #[]) w__22) ∧
∀ (t39 : Unit), ∀ w__23, Sp w__14 w__23 → G_t34 t34 w__23 → G_t36 t36_1 w__23 → G_t38 t38_1 w__23 → G_t39 t39 w__23 → 
Nc p w__23 fun a_t41 w__24 =>
Ld .sl (Addr.add a_t41 0) w__24 fun (t43 : Sl) w__25 =>
Ix t43.a t43.n at__1 6 w__25 fun a_t45 w__26 =>
LdA (R 6 (.i .i64)) a_t45 w__26 fun (t46 : Tup (R 6 (.i .i64))) w__27 =>
Nw (zc P0 82) 82 w__27 fun a_x w__28 =>
StA P0 a_x (Tup.cells (R 6 (.i .i64)) t46) w__28 fun w__29 =>
Ld (.i .i64) (Addr.add a_x 0) w__29 fun (t49 : Int) w__30 =>
(((t49 : Int) == 20) = true → CallP (.o (.ag (R 9 (.i .i64)))) P0 140 [(.pointer (some a_k)), (.int .i64 0)] w__30 (fun (t51 : Tup (R 9 (.i .i64))) w__31 =>
CallP (.o (.ag (R 4 (.i .i64)))) P0 141 [(.agg (Tup.cells (R 9 (.i .i64)) t51).toArray)] w__31 (fun (t52 : Tup (R 4 (.i .i64))) w__33 =>
Ld .sl (Addr.add a_k 115) w__33 fun (t54 : Sl) w__35 =>
CallP .z P0 57 [(.bool ((((t54.n : Nat) : Int) : Int) == 0)), (.int .i64 7)] w__35 (fun (u_3 : Unit) w__36 =>
Nc p w__36 fun a_t60 w__38 =>
Ld (.i .i64) (Addr.add a_t60 4) w__38 fun (t62 : Int) w__39 =>
Nc p w__39 fun a_t65 w__40 =>
St (Addr.add a_t65 4) (.int .i64 (if ((IntKind.wrap .i64 (many_1 + 1)) : Int) > t62 then (IntKind.wrap .i64 (many_1 + 1)) else t62)) w__40 fun w__41 =>
K () w__41) Kp) Kp) Kp) ∧
(((t49 : Int) == 20) = false → Ld (.i .i64) (Addr.add a_x 0) w__30 fun (t69 : Int) w__42 =>
(((t69 : Int) == 16) = true → Nc p w__42 fun a_t72 w__43 =>
Ld .sl (Addr.add a_t72 0) w__43 fun (t74 : Sl) w__44 =>
CallT (.o (.lf (.i .i64))) P0 45 [t74.v, (.int .i64 at__1)] w__44 fun (t76 : Int) w__45 =>
(I t76 (IntKind.wrap .i64 (many_1 + 1)) w__45 ∧ M t76 (IntKind.wrap .i64 (many_1 + 1)) w__45 < M at__1 many_1 w__1)) ∧
(((t69 : Int) == 16) = false → Ld (.i .i64) (Addr.add a_x 0) w__42 fun (t79 : Int) w__46 =>
CallT (.o (.lf .b)) P0 49 [(.int .i64 t79)] w__46 fun (t80 : Bool) w__47 =>
(t80 = true → LdA (R 99 (.i .i64) ++ R 16 .b ++ [.sl]) a_k w__47 fun (t81 : Tup (R 99 (.i .i64) ++ R 16 .b ++ [.sl])) w__48 =>
Nw (zc P0 95) 95 w__48 fun a_other w__49 =>
StA P0 a_other (Tup.cells (R 99 (.i .i64) ++ R 16 .b ++ [.sl]) t81) w__49 fun w__50 =>
∃ J_1 : World → Prop,
(LdA (R 6 (.i .i64)) a_x w__50 fun (t82 : Tup (R 6 (.i .i64))) w__51 =>
CallP (.o (.lf .b)) P0 142 [(.pointer (some a_k)), (.agg (Tup.cells (R 6 (.i .i64)) t82).toArray), (.bool false)] w__51 (fun (t83 : Bool) w__52 =>
(t83 = true → LdA (R 99 (.i .i64) ++ R 16 .b ++ [.sl]) a_k w__52 fun (t87 : Tup (R 99 (.i .i64) ++ R 16 .b ++ [.sl])) w__54 =>
CallP .z P0 92 [(.pointer p), (.int .i64 (IntKind.wrap .i64 (at__1 + 1))), (.agg (Tup.cells (R 99 (.i .i64) ++ R 16 .b ++ [.sl]) t87).toArray), (.int .i64 (IntKind.wrap .i64 (many_1 + 1)))] w__54 (fun (u_4 : Unit) w__55 =>
J_1 w__55) Kp) ∧
(t83 = false → J_1 w__52)) Kp) ∧
(∀  w__57, J_1 w__57 → ∀ _ : Nat → Value,
Nc p w__57 fun a_t92 w__58 =>
St (Addr.add a_t92 5) (.int .i64 at__1) w__58 fun w__59 =>
LdA (R 6 (.i .i64)) a_x w__59 fun (t94 : Tup (R 6 (.i .i64))) w__60 =>
CallP (.o (.lf .b)) P0 142 [(.pointer (some a_other)), (.agg (Tup.cells (R 6 (.i .i64)) t94).toArray), (.bool true)] w__60 (fun (t95 : Bool) w__61 =>
((!t95) = true → K () w__61) ∧
((!t95) = false → ∃ Sp_1 : World → World → Prop, SpOk Sp_1 w__61 ∧
∃ G_t97 : Tup (R 99 (.i .i64) ++ R 16 .b ++ [.sl]) → World → Prop, Kept Sp_1 G_t97 ∧
∃ G_t99 : Addr → World → Prop, Kept Sp_1 G_t99 ∧
∃ G_t101 : Sl → World → Prop, Kept Sp_1 G_t101 ∧
∃ G_t103 : Int → World → Prop, Kept Sp_1 G_t103 ∧
∃ G_st : Unit → World → Prop, Kept Sp_1 G_st ∧
(∀ w__63, Sp_1 w__61 w__63 → LdA (R 99 (.i .i64) ++ R 16 .b ++ [.sl]) a_other w__63 fun (t97 : Tup (R 99 (.i .i64) ++ R 16 .b ++ [.sl])) w__64 =>
GK (.o (.ag (R 99 (.i .i64) ++ R 16 .b ++ [.sl]))) Sp_1 w__63 G_t97 (.agg (Tup.cells (R 99 (.i .i64) ++ R 16 .b ++ [.sl]) t97).toArray) w__64) ∧
∀ (t97_1 : Tup (R 99 (.i .i64) ++ R 16 .b ++ [.sl])), (∀ w__65, Sp_1 w__61 w__65 → Nc p w__65 fun a_t99 w__66 =>
GK (.o (.lf .ad)) Sp_1 w__65 G_t99 (.pointer (some a_t99)) w__66) ∧
∀ (t99 : Addr), (∀ w__67, Sp_1 w__61 w__67 → G_t99 t99 w__67 → Ld .sl (Addr.add t99 0) w__67 fun (t101 : Sl) w__68 =>
GK (.o (.lf .sl)) Sp_1 w__67 G_t101 t101.v w__68) ∧
∀ (t101_1 : Sl), (∀ w__69, Sp_1 w__61 w__69 → G_t101 t101_1 w__69 → CallT (.o (.lf (.i .i64))) P0 45 [t101_1.v, (.int .i64 at__1)] w__69 fun (t103 : Int) w__70 =>
GK (.o (.lf (.i .i64))) Sp_1 w__69 G_t103 (.int .i64 t103) w__70) ∧
∀ (t103_1 : Int), (∀ w__71, Sp_1 w__61 w__71 → G_t97 t97_1 w__71 → StA P0 a_k (Tup.cells (R 99 (.i .i64) ++ R 16 .b ++ [.sl]) t97_1) w__71 fun w__72 =>
GK .z Sp_1 w__71 G_st (.tuple #[]) w__72) ∧
∀ (st : Unit), ∀ w__73, Sp_1 w__61 w__73 → G_t97 t97_1 w__73 → G_t99 t99 w__73 → G_t101 t101_1 w__73 → G_t103 t103_1 w__73 → G_st st w__73 → 
(I t103_1 (IntKind.wrap .i64 (many_1 + 1)) w__73 ∧ M t103_1 (IntKind.wrap .i64 (many_1 + 1)) w__73 < M at__1 many_1 w__1))) Kp)) ∧
(t80 = false → LdA (R 6 (.i .i64)) a_x w__47 fun (t105 : Tup (R 6 (.i .i64))) w__74 =>
CallP .z P0 143 [(.pointer p), (.pointer (some a_k)), (.agg (Tup.cells (R 6 (.i .i64)) t105).toArray)] w__74 (fun (u_5 : Unit) w__75 =>
(I (IntKind.wrap .i64 (at__1 + 1)) (IntKind.wrap .i64 (many_1 + 1)) w__75 ∧ M (IntKind.wrap .i64 (at__1 + 1)) (IntKind.wrap .i64 (many_1 + 1)) w__75 < M at__1 many_1 w__1)) Kp)))))
theorem impl.proof.follow.ok {p : Option Addr} {at_ : Int} {k : Tup (R 99 (.i .i64) ++ R 16 .b ++ [.sl])} {many : Int} {w : World} {K : Unit → World → Prop} {Kp : List PanicEntry → World → Prop} (h : impl.proof.follow.vc p at_ k many w K Kp) : CallP .z P0 92 [(.pointer p), (.int .i64 at_), (.agg (Tup.cells (R 99 (.i .i64) ++ R 16 .b ++ [.sl]) k).toArray), (.int .i64 many)] w K Kp :=
  callP_of Tryz.func92 rfl rfl (pl := impl.proof.follow.pl) (show VC P0 Tryz.f92 impl.proof.follow.pl .z [(.pointer p), (.int .i64 at_), (.agg (Tup.cells (R 99 (.i .i64) ++ R 16 .b ++ [.sl]) k).toArray), (.int .i64 many)] w K Kp from Eq.mp (by kernel_rfl) h)
/- (impl.known).free$1 -/
def impl.known.free_1.pl : Pl := (.s (.r (D 1)) (.s (.r [.d, (.l (.lf (.i .i64))), .d, .d]) .z))
def impl.known.free_1.vc (s : Int) (t1 : Addr) (w : World) (K : Bool → World → Prop) : Prop :=
Ld (.i .i64) t1 w fun (t5 : Int) w_ =>
K ((s : Int) == t5) w_
theorem impl.known.free_1.ok {s : Int} {t1 : Addr} {w : World} {K : Bool → World → Prop} (h : impl.known.free_1.vc s t1 w K) : CallT (.o (.lf .b)) P0 211 [(.int .i64 s), (.pointer (some t1))] w K :=
  call_of Tryz.func211 rfl rfl (pl := impl.known.free_1.pl) (show VC P0 Tryz.f211 impl.known.free_1.pl (.o (.lf .b)) [(.int .i64 s), (.pointer (some t1))] w K noP from Eq.mp (by kernel_rfl) h)
/- slices.Contains[[]bool,bool] -/
def slices.Contains_bool.pl : Pl := (.s (.r (D 1)) (.s (.r [.d, .d, (.c (.o (.lf (.i .i64)))), .d, .d]) .z))
def slices.Contains_bool.vc (s : Sl) (v : Bool) (w : World) (K : Bool → World → Prop) : Prop :=
CallT (.o (.lf (.i .i64))) P0 183 [s.v, (.bool v)] w fun (t7 : Int) w_ =>
K (decide ((t7 : Int) ≥ 0)) w_
theorem slices.Contains_bool.ok {s : Sl} {v : Bool} {w : World} {K : Bool → World → Prop} (h : slices.Contains_bool.vc s v w K) : CallT (.o (.lf .b)) P0 155 [s.v, (.bool v)] w K :=
  call_of Tryz.func155 rfl rfl (pl := slices.Contains_bool.pl) (show VC P0 Tryz.f155 slices.Contains_bool.pl (.o (.lf .b)) [s.v, (.bool v)] w K noP from Eq.mp (by kernel_rfl) h)
/- slices.Index[[]bool,bool] -/
def slices.Index_bool.pl : Pl := (.s (.r (D 1)) (.s (.s (.r (D 3)) (.b (.l [(8, (.i .i64))] (.s (.r (D 1)) (.s (.c .z .z) (.s (.b (.s (.r (D 2)) (.s (.r [.d, .d, .d, .d, (.l (.lf .b)), .d]) (.c (.s (.r (D 2)) .z) .z)))) (.r (D 2)))))))) (.s (.r (D 1)) .z)))
def slices.Index_bool.vc (s : Sl) (v : Bool) (w : World) (K : Int → World → Prop) : Prop :=
∃ (I : Int → World → Prop) (M : Int → World → Nat),
I 0 w ∧
(∀ (t8 : Int) w_, I t8 w_ → ∀ _ : Nat → Value,
((decide ((t8 : Int) < ((s.n : Nat) : Int))) = true → Ix s.a s.n t8 1 w_ fun a_t14 w__1 =>
Ld .b a_t14 w__1 fun (t15 : Bool) w__2 =>
((v == t15) = true → K t8 w__2) ∧
((v == t15) = false → (I (IntKind.wrap .i64 (t8 + 1)) w__2 ∧ M (IntKind.wrap .i64 (t8 + 1)) w__2 < M t8 w_))) ∧
((decide ((t8 : Int) < ((s.n : Nat) : Int))) = false → K (-1) w_))
theorem slices.Index_bool.ok {s : Sl} {v : Bool} {w : World} {K : Int → World → Prop} (h : slices.Index_bool.vc s v w K) : CallT (.o (.lf (.i .i64))) P0 183 [s.v, (.bool v)] w K :=
  call_of Tryz.func183 rfl rfl (pl := slices.Index_bool.pl) (show VC P0 Tryz.f183 slices.Index_bool.pl (.o (.lf (.i .i64))) [s.v, (.bool v)] w K noP from Eq.mp (by kernel_rfl) h)
/- slices.DeleteFunc[[]int,int] -/
def slices.DeleteFunc_int.pl : Pl := (.s (.r (D 1)) (.s (.r [.d, .d, (.c (.o (.lf (.i .i64)))), .d]) (.s (.s (.r (D 2)) (.c (.s (.r (D 2)) .z) .z)) (.s (.s (.r (D 3)) (.b (.l [(5, (.i .i64)), (6, (.i .i64))] (.s (.s (.r (D 4)) (.c .z .z)) (.s (.b (.s (.r [.d, .d, .d, (.l (.lf (.i .i64))), .d]) (.s (.r [.d, .d, (.c (.o (.lf .b))), .d]) (.c (.s (.r (D 5)) (.r (D 3))) .z)))) (.r (D 3))))))) (.s (.r [.d, .d, (.t (.o (.lf .sl))), (.t .z)]) (.s (.r [.d, .d, (.t (.o (.lf .sl))), .d]) .z))))))
def slices.DeleteFunc_int.vc (s : Sl) (del : AdT 1) (w : World) (K : Sl → World → Prop) : Prop :=
CallT (.o (.lf (.i .i64))) P0 126 [s.v, (.func (.func 211) #[] #[(.pointer (some del.1))])] w fun (t10 : Int) w_ =>
(((t10 : Int) == (-1)) = true → K s w_) ∧
(((t10 : Int) == (-1)) = false → ∃ (I : Int → Int → World → Prop) (M : Int → Int → World → Nat),
I t10 (IntKind.wrap .i64 (t10 + 1)) w_ ∧
(∀ (i : Int) (j : Int) w__1, I i j w__1 → ∀ _ : Nat → Value,
((decide ((j : Int) < ((s.n : Nat) : Int))) = true → Ix s.a s.n j 1 w__1 fun a_t24 w__2 =>
Ld (.i .i64) a_t24 w__2 fun (t25 : Int) w__3 =>
CallT (.o (.lf .b)) P0 211 [(.int .i64 t25), (.pointer (some del.1))] w__3 fun (t28 : Bool) w__4 =>
((!t28) = true → Ix s.a s.n i 1 w__4 fun a_t33 w__5 =>
St a_t33 (.int .i64 t25) w__5 fun w__6 =>
(I (IntKind.wrap .i64 (i + 1)) (IntKind.wrap .i64 (j + 1)) w__6 ∧ M (IntKind.wrap .i64 (i + 1)) (IntKind.wrap .i64 (j + 1)) w__6 < M i j w__1)) ∧
((!t28) = false → (I i (IntKind.wrap .i64 (j + 1)) w__4 ∧ M i (IntKind.wrap .i64 (j + 1)) w__4 < M i j w__1))) ∧
((decide ((j : Int) < ((s.n : Nat) : Int))) = false → RunT (.o (.lf .sl)) P0 (Instr.sliceAt 25 s.v (some (.int .i64 i)) none none) w__1 fun (t38 : Sl) w__7 =>
RunT .z P0 (Builtin.clear_ #[25] 0 #[t38.v]) w__7 fun (u : Unit) w__8 =>
RunT (.o (.lf .sl)) P0 (Instr.sliceAt 25 s.v none (some (.int .i64 i)) none) w__8 fun (t41 : Sl) w__9 =>
K t41 w__9)))
theorem slices.DeleteFunc_int.ok {s : Sl} {del : AdT 1} {w : World} {K : Sl → World → Prop} (h : slices.DeleteFunc_int.vc s del w K) : CallT (.o (.lf .sl)) P0 210 [s.v, (.func (.func 211) #[] #[(.pointer (some del.1))])] w K :=
  call_of Tryz.func210 rfl rfl (pl := slices.DeleteFunc_int.pl) (show VC P0 Tryz.f210 slices.DeleteFunc_int.pl (.o (.lf .sl)) [s.v, (.func (.func 211) #[] #[(.pointer (some del.1))])] w K noP from Eq.mp (by kernel_rfl) h)
/- slices.IndexFunc[[]int,int] -/
def slices.IndexFunc_int.pl : Pl := (.s (.r (D 1)) (.s (.s (.r (D 3)) (.b (.l [(8, (.i .i64))] (.s (.r (D 1)) (.s (.c .z .z) (.s (.b (.s (.r (D 2)) (.s (.r [.d, .d, .d, .d, (.l (.lf (.i .i64))), (.c (.o (.lf .b)))]) (.c (.s (.r (D 2)) .z) .z)))) (.r (D 2)))))))) (.s (.r (D 1)) .z)))
def slices.IndexFunc_int.vc (s : Sl) (f : AdT 1) (w : World) (K : Int → World → Prop) : Prop :=
∃ (I : Int → World → Prop) (M : Int → World → Nat),
I 0 w ∧
(∀ (t8 : Int) w_, I t8 w_ → ∀ _ : Nat → Value,
((decide ((t8 : Int) < ((s.n : Nat) : Int))) = true → Ix s.a s.n t8 1 w_ fun a_t14 w__1 =>
Ld (.i .i64) a_t14 w__1 fun (t15 : Int) w__2 =>
CallT (.o (.lf .b)) P0 211 [(.int .i64 t15), (.pointer (some f.1))] w__2 fun (t16 : Bool) w__3 =>
(t16 = true → K t8 w__3) ∧
(t16 = false → (I (IntKind.wrap .i64 (t8 + 1)) w__3 ∧ M (IntKind.wrap .i64 (t8 + 1)) w__3 < M t8 w_))) ∧
((decide ((t8 : Int) < ((s.n : Nat) : Int))) = false → K (-1) w_))
theorem slices.IndexFunc_int.ok {s : Sl} {f : AdT 1} {w : World} {K : Int → World → Prop} (h : slices.IndexFunc_int.vc s f w K) : CallT (.o (.lf (.i .i64))) P0 126 [s.v, (.func (.func 211) #[] #[(.pointer (some f.1))])] w K :=
  call_of Tryz.func126 rfl rfl (pl := slices.IndexFunc_int.pl) (show VC P0 Tryz.f126 slices.IndexFunc_int.pl (.o (.lf (.i .i64))) [s.v, (.func (.func 211) #[] #[(.pointer (some f.1))])] w K noP from Eq.mp (by kernel_rfl) h)
/- impl.visits$1 -/
def impl.visits_1.pl : Pl := (.s (.r (D 1)) (.x [((.g (.o (.lf .sl)) (.l (.lf .sl))), []), (.q, []), ((.g (.o (.lf .sl)) (.l (.lf .sl))), []), (.q, []), ((.g (.o (.lf .ad)) .d), [2]), ((.g (.o (.lf .sl)) (.l (.lf .sl))), [4]), ((.g (.o (.ag (R 99 (.i .i64) ++ R 16 .b ++ [.sl]))) (.l (.ag (R 99 (.i .i64) ++ R 16 .b ++ [.sl])))), []), ((.g (.o (.lf .sl)) .d), [6]), ((.h (.o (.lf .sl)) (.t (.o (.lf .sl)))), [5, 7]), ((.g (.o (.lf .ad)) .d), [0])] [.d]))
def impl.visits_1.vc (at_ : Int) (k : Tup (R 99 (.i .i64) ++ R 16 .b ++ [.sl])) (t2 : Addr) (w : World) (K : Unit → World → Prop) : Prop :=
Nw (Tup.cells (R 99 (.i .i64) ++ R 16 .b ++ [.sl]) k).toArray 95 w fun a_k w_ =>
∃ Sp : World → World → Prop, SpOk Sp w_ ∧
∃ Sq : World → World → Prop, QOk Sp Sq ∧
∃ N : World → Prop, NOk N w_ ∧ KeptN Sq N ∧
∃ G_t5 : Sl → World → Prop, Kept Sp G_t5 ∧
∃ G_t7 : Sl → World → Prop, Kept Sp G_t7 ∧
∃ G_t9 : Addr → World → Prop, Kept Sp G_t9 ∧
∃ G_t10 : Sl → World → Prop, Kept Sp G_t10 ∧
∃ G_t11 : Tup (R 99 (.i .i64) ++ R 16 .b ++ [.sl]) → World → Prop, Kept Sp G_t11 ∧
∃ G_t12 : Sl → World → Prop, Kept Sp G_t12 ∧
∃ G_t13 : Sl → World → Prop, Kept Sq G_t13 ∧
∃ G_t14 : Addr → World → Prop, Kept Sp G_t14 ∧
(∀ w__1, Sp w_ w__1 → Ld .sl t2 w__1 fun (t5 : Sl) w__2 =>
GK (.o (.lf .sl)) (Sb (World.heap w_).size Sq) w__1 G_t5 t5.v w__2) ∧
∀ (t5_1 : Sl), (∀ w__3, Sp w_ w__3 → Ld .sl t2 w__3 fun (t7 : Sl) w__4 =>
GK (.o (.lf .sl)) (Sb (World.heap w_).size Sq) w__3 G_t7 t7.v w__4) ∧
∀ (t7_1 : Sl), (∀ w__5, Sp w_ w__5 → G_t7 t7_1 w__5 → Ix t7_1.a t7_1.n at_ 1 w__5 fun a_t9 w__6 =>
GK (.o (.lf .ad)) (Sb (World.heap w_).size Sq) w__5 G_t9 (.pointer (some a_t9)) w__6) ∧
∀ (t9 : Addr), (∀ w__7, Sp w_ w__7 → G_t9 t9 w__7 → Ld .sl t9 w__7 fun (t10 : Sl) w__8 =>
GK (.o (.lf .sl)) (Sb (World.heap w_).size Sq) w__7 G_t10 t10.v w__8) ∧
∀ (t10_1 : Sl), (∀ w__9, Sp w_ w__9 → LdA (R 99 (.i .i64) ++ R 16 .b ++ [.sl]) a_k w__9 fun (t11 : Tup (R 99 (.i .i64) ++ R 16 .b ++ [.sl])) w__10 =>
GK (.o (.ag (R 99 (.i .i64) ++ R 16 .b ++ [.sl]))) (Sb (World.heap w_).size Sq) w__9 G_t11 (.agg (Tup.cells (R 99 (.i .i64) ++ R 16 .b ++ [.sl]) t11).toArray) w__10) ∧
∀ (t11_1 : Tup (R 99 (.i .i64) ++ R 16 .b ++ [.sl])), (∀ w__11, Sp w_ w__11 → G_t11 t11_1 w__11 → Nw (Tup.cells (R 99 (.i .i64) ++ R 16 .b ++ [.sl]) t11_1).toArray 95 w__11 fun a_t12 w__12 =>
GK (.o (.lf .sl)) (Sb (World.heap w_).size Sq) w__11 G_t12 (.slice (some a_t12) 1 1) w__12) ∧
∀ (t12 : Sl), (∀ w__13, Sp w_ w__13 → N w__13 → G_t10 t10_1 w__13 → G_t12 t12 w__13 → RunT (.o (.lf .sl)) P0 (Builtin.append_ #[96, 96] 96 #[t10_1.v, t12.v]) w__13 fun (t13 : Sl) w__14 =>
GK (.o (.lf .sl)) (Sb (World.heap w_).size Sp) w__13 G_t13 t13.v w__14) ∧
∀ (t13_1 : Sl), (∀ w__15, Sp w_ w__15 → G_t5 t5_1 w__15 → Ix t5_1.a t5_1.n at_ 1 w__15 fun a_t14 w__16 =>
GK (.o (.lf .ad)) (Sb (World.heap w_).size Sq) w__15 G_t14 (.pointer (some a_t14)) w__16) ∧
∀ (t14 : Addr), ∀ w__17, Sp w_ w__17 → G_t5 t5_1 w__17 → G_t7 t7_1 w__17 → G_t9 t9 w__17 → G_t10 t10_1 w__17 → G_t11 t11_1 w__17 → G_t12 t12 w__17 → G_t13 t13_1 w__17 → G_t14 t14 w__17 → BxD (World.heap w_).size w__17 [] → 
St t14 t13_1.v w__17 fun w__18 =>
K () w__18
theorem impl.visits_1.ok {at_ : Int} {k : Tup (R 99 (.i .i64) ++ R 16 .b ++ [.sl])} {t2 : Addr} {w : World} {K : Unit → World → Prop} (h : impl.visits_1.vc at_ k t2 w K) : CallT .z P0 52 [(.int .i64 at_), (.agg (Tup.cells (R 99 (.i .i64) ++ R 16 .b ++ [.sl]) k).toArray), (.pointer (some t2))] w K :=
  call_of Tryz.func52 rfl rfl (pl := impl.visits_1.pl) (show VC P0 Tryz.f52 impl.visits_1.pl .z [(.int .i64 at_), (.agg (Tup.cells (R 99 (.i .i64) ++ R 16 .b ++ [.sl]) k).toArray), (.pointer (some t2))] w K noP from Eq.mp (by kernel_rfl) h)
/- impl.visits -/
def impl.visits.pl : Pl := (.s (.r (D 2)) (.s (.r [.d, .d, (.t (.o (.lf .sl))), .d, .d]) (.s (.r [.d, .d, .d, (.c (.o (.ag (R 3 (.i .i64))))), .d, .d]) (.s (.g [((.g (.o (.lf .sl)) (.l (.lf .sl))), []), ((.g (.o (.ag (R 3 (.i .i64)))) (.l (.ag (R 3 (.i .i64))))), []), (.q, [0])] [.d]) .z))))
def impl.visits.vc (list : Sl) (tables : Sl) (w : World) (K : (Sl) × (Tup (R 3 (.i .i64))) × Unit → World → Prop) : Prop :=
Nw (zc P0 51) 51 w fun a_t5 w_ =>
RunT (.o (.lf .sl)) P0 (Instr.makeSlice 49 (.int .i64 ((list.n : Nat) : Int)) (.int .i64 ((list.n : Nat) : Int))) w_ fun (t10 : Sl) w__1 =>
Nw (zc P0 49) 49 w__1 fun a_out w__2 =>
St a_out t10.v w__2 fun w__3 =>
CallT (.o (.ag (R 3 (.i .i64)))) P0 51 [list.v, tables.v, (.func (.func 52) #[] #[(.pointer (some a_out))])] w__3 fun (t14 : Tup (R 3 (.i .i64))) w__4 =>
Nw (zc P0 51) 51 w__4 fun a_p w__5 =>
StA P0 a_p (Tup.cells (R 3 (.i .i64)) t14) w__5 fun w__6 =>
∃ Sp : World → World → Prop, SpOk Sp w__6 ∧
∃ G_t15 : Sl → World → Prop, Kept Sp G_t15 ∧
∃ G_t16 : Tup (R 3 (.i .i64)) → World → Prop, Kept Sp G_t16 ∧
(∀ w__7, Sp w__6 w__7 → Ld .sl a_out w__7 fun (t15 : Sl) w__8 =>
GK (.o (.lf .sl)) Sp w__7 G_t15 t15.v w__8) ∧
∀ (t15_1 : Sl), (∀ w__9, Sp w__6 w__9 → LdA (R 3 (.i .i64)) a_p w__9 fun (t16 : Tup (R 3 (.i .i64))) w__10 =>
GK (.o (.ag (R 3 (.i .i64)))) Sp w__9 G_t16 (.agg (Tup.cells (R 3 (.i .i64)) t16).toArray) w__10) ∧
∀ (t16_1 : Tup (R 3 (.i .i64))), ∀ w__11, Sp w__6 w__11 → G_t15 t15_1 w__11 → G_t16 t16_1 w__11 → 
StA P0 a_t5 (Tup.cells (R 3 (.i .i64)) t16_1) w__11 fun w__12 =>
LdA (R 3 (.i .i64)) a_t5 w__12 fun r w__13 =>
K (t15_1, (r, ())) w__12
theorem impl.visits.ok {list : Sl} {tables : Sl} {w : World} {K : (Sl) × (Tup (R 3 (.i .i64))) × Unit → World → Prop} (h : impl.visits.vc list tables w K) : CallT (.n [(.lf .sl), (.ag (R 3 (.i .i64)))]) P0 28 [list.v, tables.v] w K :=
  call_of Tryz.func28 rfl rfl (pl := impl.visits.pl) (show VC P0 Tryz.f28 impl.visits.pl (.n [(.lf .sl), (.ag (R 3 (.i .i64)))]) [list.v, tables.v] w K noP from Eq.mp (by kernel_rfl) h)
/- impl.SlimLive -/
def impl.SlimLive.pl : Pl := (.s (.r (D 1)) (.s (.r [.d, .d, (.c (.n [(.lf .sl), (.ag (R 3 (.i .i64)))])), .d, .d, .d, .d, .d, .d]) (.s (.s (.r [.d, (.l (.lf (.i .i64))), .d]) (.c (.s (.r (D 1)) .z) .z)) (.s (.r [.d, (.c (.o (.lf .sl))), .d]) .z))))
def impl.SlimLive.vc (list : Sl) (tables : Sl) (w : World) (K : Sl → World → Prop) : Prop :=
CallT (.n [(.lf .sl), (.ag (R 3 (.i .i64)))]) P0 28 [list.v, tables.v] w fun (t10 : (Sl) × (Tup (R 3 (.i .i64))) × Unit) w_ =>
Nw (zc P0 51) 51 w_ fun a_p w__1 =>
StA P0 a_p (Tup.cells (R 3 (.i .i64)) t10.2.1) w__1 fun w__2 =>
Ld (.i .i64) (Addr.add a_p 0) w__2 fun (t14 : Int) w__3 =>
(((t14 : Int) != 0) = true → K ⟨none, 0, 0⟩ w__3) ∧
(((t14 : Int) != 0) = false → CallT (.o (.lf .sl)) P0 29 [t10.1.v] w__3 fun (t17 : Sl) w__4 =>
K t17 w__4)
theorem impl.SlimLive.ok {list : Sl} {tables : Sl} {w : World} {K : Sl → World → Prop} (h : impl.SlimLive.vc list tables w K) : CallT (.o (.lf .sl)) P0 13 [list.v, tables.v] w K :=
  call_of Tryz.func13 rfl rfl (pl := impl.SlimLive.pl) (show VC P0 Tryz.f13 impl.SlimLive.pl (.o (.lf .sl)) [list.v, tables.v] w K noP from Eq.mp (by kernel_rfl) h)
/- laws.FnFlowReach -/
def laws.FnFlowReach.pl : Pl := (.s (.r (D 1)) (.s (.s (.r (D 3)) (.c (.s (.r (D 1)) .z) .z)) (.s (.r [.d, (.c (.o (.lf .sl))), .d]) (.s (.r [.d, (.c (.o (.lf .sl))), .d]) (.j [] (.s (.r [.d, .d, (.c (.o (.lf .sl))), (.c (.o (.lf .b))), .d, (.sp .d), .d, .d, .d, .d]) (.c (.s (.r [.d, .d, (.c (.o (.lf .sl))), (.c (.o (.lf .b))), .d]) .z) .z)) (.s (.s (.r (D 1)) (.b (.l [(5, (.i .i64))] (.s (.s (.r (D 4)) (.c .z .z)) (.s (.b (.s (.r [.d, .d, .d, .d, (.l (.lf (.i .i64))), (.c (.o (.lf .sl))), .d]) (.s (.r (D 1)) (.b (.l [(7, (.i .i64))] (.s (.s (.r (D 4)) (.c .z .z)) (.s (.b (.s (.r [.d, .d, .d, .d, (.l (.lf (.i .i64))), (.c (.o (.lf .b))), .d]) (.c (.s (.r (D 1)) .z) .z))) (.r (D 3))))))))) (.r (D 3))))))) (.s (.r [.d, (.c (.o (.lf .sl))), .d]) (.s (.s (.r (D 1)) (.b (.l [(9, (.i .i64))] (.s (.s (.r (D 4)) (.c .z .z)) (.s (.b (.s (.r [.d, .d, .d, .d, (.l (.lf (.i .i64))), (.c (.o (.lf .b))), .d]) (.c (.s (.r (D 1)) .z) .z))) (.r (D 3))))))) (.s (.r [.d, .d, (.l (.lf (.i .i64))), .d, .d]) .z)))))))))
def laws.FnFlowReach.vc (code : Sl) (w : World) (K : Bool → World → Prop) : Prop :=
((decide ((((code.n : Nat) : Int) : Int) > 1048576)) = true → K true w) ∧
((decide ((((code.n : Nat) : Int) : Int) > 1048576)) = false → CallT (.o (.lf .sl)) P0 7 [code.v] w fun (t14 : Sl) w_ =>
CallT (.o (.lf .sl)) P0 8 [t14.v] w_ fun (t16 : Sl) w__1 =>
∃ J : World → Prop,
(CallT (.o (.lf .sl)) P0 10 [t14.v] w__1 fun (t19 : Sl) w__2 =>
CallT (.o (.lf .b)) P0 9 [t16.v, t19.v] w__2 fun (t20 : Bool) w__3 =>
((!t20) = true → CallT (.o (.lf .sl)) P0 10 [t14.v] w__3 fun (t29 : Sl) w__4 =>
CallT (.o (.lf .b)) P0 9 [t16.v, t29.v] w__4 fun (t30 : Bool) w__5 =>
K t30 w__5) ∧
((!t20) = false → (((((t16.n : Nat) : Int) : Int) == 0) = true → CallT (.o (.lf .sl)) P0 10 [t14.v] w__3 fun (t29_1 : Sl) w__6 =>
CallT (.o (.lf .b)) P0 9 [t16.v, t29_1.v] w__6 fun (t30_1 : Bool) w__7 =>
K t30_1 w__7) ∧
(((((t16.n : Nat) : Int) : Int) == 0) = false → J w__3))) ∧
(∀  w__8, J w__8 → ∀ _ : Nat → Value,
∃ (I : Int → World → Prop) (M : Int → World → Nat),
I 0 w__8 ∧
(∀ (i : Int) w__9, I i w__9 → ∀ _ : Nat → Value,
((decide ((i : Int) < ((t16.n : Nat) : Int))) = true → Ix t16.a t16.n i 1 w__9 fun a_t40 w__10 =>
Ld (.i .i64) a_t40 w__10 fun (t41 : Int) w__11 =>
CallT (.o (.lf .sl)) P0 11 [t14.v, (.int .i64 t41)] w__11 fun (t42 : Sl) w__12 =>
∃ (I_1 : Int → World → Prop) (M_1 : Int → World → Nat),
I_1 0 w__12 ∧
(∀ (k : Int) w__13, I_1 k w__13 → ∀ _ : Nat → Value,
((decide ((k : Int) < ((t42.n : Nat) : Int))) = true → Ix t42.a t42.n k 1 w__13 fun a_t52 w__14 =>
Ld (.i .i64) a_t52 w__14 fun (t53 : Int) w__15 =>
CallT (.o (.lf .b)) P0 12 [t16.v, (.int .i64 t53)] w__15 fun (t54 : Bool) w__16 =>
((!t54) = true → K false w__16) ∧
((!t54) = false → (I_1 (IntKind.wrap .i64 (k + 1)) w__16 ∧ M_1 (IntKind.wrap .i64 (k + 1)) w__16 < M_1 k w__13))) ∧
((decide ((k : Int) < ((t42.n : Nat) : Int))) = false → (I (IntKind.wrap .i64 (i + 1)) w__13 ∧ M (IntKind.wrap .i64 (i + 1)) w__13 < M i w__9)))) ∧
((decide ((i : Int) < ((t16.n : Nat) : Int))) = false → CallT (.o (.lf .sl)) P0 13 [t14.v, (.slice none 0 0)] w__9 fun (t57 : Sl) w__17 =>
∃ (I_2 : Int → World → Prop) (M_2 : Int → World → Nat),
I_2 0 w__17 ∧
(∀ (i_1 : Int) w__18, I_2 i_1 w__18 → ∀ _ : Nat → Value,
((decide ((i_1 : Int) < ((t57.n : Nat) : Int))) = true → Ix t57.a t57.n i_1 1 w__18 fun a_t67 w__19 =>
Ld (.i .i64) a_t67 w__19 fun (t68 : Int) w__20 =>
CallT (.o (.lf .b)) P0 12 [t16.v, (.int .i64 t68)] w__20 fun (t69 : Bool) w__21 =>
((!t69) = true → K false w__21) ∧
((!t69) = false → (I_2 (IntKind.wrap .i64 (i_1 + 1)) w__21 ∧ M_2 (IntKind.wrap .i64 (i_1 + 1)) w__21 < M_2 i_1 w__18))) ∧
((decide ((i_1 : Int) < ((t57.n : Nat) : Int))) = false → Ix t16.a t16.n 0 1 w__18 fun a_t72 w__22 =>
Ld (.i .i64) a_t72 w__22 fun (t73 : Int) w__23 =>
K ((t73 : Int) == 0) w__23))))))
theorem laws.FnFlowReach.ok {code : Sl} {w : World} {K : Bool → World → Prop} (h : laws.FnFlowReach.vc code w K) : CallT (.o (.lf .b)) P0 3 [code.v] w K :=
  call_of Tryz.func3 rfl rfl (pl := laws.FnFlowReach.pl) (show VC P0 Tryz.f3 laws.FnFlowReach.pl (.o (.lf .b)) [code.v] w K noP from Eq.mp (by kernel_rfl) h)
end Go.Proofs.YtihllippchgkgaaGreat.V

/- Words for local variables of any kind: what a function's boxes hold, as one list. -/
namespace Go.Proofs.YtihllippchgkgaaGreat.V
open Go Go.RowKit
set_option linter.unusedVariables false
set_option linter.unusedSimpArgs false
abbrev Bx1 := Nat × TypeId × List Value
/-- The boxes of a function and what they hold. It may write others too (X); but since w1 nothing has changed but its own. -/
structure MG (X : Nat → Prop) (w0 w1 w : World) (l : List Bx1) : Prop where
  low : Chg X w0 w
  ref : Chg (fun j => j ∈ l.map (·.1)) w1 w
  box : ∀ b t cs, (b, t, cs) ∈ l → w.heap[b]? = some (.cells cs.toArray t (0, 0))
  own : ∀ b, b ∈ l.map (·.1) → w0.heap.size ≤ b
  out : ∀ j, X j → j < w0.heap.size
  one : (l.map (·.1)).Nodup
def noX : Nat → Prop := fun _ => False
inductive UpG : List Bx1 → Nat → TypeId → List Value → List Value → List Bx1 → Prop
  | head (l : List Bx1) (b : Nat) (t : TypeId) (x y : List Value) : UpG ((b, t, x) :: l) b t x y ((b, t, y) :: l)
  | tail (p : Bx1) (l l' : List Bx1) (b : Nat) (t : TypeId) (x y : List Value) : UpG l b t x y l' → UpG (p :: l) b t x y (p :: l')
theorem UpG.keys {l l' : List Bx1} {b : Nat} {t : TypeId} {x y : List Value} (h : UpG l b t x y l') : l'.map (·.1) = l.map (·.1) := by
  induction h with
  | head => rfl
  | tail p l l' b t x y _ ih => simp [ih]
theorem UpG.mem {l l' : List Bx1} {b : Nat} {t : TypeId} {x y : List Value} (h : UpG l b t x y l') : (b, t, x) ∈ l := by
  induction h with
  | head => exact List.mem_cons_self
  | tail p l l' b t x y _ ih => exact List.mem_cons_of_mem _ ih
theorem UpG.out {l l' : List Bx1} {b : Nat} {t : TypeId} {x y : List Value} (h : UpG l b t x y l') (hn : (l.map (·.1)).Nodup) {c : Nat} {z : TypeId × List Value} (hc : (c, z) ∈ l') : (c = b ∧ z = (t, y)) ∨ (c ≠ b ∧ (c, z) ∈ l) := by
  induction h with
  | head l b t x y =>
    rcases List.mem_cons.1 hc with e | e
    · simp only [Prod.mk.injEq] at e; exact .inl ⟨e.1, by rw [e.2]⟩
    · refine .inr ⟨fun e2 => ?_, List.mem_cons_of_mem _ e⟩
      subst e2
      simp only [List.map_cons, List.nodup_cons] at hn
      exact hn.1 (List.mem_map.2 ⟨_, e, rfl⟩)
  | tail p l l' b t x y hu ih =>
    simp only [List.map_cons, List.nodup_cons] at hn
    rcases List.mem_cons.1 hc with e | e
    · subst e
      refine .inr ⟨fun e2 => ?_, List.mem_cons_self⟩
      subst e2
      exact hn.1 (List.mem_map.2 ⟨_, hu.mem, rfl⟩)
    · rcases ih hn.2 e with h | h
      · exact .inl h
      · exact .inr ⟨h.1, List.mem_cons_of_mem _ h.2⟩
theorem lt_blk {w : World} {b : Nat} {o : Obj} (h : w.heap[b]? = some o) : b < w.heap.size := (Array.getElem?_eq_some_iff.1 h).1
section
variable {X Y : Nat → Prop} {w0 w1 w w' : World} {l l' : List Bx1} {b : Nat} {t : TypeId} {x y cs : List Value}
theorem MG.start (X : Nat → Prop) (w : World) (hX : ∀ j, X j → j < w.heap.size) : MG X w w w [] := ⟨Chg.refl _ _, Chg.refl _ _, fun _ _ _ h => by simp at h, fun _ h => by simp at h, hX, by simp⟩
theorem MG.start0 (w : World) : MG noX w w w [] := MG.start _ w fun _ h => h.elim
theorem MG.bl (h : MG noX w0 w1 w l) : Below w0.heap.size w0 w := Chg.all h.low
theorem MG.re (h : MG X w0 w1 w l) : MG X w0 w w l := ⟨h.low, Chg.refl _ _, h.box, h.own, h.out, h.one⟩
theorem MG.lt (h : MG X w0 w1 w l) (hb : b ∈ l.map (·.1)) : b < w.heap.size := by
  obtain ⟨p, hp, rfl⟩ := List.mem_map.1 hb
  exact lt_blk (h.box p.1 p.2.1 p.2.2 hp)
/-- A new box. -/
theorem MG.ext (h : MG X w0 w1 w l) (hb : w.heap[b]? = some (.cells cs.toArray t (0, 0))) (hX : w0.heap.size ≤ b) (hn : b ∉ l.map (·.1)) : MG X w0 w1 w ((b, t, cs) :: l) := by
  refine ⟨h.low, h.ref.mono fun j _ hj => List.mem_cons_of_mem _ hj, fun c t' z hz => ?_, fun c hc => ?_, h.out, ?_⟩
  · rcases List.mem_cons.1 hz with e | e
    · simp only [Prod.mk.injEq] at e
      obtain ⟨rfl, rfl, rfl⟩ := e
      exact hb
    · exact h.box c t' z e
  · rcases List.mem_cons.1 hc with e | e
    · rw [e]; exact hX
    · exact h.own c e
  · simp only [List.map_cons, List.nodup_cons]; exact ⟨hn, h.one⟩
/-- What lies outside is as it was. -/
theorem MG.keep {o : Obj} {j : Nat} (h : MG X w0 w1 w l) (hj : w1.heap[j]? = some o) (hlt : j < w0.heap.size) : w.heap[j]? = some o := h.ref.blk hj fun hm => by have := h.own j hm; omega
/-- Something outside is written. -/
theorem MG.wrote (h : MG X w0 w1 w l) (hc : Chg Y w w') (hY : ∀ j, Y j → X j) : MG X w0 w' w' l :=
  ⟨h.low.trans hc fun j _ hy => hY j hy, Chg.refl _ _, fun b t cs hm => hc.blk (h.box b t cs hm) fun hy => by have := h.out b (hY b hy); have := h.own b (List.mem_map.2 ⟨_, hm, rfl⟩); omega, h.own, h.out, h.one⟩
theorem MG.below (h : MG X w0 w1 w l) (hb : Below w.heap.size w w') : MG X w0 w1 w' l :=
  ⟨h.low.trans (Chg.of_below (X := noX) hb) fun _ _ h => h.elim, h.ref.trans (Chg.of_below (X := noX) hb) fun _ _ h => h.elim, fun b t x hx => (hb.block b (lt_blk (h.box b t x hx))).trans (h.box b t x hx), h.own, h.out, h.one⟩
/-- Some of the boxes are written. -/
theorem MG.to (h : MG X w0 w1 w l) (hc : Chg Y w w') (hk : l'.map (·.1) = l.map (·.1)) (hY : ∀ j, Y j → j ∈ l.map (·.1)) (hb : ∀ b t cs, (b, t, cs) ∈ l' → ((b, t, cs) ∈ l ∧ ¬ Y b) ∨ w'.heap[b]? = some (.cells cs.toArray t (0, 0))) : MG X w0 w1 w' l' := by
  refine ⟨h.low.trans hc fun j hj hy => ?_, ?_, fun b t cs hm => ?_, by rw [hk]; exact h.own, h.out, by rw [hk]; exact h.one⟩
  · have := h.own j (hY j hy); omega
  · rw [hk]
    exact h.ref.trans hc fun j _ hy => hY j hy
  · rcases hb b t cs hm with ⟨e, hn⟩ | e
    · exact hc.blk (h.box b t cs e) hn
    · exact e
theorem MG.set (h : MG X w0 w1 w l) (hu : UpG l b t x y l') (hc : Chg (fun j => j = b) w w') (hb : w'.heap[b]? = some (.cells y.toArray t (0, 0))) : MG X w0 w1 w' l' := by
  refine h.to hc hu.keys (fun j hj => by rw [hj]; exact List.mem_map.2 ⟨_, hu.mem, rfl⟩) fun c t' z hz => ?_
  rcases hu.out h.one hz with ⟨rfl, e⟩ | ⟨hne, hin⟩
  · simp only [Prod.mk.injEq] at e
    obtain ⟨rfl, rfl⟩ := e
    exact .inr hb
  · exact .inl ⟨hin, hne⟩
theorem nwG {cs : Array Value} (hm : MG X w0 w1 w l) {K : Addr → World → Prop} (hk : ∀ w' b, Below w.heap.size w w' → MG X w0 w1 w' ((b, t, cs.toList) :: l) → K ⟨b, 0, none⟩ w') : Nw cs t w K := by
  refine nw fun w' hb hs hc => hk w' _ hb ?_
  refine (hm.below hb).ext (by rw [hc]) hm.low.size fun h => ?_
  have := hm.lt h
  omega
theorem nwL {cs : List Value} (hm : MG X w0 w1 w l) {K : Addr → World → Prop} (hk : ∀ w' b, Below w.heap.size w w' → MG X w0 w1 w' ((b, t, cs) :: l) → K ⟨b, 0, none⟩ w') : Nw cs.toArray t w K := nwG hm hk
theorem nwE {cs : Array Value} {ds : List Value} (he : cs = ds.toArray) (hm : MG X w0 w1 w l) {K : Addr → World → Prop} (hk : ∀ w' b, Below w.heap.size w w' → MG X w0 w1 w' ((b, t, ds) :: l) → K ⟨b, 0, none⟩ w') : Nw cs t w K := by
  subst he; exact nwG hm hk
theorem ldG {j : Nat} {f : Lf} {v : f.T} {K : f.T → World → Prop} (hm : MG X w0 w1 w l) (hb : (b, t, cs) ∈ l) (hv : cs[j]? = some (f.emb v)) (hk : K v w) : Ld f (Addr.add ⟨b, 0, none⟩ j) w K :=
  ldB (hm.box b t cs hb) (by simpa using hv) hk
theorem ldG0 {f : Lf} {v : f.T} {K : f.T → World → Prop} (hm : MG X w0 w1 w l) (hb : (b, t, cs) ∈ l) (hv : cs[0]? = some (f.emb v)) (hk : K v w) : Ld f ⟨b, 0, none⟩ w K :=
  ldB0 (hm.box b t cs hb) (by simpa using hv) hk
theorem ldAG {ls : List Lf} {v : Tup ls} {K : Tup ls → World → Prop} (hm : MG X w0 w1 w l) (hb : (b, t, Tup.cells ls v) ∈ l) (hk : K v w) : LdA ls ⟨b, 0, none⟩ w K :=
  ldAB (hm.box b t _ hb) (by simp) hk
theorem ldSub {ls : List Lf} {v : Tup ls} {o : Nat} {K : Tup ls → World → Prop} (hm : MG X w0 w1 w l) (hb : (b, t, cs) ∈ l) (hv : ∀ j u, (Tup.cells ls v)[j]? = some u → cs[o + j]? = some u) (hk : K v w) : LdA ls (Addr.add ⟨b, 0, none⟩ o) w K :=
  ⟨v, fun j u hu => by rw [add_mk, add_mk, cell_of (hm.box b t cs hb), Nat.zero_add]; simpa using hv j u hu, hk⟩
theorem MG.write (hm : MG X w0 w1 w l) (hu : UpG l b t x y l') (hg : w.grownBy w' (some b)) (hc : w'.heap[b]? = some (.cells y.toArray t (0, 0))) : MG X w0 w1 w' l' := hm.set hu (Chg.of_grown hg rfl) hc
theorem stG {j : Nat} {v : Value} {K : World → Prop} (hm : MG X w0 w1 w l) (hu : UpG l b t x (x.set j v) l') (hv : v.oneCell' = true) (hj : j < x.length) (hk : ∀ w', w.grownBy w' (some b) → MG X w0 w1 w' l' → K w') : St (Addr.add ⟨b, 0, none⟩ j) v w K := by
  refine stB (hm.box b t x hu.mem) hv (by simpa using hj) fun w' hg hs hc => hk w' hg (hm.write hu hg ?_)
  rw [hc, List.setIfInBounds_toArray]
theorem stAG {vs : List Value} {K : World → Prop} (hm : MG X w0 w1 w l) (hu : UpG l b t x vs l') (hl : vs.length = x.length) (h1 : ∀ v ∈ vs, v.oneCell' = true) (hk : ∀ w', w.grownBy w' (some b) → MG X w0 w1 w' l' → K w') : StA P0 ⟨b, 0, none⟩ vs w K := by
  obtain ⟨w', hr, hg, hsz, hh⟩ := run_storeCells_at' P0 (b := b) (t := t) vs 0 [] x w h1 rfl hl.symm (by simpa using (hm.box b t x hu.mem))
  exact ⟨w', hr, hk w' hg (hm.write hu hg (by simpa using hh))⟩
theorem oneCellR {n : Nat} {f : Lf} (hf : f ≠ .any) (y : Tup (R n f)) : ∀ v ∈ Tup.cells (R n f) y, v.oneCell' = true :=
  oneCell_cells (⟨R n f, fun y => y⟩ : Kd (Tup (R n f))) (fun l hl => by have := List.eq_of_mem_replicate hl; subst this; exact hf) y
theorem qldG {j : Nat} {f : Lf} {v : f.T} {K : f.T → Prop} (hm : MG X w0 w1 w l) (hb : (b, t, cs) ∈ l) (hv : cs[j]? = some (f.emb v)) (hk : K v) : QLd f (Addr.add ⟨b, 0, none⟩ j) (fun w' => Below w.heap.size w w') K :=
  ⟨v, fun w' hw => by
    have h := hm.box b t cs hb
    rw [add_mk, cell_of ((hw.block b (lt_blk h)).trans h), Nat.zero_add]; simpa using hv, hk⟩
/-- One number of a variable of so many is stored. -/
theorem stF {j n : Nat} {u v : Tup (R n (.i .i64))} {y : Int} {K : World → Prop} (hm : MG X w0 w1 w l) (hu : UpG l b t (Tup.cells (R n (.i .i64)) u) (Tup.cells (R n (.i .i64)) v) l') (hv : Tup.cells (R n (.i .i64)) v = (Tup.cells (R n (.i .i64)) u).set j (.int .i64 y)) (hj : j < n) (hk : ∀ w', w.grownBy w' (some b) → MG X w0 w1 w' l' → K w') : St (Addr.add ⟨b, 0, none⟩ j) (.int .i64 y) w K := by
  rw [hv] at hu
  exact stG hm hu rfl (by rw [V.cells_length, R, List.length_replicate]; exact hj) hk
/-- A tuple of numbers is stored into a variable of so many. -/
theorem stR {n : Nat} {u : Tup (R n (.i .i64))} {v : Tup (R n (.i .i64))} {K : World → Prop} (hm : MG X w0 w1 w l) (hu : UpG l b t (Tup.cells (R n (.i .i64)) u) (Tup.cells (R n (.i .i64)) v) l') (hk : ∀ w', w.grownBy w' (some b) → MG X w0 w1 w' l' → K w') : StA P0 ⟨b, 0, none⟩ (Tup.cells (R n (.i .i64)) v) w K :=
  stAG hm hu (by rw [V.cells_length, V.cells_length]) (oneCellR (by intro h; cases h) v) hk
end
theorem zcKnow : zc P0 92 = (Tup.cells (R 9 (.i .i64)) z9).toArray := by kernel_rfl
theorem zcRange' : zc P0 90 = (Tup.cells (R 4 (.i .i64)) ((0, 0, 0, 0, ()) : T4)).toArray := by kernel_rfl
section
variable {X : Nat → Prop} {w0 w1 w : World} {l l' : List Bx1} {b : Nat}
theorem nwKnow (hm : MG X w0 w1 w l) {K : Addr → World → Prop} (hk : ∀ w' b, Below w.heap.size w w' → MG X w0 w1 w' ((b, 92, Tup.cells (R 9 (.i .i64)) z9) :: l) → K ⟨b, 0, none⟩ w') : Nw (zc P0 92) 92 w K := nwE zcKnow hm hk
theorem nwRange (hm : MG X w0 w1 w l) {K : Addr → World → Prop} (hk : ∀ w' b, Below w.heap.size w w' → MG X w0 w1 w' ((b, 90, Tup.cells (R 4 (.i .i64)) ((0, 0, 0, 0, ()) : T4)) :: l) → K ⟨b, 0, none⟩ w') : Nw (zc P0 90) 90 w K := nwE zcRange' hm hk
end
/-! ### what is known -/
abbrev T9.kd (v : T9) : Int := v.1
abbrev T9.lo (v : T9) : Int := v.2.2.2.2.2.1
abbrev T9.hi (v : T9) : Int := v.2.2.2.2.2.2.1
def T9.rng (v : T9) : T4 := (v.2.1, v.2.2.1, v.2.2.2.1, v.2.2.2.2.1, ())
/-- What may be known of a register: nothing; a number of a range of which there are some; a place; a socket, or one perhaps. No tables are there. -/
def RegOk (v : T9) : Prop := v.kd = 0 ∨ (v.kd = 1 ∧ Gd v.rng) ∨ ((v.kd = 2 ∨ v.kd = 3) ∧ -1000000 ≤ v.lo ∧ v.lo ≤ v.hi ∧ v.hi ≤ 1000000) ∨ v.kd = 6 ∨ v.kd = 7
/-- What is known is sound. -/
def RK (k : Kn) : Prop := k.ok ∧ ∀ v ∈ k.regs, RegOk v
/-- A box holds what is known. -/
def KBx (w : World) (b : Nat) (k : Kn) : Prop := w.heap[b]? = some (.cells k.cells.toArray 95 (0, 0))
theorem KBx.below {w w' : World} {b : Nat} {k : Kn} (h : KBx w b k) (hb : Below w.heap.size w w') : KBx w' b k := (hb.block b (lt_blk h)).trans h
theorem KBx.lt {w : World} {b : Nat} {k : Kn} (h : KBx w b k) : b < w.heap.size := lt_blk h
/-- Only block b changes. -/
def bX (b : Nat) : Nat → Prop := fun j => j = b
theorem ixReg {w : World} {b r : Nat} {reg : Int} {K : Addr → World → Prop} (hr : reg = (r : Int)) (h : r < 11) (hk : K ⟨b, 9 * r, none⟩ w) :
    RunT (.o (.lf .ad)) P0 (Instr.indexAt 93 (.pointer (some (Addr.add ⟨b, 0, none⟩ 0))) (.int .i64 reg)) w K := by
  subst hr
  refine ixArr (e := 92) (n := 11) (sz := 9) (by kernel_rfl) (by kernel_rfl) (by omega) (by omega) ?_
  rw [add_mk, add_mk]
  have e : 0 + 0 + (r : Int).toNat * 9 = 9 * r := by omega
  rw [e]; exact hk
/-- A trap, as a panic bears it. -/
def trapCh (c : Int) : List PanicEntry := [{ v := .iface 109 (.int .i64 c), recovered := false }]
theorem Gd.z : RegOk z9 := .inl rfl
section
variable {w : World}
theorem impl.fail.q {c : Int} {K : Unit → World → Prop} {Kp : List PanicEntry → World → Prop} (hp : Kp (trapCh c) w) : CallP .z P0 99 [.int .i64 c] w K Kp := impl.fail.ok hp
theorem impl.need.q {is : Bool} {c : Int} {K : Unit → World → Prop} {Kp : List PanicEntry → World → Prop} (hk : is = true → K () w) (hp : is = false → Kp (trapCh c) w) : CallP .z P0 57 [.bool is, .int .i64 c] w K Kp := by
  refine impl.need.ok ⟨fun h => impl.fail.q (hp (by simpa using h)), fun h => hk (by simpa using h)⟩
theorem impl.Know.isPlace.q {v : T9} {K : Bool → World → Prop} (hk : ∀ w', Below w.heap.size w w' → K (decide (2 ≤ v.kd ∧ v.kd ≤ 4)) w') : CallT (.o (.lf .b)) P0 201 [.agg (Tup.cells (R 9 (.i .i64)) v).toArray] w K := by
  refine impl.Know.isPlace.ok ?_
  unfold impl.Know.isPlace.vc
  have hm := MG.start0 w
  repeat' (first | (with_reducible refine ldG (by assumption) (by with_unfolding_all (repeat (first | exact List.mem_cons_self | refine List.mem_cons_of_mem _ ?_))) (by with_unfolding_all rfl) ?_) | (with_reducible refine ldAG (by assumption) (by with_unfolding_all (repeat (first | exact List.mem_cons_self | refine List.mem_cons_of_mem _ ?_))) ?_) | (with_reducible refine qldG (by assumption) (by with_unfolding_all (repeat (first | exact List.mem_cons_self | refine List.mem_cons_of_mem _ ?_))) (by with_unfolding_all rfl) ?_) | (with_reducible refine nwKnow (by assumption) fun _ _ _ _ => ?_) | (with_reducible refine nwRange (by assumption) fun _ _ _ _ => ?_) | (with_reducible refine nwL (by assumption) fun _ _ _ _ => ?_) | (with_reducible refine stR (by assumption) (by with_unfolding_all (repeat (first | exact UpG.head _ _ _ _ _ | apply UpG.tail))) fun _ _ _ => ?_) | (with_reducible refine And.intro (fun _ => ?_) (fun _ => ?_)))
  exact impl.within.c (hk _ (by assumption : MG noX w _ _ _).bl)
theorem impl.Know.isMaybe.q {v : T9} {K : Bool → World → Prop} (hk : ∀ w', Below w.heap.size w w' → K (decide (v.kd = 5 ∨ v.kd = 7)) w') : CallT (.o (.lf .b)) P0 173 [.agg (Tup.cells (R 9 (.i .i64)) v).toArray] w K := by
  refine impl.Know.isMaybe.ok ?_
  unfold impl.Know.isMaybe.vc
  have hm := MG.start0 w
  repeat' (first | (with_reducible refine ldG (by assumption) (by with_unfolding_all (repeat (first | exact List.mem_cons_self | refine List.mem_cons_of_mem _ ?_))) (by with_unfolding_all rfl) ?_) | (with_reducible refine ldAG (by assumption) (by with_unfolding_all (repeat (first | exact List.mem_cons_self | refine List.mem_cons_of_mem _ ?_))) ?_) | (with_reducible refine qldG (by assumption) (by with_unfolding_all (repeat (first | exact List.mem_cons_self | refine List.mem_cons_of_mem _ ?_))) (by with_unfolding_all rfl) ?_) | (with_reducible refine nwKnow (by assumption) fun _ _ _ _ => ?_) | (with_reducible refine nwRange (by assumption) fun _ _ _ _ => ?_) | (with_reducible refine nwL (by assumption) fun _ _ _ _ => ?_) | (with_reducible refine stR (by assumption) (by with_unfolding_all (repeat (first | exact UpG.head _ _ _ _ _ | apply UpG.tail))) fun _ _ _ => ?_) | (with_reducible refine And.intro (fun _ => ?_) (fun _ => ?_)))
  · refine kof (hk _ (by assumption : MG noX w _ _ _).bl) ?_
    have h : (v.kd == 5) = true := by assumption
    simp at h; simp [h]
  · refine kof (hk _ (by assumption : MG noX w _ _ _).bl) ?_
    have h : (v.kd == 5) = false := by assumption
    simp at h
    by_cases h7 : v.kd = 7 <;> simp [h, h7]
theorem impl.knowNum.q {r : T4} (hr : Gd r) {K : T9 → World → Prop} (hk : ∀ v w', v.kd = 1 → RegOk v → Below w.heap.size w w' → K v w') : CallT (.o (.ag (R 9 (.i .i64)))) P0 192 [.agg (Tup.cells (R 4 (.i .i64)) r).toArray] w K := by
  refine impl.knowNum.ok ?_
  unfold impl.knowNum.vc
  have hm := MG.start0 w
  repeat' (first | (with_reducible refine ldG (by assumption) (by with_unfolding_all (repeat (first | exact List.mem_cons_self | refine List.mem_cons_of_mem _ ?_))) (by with_unfolding_all rfl) ?_) | (with_reducible refine ldAG (by assumption) (by with_unfolding_all (repeat (first | exact List.mem_cons_self | refine List.mem_cons_of_mem _ ?_))) ?_) | (with_reducible refine qldG (by assumption) (by with_unfolding_all (repeat (first | exact List.mem_cons_self | refine List.mem_cons_of_mem _ ?_))) (by with_unfolding_all rfl) ?_) | (with_reducible refine nwKnow (by assumption) fun _ _ _ _ => ?_) | (with_reducible refine nwRange (by assumption) fun _ _ _ _ => ?_) | (with_reducible refine nwL (by assumption) fun _ _ _ _ => ?_) | (with_reducible refine stR (by assumption) (by with_unfolding_all (repeat (first | exact UpG.head _ _ _ _ _ | apply UpG.tail))) fun _ _ _ => ?_) | (with_reducible refine And.intro (fun _ => ?_) (fun _ => ?_)))
  refine stR (n := 9) (v := ((1, r.1, r.2.1, r.2.2.1, r.2.2.2.1, 0, 0, 0, 0, ()) : T9)) (by assumption) (by with_unfolding_all (repeat (first | exact UpG.head _ _ _ _ _ | apply UpG.tail))) fun w1 _ m1 => ?_
  repeat' (first | (with_reducible refine ldG (by assumption) (by with_unfolding_all (repeat (first | exact List.mem_cons_self | refine List.mem_cons_of_mem _ ?_))) (by with_unfolding_all rfl) ?_) | (with_reducible refine ldAG (by assumption) (by with_unfolding_all (repeat (first | exact List.mem_cons_self | refine List.mem_cons_of_mem _ ?_))) ?_) | (with_reducible refine qldG (by assumption) (by with_unfolding_all (repeat (first | exact List.mem_cons_self | refine List.mem_cons_of_mem _ ?_))) (by with_unfolding_all rfl) ?_) | (with_reducible refine nwKnow (by assumption) fun _ _ _ _ => ?_) | (with_reducible refine nwRange (by assumption) fun _ _ _ _ => ?_) | (with_reducible refine nwL (by assumption) fun _ _ _ _ => ?_) | (with_reducible refine stR (by assumption) (by with_unfolding_all (repeat (first | exact UpG.head _ _ _ _ _ | apply UpG.tail))) fun _ _ _ => ?_) | (with_reducible refine And.intro (fun _ => ?_) (fun _ => ?_)))
  exact hk _ _ rfl (.inr (.inl ⟨rfl, hr⟩)) m1.bl
theorem impl.Know.number.q {v : T9} (hv : RegOk v) {K : T4 → World → Prop} {Kp : List PanicEntry → World → Prop} (hk : ∀ r w', v.kd = 1 → Gd r → Below w.heap.size w w' → K r w') (hp : ∀ c w', Below w.heap.size w w' → Kp (trapCh c) w') :
    CallP (.o (.ag (R 4 (.i .i64)))) P0 141 [.agg (Tup.cells (R 9 (.i .i64)) v).toArray] w K Kp := by
  refine impl.Know.number.ok ?_
  unfold impl.Know.number.vc
  have hm := MG.start0 w
  repeat' (first | (with_reducible refine ldG (by assumption) (by with_unfolding_all (repeat (first | exact List.mem_cons_self | refine List.mem_cons_of_mem _ ?_))) (by with_unfolding_all rfl) ?_) | (with_reducible refine ldAG (by assumption) (by with_unfolding_all (repeat (first | exact List.mem_cons_self | refine List.mem_cons_of_mem _ ?_))) ?_) | (with_reducible refine qldG (by assumption) (by with_unfolding_all (repeat (first | exact List.mem_cons_self | refine List.mem_cons_of_mem _ ?_))) (by with_unfolding_all rfl) ?_) | (with_reducible refine nwKnow (by assumption) fun _ _ _ _ => ?_) | (with_reducible refine nwRange (by assumption) fun _ _ _ _ => ?_) | (with_reducible refine nwL (by assumption) fun _ _ _ _ => ?_) | (with_reducible refine stR (by assumption) (by with_unfolding_all (repeat (first | exact UpG.head _ _ _ _ _ | apply UpG.tail))) fun _ _ _ => ?_) | (with_reducible refine And.intro (fun _ => ?_) (fun _ => ?_)))
  refine impl.need.q (fun h => ?_) (fun h => hp _ _ (by assumption : MG noX w _ _ _).bl)
  have h1 : v.kd = 1 := by simpa using h
  refine ldSub (v := v.rng) (by assumption) (by with_unfolding_all (repeat (first | exact List.mem_cons_self | refine List.mem_cons_of_mem _ ?_))) (fun j u hu => ?_) ?_
  · match j, hu with
    | 0, hu => exact hu
    | 1, hu => exact hu
    | 2, hu => exact hu
    | 3, hu => exact hu
    | j + 4, hu => exact absurd hu (by show ¬ (([] : List Value)[j]? = some u); simp)
  · repeat' (first | (with_reducible refine ldG (by assumption) (by with_unfolding_all (repeat (first | exact List.mem_cons_self | refine List.mem_cons_of_mem _ ?_))) (by with_unfolding_all rfl) ?_) | (with_reducible refine ldAG (by assumption) (by with_unfolding_all (repeat (first | exact List.mem_cons_self | refine List.mem_cons_of_mem _ ?_))) ?_) | (with_reducible refine qldG (by assumption) (by with_unfolding_all (repeat (first | exact List.mem_cons_self | refine List.mem_cons_of_mem _ ?_))) (by with_unfolding_all rfl) ?_) | (with_reducible refine nwKnow (by assumption) fun _ _ _ _ => ?_) | (with_reducible refine nwRange (by assumption) fun _ _ _ _ => ?_) | (with_reducible refine nwL (by assumption) fun _ _ _ _ => ?_) | (with_reducible refine stR (by assumption) (by with_unfolding_all (repeat (first | exact UpG.head _ _ _ _ _ | apply UpG.tail))) fun _ _ _ => ?_) | (with_reducible refine And.intro (fun _ => ?_) (fun _ => ?_)))
    refine hk _ _ h1 ?_ (by assumption : MG noX w _ _ _).bl
    rcases hv with h | h | h | h | h
    · rw [h1] at h; simp at h
    · exact h.2
    · rw [h1] at h; simp at h
    · rw [h1] at h; simp at h
    · rw [h1] at h; simp at h
end
end Go.Proofs.YtihllippchgkgaaGreat.V

/- Contracts: how a proof reads and gives registers. -/
namespace Go.Proofs.YtihllippchgkgaaGreat.V
open Go Go.RowKit
set_option linter.unusedVariables false
set_option linter.unusedSimpArgs false
/-- Block b is written, if at all with what is fit. -/
structure SpB (b : Nat) (Φ : Obj → Prop) (a c : World) : Prop where
  chg : Chg (bX b) a c
  box : c.heap[b]? = a.heap[b]? ∨ ∃ o, c.heap[b]? = some o ∧ Φ o
section
variable {b : Nat} {Φ : Obj → Prop} {a c : World}
theorem SpB.refl (b : Nat) (Φ : Obj → Prop) (a : World) : SpB b Φ a a := ⟨Chg.refl _ _, .inl rfl⟩
theorem SpB.trans {d : World} (h1 : SpB b Φ a c) (h2 : SpB b Φ c d) : SpB b Φ a d := ⟨h1.chg.trans h2.chg fun _ _ h => h, by
  rcases h2.box with h | h
  · rcases h1.box with h' | ⟨o, h', ho⟩
    · exact .inl (h.trans h')
    · exact .inr ⟨o, h.trans h', ho⟩
  · exact .inr h⟩
theorem SpB.of_below (h : Below a.heap.size a c) (hb : b < a.heap.size) : SpB b Φ a c := ⟨.of_below h, .inl (h.block b hb)⟩
theorem spbOk (b : Nat) (Φ : Obj → Prop) (w : World) (hb : b < w.heap.size) : SpOk (SpB b Φ) w := ⟨fun a => SpB.refl _ _ a, fun _ _ _ h1 h2 => h1.trans h2, SpB.of_below (Below.refl _ _).drew hb⟩
theorem SpB.lt (h : SpB b Φ a c) (hb : b < a.heap.size) : b < c.heap.size := Nat.lt_of_lt_of_le hb h.chg.size
theorem SpB.kbx {k : Kn} (h : SpB b Φ a c) (hk : KBx a b k) : KBx c b k ∨ ∃ o, c.heap[b]? = some o ∧ Φ o := by
  rcases h.box with e | e
  · exact .inl (e.trans hk)
  · exact .inr e
end
/-- An object that holds what is known, soundly, and these sockets. -/
def KOk (s : Sl) (o : Obj) : Prop := ∃ k : Kn, o = .cells k.cells.toArray 95 (0, 0) ∧ RK k ∧ k.sk = s
theorem SpB.kok {b : Nat} {a c : World} {s : Sl} {k : Kn} (h : SpB b (KOk s) a c) (hb : KBx a b k) (hk : RK k) (hs : k.sk = s) : ∃ k' : Kn, KBx c b k' ∧ RK k' ∧ k'.sk = s := by
  rcases h.kbx hb with e | ⟨o, e, k', rfl, h1, h2⟩
  · exact ⟨k, e, hk, hs⟩
  · exact ⟨k', e, h1, h2⟩
theorem SpB.of_kbx {b : Nat} {a c : World} {s : Sl} {k : Kn} (h : Chg (bX b) a c) (hb : KBx c b k) (hk : RK k) (hs : k.sk = s) : SpB b (KOk s) a c := ⟨h, .inr ⟨_, hb, k, rfl, hk, hs⟩⟩
/-- Block b holds something fit. -/
def BxB (b : Nat) (Φ : Obj → Prop) (w : World) : Prop := ∃ o, w.heap[b]? = some o ∧ Φ o
theorem keptB {b : Nat} {Φ : Obj → Prop} : Kept (SpB b Φ) (fun (_ : Unit) w => BxB b Φ w) := by
  rintro _ a c ⟨o, h, ho⟩ hs
  rcases hs.box with e | e
  · exact ⟨o, e.trans h, ho⟩
  · exact e
section
variable {w : World} {b : Nat} {k : Kn}
theorem RK.reg (hk : RK k) {r : Nat} (h : r < 11) : ∃ v, k.regs[r]? = some v ∧ RegOk v :=
  ⟨k.regs[r]'(by rw [hk.1.1]; exact h), List.getElem?_eq_getElem _, hk.2 _ (List.getElem_mem _)⟩
theorem RK.put (hk : RK k) {r : Nat} {v : T9} (hv : RegOk v) : RK ⟨k.regs.set r v, k.set, k.sk⟩ :=
  ⟨⟨by simpa using hk.1.1, hk.1.2⟩, fun x hx => by
    rcases List.mem_or_eq_of_mem_set hx with h | h
    · exact hk.2 x h
    · rw [h]; exact hv⟩
theorem impl.known.read.q {reg : Int} (hb : KBx w b k) (hk : RK k) (h0 : 0 ≤ reg) (h1 : reg ≤ 10) {K : T9 → World → Prop} {Kp : List PanicEntry → World → Prop} (hK : ∀ v w', v.kd ≠ 0 → RegOk v → Below w.heap.size w w' → K v w') (hp : ∀ c w', Below w.heap.size w w' → Kp (trapCh c) w') :
    CallP (.o (.ag (R 9 (.i .i64)))) P0 140 [.pointer (some ⟨b, 0, none⟩), .int .i64 reg] w K Kp := by
  obtain ⟨r, rfl⟩ := Int.eq_ofNat_of_zero_le h0
  obtain ⟨v, hv, ho⟩ := hk.reg (r := r) (by omega)
  refine impl.known.read.ok ?_
  unfold impl.known.read.vc
  refine nwKnow (MG.start0 w) fun w1 a b1 m1 => ⟨_, rfl, ixReg (r := r) rfl (by omega) ?_⟩
  have hb1 := hb.below m1.bl
  refine KAt.ld (j := 9 * r + 0) ⟨hb1, hk.1⟩ (Kn.get hv rfl) ?_
  refine impl.need.q (fun h => ⟨_, rfl, ixReg (r := r) rfl (by omega) ?_⟩) (fun h => hp _ _ m1.bl)
  refine KAt.ldR ⟨hb1, hk.1⟩ hv ?_
  repeat' (first | (with_reducible refine ldG (by assumption) (by with_unfolding_all (repeat (first | exact List.mem_cons_self | refine List.mem_cons_of_mem _ ?_))) (by with_unfolding_all rfl) ?_) | (with_reducible refine ldAG (by assumption) (by with_unfolding_all (repeat (first | exact List.mem_cons_self | refine List.mem_cons_of_mem _ ?_))) ?_) | (with_reducible refine qldG (by assumption) (by with_unfolding_all (repeat (first | exact List.mem_cons_self | refine List.mem_cons_of_mem _ ?_))) (by with_unfolding_all rfl) ?_) | (with_reducible refine nwKnow (by assumption) fun _ _ _ _ => ?_) | (with_reducible refine nwRange (by assumption) fun _ _ _ _ => ?_) | (with_reducible refine nwL (by assumption) fun _ _ _ _ => ?_) | (with_reducible refine stR (by assumption) (by with_unfolding_all (repeat (first | exact UpG.head _ _ _ _ _ | apply UpG.tail))) fun _ _ _ => ?_) | (with_reducible refine And.intro (fun _ => ?_) (fun _ => ?_)))
  exact hK _ _ (by simpa using h) ho (by assumption : MG noX w _ _ _).bl
theorem impl.known.operand.q {x : Ins} (hb : KBx w b k) (hk : RK k) (hs : -1 ≤ x.src ∧ x.src ≤ 10) (hi : 0 ≤ x.imm ∧ x.imm ≤ 4294967295) {K : T9 → World → Prop} {Kp : List PanicEntry → World → Prop} (hK : ∀ v w', v.kd ≠ 0 → RegOk v → Below w.heap.size w w' → K v w') (hp : ∀ c w', Below w.heap.size w w' → Kp (trapCh c) w') :
    CallP (.o (.ag (R 9 (.i .i64)))) P0 172 [.pointer (some ⟨b, 0, none⟩), .agg (Tup.cells (R 6 (.i .i64)) x.t).toArray] w K Kp := by
  refine impl.known.operand.ok ?_
  unfold impl.known.operand.vc
  have hm := MG.start0 w
  repeat' (first | (with_reducible refine ldG (by assumption) (by with_unfolding_all (repeat (first | exact List.mem_cons_self | refine List.mem_cons_of_mem _ ?_))) (by with_unfolding_all rfl) ?_) | (with_reducible refine ldAG (by assumption) (by with_unfolding_all (repeat (first | exact List.mem_cons_self | refine List.mem_cons_of_mem _ ?_))) ?_) | (with_reducible refine qldG (by assumption) (by with_unfolding_all (repeat (first | exact List.mem_cons_self | refine List.mem_cons_of_mem _ ?_))) (by with_unfolding_all rfl) ?_) | (with_reducible refine nwKnow (by assumption) fun _ _ _ _ => ?_) | (with_reducible refine nwRange (by assumption) fun _ _ _ _ => ?_) | (with_reducible refine nwL (by assumption) fun _ _ _ _ => ?_) | (with_reducible refine stR (by assumption) (by with_unfolding_all (repeat (first | exact UpG.head _ _ _ _ _ | apply UpG.tail))) fun _ _ _ => ?_) | (with_reducible refine And.intro (fun _ => ?_) (fun _ => ?_)))
  · refine impl.RangeOne.q hi.1 hi.2 fun r w3 hr b3 => impl.knowNum.q hr fun v w4 h1 hv b4 => ?_
    have m4 := (MG.below (by assumption : MG noX w _ _ _) b3).below b4
    repeat' (first | (with_reducible refine ldG (by assumption) (by with_unfolding_all (repeat (first | exact List.mem_cons_self | refine List.mem_cons_of_mem _ ?_))) (by with_unfolding_all rfl) ?_) | (with_reducible refine ldAG (by assumption) (by with_unfolding_all (repeat (first | exact List.mem_cons_self | refine List.mem_cons_of_mem _ ?_))) ?_) | (with_reducible refine qldG (by assumption) (by with_unfolding_all (repeat (first | exact List.mem_cons_self | refine List.mem_cons_of_mem _ ?_))) (by with_unfolding_all rfl) ?_) | (with_reducible refine nwKnow (by assumption) fun _ _ _ _ => ?_) | (with_reducible refine nwRange (by assumption) fun _ _ _ _ => ?_) | (with_reducible refine nwL (by assumption) fun _ _ _ _ => ?_) | (with_reducible refine stR (by assumption) (by with_unfolding_all (repeat (first | exact UpG.head _ _ _ _ _ | apply UpG.tail))) fun _ _ _ => ?_) | (with_reducible refine And.intro (fun _ => ?_) (fun _ => ?_)))
    exact hK _ _ (by rw [h1]; decide) hv (by assumption : MG noX w _ _ _).bl
  · have m2 := (by assumption : MG noX w _ _ _)
    have hc : (x.src == -1) = false := by assumption
    simp only [beq_eq_false_iff_ne, ne_eq] at hc
    refine impl.known.read.q (hb.below m2.bl) hk (by show 0 ≤ x.src; omega) hs.2 (fun v w4 h1 hv b4 => ?_) (fun c w4 b4 => hp _ _ (m2.below b4).bl)
    have m4 := m2.below b4
    clear m2
    repeat' (first | (with_reducible refine ldG (by assumption) (by with_unfolding_all (repeat (first | exact List.mem_cons_self | refine List.mem_cons_of_mem _ ?_))) (by with_unfolding_all rfl) ?_) | (with_reducible refine ldAG (by assumption) (by with_unfolding_all (repeat (first | exact List.mem_cons_self | refine List.mem_cons_of_mem _ ?_))) ?_) | (with_reducible refine qldG (by assumption) (by with_unfolding_all (repeat (first | exact List.mem_cons_self | refine List.mem_cons_of_mem _ ?_))) (by with_unfolding_all rfl) ?_) | (with_reducible refine nwKnow (by assumption) fun _ _ _ _ => ?_) | (with_reducible refine nwRange (by assumption) fun _ _ _ _ => ?_) | (with_reducible refine nwL (by assumption) fun _ _ _ _ => ?_) | (with_reducible refine stR (by assumption) (by with_unfolding_all (repeat (first | exact UpG.head _ _ _ _ _ | apply UpG.tail))) fun _ _ _ => ?_) | (with_reducible refine And.intro (fun _ => ?_) (fun _ => ?_)))
    exact hK _ _ h1 hv (by assumption : MG noX w _ _ _).bl
theorem impl.known.give.q {reg : Int} {v : T9} (hb : KBx w b k) (hk : RK k) (hv : RegOk v) (h0 : 0 ≤ reg) (h1 : reg ≤ 10) {K : Unit → World → Prop} {Kp : List PanicEntry → World → Prop}
    (hK : ∀ k' w', RK k' → k'.sk = k.sk → KBx w' b k' → Chg (bX b) w w' → K () w') (hp : ∀ c w', Below w.heap.size w w' → Kp (trapCh c) w') :
    CallP .z P0 200 [.pointer (some ⟨b, 0, none⟩), .int .i64 reg, .agg (Tup.cells (R 9 (.i .i64)) v).toArray] w K Kp := by
  obtain ⟨r, rfl⟩ := Int.eq_ofNat_of_zero_le h0
  refine impl.known.give.ok ?_
  unfold impl.known.give.vc
  refine nwL (MG.start (bX b) w fun j hj => by rw [hj]; exact hb.lt) fun w1 a b1 m1 => ?_
  refine impl.need.q (fun h => ?_) (fun h => hp _ _ b1)
  have hb1 := hb.below b1
  have hk' := hk.put (r := r) hv
  refine ⟨SpB b (fun o => o = .cells (Kn.cells ⟨k.regs.set r v, k.set, k.sk⟩).toArray 95 (0, 0)), spbOk _ _ _ hb1.lt, prG (fun x => x = v), keptPr, prG (fun x => x = ⟨b, 0, none⟩), keptPr, prG (fun x => x = ⟨b, 9 * r, none⟩), keptPr, _, keptB, fun w3 hs => ?_, fun t11 => ⟨fun w3 hs => ?_, fun t12 => ⟨fun w3 hs e => ?_, fun t14 => ⟨fun w3 hs e1 e2 => ?_, fun st w3 hs e1 e2 e3 e4 => ?_⟩⟩⟩⟩
  · have m3 := m1.wrote hs.chg fun _ h => h
    repeat' (first | (with_reducible refine ldG (by assumption) (by with_unfolding_all (repeat (first | exact List.mem_cons_self | refine List.mem_cons_of_mem _ ?_))) (by with_unfolding_all rfl) ?_) | (with_reducible refine ldAG (by assumption) (by with_unfolding_all (repeat (first | exact List.mem_cons_self | refine List.mem_cons_of_mem _ ?_))) ?_) | (with_reducible refine qldG (by assumption) (by with_unfolding_all (repeat (first | exact List.mem_cons_self | refine List.mem_cons_of_mem _ ?_))) (by with_unfolding_all rfl) ?_) | (with_reducible refine nwKnow (by assumption) fun _ _ _ _ => ?_) | (with_reducible refine nwRange (by assumption) fun _ _ _ _ => ?_) | (with_reducible refine nwL (by assumption) fun _ _ _ _ => ?_) | (with_reducible refine stR (by assumption) (by with_unfolding_all (repeat (first | exact UpG.head _ _ _ _ _ | apply UpG.tail))) fun _ _ _ => ?_) | (with_reducible refine And.intro (fun _ => ?_) (fun _ => ?_)))
    exact gkP rfl (SpB.refl _ _ _) rfl
  · exact ⟨_, rfl, gkP rfl (SpB.refl _ _ _) rfl⟩
  · obtain rfl : t12 = _ := e
    exact ixReg (r := r) rfl (by omega) (gkP rfl (SpB.refl _ _ _) rfl)
  · obtain rfl : t11 = _ := e1
    obtain rfl : t14 = _ := e2
    rcases hs.kbx hb1 with hk3 | ⟨o, h3, rfl⟩
    · exact KAt.stR (k := k) ⟨hk3, hk.1⟩ (r := r) (by omega) rfl fun w4 hg hz h4 => ⟨(), rfl, ⟨.of_grown hg rfl, .inr ⟨_, h4.1, rfl⟩⟩, _, h4.1, rfl⟩
    · refine KAt.stR (k := ⟨k.regs.set r t11, k.set, k.sk⟩) ⟨h3, hk'.1⟩ (r := r) (by omega) rfl fun w4 hg hz h4 => ?_
      have e : (⟨(k.regs.set r t11).set r t11, k.set, k.sk⟩ : Kn) = ⟨k.regs.set r t11, k.set, k.sk⟩ := by rw [List.set_set]
      rw [e] at h4
      exact ⟨(), rfl, ⟨.of_grown hg rfl, .inr ⟨_, h4.1, rfl⟩⟩, _, h4.1, rfl⟩
  · obtain ⟨o, h3, rfl⟩ := e4
    exact hK _ _ hk' rfl h3 (m1.wrote hs.chg fun _ h => h).low
end
end Go.Proofs.YtihllippchgkgaaGreat.V

/- Contracts: places that are moved; ops that reckon. -/
namespace Go.Proofs.YtihllippchgkgaaGreat.V
open Go Go.RowKit
set_option linter.unusedVariables false
set_option linter.unusedSimpArgs false
def sgn (n : Int) : Int := IntKind.wrap .i64 (IntKind.wrap .i32 (IntKind.wrap .u32 n))
theorem sgn_rng (n : Int) : -2147483648 ≤ sgn n ∧ sgn n ≤ 2147483647 := by
  unfold sgn
  simp only [IntKind.wrap, IntKind.bits, IntKind.signed]
  simp
  omega
/-- A place that is known. -/
def PlaceOk (v : T9) : Prop := (v.kd = 2 ∨ v.kd = 3) ∧ -1000000 ≤ v.lo ∧ v.lo ≤ v.hi ∧ v.hi ≤ 1000000
theorem RegOk.place {v : T9} (h : RegOk v) (hp : 2 ≤ v.kd ∧ v.kd ≤ 4) : PlaceOk v := by
  rcases h with h | h | h | h | h
  · omega
  · omega
  · exact h
  · omega
  · omega
section
variable {w : World}
theorem impl.signed.q {n : Int} {K : Int → World → Prop} (hk : K (sgn n) w) : CallT (.o (.lf (.i .i64))) P0 181 [.int .i64 n] w K := impl.signed.ok hk
theorem impl.Know.shift.q {v : T9} {op : Int} {r : T4} (hv : PlaceOk v) {K : T9 → World → Prop} {Kp : List PanicEntry → World → Prop} (hK : ∀ v' w', RegOk v' → Below w.heap.size w w' → K v' w') (hp : ∀ c w', Below w.heap.size w w' → Kp (trapCh c) w') :
    CallP (.o (.ag (R 9 (.i .i64)))) P0 202 [.agg (Tup.cells (R 9 (.i .i64)) v).toArray, .int .i64 op, .agg (Tup.cells (R 4 (.i .i64)) r).toArray] w K Kp := by
  refine impl.Know.shift.ok ?_
  unfold impl.Know.shift.vc
  have hm := MG.start0 w
  refine nwL hm fun w1 b1 _ m1 => nwL m1 fun w2 b2 _ m2 => nwKnow m2 fun w3 b3 _ m3 => ?_
  clear hm m1 m2
  refine qldG m3 (by with_unfolding_all (repeat (first | exact List.mem_cons_self | refine List.mem_cons_of_mem _ ?_))) (by with_unfolding_all rfl) (qcl _ (fun w4 h4 => impl.signed.q ⟨rfl, h4⟩) ?_)
  refine qldG m3 (by with_unfolding_all (repeat (first | exact List.mem_cons_self | refine List.mem_cons_of_mem _ ?_))) (by with_unfolding_all rfl) (qcl _ (fun w4 h4 => impl.signed.q ⟨rfl, h4⟩) fun w4 h4 => ?_)
  have s1 := sgn_rng r.1
  have s2 := sgn_rng r.2.1
  replace m3 := m3.below h4
  refine impl.need.q (fun h => ?_) (fun h => hp _ _ m3.bl)
  simp only [decide_eq_true_eq] at h
  generalize sgn r.1 = x at *
  generalize sgn r.2.1 = y at *
  refine ⟨fun a c w' => MG noX w w w' [(b3, 92, Tup.cells (R 9 (.i .i64)) z9), (b2, 90, Tup.cells (R 4 (.i .i64)) r), (b1, 92, Tup.cells (R 9 (.i .i64)) v)] ∧ a ≤ c ∧ -2147483648 ≤ a ∧ c ≤ 2147483648, And.intro (fun _ => ?_) (fun _ => ?_), fun a c w5 ⟨m5, h1, h2, h3⟩ _ => ?_⟩
  · rw [i64_of (by omega) (by omega), i64_of (by omega) (by omega)]
    exact ⟨m3, by omega, by omega, by omega⟩
  · exact ⟨m3, h, by omega, by omega⟩
  clear m3
  obtain ⟨p1, p2, p3, p4⟩ := hv
  refine ldG m5 (by with_unfolding_all (repeat (first | exact List.mem_cons_self | refine List.mem_cons_of_mem _ ?_))) (by with_unfolding_all rfl) ?_
  refine stF (n := 9) (v := ((v.1, v.2.1, v.2.2.1, v.2.2.2.1, v.2.2.2.2.1, IntKind.wrap .i64 (v.2.2.2.2.2.1 + a), v.2.2.2.2.2.2.1, v.2.2.2.2.2.2.2.1, v.2.2.2.2.2.2.2.2.1, ()) : T9)) m5 (by with_unfolding_all (repeat (first | exact UpG.head _ _ _ _ _ | apply UpG.tail))) (by with_unfolding_all rfl) (by omega) fun w6 _ m6 => ?_
  refine ldG m6 (by with_unfolding_all (repeat (first | exact List.mem_cons_self | refine List.mem_cons_of_mem _ ?_))) (by with_unfolding_all rfl) ?_
  refine stF (n := 9) (v := ((v.1, v.2.1, v.2.2.1, v.2.2.2.1, v.2.2.2.2.1, IntKind.wrap .i64 (v.2.2.2.2.2.1 + a), IntKind.wrap .i64 (v.2.2.2.2.2.2.1 + c), v.2.2.2.2.2.2.2.1, v.2.2.2.2.2.2.2.2.1, ()) : T9)) m6 (by with_unfolding_all (repeat (first | exact UpG.head _ _ _ _ _ | apply UpG.tail))) (by with_unfolding_all rfl) (by omega) fun w7 _ m7 => ?_
  clear m5 m6
  rw [i64_of (n := v.lo + a) (by omega) (by omega), i64_of (n := v.hi + c) (by omega) (by omega)] at m7
  refine ldG m7 (by with_unfolding_all (repeat (first | exact List.mem_cons_self | refine List.mem_cons_of_mem _ ?_))) (by with_unfolding_all rfl) (impl.within.c (And.intro (fun h5 => ?_) (fun h5 => ?_)))
  · refine ldG m7 (by with_unfolding_all (repeat (first | exact List.mem_cons_self | refine List.mem_cons_of_mem _ ?_))) (by with_unfolding_all rfl) (impl.within.c (impl.need.q (fun h6 => ?_) (fun h6 => hp _ _ m7.bl)))
    simp only [decide_eq_true_eq] at h5 h6
    have hr : RegOk ((v.1, v.2.1, v.2.2.1, v.2.2.2.1, v.2.2.2.2.1, v.lo + a, v.hi + c, v.2.2.2.2.2.2.2.1, v.2.2.2.2.2.2.2.2.1, ()) : T9) := .inr (.inr (.inl ⟨p1, h5.1, by show v.lo + a ≤ v.hi + c; omega, h6.2⟩))
    generalize ((v.1, v.2.1, v.2.2.1, v.2.2.2.1, v.2.2.2.2.1, v.lo + a, v.hi + c, v.2.2.2.2.2.2.2.1, v.2.2.2.2.2.2.2.2.1, ()) : T9) = v' at m7 hr
    refine ldAG m7 (by with_unfolding_all (repeat (first | exact List.mem_cons_self | refine List.mem_cons_of_mem _ ?_))) ?_
    refine stR (n := 9) m7 (by with_unfolding_all (repeat (first | exact UpG.head _ _ _ _ _ | apply UpG.tail))) fun w8 _ m8 => ?_
    refine ldAG m8 (by with_unfolding_all (repeat (first | exact List.mem_cons_self | refine List.mem_cons_of_mem _ ?_))) ?_
    exact hK _ _ hr m8.bl
  · exact impl.need.q (fun h6 => by simp at h6) (fun h6 => hp _ _ m7.bl)
theorem gkU {Sp : World → World → Prop} {w1 w' : World} (h : Sp w1 w') : GK (.n []) Sp w1 (prG fun _ => True) (.tuple #[]) w' := ⟨(), rfl, h, trivial⟩
theorem impl.known.reckons.q {b : Nat} {k : Kn} {x : Ins} (hb : KBx w b k) (hk : RK k) (hx : InsP x) (ho : 1 ≤ x.op ∧ x.op ≤ 11) {K : Unit → World → Prop} {Kp : List PanicEntry → World → Prop}
    (hK : ∀ k' w', RK k' → k'.sk = k.sk → KBx w' b k' → Chg (bX b) w w' → K () w') (hp : ∀ c w', Chg (bX b) w w' → Kp (trapCh c) w') :
    CallP .z P0 176 [.pointer (some ⟨b, 0, none⟩), .agg (Tup.cells (R 6 (.i .i64)) x.t).toArray] w K Kp := by
  obtain ⟨hx1, hx2, hx3, hx4, _⟩ := hx
  refine impl.known.reckons.ok ?_
  unfold impl.known.reckons.vc
  refine nwL (MG.start (bX b) w fun j hj => by rw [hj]; exact hb.lt) fun w1 bx b1 m1 => ?_
  refine ldG m1 (by with_unfolding_all (repeat (first | exact List.mem_cons_self | refine List.mem_cons_of_mem _ ?_))) (by with_unfolding_all rfl) ?_
  have hb1 := hb.below b1
  refine And.intro (fun hc => ?_) (fun hc => ?_)
  · refine ⟨SpB b (KOk k.sk), spbOk _ _ _ hb1.lt, prG (fun n => n = x.dst), keptPr, prG (fun y => y = x.t), keptPr, prG RegOk, keptPr, prG fun _ => True, keptPr, fun w3 hs => ?_, fun t11 => ⟨fun w3 hs => ?_, fun t13 => ⟨fun w3 hs e => ?_, fun t14 => ⟨fun w3 hs e1 e2 => ?_, fun t15 w3 hs _ _ _ _ => ?_⟩⟩⟩⟩
    · have m3 := m1.wrote hs.chg fun _ h => h
      repeat' (first | (with_reducible refine ldG (by assumption) (by with_unfolding_all (repeat (first | exact List.mem_cons_self | refine List.mem_cons_of_mem _ ?_))) (by with_unfolding_all rfl) ?_) | (with_reducible refine ldAG (by assumption) (by with_unfolding_all (repeat (first | exact List.mem_cons_self | refine List.mem_cons_of_mem _ ?_))) ?_) | (with_reducible refine qldG (by assumption) (by with_unfolding_all (repeat (first | exact List.mem_cons_self | refine List.mem_cons_of_mem _ ?_))) (by with_unfolding_all rfl) ?_) | (with_reducible refine nwKnow (by assumption) fun _ _ _ _ => ?_) | (with_reducible refine nwRange (by assumption) fun _ _ _ _ => ?_) | (with_reducible refine nwL (by assumption) fun _ _ _ _ => ?_) | (with_reducible refine stR (by assumption) (by with_unfolding_all (repeat (first | exact UpG.head _ _ _ _ _ | apply UpG.tail))) fun _ _ _ => ?_) | (with_reducible refine And.intro (fun _ => ?_) (fun _ => ?_)))
      exact gkP rfl (SpB.refl _ _ _) rfl
    · have m3 := m1.wrote hs.chg fun _ h => h
      repeat' (first | (with_reducible refine ldG (by assumption) (by with_unfolding_all (repeat (first | exact List.mem_cons_self | refine List.mem_cons_of_mem _ ?_))) (by with_unfolding_all rfl) ?_) | (with_reducible refine ldAG (by assumption) (by with_unfolding_all (repeat (first | exact List.mem_cons_self | refine List.mem_cons_of_mem _ ?_))) ?_) | (with_reducible refine qldG (by assumption) (by with_unfolding_all (repeat (first | exact List.mem_cons_self | refine List.mem_cons_of_mem _ ?_))) (by with_unfolding_all rfl) ?_) | (with_reducible refine nwKnow (by assumption) fun _ _ _ _ => ?_) | (with_reducible refine nwRange (by assumption) fun _ _ _ _ => ?_) | (with_reducible refine nwL (by assumption) fun _ _ _ _ => ?_) | (with_reducible refine stR (by assumption) (by with_unfolding_all (repeat (first | exact UpG.head _ _ _ _ _ | apply UpG.tail))) fun _ _ _ => ?_) | (with_reducible refine And.intro (fun _ => ?_) (fun _ => ?_)))
      exact gkP rfl (SpB.refl _ _ _) rfl
    · obtain rfl : t13 = _ := e
      have m3 := m1.wrote hs.chg fun _ h => h
      obtain ⟨k3, hb3, hk3, h3⟩ := hs.kok hb1 hk rfl
      exact impl.known.operand.q hb3 hk3 hx2 hx4 (fun v w4 _ hv b4 => gkP rfl (SpB.of_below b4 hb3.lt) hv) (fun c w4 b4 _ => hp _ _ (m3.below b4).low)
    · obtain rfl : t11 = _ := e1
      have m3 := m1.wrote hs.chg fun _ h => h
      obtain ⟨k3, hb3, hk3, h3⟩ := hs.kok hb1 hk rfl
      exact impl.known.give.q hb3 hk3 e2 hx1.1 hx1.2 (fun k' w4 hk' h' hb' c' => gkU (SpB.of_kbx c' hb' hk' (h'.trans h3))) (fun c w4 b4 _ => hp _ _ (m3.below b4).low)
    · obtain ⟨k3, hb3, hk3, h3⟩ := hs.kok hb1 hk rfl
      exact hK _ _ hk3 h3 hb3 (m1.wrote hs.chg fun _ h => h).low
  · refine ldG m1 (by with_unfolding_all (repeat (first | exact List.mem_cons_self | refine List.mem_cons_of_mem _ ?_))) (by with_unfolding_all rfl) ?_
    refine impl.known.read.q hb1 hk hx1.1 hx1.2 (fun va w2 hva0 hva b2 => ?_) (fun c w4 b4 => hp _ _ (m1.below b4).low)
    refine nwKnow (m1.below b2) fun w3 ba b3 m3 => ?_
    have hb3 := (hb1.below b2).below b3
    refine stR (n := 9) m3 (by with_unfolding_all (repeat (first | exact UpG.head _ _ _ _ _ | apply UpG.tail))) fun w4 g4 m4 => ?_
    replace hb3 : KBx w4 b k := m4.keep hb hb.lt
    refine ldAG m4 (by with_unfolding_all (repeat (first | exact List.mem_cons_self | refine List.mem_cons_of_mem _ ?_))) ?_
    refine impl.known.operand.q hb3 hk hx2 hx4 (fun vb w5 hvb0 hvb b5 => ?_) (fun c w4 b4 => hp _ _ (m4.below b4).low)
    refine nwKnow (m4.below b5) fun w6 bb b6 m6 => ?_
    refine stR (n := 9) m6 (by with_unfolding_all (repeat (first | exact UpG.head _ _ _ _ _ | apply UpG.tail))) fun w7 g7 m7 => ?_
    have hb7 : KBx w7 b k := m7.keep hb hb.lt
    clear m1 m3 m4 m6 hb1 hb3
    refine ⟨fun q w' => MG (bX b) w w w' [(bb, 92, Tup.cells (R 9 (.i .i64)) vb), (ba, 92, Tup.cells (R 9 (.i .i64)) va), (bx, 82, Tup.cells (R 6 (.i .i64)) x.t)] ∧ (q = true → 2 ≤ va.kd ∧ va.kd ≤ 4), ?_, fun q w8 ⟨m8, hq⟩ _ => ?_⟩
    · refine ldAG m7 (by with_unfolding_all (repeat (first | exact List.mem_cons_self | refine List.mem_cons_of_mem _ ?_))) (impl.Know.isPlace.q fun w8 b8 => ?_)
      have m8 := m7.below b8
      refine And.intro (fun hq => ?_) (fun hq => ⟨m8, fun h => by simp at h⟩)
      simp only [decide_eq_true_eq] at hq
      exact ldG m8 (by with_unfolding_all (repeat (first | exact List.mem_cons_self | refine List.mem_cons_of_mem _ ?_))) (by with_unfolding_all rfl) (And.intro (fun _ => ⟨m8, fun _ => hq⟩) (fun _ => ldG m8 (by with_unfolding_all (repeat (first | exact List.mem_cons_self | refine List.mem_cons_of_mem _ ?_))) (by with_unfolding_all rfl) ⟨m8, fun _ => hq⟩))
    have hb8 : KBx w8 b k := m8.keep hb hb.lt
    refine And.intro (fun hc2 => ?_) (fun hc2 => ?_)
    · have hpl := hva.place (hq hc2)
      refine ⟨SpB b (KOk k.sk), spbOk _ _ _ hb8.lt, prG (fun n => n = x.dst), keptPr, prG (fun y => y = va), keptPr, prG (fun n => True), keptPr, prG (fun y => y = vb), keptPr, prG Gd, keptPr, prG RegOk, keptPr, prG fun _ => True, keptPr, fun w3 hs => ?_, fun t37 => ⟨fun w3 hs => ?_, fun t38 => ⟨fun w3 hs => ?_, fun t40 => ⟨fun w3 hs => ?_, fun t41 => ⟨fun w3 hs e => ?_, fun t42 => ⟨fun w3 hs e1 e2 e3 => ?_, fun t43 => ⟨fun w3 hs e1 e2 => ?_, fun t44 w3 hs _ _ _ _ _ _ _ => ?_⟩⟩⟩⟩⟩⟩⟩
      · have m3 := m8.wrote hs.chg fun _ h => h
        repeat' (first | (with_reducible refine ldG (by assumption) (by with_unfolding_all (repeat (first | exact List.mem_cons_self | refine List.mem_cons_of_mem _ ?_))) (by with_unfolding_all rfl) ?_) | (with_reducible refine ldAG (by assumption) (by with_unfolding_all (repeat (first | exact List.mem_cons_self | refine List.mem_cons_of_mem _ ?_))) ?_) | (with_reducible refine qldG (by assumption) (by with_unfolding_all (repeat (first | exact List.mem_cons_self | refine List.mem_cons_of_mem _ ?_))) (by with_unfolding_all rfl) ?_) | (with_reducible refine nwKnow (by assumption) fun _ _ _ _ => ?_) | (with_reducible refine nwRange (by assumption) fun _ _ _ _ => ?_) | (with_reducible refine nwL (by assumption) fun _ _ _ _ => ?_) | (with_reducible refine stR (by assumption) (by with_unfolding_all (repeat (first | exact UpG.head _ _ _ _ _ | apply UpG.tail))) fun _ _ _ => ?_) | (with_reducible refine And.intro (fun _ => ?_) (fun _ => ?_)))
        exact gkP rfl (SpB.refl _ _ _) rfl
      · have m3 := m8.wrote hs.chg fun _ h => h
        repeat' (first | (with_reducible refine ldG (by assumption) (by with_unfolding_all (repeat (first | exact List.mem_cons_self | refine List.mem_cons_of_mem _ ?_))) (by with_unfolding_all rfl) ?_) | (with_reducible refine ldAG (by assumption) (by with_unfolding_all (repeat (first | exact List.mem_cons_self | refine List.mem_cons_of_mem _ ?_))) ?_) | (with_reducible refine qldG (by assumption) (by with_unfolding_all (repeat (first | exact List.mem_cons_self | refine List.mem_cons_of_mem _ ?_))) (by with_unfolding_all rfl) ?_) | (with_reducible refine nwKnow (by assumption) fun _ _ _ _ => ?_) | (with_reducible refine nwRange (by assumption) fun _ _ _ _ => ?_) | (with_reducible refine nwL (by assumption) fun _ _ _ _ => ?_) | (with_reducible refine stR (by assumption) (by with_unfolding_all (repeat (first | exact UpG.head _ _ _ _ _ | apply UpG.tail))) fun _ _ _ => ?_) | (with_reducible refine And.intro (fun _ => ?_) (fun _ => ?_)))
        exact gkP rfl (SpB.refl _ _ _) rfl
      · have m3 := m8.wrote hs.chg fun _ h => h
        repeat' (first | (with_reducible refine ldG (by assumption) (by with_unfolding_all (repeat (first | exact List.mem_cons_self | refine List.mem_cons_of_mem _ ?_))) (by with_unfolding_all rfl) ?_) | (with_reducible refine ldAG (by assumption) (by with_unfolding_all (repeat (first | exact List.mem_cons_self | refine List.mem_cons_of_mem _ ?_))) ?_) | (with_reducible refine qldG (by assumption) (by with_unfolding_all (repeat (first | exact List.mem_cons_self | refine List.mem_cons_of_mem _ ?_))) (by with_unfolding_all rfl) ?_) | (with_reducible refine nwKnow (by assumption) fun _ _ _ _ => ?_) | (with_reducible refine nwRange (by assumption) fun _ _ _ _ => ?_) | (with_reducible refine nwL (by assumption) fun _ _ _ _ => ?_) | (with_reducible refine stR (by assumption) (by with_unfolding_all (repeat (first | exact UpG.head _ _ _ _ _ | apply UpG.tail))) fun _ _ _ => ?_) | (with_reducible refine And.intro (fun _ => ?_) (fun _ => ?_)))
        exact gkP rfl (SpB.refl _ _ _) trivial
      · have m3 := m8.wrote hs.chg fun _ h => h
        repeat' (first | (with_reducible refine ldG (by assumption) (by with_unfolding_all (repeat (first | exact List.mem_cons_self | refine List.mem_cons_of_mem _ ?_))) (by with_unfolding_all rfl) ?_) | (with_reducible refine ldAG (by assumption) (by with_unfolding_all (repeat (first | exact List.mem_cons_self | refine List.mem_cons_of_mem _ ?_))) ?_) | (with_reducible refine qldG (by assumption) (by with_unfolding_all (repeat (first | exact List.mem_cons_self | refine List.mem_cons_of_mem _ ?_))) (by with_unfolding_all rfl) ?_) | (with_reducible refine nwKnow (by assumption) fun _ _ _ _ => ?_) | (with_reducible refine nwRange (by assumption) fun _ _ _ _ => ?_) | (with_reducible refine nwL (by assumption) fun _ _ _ _ => ?_) | (with_reducible refine stR (by assumption) (by with_unfolding_all (repeat (first | exact UpG.head _ _ _ _ _ | apply UpG.tail))) fun _ _ _ => ?_) | (with_reducible refine And.intro (fun _ => ?_) (fun _ => ?_)))
        exact gkP rfl (SpB.refl _ _ _) rfl
      · obtain rfl : t41 = _ := e
        have m3 := m8.wrote hs.chg fun _ h => h
        exact impl.Know.number.q hvb (fun r w4 _ hr b4 => gkP rfl (SpB.of_below b4 (hs.lt hb8.lt)) hr) (fun c w4 b4 _ => hp _ _ (m3.below b4).low)
      · obtain rfl : t38 = _ := e1
        have m3 := m8.wrote hs.chg fun _ h => h
        exact impl.Know.shift.q hpl (fun v w4 hv b4 => gkP rfl (SpB.of_below b4 (hs.lt hb8.lt)) hv) (fun c w4 b4 _ => hp _ _ (m3.below b4).low)
      · obtain rfl : t37 = _ := e1
        have m3 := m8.wrote hs.chg fun _ h => h
        obtain ⟨k3, hb3, hk3, h3⟩ := hs.kok hb8 hk rfl
        exact impl.known.give.q hb3 hk3 e2 hx1.1 hx1.2 (fun k' w4 hk' h' hb' c' => gkU (SpB.of_kbx c' hb' hk' (h'.trans h3))) (fun c w4 b4 _ => hp _ _ (m3.below b4).low)
      · obtain ⟨k3, hb3, hk3, h3⟩ := hs.kok hb8 hk rfl
        exact hK _ _ hk3 h3 hb3 (m8.wrote hs.chg fun _ h => h).low
    · refine ⟨SpB b (KOk k.sk), spbOk _ _ _ hb8.lt, prG (fun n => n = x.dst), keptPr, prG (fun n => n = x.op), keptPr, prG (fun y => y = va), keptPr, prG Gd, keptPr, prG (fun y => y = vb), keptPr, prG Gd, keptPr, prG Gd, keptPr, prG RegOk, keptPr, prG fun _ => True, keptPr, fun w3 hs => ?_, fun t47 => ⟨fun w3 hs => ?_, fun t49 => ⟨fun w3 hs => ?_, fun t50 => ⟨fun w3 hs e => ?_, fun t51 => ⟨fun w3 hs => ?_, fun t52 => ⟨fun w3 hs e => ?_, fun t53 => ⟨fun w3 hs e1 e2 e3 => ?_, fun t54 => ⟨fun w3 hs e => ?_, fun t55 => ⟨fun w3 hs e1 e2 => ?_, fun t56 w3 hs _ _ _ _ _ _ _ _ _ => ?_⟩⟩⟩⟩⟩⟩⟩⟩⟩
      · have m3 := m8.wrote hs.chg fun _ h => h
        repeat' (first | (with_reducible refine ldG (by assumption) (by with_unfolding_all (repeat (first | exact List.mem_cons_self | refine List.mem_cons_of_mem _ ?_))) (by with_unfolding_all rfl) ?_) | (with_reducible refine ldAG (by assumption) (by with_unfolding_all (repeat (first | exact List.mem_cons_self | refine List.mem_cons_of_mem _ ?_))) ?_) | (with_reducible refine qldG (by assumption) (by with_unfolding_all (repeat (first | exact List.mem_cons_self | refine List.mem_cons_of_mem _ ?_))) (by with_unfolding_all rfl) ?_) | (with_reducible refine nwKnow (by assumption) fun _ _ _ _ => ?_) | (with_reducible refine nwRange (by assumption) fun _ _ _ _ => ?_) | (with_reducible refine nwL (by assumption) fun _ _ _ _ => ?_) | (with_reducible refine stR (by assumption) (by with_unfolding_all (repeat (first | exact UpG.head _ _ _ _ _ | apply UpG.tail))) fun _ _ _ => ?_) | (with_reducible refine And.intro (fun _ => ?_) (fun _ => ?_)))
        exact gkP rfl (SpB.refl _ _ _) rfl
      · have m3 := m8.wrote hs.chg fun _ h => h
        repeat' (first | (with_reducible refine ldG (by assumption) (by with_unfolding_all (repeat (first | exact List.mem_cons_self | refine List.mem_cons_of_mem _ ?_))) (by with_unfolding_all rfl) ?_) | (with_reducible refine ldAG (by assumption) (by with_unfolding_all (repeat (first | exact List.mem_cons_self | refine List.mem_cons_of_mem _ ?_))) ?_) | (with_reducible refine qldG (by assumption) (by with_unfolding_all (repeat (first | exact List.mem_cons_self | refine List.mem_cons_of_mem _ ?_))) (by with_unfolding_all rfl) ?_) | (with_reducible refine nwKnow (by assumption) fun _ _ _ _ => ?_) | (with_reducible refine nwRange (by assumption) fun _ _ _ _ => ?_) | (with_reducible refine nwL (by assumption) fun _ _ _ _ => ?_) | (with_reducible refine stR (by assumption) (by with_unfolding_all (repeat (first | exact UpG.head _ _ _ _ _ | apply UpG.tail))) fun _ _ _ => ?_) | (with_reducible refine And.intro (fun _ => ?_) (fun _ => ?_)))
        exact gkP rfl (SpB.refl _ _ _) rfl
      · have m3 := m8.wrote hs.chg fun _ h => h
        repeat' (first | (with_reducible refine ldG (by assumption) (by with_unfolding_all (repeat (first | exact List.mem_cons_self | refine List.mem_cons_of_mem _ ?_))) (by with_unfolding_all rfl) ?_) | (with_reducible refine ldAG (by assumption) (by with_unfolding_all (repeat (first | exact List.mem_cons_self | refine List.mem_cons_of_mem _ ?_))) ?_) | (with_reducible refine qldG (by assumption) (by with_unfolding_all (repeat (first | exact List.mem_cons_self | refine List.mem_cons_of_mem _ ?_))) (by with_unfolding_all rfl) ?_) | (with_reducible refine nwKnow (by assumption) fun _ _ _ _ => ?_) | (with_reducible refine nwRange (by assumption) fun _ _ _ _ => ?_) | (with_reducible refine nwL (by assumption) fun _ _ _ _ => ?_) | (with_reducible refine stR (by assumption) (by with_unfolding_all (repeat (first | exact UpG.head _ _ _ _ _ | apply UpG.tail))) fun _ _ _ => ?_) | (with_reducible refine And.intro (fun _ => ?_) (fun _ => ?_)))
        exact gkP rfl (SpB.refl _ _ _) rfl
      · obtain rfl : t50 = _ := e
        have m3 := m8.wrote hs.chg fun _ h => h
        exact impl.Know.number.q hva (fun r w4 _ hr b4 => gkP rfl (SpB.of_below b4 (hs.lt hb8.lt)) hr) (fun c w4 b4 _ => hp _ _ (m3.below b4).low)
      · have m3 := m8.wrote hs.chg fun _ h => h
        repeat' (first | (with_reducible refine ldG (by assumption) (by with_unfolding_all (repeat (first | exact List.mem_cons_self | refine List.mem_cons_of_mem _ ?_))) (by with_unfolding_all rfl) ?_) | (with_reducible refine ldAG (by assumption) (by with_unfolding_all (repeat (first | exact List.mem_cons_self | refine List.mem_cons_of_mem _ ?_))) ?_) | (with_reducible refine qldG (by assumption) (by with_unfolding_all (repeat (first | exact List.mem_cons_self | refine List.mem_cons_of_mem _ ?_))) (by with_unfolding_all rfl) ?_) | (with_reducible refine nwKnow (by assumption) fun _ _ _ _ => ?_) | (with_reducible refine nwRange (by assumption) fun _ _ _ _ => ?_) | (with_reducible refine nwL (by assumption) fun _ _ _ _ => ?_) | (with_reducible refine stR (by assumption) (by with_unfolding_all (repeat (first | exact UpG.head _ _ _ _ _ | apply UpG.tail))) fun _ _ _ => ?_) | (with_reducible refine And.intro (fun _ => ?_) (fun _ => ?_)))
        exact gkP rfl (SpB.refl _ _ _) rfl
      · obtain rfl : t52 = _ := e
        have m3 := m8.wrote hs.chg fun _ h => h
        exact impl.Know.number.q hvb (fun r w4 _ hr b4 => gkP rfl (SpB.of_below b4 (hs.lt hb8.lt)) hr) (fun c w4 b4 _ => hp _ _ (m3.below b4).low)
      · obtain rfl : t49 = _ := e1
        exact impl.rangeOf.q ho e2 e3 fun r w4 hr b4 => gkP rfl (SpB.of_below b4 (hs.lt hb8.lt)) hr
      · exact impl.knowNum.q e fun v w4 _ hv b4 => gkP rfl (SpB.of_below b4 (hs.lt hb8.lt)) hv
      · obtain rfl : t47 = _ := e1
        have m3 := m8.wrote hs.chg fun _ h => h
        obtain ⟨k3, hb3, hk3, h3⟩ := hs.kok hb8 hk rfl
        exact impl.known.give.q hb3 hk3 e2 hx1.1 hx1.2 (fun k' w4 hk' h' hb' c' => gkU (SpB.of_kbx c' hb' hk' (h'.trans h3))) (fun c w4 b4 _ => hp _ _ (m3.below b4).low)
      · obtain ⟨k3, hb3, hk3, h3⟩ := hs.kok hb8 hk rfl
        exact hK _ _ hk3 h3 hb3 (m8.wrote hs.chg fun _ h => h).low
end
end Go.Proofs.YtihllippchgkgaaGreat.V

/- Contracts: what a proof does with bytes that are loaded and stored. -/
namespace Go.Proofs.YtihllippchgkgaaGreat.V
open Go Go.RowKit
set_option linter.unusedVariables false
set_option linter.unusedSimpArgs false
section
variable {w : World}
theorem slices.Index_bool.q {s : Sl} {v : Bool} {xs : List Bool} (h : SlR kB w s xs) {K : Int → World → Prop} (hK : ∀ n, K n w) :
    CallT (.o (.lf (.i .i64))) P0 183 [s.v, .bool v] w K := by
  have hn := h.len
  have hx := h.max
  refine slices.Index_bool.ok ⟨fun i w' => 0 ≤ i ∧ i ≤ s.n ∧ w' = w, fun i _ => (s.n - i).toNat, ⟨by omega, by omega, rfl⟩, ?_⟩
  rintro i w1 ⟨h0, h1, rfl⟩ _
  refine And.intro (fun hl => ?_) (fun _ => hK _)
  simp only [decide_eq_true_eq] at hl
  obtain ⟨y, hy⟩ : ∃ y, xs[i.toNat]? = some y := ⟨xs[i.toNat]'(by omega), List.getElem?_eq_getElem _⟩
  refine ixL h h0 hy rfl (l := .b) (v := y) rfl (And.intro (fun _ => hK _) (fun _ => ?_))
  rw [i64_of (by omega) (by omega)]
  exact ⟨⟨by omega, by omega, rfl⟩, by show (s.n - (i + 1)).toNat < (s.n - i).toNat; omega⟩
theorem slices.Contains_bool.q {s : Sl} {v : Bool} {xs : List Bool} (h : SlR kB w s xs) {K : Bool → World → Prop} (hK : ∀ n, K n w) :
    CallT (.o (.lf .b)) P0 155 [s.v, .bool v] w K := slices.Contains_bool.ok (slices.Index_bool.q h fun n => hK _)
theorem impl.proof.size.q {p : Option Addr} {v : T9} (hv : v.kd = 2 ∨ v.kd = 3) {K : Int → World → Prop} (hK : ∀ n w', n = 16 ∨ n = 12 → Below w.heap.size w w' → K n w') :
    CallT (.o (.lf (.i .i64))) P0 218 [.pointer p, .agg (Tup.cells (R 9 (.i .i64)) v).toArray] w K := by
  refine impl.proof.size.ok ?_
  unfold impl.proof.size.vc
  refine nwL (MG.start0 w) fun w1 b1 _ m1 => ldG m1 (by with_unfolding_all (repeat (first | exact List.mem_cons_self | refine List.mem_cons_of_mem _ ?_))) (by with_unfolding_all rfl) (And.intro (fun _ => hK _ _ (.inl rfl) m1.bl) (fun h => And.intro (fun _ => hK _ _ (.inr rfl) m1.bl) (fun h2 => ?_)))
  have e1 : (v.kd == 2) = false := h
  have e2 : (v.kd == 3) = false := h2
  simp only [beq_eq_false_iff_ne, ne_eq] at e1 e2
  omega
theorem impl.proof.place.q {p : Option Addr} {v : T9} {x : Ins} (hv : PlaceOk v) (hx : InsP x) (hs : szP x.size) {K : Int × Int × Unit → World → Prop} {Kp : List PanicEntry → World → Prop}
    (hK : ∀ lo hi w', 0 ≤ lo → lo ≤ hi → hi + x.size ≤ 16 → Below w.heap.size w w' → K (lo, hi, ()) w') (hp : ∀ c w', Below w.heap.size w w' → Kp (trapCh c) w') :
    CallP (.n [(.lf (.i .i64)), (.lf (.i .i64))]) P0 204 [.pointer p, .agg (Tup.cells (R 9 (.i .i64)) v).toArray, .agg (Tup.cells (R 6 (.i .i64)) x.t).toArray] w K Kp := by
  obtain ⟨_, _, hx3, _, _⟩ := hx
  obtain ⟨v1, v2, v3, v4⟩ := hv
  refine impl.proof.place.ok ?_
  unfold impl.proof.place.vc
  refine nwL (MG.start0 w) fun w1 b1 _ m1 => nwL m1 fun w2 b2 _ m2 => ?_
  refine qldG m2 (by with_unfolding_all (repeat (first | exact List.mem_cons_self | refine List.mem_cons_of_mem _ ?_))) (by with_unfolding_all rfl) (qldG m2 (by with_unfolding_all (repeat (first | exact List.mem_cons_self | refine List.mem_cons_of_mem _ ?_))) (by with_unfolding_all rfl) (qldG m2 (by with_unfolding_all (repeat (first | exact List.mem_cons_self | refine List.mem_cons_of_mem _ ?_))) (by with_unfolding_all rfl) (qldG m2 (by with_unfolding_all (repeat (first | exact List.mem_cons_self | refine List.mem_cons_of_mem _ ?_))) (by with_unfolding_all rfl) fun w3 h3 => ?_)))
  have m3 := m2.below h3
  clear m1 m2
  have e1 : IntKind.wrap .i64 (v.lo + x.off) = v.lo + x.off := i64_of (by omega) (by omega)
  have e2 : IntKind.wrap .i64 (v.hi + x.off) = v.hi + x.off := i64_of (by omega) (by omega)
  have hs2 : 1 ≤ x.size ∧ x.size ≤ 4 := by rcases hs with h | h | h <;> omega
  refine ⟨Grw, grwOk _, prG (fun y => y = v), keptPr, prG (fun n => n = 16 ∨ n = 12), keptPr, prG (fun n => n = x.size), keptPr, prG (fun _ => 0 ≤ v.lo + x.off ∧ v.hi + x.off + x.size ≤ 16), keptPr, And.intro (fun hc => ⟨fun w4 h4 => ?_, fun t25 => ⟨fun w4 h4 e => ?_, fun t26 => ⟨fun w4 h4 => ?_, fun t28 => ⟨fun w4 h4 f1 f2 => ?_, fun t32 w4 h4 _ _ _ f => ?_⟩⟩⟩⟩) (fun hc => ⟨fun w4 h4 _ _ => ?_, fun t32 w4 h4 _ _ _ f => ?_⟩)⟩
  · have m4 := m3.below h4
    repeat' (first | (with_reducible refine ldG (by assumption) (by with_unfolding_all (repeat (first | exact List.mem_cons_self | refine List.mem_cons_of_mem _ ?_))) (by with_unfolding_all rfl) ?_) | (with_reducible refine ldAG (by assumption) (by with_unfolding_all (repeat (first | exact List.mem_cons_self | refine List.mem_cons_of_mem _ ?_))) ?_) | (with_reducible refine qldG (by assumption) (by with_unfolding_all (repeat (first | exact List.mem_cons_self | refine List.mem_cons_of_mem _ ?_))) (by with_unfolding_all rfl) ?_) | (with_reducible refine nwKnow (by assumption) fun _ _ _ _ => ?_) | (with_reducible refine nwRange (by assumption) fun _ _ _ _ => ?_) | (with_reducible refine nwL (by assumption) fun _ _ _ _ => ?_) | (with_reducible refine stR (by assumption) (by with_unfolding_all (repeat (first | exact UpG.head _ _ _ _ _ | apply UpG.tail))) fun _ _ _ => ?_) | (with_reducible refine And.intro (fun _ => ?_) (fun _ => ?_)))
    exact gkP rfl (Grw.refl _) rfl
  · obtain rfl : t25 = _ := e
    exact impl.proof.size.q v1 fun n w5 hn b5 => gkP rfl b5 hn
  · have m4 := m3.below h4
    repeat' (first | (with_reducible refine ldG (by assumption) (by with_unfolding_all (repeat (first | exact List.mem_cons_self | refine List.mem_cons_of_mem _ ?_))) (by with_unfolding_all rfl) ?_) | (with_reducible refine ldAG (by assumption) (by with_unfolding_all (repeat (first | exact List.mem_cons_self | refine List.mem_cons_of_mem _ ?_))) ?_) | (with_reducible refine qldG (by assumption) (by with_unfolding_all (repeat (first | exact List.mem_cons_self | refine List.mem_cons_of_mem _ ?_))) (by with_unfolding_all rfl) ?_) | (with_reducible refine nwKnow (by assumption) fun _ _ _ _ => ?_) | (with_reducible refine nwRange (by assumption) fun _ _ _ _ => ?_) | (with_reducible refine nwL (by assumption) fun _ _ _ _ => ?_) | (with_reducible refine stR (by assumption) (by with_unfolding_all (repeat (first | exact UpG.head _ _ _ _ _ | apply UpG.tail))) fun _ _ _ => ?_) | (with_reducible refine And.intro (fun _ => ?_) (fun _ => ?_)))
    exact gkP rfl (Grw.refl _) rfl
  · obtain rfl : t28 = _ := f2
    have f1 : t26 = 16 ∨ t26 = 12 := f1
    refine impl.need.q (fun h => ⟨(), rfl, Grw.refl _, ?_⟩) (fun h _ => hp _ _ (m3.below h4).bl)
    rw [i64_of (n := t26 - x.size) (by omega) (by omega)] at h
    have h : decide (IntKind.wrap .i64 (v.hi + x.off) ≤ t26 - x.size) = true := h
    have hc : decide (IntKind.wrap .i64 (v.lo + x.off) ≥ 0) = true := hc
    rw [e2] at h
    rw [e1] at hc
    simp only [decide_eq_true_eq] at h hc
    exact ⟨hc, by omega⟩
  · have f : 0 ≤ v.lo + x.off ∧ v.hi + x.off + x.size ≤ 16 := f
    refine kof (hK (v.lo + x.off) (v.hi + x.off) w4 f.1 (by omega) f.2 (m3.below h4).bl) ?_
    show (v.lo + x.off, v.hi + x.off, ()) = (IntKind.wrap .i64 (v.lo + x.off), IntKind.wrap .i64 (v.hi + x.off), ())
    rw [e1, e2]
  · exact impl.need.q (fun h => by simp at h) (fun h _ => hp _ _ (m3.below h4).bl)
  · have f : 0 ≤ v.lo + x.off ∧ v.hi + x.off + x.size ≤ 16 := f
    refine kof (hK (v.lo + x.off) (v.hi + x.off) w4 f.1 (by omega) f.2 (m3.below h4).bl) ?_
    show (v.lo + x.off, v.hi + x.off, ()) = (IntKind.wrap .i64 (v.lo + x.off), IntKind.wrap .i64 (v.hi + x.off), ())
    rw [e1, e2]
theorem uSet : P0.underlying 65 = some (.array 16 4) := by kernel_rfl
theorem sSet : szOf P0 4 = some 1 := by kernel_rfl
/-- A part of the bools. -/
theorem slSet {b : Nat} {k : Kn} (hb : KBx w b k) (hk : k.ok) {lo hi : Int} (h0 : 0 ≤ lo) (h1 : lo ≤ hi) (h2 : hi ≤ 16) {K : Sl → World → Prop} (hK : ∀ s xs, SlR kB w s xs → K s w) :
    RunT (.o (.lf .sl)) P0 (Instr.sliceAt 65 (.pointer (some (Addr.add ⟨b, 0, none⟩ 99))) (some (.int .i64 lo)) (some (.int .i64 hi)) none) w K := by
  obtain ⟨l, rfl⟩ := Int.eq_ofNat_of_zero_le h0
  obtain ⟨h, rfl⟩ := Int.eq_ofNat_of_zero_le (a := hi) (by omega)
  have h2' : h ≤ 16 := by omega
  have h1' : l ≤ h := by omega
  refine ⟨⟨some (if 16 = l then (Addr.add ⟨b, 0, none⟩ 99) else (Addr.add ⟨b, 0, none⟩ 99).add (l * 1)), h - l, 16 - l⟩, w, ?_, hK _ ((k.set.take h).drop l) ⟨?_, by simp only; omega, by simp only [maxLen]; omega, ?_⟩⟩
  · simp [Instr.sliceAt, underlying, uSet, Instr.sureAddr, Instr.sliceBounds, Instr.sliceBound, asIntOf, run_sizeOf sSet, h1', h2', Rs.emb, Ty.emb, Lf.emb, Sl.v]
  · rw [List.length_drop, List.length_take, hk.2]; simp only; omega
  · by_cases hl : 16 = l
    · left
      apply List.eq_nil_of_length_eq_zero
      rw [List.length_drop, List.length_take, hk.2]; omega
    · refine .inr ⟨b, 99 + l, by simp only; rw [if_neg hl, add_mk, add_mk]; simp, fun i x hx m v hv => ?_⟩
      have hm : m = 0 := by
        cases m with
        | zero => rfl
        | succ m => simp [kB, Kd.cells, Tup.cells] at hv
      subst hm
      rw [List.getElem?_drop, List.getElem?_take] at hx
      split at hx
      · have e : 99 + l + i * kB.ls.length + 0 = 99 + (l + i) := by show 99 + l + i * 1 + 0 = _; omega
        rw [e, cell_of hb]
        have hv2 : v = Value.bool x := by simpa [kB, Kd.cells, Tup.cells, Lf.emb] using hv.symm
        rw [hv2]
        simpa using Kn.getS hk hx
      · simp at hx
theorem pow8 {n : Int} (h : szP n) : 0 ≤ IntKind.wrap .i64 (8 * n) ∧ 0 ≤ IntKind.wrap .i64 (IntKind.wrap .i64 (1 * 2 ^ (min (Int.toNat (IntKind.wrap .i64 (8 * n))) (IntKind.bits .i64))) - 1) ∧ IntKind.wrap .i64 (IntKind.wrap .i64 (1 * 2 ^ (min (Int.toNat (IntKind.wrap .i64 (8 * n))) (IntKind.bits .i64))) - 1) ≤ 4294967295 := by
  rcases h with rfl | rfl | rfl <;> decide
theorem impl.proof.load.q {b : Nat} {k : Kn} {p : Option Addr} {x : Ins} (hb : KBx w b k) (hk : RK k) (hx : InsP x) (ho : x.op = 17) {K : Unit → World → Prop} {Kp : List PanicEntry → World → Prop}
    (hK : ∀ k' w', RK k' → k'.sk = k.sk → KBx w' b k' → Chg (bX b) w w' → K () w') (hp : ∀ c w', Chg (bX b) w w' → Kp (trapCh c) w') :
    CallP .z P0 177 [.pointer p, .pointer (some ⟨b, 0, none⟩), .agg (Tup.cells (R 6 (.i .i64)) x.t).toArray] w K Kp := by
  have hX := hx
  obtain ⟨hx1, hx2, hx3, hx4, hx5⟩ := hx
  have hz : 0 ≤ x.src ∧ szP x.size := by unfold BareP szP at hx5; unfold szP; omega
  refine impl.proof.load.ok ?_
  unfold impl.proof.load.vc
  refine nwL (MG.start (bX b) w fun j hj => by rw [hj]; exact hb.lt) fun w1 bx b1 m1 => ?_
  refine ldG m1 (by with_unfolding_all (repeat (first | exact List.mem_cons_self | refine List.mem_cons_of_mem _ ?_))) (by with_unfolding_all rfl) ?_
  have hb1 := hb.below b1
  refine impl.known.read.q hb1 hk hz.1 hx2.2 (fun va w2 hva0 hva b2 => ?_) (fun c w4 b4 => hp _ _ (m1.below b4).low)
  refine nwKnow (m1.below b2) fun w3 ba b3 m3 => ?_
  refine stR (n := 9) m3 (by with_unfolding_all (repeat (first | exact UpG.head _ _ _ _ _ | apply UpG.tail))) fun w4 g4 m4 => ?_
  refine ldAG m4 (by with_unfolding_all (repeat (first | exact List.mem_cons_self | refine List.mem_cons_of_mem _ ?_))) (impl.Know.isPlace.q fun w5 b5 => ?_)
  have m5 := m4.below b5
  clear m1 m3 m4 hb1
  refine impl.need.q (fun h => ?_) (fun h => hp _ _ m5.low)
  simp only [decide_eq_true_eq] at h
  have hpl := hva.place h
  refine ldAG m5 (by with_unfolding_all (repeat (first | exact List.mem_cons_self | refine List.mem_cons_of_mem _ ?_))) (ldAG m5 (by with_unfolding_all (repeat (first | exact List.mem_cons_self | refine List.mem_cons_of_mem _ ?_))) ?_)
  refine impl.proof.place.q hpl hX hz.2 (fun lo hi w6 h0 h1 h2 b6 => ?_) (fun c w6 b6 => hp _ _ (m5.below b6).low)
  have m6 := m5.below b6
  clear m5
  refine ldG m6 (by with_unfolding_all (repeat (first | exact List.mem_cons_self | refine List.mem_cons_of_mem _ ?_))) (by with_unfolding_all rfl) ?_
  have hb6 : KBx w6 b k := m6.keep hb hb.lt
  have hs2 : 1 ≤ x.size ∧ x.size ≤ 4 := by rcases hz.2 with h | h | h <;> omega
  refine And.intro (fun hc => ?_) (fun hc => ?_)
  · refine ⟨Grw, grwOk _, prG (fun a => a = ⟨b, 0, none⟩), keptPr, prG (fun n => n = x.size), keptPr, fun s w' => ∃ xs, SlR kB w' s xs, fun s a c ⟨xs, h⟩ hs => ⟨xs, h.below hs⟩, prG (fun _ => True), keptPr, prG (fun _ => True), keptPr, fun w7 h7 => ⟨_, rfl, gkP rfl (Grw.refl _) rfl⟩, fun t27 => ⟨fun w7 h7 => ?_, fun t32 => ⟨fun w7 h7 e1 e2 => ?_, fun t34 => ⟨fun w7 h7 ⟨xs, e⟩ => ?_, fun t35 => ⟨fun w7 h7 e => ?_, fun t37 w7 h7 _ _ _ _ _ => ?_⟩⟩⟩⟩⟩
    · have m7 := m6.below h7
      repeat' (first | (with_reducible refine ldG (by assumption) (by with_unfolding_all (repeat (first | exact List.mem_cons_self | refine List.mem_cons_of_mem _ ?_))) (by with_unfolding_all rfl) ?_) | (with_reducible refine ldAG (by assumption) (by with_unfolding_all (repeat (first | exact List.mem_cons_self | refine List.mem_cons_of_mem _ ?_))) ?_) | (with_reducible refine qldG (by assumption) (by with_unfolding_all (repeat (first | exact List.mem_cons_self | refine List.mem_cons_of_mem _ ?_))) (by with_unfolding_all rfl) ?_) | (with_reducible refine nwKnow (by assumption) fun _ _ _ _ => ?_) | (with_reducible refine nwRange (by assumption) fun _ _ _ _ => ?_) | (with_reducible refine nwL (by assumption) fun _ _ _ _ => ?_) | (with_reducible refine stR (by assumption) (by with_unfolding_all (repeat (first | exact UpG.head _ _ _ _ _ | apply UpG.tail))) fun _ _ _ => ?_) | (with_reducible refine And.intro (fun _ => ?_) (fun _ => ?_)))
      exact gkP rfl (Grw.refl _) rfl
    · obtain rfl : t27 = _ := e1
      obtain rfl : t32 = _ := e2
      refine slSet (hb6.below h7) hk.1 h0 (by show lo ≤ IntKind.wrap .i64 (hi + x.size); rw [i64_of (by omega) (by omega)]; omega) (by show IntKind.wrap .i64 (hi + x.size) ≤ 16; rw [i64_of (by omega) (by omega)]; omega) fun s xs hs => ⟨s, rfl, Grw.refl _, xs, hs⟩
    · exact slices.Contains_bool.q e fun n => gkP rfl (Grw.refl _) trivial
    · exact impl.need.q (fun h => gkU (Grw.refl _)) (fun h _ => hp _ _ (m6.below h7).low)
    replace m6 := m6.below h7
    replace hb6 := hb6.below h7
    refine ⟨SpB b (KOk k.sk), spbOk _ _ _ hb6.lt, prG (fun n => n = x.dst), keptPr, prG (fun n => n = x.size), keptPr, prG (fun n => n = IntKind.wrap .i64 (1 * 2 ^ (min (Int.toNat (IntKind.wrap .i64 (8 * x.size))) (IntKind.bits .i64)))), keptPr, prG Gd, keptPr, prG RegOk, keptPr, prG fun _ => True, keptPr, fun w3 hs => ?_, fun t40 => ⟨fun w3 hs => ?_, fun t42 => ⟨fun w3 hs e => ?_, fun t44 => ⟨fun w3 hs e => ?_, fun t46 => ⟨fun w3 hs e => ?_, fun t47 => ⟨fun w3 hs e1 e2 => ?_, fun t48 w3 hs _ _ _ _ _ _ => ?_⟩⟩⟩⟩⟩⟩
    · have m3 := m6.wrote hs.chg fun _ h => h
      repeat' (first | (with_reducible refine ldG (by assumption) (by with_unfolding_all (repeat (first | exact List.mem_cons_self | refine List.mem_cons_of_mem _ ?_))) (by with_unfolding_all rfl) ?_) | (with_reducible refine ldAG (by assumption) (by with_unfolding_all (repeat (first | exact List.mem_cons_self | refine List.mem_cons_of_mem _ ?_))) ?_) | (with_reducible refine qldG (by assumption) (by with_unfolding_all (repeat (first | exact List.mem_cons_self | refine List.mem_cons_of_mem _ ?_))) (by with_unfolding_all rfl) ?_) | (with_reducible refine nwKnow (by assumption) fun _ _ _ _ => ?_) | (with_reducible refine nwRange (by assumption) fun _ _ _ _ => ?_) | (with_reducible refine nwL (by assumption) fun _ _ _ _ => ?_) | (with_reducible refine stR (by assumption) (by with_unfolding_all (repeat (first | exact UpG.head _ _ _ _ _ | apply UpG.tail))) fun _ _ _ => ?_) | (with_reducible refine And.intro (fun _ => ?_) (fun _ => ?_)))
      exact gkP rfl (SpB.refl _ _ _) rfl
    · have m3 := m6.wrote hs.chg fun _ h => h
      repeat' (first | (with_reducible refine ldG (by assumption) (by with_unfolding_all (repeat (first | exact List.mem_cons_self | refine List.mem_cons_of_mem _ ?_))) (by with_unfolding_all rfl) ?_) | (with_reducible refine ldAG (by assumption) (by with_unfolding_all (repeat (first | exact List.mem_cons_self | refine List.mem_cons_of_mem _ ?_))) ?_) | (with_reducible refine qldG (by assumption) (by with_unfolding_all (repeat (first | exact List.mem_cons_self | refine List.mem_cons_of_mem _ ?_))) (by with_unfolding_all rfl) ?_) | (with_reducible refine nwKnow (by assumption) fun _ _ _ _ => ?_) | (with_reducible refine nwRange (by assumption) fun _ _ _ _ => ?_) | (with_reducible refine nwL (by assumption) fun _ _ _ _ => ?_) | (with_reducible refine stR (by assumption) (by with_unfolding_all (repeat (first | exact UpG.head _ _ _ _ _ | apply UpG.tail))) fun _ _ _ => ?_) | (with_reducible refine And.intro (fun _ => ?_) (fun _ => ?_)))
      exact gkP rfl (SpB.refl _ _ _) rfl
    · obtain rfl : t42 = _ := e
      exact ⟨(pow8 hz.2).1, gkP rfl (SpB.refl _ _ _) rfl⟩
    · obtain rfl : t44 = _ := e
      exact impl.fromTo.q (Int.le_refl 0) (pow8 hz.2).2.1 (pow8 hz.2).2.2 fun r w4 hr b4 => gkP rfl (SpB.of_below b4 (hs.lt hb6.lt)) hr
    · exact impl.knowNum.q e fun v w4 _ hv b4 => gkP rfl (SpB.of_below b4 (hs.lt hb6.lt)) hv
    · obtain rfl : t40 = _ := e1
      have m3 := m6.wrote hs.chg fun _ h => h
      obtain ⟨k3, hb3, hk3, h3⟩ := hs.kok hb6 hk rfl
      exact impl.known.give.q hb3 hk3 e2 hx1.1 hx1.2 (fun k' w4 hk' h' hb' c' => gkU (SpB.of_kbx c' hb' hk' (h'.trans h3))) (fun c w4 b4 _ => hp _ _ (m3.below b4).low)
    · obtain ⟨k3, hb3, hk3, h3⟩ := hs.kok hb6 hk rfl
      exact hK _ _ hk3 h3 hb3 (m6.wrote hs.chg fun _ h => h).low
  · refine ⟨SpB b (KOk k.sk), spbOk _ _ _ hb6.lt, prG (fun n => n = x.dst), keptPr, prG (fun n => n = x.size), keptPr, prG (fun n => n = IntKind.wrap .i64 (1 * 2 ^ (min (Int.toNat (IntKind.wrap .i64 (8 * x.size))) (IntKind.bits .i64)))), keptPr, prG Gd, keptPr, prG RegOk, keptPr, prG fun _ => True, keptPr, fun w3 hs => ?_, fun t40 => ⟨fun w3 hs => ?_, fun t42 => ⟨fun w3 hs e => ?_, fun t44 => ⟨fun w3 hs e => ?_, fun t46 => ⟨fun w3 hs e => ?_, fun t47 => ⟨fun w3 hs e1 e2 => ?_, fun t48 w3 hs _ _ _ _ _ _ => ?_⟩⟩⟩⟩⟩⟩
    · have m3 := m6.wrote hs.chg fun _ h => h
      repeat' (first | (with_reducible refine ldG (by assumption) (by with_unfolding_all (repeat (first | exact List.mem_cons_self | refine List.mem_cons_of_mem _ ?_))) (by with_unfolding_all rfl) ?_) | (with_reducible refine ldAG (by assumption) (by with_unfolding_all (repeat (first | exact List.mem_cons_self | refine List.mem_cons_of_mem _ ?_))) ?_) | (with_reducible refine qldG (by assumption) (by with_unfolding_all (repeat (first | exact List.mem_cons_self | refine List.mem_cons_of_mem _ ?_))) (by with_unfolding_all rfl) ?_) | (with_reducible refine nwKnow (by assumption) fun _ _ _ _ => ?_) | (with_reducible refine nwRange (by assumption) fun _ _ _ _ => ?_) | (with_reducible refine nwL (by assumption) fun _ _ _ _ => ?_) | (with_reducible refine stR (by assumption) (by with_unfolding_all (repeat (first | exact UpG.head _ _ _ _ _ | apply UpG.tail))) fun _ _ _ => ?_) | (with_reducible refine And.intro (fun _ => ?_) (fun _ => ?_)))
      exact gkP rfl (SpB.refl _ _ _) rfl
    · have m3 := m6.wrote hs.chg fun _ h => h
      repeat' (first | (with_reducible refine ldG (by assumption) (by with_unfolding_all (repeat (first | exact List.mem_cons_self | refine List.mem_cons_of_mem _ ?_))) (by with_unfolding_all rfl) ?_) | (with_reducible refine ldAG (by assumption) (by with_unfolding_all (repeat (first | exact List.mem_cons_self | refine List.mem_cons_of_mem _ ?_))) ?_) | (with_reducible refine qldG (by assumption) (by with_unfolding_all (repeat (first | exact List.mem_cons_self | refine List.mem_cons_of_mem _ ?_))) (by with_unfolding_all rfl) ?_) | (with_reducible refine nwKnow (by assumption) fun _ _ _ _ => ?_) | (with_reducible refine nwRange (by assumption) fun _ _ _ _ => ?_) | (with_reducible refine nwL (by assumption) fun _ _ _ _ => ?_) | (with_reducible refine stR (by assumption) (by with_unfolding_all (repeat (first | exact UpG.head _ _ _ _ _ | apply UpG.tail))) fun _ _ _ => ?_) | (with_reducible refine And.intro (fun _ => ?_) (fun _ => ?_)))
      exact gkP rfl (SpB.refl _ _ _) rfl
    · obtain rfl : t42 = _ := e
      exact ⟨(pow8 hz.2).1, gkP rfl (SpB.refl _ _ _) rfl⟩
    · obtain rfl : t44 = _ := e
      exact impl.fromTo.q (Int.le_refl 0) (pow8 hz.2).2.1 (pow8 hz.2).2.2 fun r w4 hr b4 => gkP rfl (SpB.of_below b4 (hs.lt hb6.lt)) hr
    · exact impl.knowNum.q e fun v w4 _ hv b4 => gkP rfl (SpB.of_below b4 (hs.lt hb6.lt)) hv
    · obtain rfl : t40 = _ := e1
      have m3 := m6.wrote hs.chg fun _ h => h
      obtain ⟨k3, hb3, hk3, h3⟩ := hs.kok hb6 hk rfl
      exact impl.known.give.q hb3 hk3 e2 hx1.1 hx1.2 (fun k' w4 hk' h' hb' c' => gkU (SpB.of_kbx c' hb' hk' (h'.trans h3))) (fun c w4 b4 _ => hp _ _ (m3.below b4).low)
    · obtain ⟨k3, hb3, hk3, h3⟩ := hs.kok hb6 hk rfl
      exact hK _ _ hk3 h3 hb3 (m6.wrote hs.chg fun _ h => h).low
end
end Go.Proofs.YtihllippchgkgaaGreat.V

/- Contracts: how lines of ops are read, as far as the draws ask. -/
namespace Go.Proofs.YtihllippchgkgaaGreat.V
open Go Go.RowKit
set_option linter.unusedVariables false
set_option linter.unusedSimpArgs false
section
variable {w : World} {s : ByteArray}
/-- A part of a text. -/
theorem sub {lo hi : Option Int} {a b : Int} (hlo : a = lo.getD 0) (hhi : b = hi.getD (s.size : Int)) (h0 : 0 ≤ a) (h1 : a ≤ b) (h2 : b ≤ s.size) (h3 : s.size < 4611686018427387904) {K : ByteArray → World → Prop} (hk : ∀ r : ByteArray, (r.size : Int) = b - a → K r w) :
    RunT (.o (.lf .s)) P0 (Instr.sliceAt 9 (.string s) (lo.map (.int .i64)) (hi.map (.int .i64)) none) w K := by
  have hu := uStr
  have hs : ∀ i j : Nat, i ≤ j → j ≤ s.size → (s.extract i j).size = j - i := fun i j h1 h2 => by rw [ByteArray.size_extract]; omega
  cases lo with
  | none =>
    cases hi with
    | none =>
      simp only [Option.getD_none] at hlo hhi
      refine ⟨s, w, ?_, hk s (by omega)⟩
      simp [Instr.sliceAt, Instr.slice, underlying, hu, Instr.sliceBounds, Instr.sliceBound, asIntOf]
      rfl
    | some h =>
      simp only [Option.getD_none, Option.getD_some] at hlo hhi
      subst hlo hhi
      refine ⟨s.extract 0 b.toNat, w, ?_, hk _ (by rw [hs _ _ (by omega) (by omega)]; omega)⟩
      simp [Instr.sliceAt, Instr.slice, underlying, hu, Instr.sliceBounds, Instr.sliceBound, asIntOf, h1, h2]
      rfl
  | some l =>
    cases hi with
    | none =>
      simp only [Option.getD_none, Option.getD_some] at hlo hhi
      subst hlo hhi
      refine ⟨s.extract a.toNat s.size, w, ?_, hk _ (by rw [hs _ _ (by omega) (by omega)]; omega)⟩
      simp [Instr.sliceAt, Instr.slice, underlying, hu, Instr.sliceBounds, Instr.sliceBound, asIntOf, h0, h1]
      rfl
    | some h =>
      simp only [Option.getD_some] at hlo hhi
      subst hlo hhi
      refine ⟨s.extract a.toNat b.toNat, w, ?_, hk _ (by rw [hs _ _ (by omega) (by omega)]; omega)⟩
      have hb0 : 0 ≤ b := by omega
      have hmx : a ≤ max b 0 := by omega
      simp [Instr.sliceAt, Instr.slice, underlying, hu, Instr.sliceBounds, Instr.sliceBound, asIntOf, h0, h1, h2, hb0, hmx]
      rfl
theorem spec.l1Signed.c {K : Int → World → Prop} (hs : s.size < 4611686018427387904) (hk : ∀ n, K n w) : CallT (.o (.lf (.i .i64))) P0 188 [.string s] w K := by
  refine spec.l1Signed.ok (And.intro (fun h => ?_) (fun _ => spec.l1Num.c hs fun n => And.intro (fun _ => hk _) (fun _ => hk _)))
  simp only [decide_eq_true_eq] at h
  refine sxAny (by omega) (by omega) fun b _ _ => ?_
  refine And.intro (fun _ => ?_) (fun _ => spec.l1Num.c hs fun n => And.intro (fun _ => hk _) (fun _ => hk _))
  refine sub (lo := some 1) (hi := none) (a := 1) (b := s.size) rfl rfl (by omega) (by omega) (by omega) hs fun r hr => ?_
  exact spec.l1Num.c (by omega) fun n => And.intro (fun _ => hk _) (fun _ => hk _)
theorem spec.l1ReadReg.c {K : (Int × Int × Unit) → World → Prop} (hs : s.size < 4611686018427387904) (hk : ∀ n, K n w) : CallT (.n [(.lf (.i .i64)), (.lf (.i .i64))]) P0 187 [.string s] w K := by
  refine spec.l1ReadReg.ok (And.intro (fun h => ?_) (fun _ => spec.l1Num.c hs fun n => hk _))
  simp only [decide_eq_true_eq] at h
  refine sxAny (by omega) (by omega) fun b _ _ => ?_
  refine And.intro (fun _ => ?_) (fun _ => spec.l1Num.c hs fun n => hk _)
  refine sub (lo := some 1) (hi := none) (a := 1) (b := s.size) rfl rfl (by omega) (by omega) (by omega) hs fun r hr => ?_
  exact spec.l1Num.c (by omega) fun n => And.intro (fun _ => hk _) (fun _ => hk _)
theorem spec.l1Cut.c {b most : Int} {K : Sl → World → Prop} (hs : s.size < 4611686018427387904) (hm : 0 ≤ most ∧ most ≤ 1000) (hk : ∀ r w' xs, Below w.heap.size w w' → SlR kS w' r xs → 1 ≤ xs.length → (∀ y ∈ xs, y.size ≤ s.size) → K r w') :
    CallT (.o (.lf .sl)) P0 164 [.string s, .int .u8 b, .int .i64 most] w K := by
  refine spec.l1Cut.ok (nw fun w0 hb0 hs0 hc0 => ?_)
  have ho0 : OwnS kS 9 w.heap.size w0 ⟨some ⟨w.heap.size, 0, none⟩, 0, 0⟩ [] := OwnS.lit (Nat.le_refl _) hc0 rfl rfl (by simp)
  refine ⟨fun out fr i w' => ∃ (k f : Nat) (xs : List ByteArray), i = k ∧ fr = f ∧ f ≤ k ∧ k ≤ s.size ∧ OwnS kS 9 w.heap.size w' out xs ∧ (∀ y ∈ xs, y.size ≤ s.size) ∧ (xs.length : Int) ≤ most ∧ Below w.heap.size w w', fun _ _ i _ => s.size - i.toNat,
    ⟨0, 0, [], rfl, rfl, by omega, by omega, ho0, by simp, by simpa using hm.1, hb0⟩, ?_⟩
  rintro out fr i w1 ⟨k, f, xs, rfl, rfl, hfk, hks, ho, hy, hl, hb1⟩ _
  have hn := ho.len
  have last : RunT (.o (.lf .s)) P0 (Instr.sliceAt 9 (.string s) (some (.int .i64 (f : Int))) none none) w1 fun (t40 : ByteArray) w2 =>
      Nw #[(.string t40)] 9 w2 fun a w3 => RunT (.o (.lf .sl)) P0 (Builtin.append_ #[98, 98] 98 #[out.v, (.slice (some a) 1 1)]) w3 fun (t42 : Sl) w4 => K t42 w4 := by
    refine sub (lo := some (f : Int)) (hi := none) (a := f) (b := s.size) rfl rfl (by omega) (by omega) (by omega) hs fun r hr => ?_
    refine ap1 elS ho r rfl (by omega) (by omega) hb1.size fun o' w' ho' hg' _ => ?_
    refine hk o' w' _ (hb1.grown hg' hb1.size (fun b hb => (ho.blk hb).1)) ho'.read (by simp) (fun y hyy => ?_)
    rcases List.mem_append.1 hyy with h | h
    · exact hy y h
    · simp at h; subst h; omega
  refine ⟨fun w' => w' = w1 ∧ k < s.size ∧ (xs.length : Int) < most, ?_, ?_⟩
  · refine And.intro (fun h1 => And.intro (fun h2 => ?_) (fun _ => last)) (fun _ => last)
    simp only [decide_eq_true_eq] at h1 h2
    exact ⟨rfl, by omega, by omega⟩
  · rintro w2 ⟨rfl, hlt, hlm⟩ _
    refine sxAny (by omega) (by omega) fun c _ _ => ?_
    rw [i64_of (n := (k : Int) + 1) (by omega) (by omega)]
    refine And.intro (fun _ => ?_) (fun _ => ?_)
    · refine sub (lo := some (f : Int)) (hi := some (k : Int)) (a := f) (b := k) rfl rfl (by omega) (by omega) (by omega) hs fun r hr => ?_
      refine ap1 elS ho r rfl (by omega) (by omega) hb1.size fun o' w' ho' hg' _ => ?_
      refine ⟨⟨k + 1, k + 1, _, by omega, by omega, by omega, by omega, ho', fun y hyy => ?_, by simp; omega, hb1.grown hg' hb1.size (fun b hb => (ho.blk hb).1)⟩, by simp only; omega⟩
      rcases List.mem_append.1 hyy with h | h
      · exact hy y h
      · simp at h; subst h; omega
    · exact ⟨⟨k + 1, f, xs, by omega, rfl, by omega, by omega, ho, hy, hl, hb1⟩, by simp only; omega⟩
end
end Go.Proofs.YtihllippchgkgaaGreat.V

/- Contracts: how a line of an op is read, as far as the draws ask. -/
namespace Go.Proofs.YtihllippchgkgaaGreat.V
open Go Go.RowKit
set_option linter.unusedVariables false
set_option linter.unusedSimpArgs false
/-- An op lies in a block. -/
def InsAt (b : Nat) (w : World) : Prop := ∃ y : Ins, w.heap[b]? = some (.cells y.cs 82 (0, 0))
theorem stIns {b : Nat} {w : World} (h : InsAt b w) {j : Nat} (hj : j < 6) (n : Int) {K : World → Prop} (hk : ∀ w', w.grownBy w' (some b) → w'.heap.size = w.heap.size → InsAt b w' → K w') : St (Addr.add ⟨b, 0, none⟩ j) (.int .i64 n) w K := by
  obtain ⟨y, hy⟩ := h
  refine stB hy rfl (by simp [Ins.cs]; omega) fun w' hg hs hc => hk w' hg hs ?_
  match j, hj with
  | 0, _ => exact ⟨{ y with op := n }, hc⟩
  | 1, _ => exact ⟨{ y with dst := n }, hc⟩
  | 2, _ => exact ⟨{ y with src := n }, hc⟩
  | 3, _ => exact ⟨{ y with off := n }, hc⟩
  | 4, _ => exact ⟨{ y with imm := n }, hc⟩
  | 5, _ => exact ⟨{ y with size := n }, hc⟩
theorem loop_len (s : ByteArray) : ∀ (m i : Nat) (r : List UInt8), s.size - i = m → i ≤ s.size → (ByteArray.toList.loop s i r).length = r.length + (s.size - i)
  | 0, i, r, hm, hi => by rw [ByteArray.toList.loop, if_neg (by omega)]; simp; omega
  | m + 1, i, r, hm, hi => by rw [ByteArray.toList.loop, if_pos (by omega), loop_len s m (i + 1) _ (by omega) (by omega)]; simp only [List.length_cons]; omega
theorem list_len (s : ByteArray) : s.toList.length = s.size := by have := loop_len s s.size 0 [] (by omega) (by omega); simpa [ByteArray.toList] using this
/-- The state of the read: the op's block, and the block of the result. -/
def Z1 (w : World) (bx : Nat) (w' : World) : Prop := Below w.heap.size w w' ∧ InsAt bx w' ∧ w'.heap[w.heap.size]? = some (.cells (zc P0 82) 82 (0, 0)) ∧ w.heap.size < bx
section
variable {w w' : World} {bx : Nat}
theorem Z1.below (h : Z1 w bx w') {w2 : World} (hb : Below w'.heap.size w' w2) : Z1 w bx w2 := by
  obtain ⟨h1, ⟨y, hy⟩, h3, h4⟩ := h
  exact ⟨h1.trans (hb.mono h1.size), ⟨y, (hb.block _ (Array.getElem?_eq_some_iff.1 hy).1).trans hy⟩, (hb.block _ (Array.getElem?_eq_some_iff.1 h3).1).trans h3, h4⟩
theorem Z1.st (h : Z1 w bx w') {j : Nat} (hj : j < 6) (n : Int) {K : World → Prop} (hk : ∀ w2, Z1 w bx w2 → K w2) : St (Addr.add ⟨bx, 0, none⟩ j) (.int .i64 n) w' K := by
  refine stIns h.2.1 hj n fun w2 hg hs hi => hk w2 ⟨h.1.grown hg h.1.size (fun b hb => by simp only [Option.some.injEq] at hb; have := h.2.2.2; omega), hi, ?_, h.2.2.2⟩
  exact (hg.block _ (Array.getElem?_eq_some_iff.1 h.2.2.1).1 (by simp only [ne_eq, Option.some.injEq]; have := h.2.2.2; omega)).trans h.2.2.1
theorem Z1.ld (h : Z1 w bx w') {j : Nat} (hj : j < 6) {K : Int → World → Prop} (hk : ∀ n, K n w') : Ld (.i .i64) (Addr.add ⟨bx, 0, none⟩ j) w' K := by
  obtain ⟨h1, ⟨y, hy⟩, h3, h4⟩ := h
  match j, hj with
  | 0, _ => exact ldB hy (x := y.op) rfl (hk _)
  | 1, _ => exact ldB hy (x := y.dst) rfl (hk _)
  | 2, _ => exact ldB hy (x := y.src) rfl (hk _)
  | 3, _ => exact ldB hy (x := y.off) rfl (hk _)
  | 4, _ => exact ldB hy (x := y.imm) rfl (hk _)
  | 5, _ => exact ldB hy (x := y.size) rfl (hk _)
end
def insOf (t : Tup (R 6 (.i .i64))) : Ins := ⟨t.1, t.2.1, t.2.2.1, t.2.2.2.1, t.2.2.2.2.1, t.2.2.2.2.2.1⟩
theorem stA6 {b : Nat} {w : World} {cs : Array Value} (h : w.heap[b]? = some (.cells cs 82 (0, 0))) (hs : cs.toList.length = 6) (y : Ins) {K : World → Prop} (hk : ∀ w', w.grownBy w' (some b) → w'.heap.size = w.heap.size → w'.heap[b]? = some (.cells y.cs 82 (0, 0)) → K w') :
    StA P0 ⟨b, 0, none⟩ (Tup.cells (R 6 (.i .i64)) y.t) w K := by
  obtain ⟨w', hr, hg, hsz, hh⟩ := run_storeCells_at' P0 (b := b) (t := 82) (Tup.cells (R 6 (.i .i64)) y.t) 0 [] cs.toList w (oneCell_cells kIns (by intro l hl; simp [kIns] at hl; simp [hl]) y) rfl hs (by simpa using h)
  exact ⟨w', hr, hk w' hg hsz hh⟩
theorem insOf_t (t : Tup (R 6 (.i .i64))) : (insOf t).t = t := rfl
set_option maxHeartbeats 4000000 in
theorem spec.l1Read.c {s : Sl} {xs : List ByteArray} {w : World} {K : Tup (R 6 (.i .i64)) → World → Prop} (h : SlR kS w s xs) (hl : 1 ≤ xs.length) (hsz : ∀ y ∈ xs, y.size < 1099511627776) (hk : ∀ (x : Ins) w', Below w.heap.size w w' → K x.t w') :
    CallT (.o (.ag (R 6 (.i .i64)))) P0 163 [s.v] w K := by
  have hn := h.len; have hmax := h.max
  refine spec.l1Read.ok (nw fun w1 hb1 hs1 hc1 => ?_)
  have word : ∀ {w' : World} (i : Nat), Below w.heap.size w w' → i < xs.length → ∃ y, xs[i]? = some y ∧ y.size < 1099511627776 ∧ SlR kS w' s xs := fun i hb hi => by
    obtain ⟨y, hy⟩ := get_some (l := xs) (k := i) hi
    exact ⟨y, hy, hsz y (List.mem_of_getElem? hy), h.below hb⟩
  obtain ⟨y0, hy0, hz0, _⟩ := word 0 (Below.refl _ _) (by omega)
  have aty : ∀ (y : ByteArray), Kept (fun a b : World => Below a.heap.size a b) (fun (a : Addr) w' => w'.cell? a = some (.string y)) := fun y x a b h hab => by
    have h : a.cell? x = some (.string y) := h
    show b.cell? x = some (.string y)
    rw [Below.cell hab (World.block_lt_of_cell? a _ h)]; exact h
  have rows : ∀ n : Nat, Kept (fun a b : World => Below a.heap.size a b) (fun (r : Sl) w' => ∃ xs, SlR kS w' r xs) := fun n r a b ⟨xs, h⟩ hab => ⟨xs, h.below hab⟩
  have ix : ∀ {w' : World} (i : Nat) {y : ByteArray} {Kx : Addr → World → Prop}, Below w.heap.size w w' → xs[i]? = some y → (∀ a, w'.cell? a = some (.string y) → Kx a w') → Ix s.a s.n (i : Int) 1 w' Kx := fun i y Kx hb hy hK =>
    ixR (h.below hb) (i := i) (by omega) (x := y) (by simpa using hy) rfl fun b o hA => hK _ (hA 0 (.string y) rfl)
  have zlen : (zc P0 82).size = 6 := by have := zIns; simpa using this
  refine ⟨fun a b => Below a.heap.size a b, spBelow w1, fun r w' => ∃ xs, SlR kS w' r xs, rows 0, fun a w' => w'.cell? a = some (.string y0), aty y0, fun v _ => v = y0, keptT, fun _ _ => True, keptT, fun _ _ => True, keptT, fun a w' => ∃ bx, a = ⟨bx, 0, none⟩ ∧ w.heap.size < bx ∧ w'.heap[bx]? = some (.cells (zc P0 82) 82 (0, 0)), ?_,
    fun w2 hb2 => ?_, fun t18 => ⟨fun w2 hb2 => ?_, fun t20 => ⟨fun w2 hb2 h20 => ?_, fun t21 => ⟨fun w2 hb2 h18 h21 => ?_, fun t22 => ⟨fun w2 hb2 h22 => ?_, fun t23 => ⟨fun w2 hb2 => ?_, fun x w2 hb2 _ _ _ _ _ hx => ?_⟩⟩⟩⟩⟩⟩
  · rintro a x y ⟨bx, rfl, h1, h2⟩ hab
    exact ⟨bx, rfl, h1, (Below.block hab _ (Array.getElem?_eq_some_iff.1 h2).1).trans h2⟩
  · exact spec.l1Words.c fun r w3 ys hb3 hr _ _ => ⟨r, rfl, hb3, ys, hr⟩
  · exact ix 0 (hb1.trans (Below.mono hb2 hb1.size)) hy0 fun a ha => ⟨a, rfl, Below.refl _ _, ha⟩
  · exact ⟨y0, h20, y0, rfl, Below.refl _ _, rfl⟩
  · obtain ⟨ys, hr⟩ := h18
    exact spec.l1Find.c hr fun n => ⟨n, rfl, Below.refl _ _, trivial⟩
  · exact ⟨(⟨t22, 0, -1, 0, 0, 0⟩ : Ins).t, rfl, Below.refl _ _, trivial⟩
  · exact nw fun w3 hb3 hs3 hc3 => ⟨⟨w2.heap.size, 0, none⟩, rfl, hb3, w2.heap.size, rfl, by have := Below.size hb2; omega, hc3⟩
  · obtain ⟨bx, rfl, hbx, hcx⟩ := hx
    have bb2 : Below w.heap.size w w2 := hb1.trans (Below.mono hb2 hb1.size)
    have hz2 : w2.heap[w.heap.size]? = some (.cells (zc P0 82) 82 (0, 0)) := (Below.block hb2 _ (by omega)).trans hc1
    refine stA6 (y := insOf t23) hcx zIns fun w3 hg3 hs3 hh3 => ?_
    have z3 : Z1 w bx w3 := ⟨bb2.grown hg3 bb2.size (fun b hb => by simp only [Option.some.injEq] at hb; omega), ⟨_, hh3⟩, ?_, hbx⟩
    rotate_left
    · exact (hg3.block _ (Array.getElem?_eq_some_iff.1 hz2).1 (by simp only [ne_eq, Option.some.injEq]; omega)).trans hz2
    have zix : ∀ {w' : World} (i : Nat) {Kx : ByteArray → World → Prop}, Z1 w bx w' → i < xs.length → (∀ y : ByteArray, y.size < 4611686018427387904 → Kx y w') → Ix s.a s.n (i : Int) 1 w' fun a w2 => Ld .s a w2 Kx := fun i Kx hz hi hK => by
      obtain ⟨y, hy, hyz, hr⟩ := word i hz.1 hi
      exact ixL hr (i := i) (by omega) (x := y) (by simpa using hy) rfl (l := .s) (v := y) rfl (hK y (by omega))
    refine ⟨fun size w' => Z1 w bx w' ∧ (size = 1 ∨ size = 2 ∨ size = 4 ∨ size = 8), fun size _ => 8 - size.toNat, ⟨z3, .inl rfl⟩, ?_⟩
    rintro size w4 ⟨z4, hsize⟩ _
    have x4 : ∀ {w' : World}, Below w4.heap.size w4 w' → Z1 w bx w' := fun hb => z4.below hb
    have h4 : SlR kS w4 s xs := h.below z4.1
    have cl : ∀ w5 w6 : World, Below w4.heap.size w4 w5 → Below w5.heap.size w5 w6 → Below w4.heap.size w4 w6 := fun w5 w6 h5 h6 => h5.trans (h6.mono h5.size)
    refine And.intro (fun hlt => ?_) (fun _ => ?_)
    · simp only [decide_eq_true_eq] at hlt
      have next : IntKind.wrap .i64 (size * 2) = size * 2 := i64_of (by omega) (by omega)
      have dsz := dec_size (n := size) (by omega)
      have s4 : (⟨#[108, 111, 97, 100]⟩ : ByteArray).size = 4 := rfl
      have s5 : (⟨#[115, 116, 111, 114, 101]⟩ : ByteArray).size = 5 := rfl
      refine ⟨fun b w' => Z1 w bx w' ∧ (b = true → 1 ≤ y0.size), ?_, ?_⟩
      · refine qixL h4 (i := 0) (by omega) (x := y0) (by simpa using hy0) rfl (l := .s) (v := y0) rfl ?_
        refine qcl _ (fun w5 hb5 => spec.l1Dec.c (by omega) fun w6 hb6 => ⟨rfl, cl _ _ hb5 hb6⟩) ?_
        refine ⟨szS _ _ 50 (by rw [s4]; omega) (by omega), fun he w5 hb5 => ⟨x4 hb5, fun _ => ?_⟩, fun _ => ?_⟩
        · have := congrArg List.length (beq_iff_eq.1 he)
          rw [list_len, list_len, ByteArray.size_append, s4] at this
          omega
        · refine qixL h4 (i := 0) (by omega) (x := y0) (by simpa using hy0) rfl (l := .s) (v := y0) rfl ?_
          refine qcl _ (fun w5 hb5 => spec.l1Dec.c (by omega) fun w6 hb6 => ⟨rfl, cl _ _ hb5 hb6⟩) ?_
          refine ⟨szS _ _ 50 (by rw [s5]; omega) (by omega), fun w5 hb5 => ⟨x4 hb5, fun he => ?_⟩⟩
          have := congrArg List.length (beq_iff_eq.1 he)
          rw [list_len, list_len, ByteArray.size_append, s5] at this
          omega
      · rintro b w5 ⟨z5, hb5⟩ _
        refine And.intro (fun ht => ?_) (fun _ => ?_)
        · have hy1 := hb5 ht
          refine ⟨fun a b => Below a.heap.size a b, spBelow w5, fun r w' => ∃ xs, SlR kS w' r xs, rows 0, fun a w' => w'.cell? a = some (.string y0), aty y0, fun v _ => v = y0, keptT, fun a w' => w'.cell? a = some (.string y0), aty y0, fun v _ => v = y0, keptT, fun v _ => v.size < 4611686018427387904, keptT, fun _ _ => True, keptT, fun w6 hb6 => ?_,
            fun t44 => ⟨fun w6 hb6 => ?_, fun t46 => ⟨fun w6 hb6 h46 => ?_, fun t47 => ⟨fun w6 hb6 => ?_, fun t49 => ⟨fun w6 hb6 h49 => ?_, fun t50 => ⟨fun w6 hb6 h47 h50 => ?_, fun t53 => ⟨fun w6 hb6 h44 h53 => ?_, fun t54 w6 hb6 _ _ _ _ _ _ _ => ?_⟩⟩⟩⟩⟩⟩⟩
          · exact spec.l1Words.c fun r w3 ys hb3 hr _ _ => ⟨r, rfl, hb3, ys, hr⟩
          · exact ix 0 (z5.below hb6).1 hy0 fun a ha => ⟨a, rfl, Below.refl _ _, ha⟩
          · exact ⟨y0, h46, y0, rfl, Below.refl _ _, rfl⟩
          · exact ix 0 (z5.below hb6).1 hy0 fun a ha => ⟨a, rfl, Below.refl _ _, ha⟩
          · exact ⟨y0, h49, y0, rfl, Below.refl _ _, rfl⟩
          · subst h47 h50
            rw [i64_of (n := (t50.size : Int) - 1) (by omega) (by omega)]
            exact sub (lo := none) (hi := some ((t50.size : Int) - 1)) (a := 0) (b := (t50.size : Int) - 1) rfl rfl (by omega) (by omega) (by omega) (by omega) fun r hr => ⟨r, rfl, Below.refl _ _, by omega⟩
          · obtain ⟨ys, hr⟩ := h44
            exact spec.l1Find.c hr fun n => ⟨n, rfl, Below.refl _ _, trivial⟩
          · refine (z5.below hb6).st (by omega) _ fun w7 z7 => z7.st (by omega) _ fun w8 z8 => ?_
            rw [next]
            exact ⟨⟨z8, by omega⟩, by simp only; omega⟩
        · rw [next]
          exact ⟨⟨z5, by omega⟩, by simp only; omega⟩
    · have rr : ∀ {i : Nat} {w5 : World} {Kx : (Int × Int × Unit) → World → Prop}, Z1 w bx w5 → i < xs.length → (∀ n, Kx n w5) → Ix s.a s.n (i : Int) 1 w5 fun a w2 => Ld .s a w2 fun y w3 => CallT (.n [(.lf (.i .i64)), (.lf (.i .i64))]) P0 187 [.string y] w3 Kx :=
        fun {i} {w5} {Kx} hz hi hK => zix i hz hi fun y hy => spec.l1ReadReg.c hy hK
      have rs : ∀ {i : Nat} {w5 : World} {Kx : Int → World → Prop}, Z1 w bx w5 → i < xs.length → (∀ n, Kx n w5) → Ix s.a s.n (i : Int) 1 w5 fun a w2 => Ld .s a w2 fun y w3 => CallT (.o (.lf (.i .i64))) P0 188 [.string y] w3 Kx :=
        fun {i} {w5} {Kx} hz hi hK => zix i hz hi fun y hy => spec.l1Signed.c hy hK
      refine ⟨fun w' => Z1 w bx w', ⟨fun b w' => Z1 w bx w' ∧ (b = true → xs.length = 3 ∨ xs.length = 4), ?_, ?_⟩, ?_⟩
      · refine z4.ld (by omega) fun n => spec.l1Alu.c ?_
        have c4 : ((s.n : Int) == 4) = true → xs.length = 3 ∨ xs.length = 4 := fun h => by simp only [beq_iff_eq] at h; omega
        refine And.intro (fun _ => And.intro (fun h3 => ⟨z4, fun _ => ?_⟩) (fun _ => ?_)) (fun _ => ?_)
        · simp only [beq_iff_eq] at h3; omega
        · exact z4.ld (by omega) fun n => spec.l1Jump.c (And.intro (fun _ => ⟨z4, c4⟩) (fun _ => ⟨z4, fun h => by simp at h⟩))
        · exact z4.ld (by omega) fun n => spec.l1Jump.c (And.intro (fun _ => ⟨z4, c4⟩) (fun _ => ⟨z4, fun h => by simp at h⟩))
      · rintro b w5 ⟨z5, hb5⟩ _
        refine And.intro (fun ht => ?_) (fun _ => ?_)
        · have hl3 := hb5 ht
          refine rr (i := 1) z5 (by omega) fun n1 => ?_
          refine rr (i := 2) z5 (by omega) fun n2 => ?_
          refine z5.st (by omega) _ fun w6 z6 => z6.st (by omega) _ fun w7 z7 => z7.st (by omega) _ fun w8 z8 => ?_
          refine And.intro (fun h4 => ?_) (fun _ => z8)
          simp only [beq_iff_eq] at h4
          exact rs (i := 3) z8 (by omega) fun n3 => z8.st (by omega) _ fun w9 z9 => z9
        · refine ⟨fun b w' => Z1 w bx w' ∧ (b = true → xs.length = 2), ?_, ?_⟩
          · exact z5.ld (by omega) fun n => And.intro (fun _ => ⟨z5, fun h => by simp only [beq_iff_eq] at h; omega⟩) (fun _ => ⟨z5, fun h => by simp at h⟩)
          · rintro b w6 ⟨z6, hb6⟩ _
            refine And.intro (fun ht => ?_) (fun _ => ?_)
            · have hl2 := hb6 ht
              exact rs (i := 1) z6 (by omega) fun n1 => z6.st (by omega) _ fun w7 z7 => z7
            · refine ⟨fun b w' => Z1 w bx w' ∧ (b = true → xs.length = 4), ?_, ?_⟩
              · exact z6.ld (by omega) fun n => And.intro (fun _ => ⟨z6, fun h => by simp only [beq_iff_eq] at h; omega⟩) (fun _ => ⟨z6, fun h => by simp at h⟩)
              · rintro b w7 ⟨z7, hb7⟩ _
                refine And.intro (fun ht => ?_) (fun _ => ?_)
                · have hl4 := hb7 ht
                  refine rr (i := 1) z7 (by omega) fun n1 => ?_
                  refine rr (i := 2) z7 (by omega) fun n2 => ?_
                  refine z7.st (by omega) _ fun w8 z8 => z8.st (by omega) _ fun w9 z9 => ?_
                  exact rs (i := 3) z9 (by omega) fun n3 => z9.st (by omega) _ fun w10 z10 => z10
                · refine ⟨fun b w' => Z1 w bx w' ∧ (b = true → xs.length = 4), ?_, ?_⟩
                  · exact z7.ld (by omega) fun n => And.intro (fun _ => ⟨z7, fun h => by simp only [beq_iff_eq] at h; omega⟩) (fun _ => ⟨z7, fun h => by simp at h⟩)
                  · rintro b w8 ⟨z8, hb8⟩ _
                    refine And.intro (fun ht => ?_) (fun _ => ?_)
                    · have hl4 := hb8 ht
                      refine rr (i := 1) z8 (by omega) fun n1 => ?_
                      refine rr (i := 3) z8 (by omega) fun n2 => ?_
                      refine z8.st (by omega) _ fun w9 z9 => ?_
                      refine rs (i := 2) z9 (by omega) fun n3 => ?_
                      exact z9.st (by omega) _ fun w10 z10 => z10.st (by omega) _ fun w11 z11 => z11.st (by omega) _ fun w12 z12 => z12
                    · refine z8.ld (by omega) fun n => And.intro (fun _ => And.intro (fun h2 => ?_) (fun _ => z8)) (fun _ => z8)
                      simp only [beq_iff_eq] at h2
                      obtain ⟨y1, hy1, hz1, _⟩ := word 1 z8.1 (by omega)
                      refine ⟨fun a b => Below a.heap.size a b, spBelow w8, fun r w' => ∃ xs, SlR kS w' r xs, rows 0, fun a w' => w'.cell? a = some (.string y1), aty y1, fun v _ => v = y1, keptT, fun _ _ => True, keptT, fun w9 hb9 => ?_, fun t189 => ⟨fun w9 hb9 => ?_, fun t191 => ⟨fun w9 hb9 h191 => ?_, fun t192 => ⟨fun w9 hb9 h189 h192 => ?_, fun t193 w9 hb9 _ _ _ _ => ?_⟩⟩⟩⟩
                      · exact spec.l1Calls.c fun r w3 ys hb3 hr _ _ => ⟨r, rfl, hb3, ys, hr⟩
                      · exact ix 1 (z8.below hb9).1 hy1 fun a ha => ⟨a, rfl, Below.refl _ _, ha⟩
                      · exact ⟨y1, h191, y1, rfl, Below.refl _ _, rfl⟩
                      · obtain ⟨ys, hr⟩ := h189
                        exact spec.l1Find.c hr fun n => ⟨n, rfl, Below.refl _ _, trivial⟩
                      · exact (z8.below hb9).st (by omega) _ fun w10 z10 => z10
      · rintro w5 ⟨hb5, ⟨y, hy⟩, hz5, hlt5⟩ _
        refine ldAB (x := y.t) hy rfl ?_
        refine stA6 (y := y) hz5 zIns fun w6 hg6 hs6 hh6 => ?_
        refine ldAB (x := y.t) hh6 rfl ?_
        exact hk y w6 (hb5.grown hg6 hb5.size (fun b hb => by simp only [Option.some.injEq] at hb; omega))
end Go.Proofs.YtihllippchgkgaaGreat.V

/- Contracts: a line as an op, and the reader of the draws. -/
namespace Go.Proofs.YtihllippchgkgaaGreat.V
open Go Go.RowKit
set_option linter.unusedVariables false
set_option linter.unusedSimpArgs false
theorem nwStT {t : Tup (R 6 (.i .i64))} {w : World} {K : Addr → World → Prop}
    (hk : ∀ w', Below w.heap.size w w' → w'.heap.size = w.heap.size + 1 → w'.heap[w.heap.size]? = some (.cells (insOf t).cs 82 (0, 0)) → K ⟨w.heap.size, 0, none⟩ w') :
    Nw (zc P0 82) 82 w (fun a w' => StA P0 a (Tup.cells (R 6 (.i .i64)) t) w' (K a)) := nwStIns (x := insOf t) hk
theorem spec.LineGet.c {s : ByteArray} {w : World} {K : Tup (R 6 (.i .i64)) × Bool × Unit → World → Prop} (hs : s.size < 1099511627776) (hk : ∀ (x : Ins) (b : Bool) w', Below w.heap.size w w' → K (x.t, b, ()) w') :
    CallT (.n [(.ag (R 6 (.i .i64))), (.lf .b)]) P0 127 [.string s] w K := by
  refine spec.LineGet.ok (nw fun w1 hb1 hs1 hc1 => ?_)
  refine spec.l1Cut.c (by omega) (by omega) fun r w2 xs hb2 hr hl hsz => ?_
  refine spec.l1Read.c hr hl (fun y hy => by have := hsz y hy; omega) fun x w3 hb3 => ?_
  refine nwStIns (x := x) fun w4 hb4 hs4 hc4 => ?_
  refine ldAB (x := x.t) hc4 rfl ?_
  refine spec.l1InsOk.c (x := x) fun w5 hb5 => ?_
  have g2 := hb2.size
  have g3 := hb3.size
  have g4 := hb4.size
  have g5 := hb5.size
  have b15 : Below w1.heap.size w1 w5 := ((hb2.trans (hb3.mono g2)).trans (hb4.mono (by omega))).trans (hb5.mono (by omega))
  have c5 : w5.heap[w3.heap.size]? = some (.cells x.cs 82 (0, 0)) := (hb5.block _ (by omega)).trans hc4
  have fin : ∀ {w6 : World} (y : Ins) (b : Bool), Below w1.heap.size w1 w6 → StA P0 ⟨w.heap.size, 0, none⟩ (Tup.cells (R 6 (.i .i64)) y.t) w6 fun w7 => LdA (R 6 (.i .i64)) ⟨w.heap.size, 0, none⟩ w7 fun r w8 => K (r, b, ()) w7 := by
    intro w6 y b hb6
    have z6 := (hb6.block _ (by omega)).trans hc1
    refine stA6 (y := y) z6 zIns fun w7 hg7 hs7 hh7 => ?_
    refine ldAB (x := y.t) hh7 rfl ?_
    have b16 : Below w.heap.size w w6 := hb1.trans (hb6.mono hb1.size)
    exact hk y b w7 (b16.grown hg7 b16.size (fun b hb => by simp only [Option.some.injEq] at hb; omega))
  refine And.intro (fun _ => fin ⟨0, 0, 0, 0, 0, 0⟩ false b15) (fun hp => ?_)
  simp only [Bool.not_eq_false', decide_eq_true_eq] at hp
  refine ldAB (x := x.t) c5 rfl ?_
  refine spec.l1Line.c hp fun y w6 hb6 => ?_
  have b16 := b15.trans (hb6.mono b15.size)
  refine And.intro (fun _ => fin ⟨0, 0, 0, 0, 0, 0⟩ false b16) (fun _ => ?_)
  refine ldAB (x := x.t) ((hb6.block _ (by omega)).trans c5) rfl ?_
  exact fin x true b16
theorem SlR.kept3 {α : Type} {k : Kd α} {w w' : World} {s : Sl} {xs : List α} {row : Option Nat} (h : SlR k w s xs) (hg : w.grownBy w' row) (hb : xs ≠ [] → ∀ b o, s.a = some ⟨b, o, none⟩ → row ≠ some b) : SlR k w' s xs := by
  by_cases hx : xs = []
  · exact ⟨h.1, h.2.1, h.2.2.1, .inl hx⟩
  · exact h.kept2 hg (hb hx)
/-- The reader. -/
def RdS (B br m : Nat) (w : World) : Prop := ∃ (s : Sl) (bs : List Int) (p : Nat), w.heap[br]? = some (.cells #[s.v, .int .i64 p] 103 (0, 0)) ∧ SlR kU8 w s bs ∧ (bs ≠ [] → ∀ b o, s.a = some ⟨b, o, none⟩ → b < B) ∧ B ≤ br ∧ (∀ x ∈ bs, 0 ≤ x ∧ x ≤ 255) ∧ p ≤ m
section
variable {B br m : Nat} {w : World}
theorem RdS.lt (h : RdS B br m w) : br < w.heap.size := by
  obtain ⟨s, bs, p, hc, _⟩ := h
  exact (Array.getElem?_eq_some_iff.1 hc).1
theorem RdS.more {m' : Nat} (h : RdS B br m w) (hm : m ≤ m') : RdS B br m' w := by
  obtain ⟨s, bs, p, h1, h2, h3, h4, h5, h6⟩ := h
  exact ⟨s, bs, p, h1, h2, h3, h4, h5, by omega⟩
theorem RdS.kept {w' : World} {row : Option Nat} (h : RdS B br m w) (hg : w.grownBy w' row) (hr : ∀ b, row = some b → br < b) : RdS B br m w' := by
  have hlt := h.lt
  obtain ⟨s, bs, p, h1, h2, h3, h4, h5, h6⟩ := h
  refine ⟨s, bs, p, (hg.block br hlt (fun e => by have := hr br e.symm; omega)).trans h1, h2.kept3 hg (fun hne b o ha e => by have := hr b e; have := h3 hne b o ha; omega), h3, h4, h5, h6⟩
theorem RdS.below {w' : World} (h : RdS B br m w) (hb : Below w.heap.size w w') : RdS B br m w' := h.kept (grown_of_below hb) (by simp)
theorem grown_any {w w' : World} {row : Option Nat} (h : Below w.heap.size w w') : w.grownBy w' row := ⟨h.os, h.tape, h.output, h.size, fun k hk _ => h.block k hk⟩
theorem ixor_nonneg {a b : Int} (ha : 0 ≤ a ∧ a < 9223372036854775808) (hb : 0 ≤ b ∧ b < 9223372036854775808) : 0 ≤ iXor .i64 a b := by
  unfold iXor
  have e : ∀ x : Int, 0 ≤ x ∧ x < 9223372036854775808 → (BitVec.ofInt 64 x).toNat < 2 ^ 63 := fun x hx => by rw [BitVec.toNat_ofInt]; omega
  have h1 : (BitVec.ofInt 64 a ^^^ BitVec.ofInt 64 b).toNat < 2 ^ 63 := by
    rw [BitVec.toNat_xor]; exact Nat.xor_lt_two_pow (e a ha) (e b hb)
  show 0 ≤ IntKind.wrap .i64 ((BitVec.ofInt 64 a ^^^ BitVec.ofInt 64 b).toNat : Int)
  rw [i64_of (by omega) (by omega)]
  omega
theorem tmod_in {x n : Int} (hx : 0 ≤ x) (hn : 1 ≤ n) : 0 ≤ Int.tmod x n ∧ Int.tmod x n < n := by
  rw [Int.tmod_eq_emod_of_nonneg hx]
  exact ⟨Int.emod_nonneg _ (by omega), Int.emod_lt_of_pos _ (by omega)⟩
theorem spec.l20Rd.pick.c {n : Int} {K : Int → World → Prop} (h : RdS B br m w) (hm : m ≤ 1000000000) (hn : 1 ≤ n) (hk : ∀ x w', 0 ≤ x → x < n → w.grownBy w' (some br) → RdS B br (m + 1) w' → K x w') :
    CallT (.o (.lf (.i .i64))) P0 42 [.pointer (some ⟨br, 0, none⟩), .int .i64 n] w K := by
  obtain ⟨s, bs, p, h1, h2, h3, h4, h5, h6⟩ := h
  refine spec.l20Rd.pick.ok ⟨_, rfl, ldB h1 (x := (p : Int)) rfl ⟨_, rfl, ?_⟩⟩
  rw [i64_of (n := (p : Int) + 1) (by omega) (by omega)]
  refine stB h1 rfl (by simp) fun w1 hg1 hs1 hc1 => ?_
  have hc1 : w1.heap[br]? = some (.cells #[s.v, .int .i64 ((p + 1 : Nat) : Int)] 103 (0, 0)) := hc1
  have hs1 : SlR kU8 w1 s bs := h2.kept3 hg1 (fun hne b o ha e => by have := h3 hne b o ha; simp only [Option.some.injEq] at e; omega)
  have hR : RdS B br (m + 1) w1 := ⟨s, bs, p + 1, hc1, hs1, h3, h4, h5, by omega⟩
  have hlen := hs1.len
  have hmax := hs1.max
  refine ⟨fun w' => w' = w1 ∧ 1 ≤ bs.length, And.intro (fun h0 => hk _ _ (by omega) (by omega) hg1 hR) (fun _ => ⟨_, rfl, ldB hc1 (x := s) rfl (And.intro (fun h0 => hk _ _ (by omega) (by omega) hg1 hR) (fun h0 => ⟨rfl, ?_⟩))⟩), ?_⟩
  · simp only [beq_eq_false_iff_ne, ne_eq] at h0; omega
  rintro w2 ⟨rfl, hb1⟩ _
  refine ⟨_, rfl, ldB hc1 (x := ((p + 1 : Nat) : Int)) rfl ⟨_, rfl, ldB hc1 (x := s) rfl ?_⟩⟩
  rw [i64_of (n := ((p + 1 : Nat) : Int) - 1) (by omega) (by omega)]
  have hp : ((p + 1 : Nat) : Int) - 1 = (p : Int) := by omega
  rw [hp]
  have byte : ∀ {i : Nat}, i < bs.length → ∃ y, bs[i]? = some y ∧ 0 ≤ y ∧ y ≤ 255 := fun {i} hi => by
    obtain ⟨y, hy⟩ := get_some (l := bs) (k := i) hi
    exact ⟨y, hy, h5 y (List.mem_of_getElem? hy)⟩
  refine And.intro (fun hlt => ?_) (fun hge => ?_)
  · simp only [decide_eq_true_eq] at hlt
    obtain ⟨y, hy, hy0, hy1⟩ := byte (i := p) (by omega)
    refine ⟨_, rfl, ldB hc1 (x := s) rfl ?_⟩
    refine ixL hs1 (i := p) (by omega) (x := y) (by simpa using hy) rfl (l := .i .u8) (v := y) rfl ?_
    rw [i64_of (n := y) (by omega) (by omega)]
    have := tmod_in hy0 hn
    exact ⟨by omega, hk _ _ this.1 this.2 hg1 hR⟩
  · have hnz : ((s.n : Nat) : Int) ≠ 0 := by omega
    have t1 := tmod_in (x := (p : Int)) (n := (s.n : Int)) (by omega) (by omega)
    have hq7 : IntKind.wrap .i64 (IntKind.wrap .i64 ((p : Int) * 7) + 3) = (p : Int) * 7 + 3 := by
      rw [i64_of (n := (p : Int) * 7) (by omega) (by omega), i64_of (by omega) (by omega)]
    have t2 := tmod_in (x := (p : Int) * 7 + 3) (n := (s.n : Int)) (by omega) (by omega)
    obtain ⟨y1, hy1, hy10, hy11⟩ := byte (i := (Int.tmod (p : Int) (s.n : Int)).toNat) (by omega)
    obtain ⟨y2, hy2, hy20, hy21⟩ := byte (i := (Int.tmod ((p : Int) * 7 + 3) (s.n : Int)).toNat) (by omega)
    rw [hq7]
    refine ⟨_, rfl, ?_⟩
    refine qldB hc1 (x := s) rfl ?_
    refine ⟨_, rfl, ?_⟩
    refine qldB hc1 (x := s) rfl ⟨hnz, ?_⟩
    refine qixL hs1 t1.1 hy1 rfl (l := .i .u8) (v := y1) rfl ?_
    refine ⟨_, rfl, ?_⟩
    refine qldB hc1 (x := s) rfl ?_
    refine ⟨_, rfl, ?_⟩
    refine qldB hc1 (x := s) rfl ⟨hnz, ?_⟩
    refine qixL hs1 t2.1 hy2 rfl (l := .i .u8) (v := y2) rfl ?_
    refine ⟨_, rfl, ?_⟩
    refine qldB hc1 (x := s) rfl ⟨hnz, fun w3 hb3 => ⟨by omega, by omega, ?_⟩⟩
    have hq : 0 ≤ Int.tdiv (p : Int) (s.n : Int) ∧ Int.tdiv (p : Int) (s.n : Int) ≤ p := by
      rw [Int.tdiv_eq_ediv_of_nonneg (by omega)]
      exact ⟨Int.ediv_nonneg (by omega) (by omega), Int.ediv_le_self _ (by omega)⟩
    generalize Int.tdiv (p : Int) (s.n : Int) = q at hq
    rw [i64_of (n := y1) (by omega) (by omega), i64_of (n := y2) (by omega) (by omega), i64_of (n := y1 * 131) (by omega) (by omega), i64_of (n := y2 * 1117) (by omega) (by omega), i64_of (n := y1 * 131 + y2 * 1117) (by omega) (by omega),
      i64_of (n := (p : Int) * 29) (by omega) (by omega), i64_of (n := y1 * 131 + y2 * 1117 + (p : Int) * 29) (by omega) (by omega), i64_of (n := q) (by omega) (by omega), i64_of (n := q * 53) (by omega) (by omega), i64_of (n := y1 * 131 + y2 * 1117 + (p : Int) * 29 + q * 53) (by omega) (by omega)]
    have hd : 0 ≤ Int.tdiv (y1 * 131 + y2 * 1117 + (p : Int) * 29 + q * 53) 64 ∧ Int.tdiv (y1 * 131 + y2 * 1117 + (p : Int) * 29 + q * 53) 64 ≤ y1 * 131 + y2 * 1117 + (p : Int) * 29 + q * 53 := by
      rw [Int.tdiv_eq_ediv_of_nonneg (by omega)]; omega
    generalize Int.tdiv (y1 * 131 + y2 * 1117 + (p : Int) * 29 + q * 53) 64 = d at hd
    rw [i64_of (n := d) (by omega) (by omega)]
    have hx := ixor_nonneg (a := y1 * 131 + y2 * 1117 + (p : Int) * 29 + q * 53) (b := d) (by omega) (by omega)
    have := tmod_in hx hn
    exact hk _ _ this.1 this.2 (grown_trans hg1 (grown_any hb3)) (hR.below hb3)
end
end Go.Proofs.YtihllippchgkgaaGreat.V

/- Contracts: the draws of programs. -/
namespace Go.Proofs.YtihllippchgkgaaGreat.V
open Go Go.RowKit
set_option linter.unusedVariables false
set_option linter.unusedSimpArgs false
section
variable {B br m : Nat} {w : World}
theorem keepB {w' : World} {b : Nat} {o : Obj} (h : w.heap[b]? = some o) (hg : w.grownBy w' (some br)) (hne : br < b) : w'.heap[b]? = some o :=
  (hg.block b (Array.getElem?_eq_some_iff.1 h).1 (by simp only [ne_eq, Option.some.injEq]; omega)).trans h
theorem spec.l20Rd.one.c {l : Sl} {xs : List Int} {K : Int → World → Prop} (h : RdS B br m w) (hm : m ≤ 1000000000) (hl : SlR kI w l xs) (h1 : 1 ≤ xs.length) (hb : ∀ b o, l.a = some ⟨b, o, none⟩ → b ≠ br)
    (hk : ∀ x w', x ∈ xs → w.grownBy w' (some br) → RdS B br (m + 1) w' → K x w') : CallT (.o (.lf (.i .i64))) P0 82 [.pointer (some ⟨br, 0, none⟩), l.v] w K := by
  have hn := hl.len
  refine spec.l20Rd.one.ok (spec.l20Rd.pick.c h hm (by omega) fun x w1 h0 hx hg hr => ?_)
  have hl1 := hl.kept2 hg (fun b o ha e => hb b o ha (by simpa using e.symm))
  obtain ⟨y, hy⟩ := get_some (l := xs) (k := x.toNat) (by omega)
  exact ixL hl1 h0 hy rfl (l := .i .i64) (v := y) rfl (hk y w1 (List.mem_of_getElem? hy) hg hr)
theorem oneLit {cs : Array Value} {xs : List Int} {n : Nat} {K : Int → World → Prop} (h : RdS B br m w) (hm : m ≤ 1000000000) (hcs : cs.toList = xs.flatMap kI.cells) (hn : n = xs.length) (h1 : 1 ≤ xs.length ∧ xs.length ≤ 100)
    (hk : ∀ x w', x ∈ xs → w.grownBy w' (some br) → RdS B br (m + 1) w' → K x w') : Nw cs 3 w fun a w1 => CallT (.o (.lf (.i .i64))) P0 82 [.pointer (some ⟨br, 0, none⟩), .slice (some a) n n] w1 K := by
  refine nw fun w1 hb hs hc => ?_
  have hl : OwnS kI 3 w.heap.size w1 ⟨some ⟨w.heap.size, 0, none⟩, n, n⟩ xs := OwnS.lit (Nat.le_refl _) hc hn hcs (by simp only [maxLen]; omega)
  have hlt := h.lt
  refine spec.l20Rd.one.c (l := ⟨some ⟨w.heap.size, 0, none⟩, n, n⟩) (h.below hb) hm hl.read h1.1 (fun b o e => ?_) fun x w2 hx hg hr => hk x w2 hx (grown_trans (grown_any hb) hg) hr
  simp only [Option.some.injEq, Addr.mk.injEq] at e
  omega
theorem spec.l20Imm.c {K : Int → World → Prop} (h : RdS B br m w) (hm : m ≤ 1000000000) (hk : ∀ x w', w.grownBy w' (some br) → RdS B br (m + 1) w' → K x w') : CallT (.o (.lf (.i .i64))) P0 81 [.pointer (some ⟨br, 0, none⟩)] w K :=
  spec.l20Imm.ok (oneLit (xs := [0, 1, 2, 3, 7, 8, 15, 31, 100, 255, 65535, 2147483647, 2147483648, 4294967295]) h hm rfl rfl (by decide) fun x w' _ hg hr => hk x w' hg hr)
/-- Good rows of lines, of new memory. -/
def GoodT (H : Nat) (w : World) (t : Sl) : Prop := (∃ xs, SlR kS w t xs ∧ 2 ≤ xs.length ∧ xs.length ≤ 13 ∧ ∀ y ∈ xs, y.size ≤ 100) ∧ ∀ b, t.bk = some b → H ≤ b
theorem GoodT.below {H : Nat} {w' : World} {t : Sl} (h : GoodT H w t) (hb : Below w.heap.size w w') : GoodT H w' t := by
  obtain ⟨⟨xs, h1, h2⟩, h3⟩ := h; exact ⟨⟨xs, h1.below hb, h2⟩, h3⟩
theorem lnStep {H : Nat} {rows : List Sl} {cs : Array Value} {xs : List ByteArray} {n : Nat} (hH : H ≤ w.heap.size) (hR : ∀ t ∈ rows, GoodT H w t) (hcs : cs.toList = xs.flatMap kS.cells) (hn : n = xs.length) (hx : 2 ≤ xs.length ∧ xs.length ≤ 13 ∧ ∀ y ∈ xs, y.size ≤ 100) {K : Addr → World → Prop}
    (hk : ∀ w' a, H ≤ w'.heap.size → Below w.heap.size w w' → (∀ t ∈ rows ++ [⟨some a, n, n⟩], GoodT H w' t) → K a w') : Nw cs 9 w K := by
  refine nw fun w1 hb hs hc => hk w1 _ (by omega) hb fun t ht => ?_
  rcases List.mem_append.1 ht with ht | ht
  · exact (hR t ht).below hb
  · simp only [List.mem_singleton] at ht
    subst ht
    exact ⟨⟨xs, (OwnS.lit (k := kS) (B := 0) (Nat.zero_le _) hc hn hcs (by simp only [maxLen]; omega)).read, hx⟩, fun b hb => by simp only [Sl.bk, Option.map_some, Option.some.injEq] at hb; omega⟩
theorem grown_new {w w1 w2 : World} {row : Option Nat} {b : Nat} (h : w.grownBy w1 row) (h2 : w1.grownBy w2 (some b)) (hb : w.heap.size ≤ b) : w.grownBy w2 row :=
  ⟨h2.os.trans h.os, h2.tape.trans h.tape, h2.output.trans h.output, Nat.le_trans h.size h2.size, fun k hk hne => (h2.block k (Nat.lt_of_lt_of_le hk h.size) (by simp only [ne_eq, Option.some.injEq]; omega)).trans (h.block k hk hne)⟩
theorem spec.l20Alu.c {K : Tup (R 6 (.i .i64)) → World → Prop} (h : RdS B br m w) (hm : m ≤ 900000000) (hk : ∀ (x : Ins) w', w.grownBy w' (some br) → RdS B br (m + 5) w' → K x.t w') : CallT (.o (.ag (R 6 (.i .i64)))) P0 83 [.pointer (some ⟨br, 0, none⟩)] w K := by
  have hlt := h.lt
  refine spec.l20Alu.ok (nw fun w1 b1 s1 c1 => ?_)
  refine spec.l20Rd.pick.c (h.below b1) (by omega) (by omega) fun t5 w2 _ _ g2 r2 => ?_
  refine oneLit (xs := [0, 6, 7, 8]) r2 (by omega) rfl rfl (by decide) fun t9 w3 _ g3 r3 => ?_
  refine spec.l20Imm.c r3 (by omega) fun t11 w4 g4 r4 => ?_
  refine nwStIns (x := ⟨IntKind.wrap .i64 (1 + t5), t9, -1, 0, t11, 0⟩) fun w5 b5 s5 c5 => ?_
  refine spec.l20Rd.pick.c (r4.below b5) (by omega) (by omega) fun t14 w6 _ _ g6 r6 => ?_
  have g14 : w1.grownBy w4 (some br) := grown_trans (grown_trans g2 g3) g4
  have g16 : w1.grownBy w6 (some br) := grown_trans (grown_trans g14 (grown_any b5)) g6
  have hs14 := g14.size
  have c6 := keepB c5 g6 (by omega)
  have z6 := keepB c1 g16 (by omega)
  have G16 : w.grownBy w6 (some br) := grown_trans (grown_any b1) g16
  have fin : ∀ {w7 : World} (y : Ins), w.grownBy w7 (some br) → RdS B br (m + 5) w7 → w7.heap[w4.heap.size]? = some (.cells y.cs 82 (0, 0)) → w7.heap[w.heap.size]? = some (.cells (zc P0 82) 82 (0, 0)) →
      LdA (R 6 (.i .i64)) ⟨w4.heap.size, 0, none⟩ w7 fun t8 w8 => StA P0 ⟨w.heap.size, 0, none⟩ (Tup.cells (R 6 (.i .i64)) t8) w8 fun w9 => LdA (R 6 (.i .i64)) ⟨w.heap.size, 0, none⟩ w9 fun r w10 => K r w9 := by
    intro w7 y g7 r7 c7 z7
    refine ldAB (x := y.t) c7 rfl ?_
    refine stA6 (y := y) z7 zIns fun w8 g8 _ c8 => ?_
    refine ldAB (x := y.t) c8 rfl ?_
    exact hk y w8 (grown_new g7 g8 (Nat.le_refl _)) (r7.kept g8 (fun b hb => by simp only [Option.some.injEq] at hb; omega))
  refine And.intro (fun _ => ?_) (fun _ => fin _ G16 (r6.more (by omega)) c6 z6)
  refine oneLit (xs := [0, 6, 7, 8]) r6 (by omega) rfl rfl (by decide) fun t18 w7 _ g7 r7 => ?_
  have c7 := keepB c6 g7 (by omega)
  have z7 := keepB z6 g7 (by omega)
  refine stB c7 rfl (by simp [Ins.cs]) fun w8 g8 s8 c8 => ?_
  refine stB c8 rfl (by simp [Ins.cs]) fun w9 g9 s9 c9 => ?_
  have G9 : w.grownBy w9 (some br) := grown_new (grown_new (grown_trans G16 g7) g8 (by omega)) g9 (by omega)
  have r9 : RdS B br (m + 5) w9 := (r7.kept g8 (fun b hb => by simp only [Option.some.injEq] at hb; omega)).kept g9 (fun b hb => by simp only [Option.some.injEq] at hb; omega)
  refine fin ⟨IntKind.wrap .i64 (1 + t5), t9, t18, 0, 0, 0⟩ G9 r9 c9 ?_
  have z8 := (g8.block _ (Array.getElem?_eq_some_iff.1 z7).1 (by simp only [ne_eq, Option.some.injEq]; omega)).trans z7
  exact (g9.block _ (Array.getElem?_eq_some_iff.1 z8).1 (by simp only [ne_eq, Option.some.injEq]; omega)).trans z8
set_option maxHeartbeats 1000000 in
theorem spec.l20Lines.c {K : Sl → World → Prop} (hk : ∀ r w' rows, Below w.heap.size w w' → SlR kSl w' r rows → rows.length = 15 → (∀ t ∈ rows, GoodT w.heap.size w' t) → (∀ b, r.bk = some b → w.heap.size ≤ b) → K r w') : CallT (.o (.lf .sl)) P0 79 [] w K := by
  refine spec.l20Lines.ok ?_
  refine lnStep (H := w.heap.size) (rows := []) (xs := [_, _]) (n := 2) (Nat.le_refl _) (by simp) rfl rfl (by decide) fun w1 a1 H1 b1 R1 => ?_
  refine lnStep (xs := [_, _, _, _, _]) (n := 5) H1 R1 rfl rfl (by decide) fun w2 a2 H2 b2 R2 => ?_
  refine lnStep (xs := [_, _, _, _, _, _, _, _, _, _, _, _, _]) (n := 13) H2 R2 rfl rfl (by decide) fun w3 a3 H3 b3 R3 => ?_
  refine lnStep (xs := [_, _, _, _, _]) (n := 5) H3 R3 rfl rfl (by decide) fun w4 a4 H4 b4 R4 => ?_
  refine lnStep (xs := [_, _, _, _, _, _, _, _, _]) (n := 9) H4 R4 rfl rfl (by decide) fun w5 a5 H5 b5 R5 => ?_
  refine lnStep (xs := [_, _, _, _]) (n := 4) H5 R5 rfl rfl (by decide) fun w6 a6 H6 b6 R6 => ?_
  refine lnStep (xs := [_, _, _, _, _]) (n := 5) H6 R6 rfl rfl (by decide) fun w7 a7 H7 b7 R7 => ?_
  refine lnStep (xs := [_, _, _, _, _, _]) (n := 6) H7 R7 rfl rfl (by decide) fun w8 a8 H8 b8 R8 => ?_
  refine lnStep (xs := [_, _, _]) (n := 3) H8 R8 rfl rfl (by decide) fun w9 a9 H9 b9 R9 => ?_
  refine lnStep (xs := [_, _, _, _, _, _]) (n := 6) H9 R9 rfl rfl (by decide) fun w10 a10 H10 b10 R10 => ?_
  refine lnStep (xs := [_, _, _, _, _, _]) (n := 6) H10 R10 rfl rfl (by decide) fun w11 a11 H11 b11 R11 => ?_
  refine lnStep (xs := [_, _, _, _, _, _, _, _, _, _]) (n := 10) H11 R11 rfl rfl (by decide) fun w12 a12 H12 b12 R12 => ?_
  refine lnStep (xs := [_, _, _, _, _, _, _]) (n := 7) H12 R12 rfl rfl (by decide) fun w13 a13 H13 b13 R13 => ?_
  refine lnStep (xs := [_, _, _, _, _, _, _, _, _, _, _]) (n := 11) H13 R13 rfl rfl (by decide) fun w14 a14 H14 b14 R14 => ?_
  refine lnStep (xs := [_, _, _, _, _, _]) (n := 6) H14 R14 rfl rfl (by decide) fun w15 a15 H15 b15 R15 => ?_
  refine nw fun w16 b16 s16 c16 => ?_
  have mono : ∀ {u v : World}, Below w.heap.size w u → Below u.heap.size u v → Below w.heap.size w v := fun h1 h2 => h1.trans (h2.mono h1.size)
  refine hk _ _ _ (mono (mono (mono (mono (mono (mono (mono (mono (mono (mono (mono (mono (mono (mono (mono b1 b2) b3) b4) b5) b6) b7) b8) b9) b10) b11) b12) b13) b14) b15) b16) (OwnS.lit (k := kSl) (B := 0) (xs := [⟨some a1, 2, 2⟩, ⟨some a2, 5, 5⟩, ⟨some a3, 13, 13⟩, ⟨some a4, 5, 5⟩, ⟨some a5, 9, 9⟩, ⟨some a6, 4, 4⟩, ⟨some a7, 5, 5⟩, ⟨some a8, 6, 6⟩, ⟨some a9, 3, 3⟩, ⟨some a10, 6, 6⟩, ⟨some a11, 6, 6⟩, ⟨some a12, 10, 10⟩, ⟨some a13, 7, 7⟩, ⟨some a14, 11, 11⟩, ⟨some a15, 6, 6⟩]) (Nat.zero_le _) c16 rfl rfl (by simp [maxLen])).read rfl (fun t ht => ?_) fun b hb => ?_
  · exact (R15 t (by simpa using ht)).below b16
  · simp only [Sl.bk, Option.map_some, Option.some.injEq] at hb; omega
theorem elIns : El P0 23 82 kIns 48 := ⟨by kernel_rfl, ⟨_, _, Option.eq_some_of_isSome (by kernel_rfl), Option.eq_some_of_isSome (by kernel_rfl), by kernel_rfl, by kernel_rfl, by kernel_rfl⟩, by decide, by intro l hl; simp [kIns] at hl; simp [hl]⟩
theorem spec.l20Read.c {l : Sl} {xs : List ByteArray} {K : Sl → World → Prop} (hl : SlR kS w l xs) (hn : xs.length ≤ 100) (hy : ∀ y ∈ xs, y.size ≤ 100) (hk : ∀ r w' ys, Below w.heap.size w w' → OwnS kIns 82 w.heap.size w' r ys → ys.length = xs.length → K r w') :
    CallT (.o (.lf .sl)) P0 80 [l.v] w K := by
  have hln := hl.len
  refine spec.l20Read.ok (nw fun w0 hb0 hs0 hc0 => ?_)
  have ho0 : OwnS kIns 82 w.heap.size w0 ⟨some ⟨w.heap.size, 0, none⟩, 0, 0⟩ [] := OwnS.lit (Nat.le_refl _) hc0 rfl rfl (by simp [maxLen])
  refine ⟨fun out i w' => ∃ (k : Nat) (ys : List Ins), i = k ∧ k ≤ xs.length ∧ OwnS kIns 82 w.heap.size w' out ys ∧ ys.length = k ∧ Below w.heap.size w w', fun _ i _ => xs.length - i.toNat, ⟨0, [], rfl, by omega, ho0, rfl, hb0⟩, ?_⟩
  rintro out i w1 ⟨k, ys, rfl, hk1, ho, hyl, hb1⟩ _
  refine And.intro (fun hlt => ?_) (fun hge => ?_)
  · simp only [decide_eq_true_eq] at hlt
    obtain ⟨x, hx⟩ := get_some (l := xs) (k := k) (by omega)
    refine ixL (hl.below hb1) (i := k) (by omega) (x := x) (by simpa using hx) rfl (l := .s) (v := x) rfl ?_
    refine spec.LineGet.c (by have := hy x (List.mem_of_getElem? hx); omega) fun y b w2 hb2 => ?_
    refine nwStIns (x := y) fun w3 hb3 hs3 hc3 => ?_
    refine ldAB (x := y.t) hc3 rfl ?_
    have hg2 := hb2.size
    have bb3 : Below w1.heap.size w1 w3 := hb2.trans (hb3.mono hg2)
    have bb : Below w.heap.size w w3 := hb1.trans (bb3.mono hb1.size)
    refine ap1 elIns (ho.below bb3) y rfl (by omega) (by omega) bb.size fun o' w' ho' hg' _ => ?_
    rw [i64_of (n := (k : Int) + 1) (by omega) (by omega)]
    exact ⟨⟨k + 1, ys ++ [y], by omega, by omega, ho', by simp; omega, bb.grown hg' bb.size (fun b hb => ((ho.below bb3).blk hb).1)⟩, by simp only; omega⟩
  · simp only [decide_eq_false_iff_not] at hge
    exact hk _ _ ys hb1 ho (by omega)
end
end Go.Proofs.YtihllippchgkgaaGreat.V

/- Contracts: the draws of programs, and rows whose cells stay numbers. -/
namespace Go.Proofs.YtihllippchgkgaaGreat.V
open Go Go.RowKit
set_option linter.unusedVariables false
set_option linter.unusedSimpArgs false
theorem chooseL {α : Type} {p : Nat → α → Prop} : ∀ (n : Nat), (∀ i, i < n → ∃ x, p i x) → ∃ l : List α, l.length = n ∧ ∀ i x, l[i]? = some x → p i x
  | 0, _ => ⟨[], rfl, by simp⟩
  | n + 1, h => by
    obtain ⟨l, hl, hp⟩ := chooseL n fun i hi => h i (by omega)
    obtain ⟨x, hx⟩ := h n (by omega)
    refine ⟨l ++ [x], by simp [hl], fun i y hy => ?_⟩
    rcases Nat.lt_trichotomy i n with hi | hi | hi
    · rw [List.getElem?_append_left (by omega)] at hy; exact hp i y hy
    · subst hi; rw [List.getElem?_append_right (by omega)] at hy; simp [hl] at hy; subst hy; exact hx
    · rw [List.getElem?_eq_none (by simp; omega)] at hy; simp at hy
section
variable {α : Type} {k : Kd α} {t : TypeId} {B : Nat} {w w' : World} {s : Sl} {xs : List α} {i : Int} {sz : Nat}
theorem take_flat {ys : List α} {cur : List Value} (hp : 0 < k.ls.length) (h : ∀ i x, ys[i]? = some x → ∀ j v, (k.cells x)[j]? = some v → cur[i * k.ls.length + j]? = some v) : cur.take (ys.flatMap k.cells).length = ys.flatMap k.cells := by
  refine List.ext_getElem? fun p => ?_
  rw [List.getElem?_take]
  split
  · rename_i hlt
    rw [flat_length] at hlt
    have hq : p / k.ls.length < ys.length := Nat.div_lt_of_lt_mul (by rw [Nat.mul_comm]; exact hlt)
    have hr : p % k.ls.length < k.ls.length := Nat.mod_lt _ hp
    have hy : ys[p / k.ls.length]? = some ys[p / k.ls.length] := List.getElem?_eq_getElem hq
    have hv : (k.cells ys[p / k.ls.length])[p % k.ls.length]? = some ((k.cells ys[p / k.ls.length])[p % k.ls.length]'(by rw [k.cells_length]; exact hr)) := List.getElem?_eq_getElem _
    have h1 := flat_get k ys _ _ hy _ _ hv
    have h2 := h _ _ hy _ _ hv
    have hj : p / k.ls.length * k.ls.length + p % k.ls.length = p := by rw [Nat.mul_comm]; exact Nat.div_add_mod _ _
    rw [hj] at h1 h2
    rw [h1, h2]
  · rename_i hge
    rw [List.getElem?_eq_none (by omega)]
theorem take_flat' {ys : List α} {cur : List Value} {n : Nat} (hp : 0 < k.ls.length) (hn : n = ys.length) (h : ∀ i x, ys[i]? = some x → ∀ j v, (k.cells x)[j]? = some v → cur[i * k.ls.length + j]? = some v) : cur.take (n * k.ls.length) = ys.flatMap k.cells := by
  have := take_flat hp h
  rwa [flat_length, ← hn] at this
/-- Cells that are numbers stay numbers. -/
def Ip (H : Nat) (a b : World) : Prop := ∀ g, H ≤ g → ∀ cur t, a.heap[g]? = some (.cells cur t (0, 0)) → ∃ cur', b.heap[g]? = some (.cells cur' t (0, 0)) ∧ cur'.size = cur.size ∧ ∀ (i : Nat) (n : Int), cur[i]? = some (.int .i64 n) → ∃ n', cur'[i]? = some (.int .i64 n')
theorem Ip.refl (H : Nat) (a : World) : Ip H a a := fun g _ cur t h => ⟨cur, h, rfl, fun i n hi => ⟨n, hi⟩⟩
theorem Ip.trans {H : Nat} {a b c : World} (h1 : Ip H a b) (h2 : Ip H b c) : Ip H a c := fun g hg cur t h => by
  obtain ⟨c1, hc1, hs1, hi1⟩ := h1 g hg cur t h
  obtain ⟨c2, hc2, hs2, hi2⟩ := h2 g hg c1 t hc1
  exact ⟨c2, hc2, by omega, fun i n hi => by obtain ⟨n1, h1⟩ := hi1 i n hi; exact hi2 i n1 h1⟩
theorem Ip.of_same {H : Nat} {a b : World} (h : ∀ g, H ≤ g → g < a.heap.size → b.heap[g]? = a.heap[g]?) : Ip H a b := fun g hg cur t hc =>
  ⟨cur, (h g hg (Array.getElem?_eq_some_iff.1 hc).1).trans hc, rfl, fun i n hi => ⟨n, hi⟩⟩
/-- A kind of whole numbers. -/
structure KN (k : Kd α) : Prop where
  all : ∀ l ∈ k.ls, l = .i .i64
  pos : 0 < k.ls.length
  sur : ∀ t : Tup k.ls, ∃ y, k.t y = t
theorem tup_ints : ∀ (ls : List Lf), (∀ l ∈ ls, l = .i .i64) → ∀ vs : Nat → Int, ∃ t : Tup ls, ∀ j, j < ls.length → (Tup.cells ls t)[j]? = some (.int .i64 (vs j))
  | [], _, _ => ⟨(), by simp⟩
  | l :: ls, h, vs => by
    obtain rfl := h l List.mem_cons_self
    obtain ⟨t, ht⟩ := tup_ints ls (fun l' hl' => h l' (List.mem_cons_of_mem _ hl')) (fun j => vs (j + 1))
    refine ⟨(vs 0, t), fun j hj => ?_⟩
    cases j with
    | zero => rfl
    | succ j => simpa [Tup.cells] using ht j (by simpa using hj)
theorem cells_ints : ∀ (ls : List Lf), (∀ l ∈ ls, l = .i .i64) → ∀ (t : Tup ls) (j : Nat) (v : Value), (Tup.cells ls t)[j]? = some v → ∃ n, v = .int .i64 n
  | [], _, _, j, v, h => by simp [Tup.cells] at h
  | l :: ls, h, t, j, v, hv => by
    obtain rfl := h l List.mem_cons_self
    cases j with
    | zero => simp only [Tup.cells, List.getElem?_cons_zero, Option.some.injEq] at hv; exact ⟨_, hv.symm⟩
    | succ j => exact cells_ints ls (fun l' hl' => h l' (List.mem_cons_of_mem _ hl')) t.2 j v (by simpa [Tup.cells] using hv)
/-- What was owned is owned, with other numbers. -/
theorem OwnS.ip (hk : KN k) (h : OwnS k t B w s xs) (hi : Ip B w w') : ∃ ys, ys.length = xs.length ∧ OwnS k t B w' s ys := by
  rcases h.2.2 with ⟨hv, hn⟩ | ⟨g, cap, cur, hv, hB, hg, hnc, hcm, hcs, ht⟩
  · have hx : xs = [] := List.eq_nil_of_length_eq_zero (by rw [← h.1]; exact hn)
    subst hx
    exact ⟨[], rfl, h.1, by rw [hn]; simp, .inl ⟨hv, hn⟩⟩
  · obtain ⟨cur', hg', hs', hint⟩ := hi g hB cur t hg
    have hcell : ∀ (i : Nat) (x : α), xs[i]? = some x → ∀ j, j < k.ls.length → ∃ n : Int, cur[i * k.ls.length + j]? = some (.int .i64 n) := by
      intro i x hx j hj
      have hv : (k.cells x)[j]? = some ((k.cells x)[j]'(by rw [k.cells_length]; exact hj)) := List.getElem?_eq_getElem _
      obtain ⟨n, hn⟩ := cells_ints k.ls hk.all (k.t x) j _ hv
      have h1 := flat_get k xs i x hx j _ hv
      rw [← ht, List.getElem?_take] at h1
      split at h1
      · refine ⟨n, ?_⟩
        rw [← hn]; simpa using h1
      · simp at h1
    obtain ⟨ys, hyl, hy⟩ := chooseL (p := fun i y => ∀ j v, (k.cells y)[j]? = some v → cur'[i * k.ls.length + j]? = some v) xs.length (fun i hi => by
      obtain ⟨x, hx⟩ := get_some (l := xs) (k := i) hi
      have h1 : ∀ j, ∃ n : Int, j < k.ls.length → cur'[i * k.ls.length + j]? = some (.int .i64 n) := fun j => by
        by_cases hj : j < k.ls.length
        · obtain ⟨n, hn⟩ := hcell i x hx j hj
          obtain ⟨n', hn'⟩ := hint _ n hn
          exact ⟨n', fun _ => hn'⟩
        · exact ⟨0, fun h => absurd h hj⟩
      obtain ⟨t, ht⟩ := tup_ints k.ls hk.all (fun j => (h1 j).choose)
      obtain ⟨y, rfl⟩ := hk.sur t
      refine ⟨y, fun j v hv => ?_⟩
      have hj : j < k.ls.length := by have := lt_of_get hv; rw [k.cells_length] at this; exact this
      have h2 : (k.cells y)[j]? = _ := ht j hj
      rw [h2] at hv
      simp only [Option.some.injEq] at hv
      rw [← hv]
      exact (h1 j).choose_spec hj)
    refine ⟨ys, hyl, by rw [hyl]; exact h.1, by rw [flat_length, hyl, h.1], .inr ⟨g, cap, cur', hv, hB, hg', hnc, hcm, by omega, take_flat' hk.pos (by rw [hyl]; exact h.1) fun i x hx j v hv => by simpa using hy i x hx j v hv⟩⟩
theorem heap_setRow {w : World} {g : Nat} {cur vs : Array Value} {t : TypeId} (h : w.heap[g]? = some (.cells cur t (0, 0))) : (w.setRow g vs).heap[g]? = some (.cells vs t (0, 0)) := by
  simp [World.setRow, Array.getElem?_modify, h]
theorem heap_setRow_ne {w : World} {g j : Nat} {vs : Array Value} (h : j ≠ g) : (w.setRow g vs).heap[j]? = w.heap[j]? := by
  simp [World.setRow, Array.getElem?_modify, Ne.symm h]
theorem RunT.and {r : Rs} {P : Program} {sm : Sem Value} {K : r.T → World → Prop} {I : World → Prop} (h : RunT r P sm w K) (hI : ∀ v w', sm.run P w = .ok v w' → I w') : RunT r P sm w (fun x w' => K x w' ∧ I w') := by
  obtain ⟨x, w', hr, hk⟩ := h
  exact ⟨x, w', hr, hk, hI _ _ hr⟩
/-- What an append leaves of numbers. -/
theorem ap_ip {P : Program} {tS tR : TypeId} {bytes : Nat} (hE : El P tS t k bytes) (hk : KN k) {H : Nat} (h : OwnS k t B w s xs) {x : Sl} {ys : List α} (hx : SlR k w x ys) (hb : (xs.length + ys.length) * bytes ≤ 140737488355328) (hm : xs.length + ys.length ≤ 140737488355328) :
    ∀ v w', (Builtin.append_ #[tS, tS] tR #[.slice s.a s.n s.c, .slice x.a x.n x.c]).run P w = .ok v w' → Ip H w w' := by
  intro v w' hr
  obtain ⟨i, z, hi, hz, hsz, hby, hzs⟩ := hE.info
  by_cases hne : ys = []
  · subst hne
    have hxn : x.n = 0 := by rw [hx.1]; rfl
    have hr' : (Builtin.append_ #[tS, tS] tR #[.slice s.a s.n s.c, .slice x.a x.n x.c]).run P w = .ok (.slice s.a s.n s.c) w := by
      rw [hxn]
      have hc := h.cap
      cases hxa : x.a <;> cases hsa : s.a <;> simp [Builtin.append_, run_underlying hE.elem, sizeOf, typeInfo, hi, Builtin.lenOf, Builtin.firstCells, hc.1, storeCells, loadCells, loadCellsFrom]
    rw [hr'] at hr
    simp only [Result.ok.injEq] at hr
    rw [← hr.2]; exact Ip.refl _ _
  · rcases hx.2.2.2 with h0 | ⟨b, o, ha, hat⟩
    · exact absurd h0 hne
    · have hnews : ∀ j u, (ys.flatMap k.cells)[j]? = some u → w.cell? ((⟨b, o, none⟩ : Addr).add j) = some u := by
        intro j u hu
        have hjl : j < ys.length * k.ls.length := by
          rcases Nat.lt_or_ge j (ys.length * k.ls.length) with h | h
          · exact h
          · rw [List.getElem?_eq_none (by rw [flat_length]; exact h)] at hu; simp at hu
        have hq : j / k.ls.length < ys.length := Nat.div_lt_of_lt_mul (by rw [Nat.mul_comm]; exact hjl)
        have hr : j % k.ls.length < k.ls.length := Nat.mod_lt _ hE.pos
        have hy : ys[j / k.ls.length]? = some ys[j / k.ls.length] := List.getElem?_eq_getElem hq
        have hv : (k.cells ys[j / k.ls.length])[j % k.ls.length]? = some ((k.cells ys[j / k.ls.length])[j % k.ls.length]'(by rw [k.cells_length]; exact hr)) := List.getElem?_eq_getElem _
        have h1 := flat_get k ys _ _ hy _ _ hv
        have hj : j / k.ls.length * k.ls.length + j % k.ls.length = j := by rw [Nat.mul_comm]; exact Nat.div_add_mod _ _
        rw [hj, hu] at h1
        simp only [Option.some.injEq] at h1
        have h2 := hat _ _ hy _ _ hv
        rw [← h1, Nat.add_assoc, hj] at h2
        rw [add_mk]
        exact h2
      have h1 : ∀ u ∈ ys.flatMap k.cells, u.oneCell' = true := by
        intro u hu
        obtain ⟨y, _, hy⟩ := List.mem_flatMap.1 hu
        exact oneCell_cells k hE.one y u hy
      have hint : ∀ (j : Nat) u, (ys.flatMap k.cells)[j]? = some u → ∃ n : Int, u = .int .i64 n := by
        intro j u hu
        obtain ⟨y, _, hy⟩ := List.mem_flatMap.1 (List.mem_of_getElem? hu)
        obtain ⟨q, hq⟩ := List.getElem?_of_mem hy
        exact cells_ints k.ls hk.all (k.t y) q u hq
      have hxn : 0 < x.n := by rw [hx.1]; exact List.length_pos_iff.2 hne
      have hlen : (ys.flatMap k.cells).length = x.n * i.size := by rw [flat_length, hx.1, hsz]
      rw [ha] at hr
      rcases h.2.2 with ⟨hv, hn⟩ | ⟨g, cap, cur, hv, hBg, hg, hnc, hcm, hcs, htake⟩
      · rw [hv, run_append_nil (P := P) w tS tR t i z hE.elem hi hz ⟨b, o, none⟩ x.n x.c _ hlen hnews hxn (by rw [hx.1]; omega) (by
          rw [hx.1, hby]
          have : ys.length * bytes ≤ (xs.length + ys.length) * bytes := Nat.mul_le_mul_right _ (by omega)
          omega)] at hr
        simp only [Result.ok.injEq] at hr
        rw [← hr.2]
        exact Ip.of_same fun j _ hj => (((Below.refl w.heap.size w).drew).alloc (Nat.le_refl _) _).block j hj
      · rw [hv] at hr
        by_cases hroom : s.n + x.n ≤ cap
        · have hfit : s.n * i.size + (ys.flatMap k.cells).length ≤ cur.size := by rw [hlen, hcs, ← Nat.add_mul, hsz]; exact Nat.mul_le_mul_right _ hroom
          rw [run_append_room (P := P) w tS tR t i hE.elem hi g s.n cap cur hg ⟨b, o, none⟩ x.n x.c _ hlen hnews h1 hroom hfit] at hr
          simp only [Result.ok.injEq] at hr
          rw [← hr.2]
          intro q _ cq tq hq
          by_cases hqg : q = g
          · subst hqg
            rw [hg] at hq
            simp only [Option.some.injEq, Obj.cells.injEq] at hq
            obtain ⟨rfl, rfl, _⟩ := hq
            have e0 : (cur.toList.take (s.n * i.size)).length = s.n * i.size := by rw [List.length_take, Array.length_toList]; omega
            refine ⟨_, heap_setRow hg, ?_, fun p n hp => ?_⟩
            · simp only [List.size_toArray, List.length_append, List.length_drop, e0, Array.length_toList]; omega
            rw [List.getElem?_toArray]
            rcases Nat.lt_or_ge p (s.n * i.size) with h2 | h2
            · refine ⟨n, ?_⟩
              rw [List.append_assoc, List.getElem?_append_left (by omega), List.getElem?_take, if_pos h2]
              simpa using hp
            · rw [List.append_assoc, List.getElem?_append_right (by omega), e0]
              rcases Nat.lt_or_ge (p - s.n * i.size) (ys.flatMap k.cells).length with h3 | h3
              · rw [List.getElem?_append_left h3]
                obtain ⟨n', hn'⟩ := hint _ _ (List.getElem?_eq_getElem h3)
                exact ⟨n', by rw [List.getElem?_eq_getElem h3, hn']⟩
              · refine ⟨n, ?_⟩
                rw [List.getElem?_append_right h3, List.getElem?_drop, show s.n * i.size + (ys.flatMap k.cells).length + (p - s.n * i.size - (ys.flatMap k.cells).length) = p by omega]
                simpa using hp
          · exact ⟨cq, by rw [heap_setRow_ne hqg]; exact hq, rfl, fun i n hi => ⟨n, hi⟩⟩
        · have holds : ∀ j u, (xs.flatMap k.cells)[j]? = some u → w.cell? ((⟨g, 0, none⟩ : Addr).add j) = some u := h.2.cells (g := g) (by rw [hv]; rfl)
          rw [run_append_grow (P := P) w tS tR t i z hE.elem hi hz ⟨g, 0, none⟩ s.n cap (xs.flatMap k.cells) (by rw [flat_length, h.1, hsz]) holds ⟨b, o, none⟩ x.n x.c _ hlen hnews (by omega) (by rw [h.1, hx.1]; omega) (growslice_fits (by omega) (by rw [h.1, hx.1, hby]; exact hb))] at hr
          simp only [Result.ok.injEq] at hr
          rw [← hr.2]
          exact Ip.of_same fun j _ hj => (((Below.refl w.heap.size w).drew).alloc (Nat.le_refl _) _).block j hj
/-- Write a field of an element of what is owned. -/
theorem ixOwF (h : OwnS k t B w s xs) (hi : 0 ≤ i) {x : α} (hx : xs[i.toNat]? = some x) (hsz : sz = k.ls.length) {j : Nat} (hj : j < k.ls.length) {v : Value} (hv : v.oneCell' = true) (y : α) (hy : k.cells y = (k.cells x).set j v) {K : World → Prop}
    (hK : ∀ w', OwnS k t B w' s (xs.set i.toNat y) → w.grownBy w' s.bk → w'.heap.size = w.heap.size → K w') : Ix s.a s.n i sz w (fun a w1 => St (Addr.add a j) v w1 K) := by
  have hl := lt_of_get hx
  rcases h.2.2 with ⟨_, hn⟩ | ⟨g, cap, cur, hvv, hB, hg, hnc, hcm, hcs, ht⟩
  · rw [h.1] at hn; omega
  simp only [Value.slice.injEq] at hvv
  have hc : ∀ i x, xs[i]? = some x → ∀ j v, (k.cells x)[j]? = some v → cur[0 + i * k.ls.length + j]? = some v := fun i x hi j v hm => by
    have hm := flat_get k xs i x hi j v hm
    rw [← ht, List.getElem?_take] at hm
    split at hm
    · simpa using hm
    · simp at hm
  have hcap : (i.toNat + 1) * k.ls.length ≤ cap * k.ls.length := Nat.mul_le_mul_right _ (by rw [h.1] at hnc; omega)
  rw [Nat.succ_mul] at hcap
  subst hsz
  refine ⟨_, hvv.1, hi, by rw [h.1]; omega, hv, ⟨cur[i.toNat * k.ls.length + j]'(by omega), ?_⟩, ?_, ?_⟩
  · rw [add_mk, add_mk, cell_of hg, Nat.zero_add]; exact Array.getElem?_eq_getElem _
  · simp [add_mk, World.frozen?, hg]
  · rw [add_mk, add_mk]
    have hu := upd (cur' := cur.setIfInBounds (0 + i.toNat * k.ls.length + j) v) (y := y) hc (i := i.toNat) ?_ ?_
    · refine hK _ ⟨by simpa using h.1, by rw [flat_length]; simp [h.1], .inr ⟨g, cap, _, by simp [hvv], hB, setCell_heap hg v, hnc, hcm, by simpa using hcs, take_flat' (by omega) (by simpa using h.1) fun i x hx j v hv => by have h2 := hu i x hx j v hv; rw [Nat.zero_add (i * _)] at h2; rw [Array.getElem?_toList]; exact h2⟩⟩ (by simpa [Sl.bk, hvv.1] using grown_setCell w g _ v) (by simp)
    · intro j' u hu
      rw [hy] at hu
      by_cases he : j' = j
      · subst he
        rw [List.getElem?_set_self (by rw [k.cells_length]; exact hj)] at hu
        rw [Array.getElem?_setIfInBounds_self_of_lt (by omega)]; exact hu
      · rw [List.getElem?_set_ne (by omega)] at hu
        rw [Array.getElem?_setIfInBounds_ne (by omega)]
        exact hc _ _ hx _ _ hu
    · intro p hp
      exact Array.getElem?_setIfInBounds_ne (by omega)
end
theorem knIns : KN kIns := ⟨by intro l hl; simp [kIns] at hl; exact hl, by decide, fun t => ⟨insOf t, rfl⟩⟩
end Go.Proofs.YtihllippchgkgaaGreat.V
