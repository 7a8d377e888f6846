/- Contracts: texts of ops, as far as the draws ask: each comes to its end, and what it hands back is well formed. -/
import Derived.Test.YtdgnojjemlfhdaaC4
import Derived.Test.YtdgnojjemlfhdaaFT
import Derived.Laws.BytesArg
import Derived.Laws.Slices
namespace Go.Proofs.Ytdgnojjemlfhdaa.V
open Go Go.RowKit
set_option linter.unusedVariables false
set_option linter.unusedSimpArgs false
theorem sxAny {s : ByteArray} {i : Int} {w : World} {K : Int → World → Prop} (h0 : 0 ≤ i) (h1 : i < s.size) (hk : ∀ b : Int, 0 ≤ b → b ≤ 255 → K b w) : Sx s i w K := by
  have hi : i.toNat < s.size := by omega
  refine ⟨h0, s[i.toNat], by rw [getElem?_pos s i.toNat hi], hk _ (by omega) ?_⟩
  have := (s[i.toNat]).toNat_lt
  omega
theorem elS : El P0 102 9 kS 16 := ⟨by kernel_rfl, ⟨_, _, Option.eq_some_of_isSome (by kernel_rfl), Option.eq_some_of_isSome (by kernel_rfl), by kernel_rfl, by kernel_rfl, by kernel_rfl⟩, by decide, by intro l hl; simp [kS] at hl; simp [hl]⟩
theorem uStr : P0.underlying 9 = some .string := by kernel_rfl
/-- A string of one byte. -/
def b1 (x : Int) : ByteArray := strOfNums [x]
theorem b1_size (x : Int) : (b1 x).size = 1 := rfl
theorem conv1 {w : World} {b : Nat} {x : Int} {t : TypeId} {K : ByteArray → World → Prop} (h : w.heap[b]? = some (.cells #[.int .u8 x] t (0, 0))) (hk : K (b1 x) w) :
    RunT (.o (.lf .s)) P0 (convert 46 9 (.slice (some ⟨b, 0, none⟩) 1 1)) w K := by
  have hr := run_convert_bytes_arg (P := P0) w 46 5 (by kernel_rfl) (by kernel_rfl) b 0 1 1 [x] rfl (fun i hi => by
    obtain rfl : i = 0 := by omega
    rw [cell_of h]; rfl) 9 uStr
  exact ⟨_, w, hr, hk⟩
/-- A number's figures. -/
def decN (n : Nat) : ByteArray := if n < 10 then b1 (48 + (n : Int)) else decN (n / 10) ++ b1 (48 + ((n % 10 : Nat) : Int))
termination_by n
decreasing_by omega
theorem decN_size : ∀ (k n : Nat), n < 10 ^ (k + 1) → (decN n).size ≤ k + 1
  | 0, n, h => by rw [decN, if_pos (by simpa using h)]; rw [b1_size]; omega
  | k + 1, n, h => by
    rw [decN]
    split
    · rw [b1_size]; omega
    · rw [ByteArray.size_append, b1_size]
      have := decN_size k (n / 10) (by rw [Nat.pow_succ] at h; omega)
      omega
/-- A number as it is written. -/
def dec (n : Int) : ByteArray := if n < 0 then (⟨#[45]⟩ : ByteArray) ++ decN (-n).toNat else decN n.toNat
theorem dec_size {n : Int} (h : -1000000000000000000 < n ∧ n < 1000000000000000000) : (dec n).size ≤ 19 := by
  unfold dec
  split
  · rw [ByteArray.size_append]
    have := decN_size 17 (-n).toNat (by have : (10 : Nat) ^ (17 + 1) = 1000000000000000000 := by decide
                                        omega)
    show 1 + _ ≤ 19
    omega
  · have := decN_size 17 n.toNat (by have : (10 : Nat) ^ (17 + 1) = 1000000000000000000 := by decide
                                     omega)
    omega
theorem u8_of {x : Int} (h0 : 0 ≤ x) (h1 : x ≤ 255) : IntKind.wrap .u8 x = x := by
  rw [IntKind.wrap_u8]; omega
section
variable {w : World} {s : ByteArray}
theorem spec.l1Num.c {K : Int → World → Prop} (hs : s.size < 4611686018427387904) (hk : ∀ n, K n w) : CallT (.o (.lf (.i .i64))) P0 144 [.string s] w K := by
  refine spec.l1Num.ok ⟨fun n i w' => ∃ k : Nat, i = k ∧ k ≤ s.size ∧ w' = w, fun _ i _ => s.size - i.toNat, ⟨0, rfl, by omega, rfl⟩, ?_⟩
  rintro n i w1 ⟨k, rfl, hk1, rfl⟩ _
  refine And.intro (fun hlt => ?_) (fun hge => ?_)
  · simp only [decide_eq_true_eq] at hlt
    refine ⟨fun w' => w' = w1, ?_, ?_⟩
    · refine sxAny (by omega) (by omega) fun b hb0 hb1 => ?_
      refine And.intro (fun _ => hk _) (fun _ => ?_)
      refine sxAny (by omega) (by omega) fun b hb0 hb1 => ?_
      exact And.intro (fun _ => hk _) (fun _ => And.intro (fun _ => hk _) (fun _ => rfl))
    · rintro w2 rfl _
      refine sxAny (by omega) (by omega) fun b hb0 hb1 => ?_
      rw [i64_of (n := (k : Int) + 1) (by omega) (by omega)]
      exact ⟨⟨k + 1, by omega, by omega, rfl⟩, by simp only; omega⟩
  · refine And.intro (fun _ => hk _) (fun h0 => ?_)
    refine And.intro (fun h1 => ?_) (fun _ => hk _)
    simp only [decide_eq_true_eq] at h1
    refine sxAny (by omega) (by omega) fun b hb0 hb1 => ?_
    exact And.intro (fun _ => hk _) (fun _ => hk _)
theorem spec.l1Find.c {l : Sl} {xs : List ByteArray} {K : Int → World → Prop} (h : SlR kS w l xs) (hk : ∀ n, K n w) : CallT (.o (.lf (.i .i64))) P0 136 [l.v, .string s] w K := by
  have hn := h.len; have hm := h.max
  refine spec.l1Find.ok ⟨fun i w' => ∃ k : Nat, i = k ∧ k ≤ xs.length ∧ w' = w, fun i _ => xs.length - i.toNat, ⟨0, rfl, by omega, rfl⟩, ?_⟩
  rintro i w1 ⟨k, rfl, hk1, rfl⟩ _
  refine And.intro (fun hlt => ?_) (fun hge => hk _)
  simp only [decide_eq_true_eq] at hlt
  obtain ⟨x, hx⟩ := get_some (l := xs) (k := k) (by omega)
  refine ixL h (i := k) (by omega) (x := x) (by simpa using hx) rfl (l := .s) (v := x) rfl ?_
  refine And.intro (fun _ => hk _) (fun _ => ?_)
  rw [i64_of (n := (k : Int) + 1) (by omega) (by omega)]
  exact ⟨⟨k + 1, by omega, by omega, rfl⟩, by simp only; omega⟩
theorem spec.l1Words.c {K : Sl → World → Prop} (hk : ∀ r w' xs, Below w.heap.size w w' → SlR kS w' r xs → xs.length = 21 → (∀ y ∈ xs, y.size ≤ 8) → K r w') : CallT (.o (.lf .sl)) P0 137 [] w K := by
  refine spec.l1Words.ok (nw fun w1 hb hs hc => ?_)
  refine hk _ _ _ hb (OwnS.lit (k := kS) (B := 0) (xs := [_, _, _, _, _, _, _, _, _, _, _, _, _, _, _, _, _, _, _, _, _]) (Nat.zero_le _) hc rfl rfl (by simp [maxLen])).read rfl ?_
  decide
theorem spec.l1Calls.c {K : Sl → World → Prop} (hk : ∀ r w' xs, Below w.heap.size w w' → SlR kS w' r xs → xs.length = 7 → (∀ y ∈ xs, y.size ≤ 8) → K r w') : CallT (.o (.lf .sl)) P0 141 [] w K := by
  refine spec.l1Calls.ok (nw fun w1 hb hs hc => ?_)
  refine hk _ _ _ hb (OwnS.lit (k := kS) (B := 0) (xs := [_, _, _, _, _, _, _]) (Nat.zero_le _) hc rfl rfl (by simp [maxLen])).read rfl ?_
  decide
end
theorem spBelow (w : World) : SpOk (fun a b : World => Below a.heap.size a b) w := ⟨fun a => Below.refl _ _, fun a b c h1 h2 => h1.trans (h2.mono h1.size), Below.drew (Below.refl _ _)⟩
theorem keptT {Sp : World → World → Prop} {α : Type} {p : α → Prop} : Kept Sp (fun x _ => p x) := fun _ _ _ h _ => h
theorem gk {r : Rs} {Sp : World → World → Prop} {w1 : World} {G : r.T → World → Prop} {w' : World} (x : r.T) (h : Sp w1 w') (hG : G x w') : GK r Sp w1 G (r.emb x) w' := ⟨x, rfl, h, hG⟩
theorem spec.l1Dec.c' : ∀ (m : Nat) {n : Int} {w : World} {K : ByteArray → World → Prop}, n.toNat = m → 0 ≤ n → n ≤ 1000000000000000000 → (∀ w', Below w.heap.size w w' → K (decN m) w') → CallT (.o (.lf .s)) P0 138 [.int .i64 n] w K := by
  intro m
  induction m using Nat.strongRecOn with
  | _ m ih =>
    intro n w K hm h0 h1 hk
    refine spec.l1Dec.ok (And.intro (fun h => by simp only [decide_eq_true_eq] at h; omega) (fun _ => And.intro (fun h => by simp only [decide_eq_true_eq] at h; omega) (fun _ => And.intro (fun h => ?_) (fun h => ?_))))
    · simp only [decide_eq_true_eq] at h
      rw [i64_of (by omega) (by omega), u8_of (by omega) (by omega)]
      refine nw fun w1 hb hs hc => conv1 hc (kof (hk w1 hb) ?_)
      rw [decN, if_pos (by omega), show ((m : Nat) : Int) = n by omega]
    · simp only [decide_eq_false_iff_not] at h
      have hd : decN m = decN (m / 10) ++ b1 (48 + ((m % 10 : Nat) : Int)) := by rw [decN, if_neg (by omega)]
      have hsz := decN_size 19 (m / 10) (by have : (10 : Nat) ^ (19 + 1) = 100000000000000000000 := by decide
                                            omega)
      have hmod : 48 + Int.tmod n 10 = 48 + ((m % 10 : Nat) : Int) := by rw [Int.tmod_eq_emod_of_nonneg h0]; omega
      refine ⟨fun a b => Below a.heap.size a b, spBelow w, fun r _ => r = decN (m / 10), keptT, fun t w' => ∃ b, t = ⟨some ⟨b, 0, none⟩, 1, 1⟩ ∧ w'.heap[b]? = some (.cells #[.int .u8 (48 + ((m % 10 : Nat) : Int))] 5 (0, 0)), ?_, fun r _ => r = b1 (48 + ((m % 10 : Nat) : Int)), keptT, fun r _ => r = decN m, keptT, by decide, fun w1 hb1 => ?_, ?_⟩
      · rintro t a b ⟨bb, rfl, hh⟩ hab
        exact ⟨bb, rfl, (hab.block _ (Array.getElem?_eq_some_iff.1 hh).1).trans hh⟩
      · have hq : IntKind.wrap .i64 (Int.tdiv n 10) = n / 10 := by
          rw [Int.tdiv_eq_ediv_of_nonneg h0]; exact i64_of (by omega) (by omega)
        rw [hq]
        exact ih (m / 10) (by omega) (by omega) (by omega) (by omega) fun w' hb => ⟨_, rfl, hb, rfl⟩
      · intro t20
        refine ⟨by decide, fun w1 hb1 => ?_, ?_⟩
        · rw [hmod, i64_of (by omega) (by omega), u8_of (by omega) (by omega)]
          exact nw fun w2 hb hs hc => ⟨⟨some ⟨w1.heap.size, 0, none⟩, 1, 1⟩, rfl, hb, _, rfl, hc⟩
        · intro t25
          refine ⟨fun w1 hb1 hG => ?_, ?_⟩
          · obtain ⟨b, rfl, hc⟩ := hG
            exact conv1 hc ⟨_, rfl, Below.refl _ _, rfl⟩
          · intro t26
            refine ⟨fun w1 hb1 h20 h26 => ?_, ?_⟩
            · rw [h20, h26]
              refine ⟨?_, _, rfl, Below.refl _ _, hd.symm⟩
              have : IntKind.i64.max = 9223372036854775807 := rfl
              rw [b1_size]; omega
            · intro t27 w' hb' _ _ _ h27
              exact kof (hk _ hb') h27.symm
theorem spec.l1Dec.c {n : Int} {w : World} {K : ByteArray → World → Prop} (h : -1000000000000000000 < n ∧ n < 1000000000000000000) (hk : ∀ w', Below w.heap.size w w' → K (dec n) w') : CallT (.o (.lf .s)) P0 138 [.int .i64 n] w K := by
  rcases Int.lt_or_le n 0 with h0 | h0
  · have hsz := decN_size 17 (-n).toNat (by have : (10 : Nat) ^ (17 + 1) = 1000000000000000000 := by decide
                                            omega)
    refine spec.l1Dec.ok (And.intro (fun h => by simp only [decide_eq_true_eq] at h; omega) (fun _ => And.intro (fun _ => ?_) (fun h => by simp only [decide_eq_false_iff_not] at h; omega)))
    rw [i64_of (by omega) (by omega)]
    refine spec.l1Dec.c' _ rfl (by omega) (by omega) fun w1 hb => ⟨?_, kof (hk w1 hb) ?_⟩
    · have : IntKind.i64.max = 9223372036854775807 := rfl
      rw [show (0 - n).toNat = (-n).toNat by omega]
      show ((1 + _ : Nat) : Int) ≤ _
      omega
    · unfold dec; rw [if_pos h0, show (0 - n).toNat = (-n).toNat by omega]
  · exact spec.l1Dec.c' _ rfl h0 (by omega) fun w1 hb => kof (hk w1 hb) (by unfold dec; rw [if_neg (by omega)])
theorem imax : IntKind.i64.max = 9223372036854775807 := rfl
/-- A register, or a number, as it is written. -/
def regS (src imm : Int) : ByteArray := if 0 ≤ src then (⟨#[114]⟩ : ByteArray) ++ dec src else dec imm
theorem regS_size {src imm : Int} (h1 : -1 ≤ src ∧ src ≤ 1000) (h2 : 0 ≤ imm ∧ imm ≤ 4294967295) : (regS src imm).size ≤ 20 := by
  unfold regS
  split
  · rw [ByteArray.size_append]
    have := dec_size (n := src) (by omega)
    show 1 + _ ≤ 20
    omega
  · have := dec_size (n := imm) (by omega); omega
theorem spec.l1Reg.c {src imm : Int} {w : World} {K : ByteArray → World → Prop} (h1 : -1 ≤ src ∧ src ≤ 1000) (h2 : 0 ≤ imm ∧ imm ≤ 4294967295) (hk : ∀ w', Below w.heap.size w w' → K (regS src imm) w') : CallT (.o (.lf .s)) P0 142 [.int .i64 src, .int .i64 imm] w K := by
  refine spec.l1Reg.ok (And.intro (fun h => ?_) (fun h => ?_))
  · simp only [decide_eq_true_eq] at h
    have := dec_size (n := src) (by omega)
    refine spec.l1Dec.c (by omega) fun w1 hb => ⟨?_, kof (hk w1 hb) (by unfold regS; rw [if_pos (by omega)])⟩
    rw [imax]; show ((1 + _ : Nat) : Int) ≤ _; omega
  · simp only [decide_eq_false_iff_not] at h
    exact spec.l1Dec.c (by omega) fun w1 hb => kof (hk w1 hb) (by unfold regS; rw [if_neg (by omega)])
theorem szS (a b : ByteArray) (n : Nat) (h : a.size + b.size ≤ n) (hn : n ≤ 1000) : ((a.size + b.size : Nat) : Int) ≤ IntKind.i64.max := by rw [imax]; omega
set_option maxHeartbeats 2000000 in
theorem spec.l1Line.c {x : Ins} {w : World} {K : ByteArray → World → Prop} (hp : InsP x) (hk : ∀ r w', Below w.heap.size w w' → K r w') : CallT (.o (.lf .s)) P0 128 [.agg (Tup.cells (R 6 (.i .i64)) x.t).toArray] w K := by
  have hop : 1 ≤ x.op ∧ x.op ≤ 20 := by have := hp.2.2.2.2; grind [BareP, szP]
  have hdst := hp.1
  have hsrc := hp.2.1
  have hoff := hp.2.2.1
  have himm := hp.2.2.2.1
  have hsize : (x.op = 17 ∨ x.op = 18) → 0 ≤ x.size ∧ x.size ≤ 4 := by have := hp.2.2.2.2; grind [BareP, szP]
  have hcall : x.op = 19 → 1 ≤ x.imm ∧ x.imm ≤ 6 := by have := hp.2.2.2.2; grind [BareP, szP]
  refine spec.l1Line.ok (nwIns fun w1 hb1 hs1 hc1 => ?_)
  have at1 : ∀ {w' : World}, Below w1.heap.size w1 w' → w'.heap[w.heap.size]? = some (.cells x.cs 51 (0, 0)) := fun hb => (hb.block _ (by omega)).trans hc1
  refine ⟨fun a b => Below a.heap.size a b, spBelow w1, fun r w' => ∃ xs, SlR kS w' r xs ∧ xs.length = 21 ∧ ∀ y ∈ xs, y.size ≤ 8, ?_, fun v _ => v = x.op, keptT, fun a w' => ∃ y : ByteArray, w'.cell? a = some (.string y) ∧ y.size ≤ 8, ?_, fun y _ => y.size ≤ 8, keptT, fun w2 hb2 => ?_, fun t5 => ⟨fun w2 hb2 => ?_, fun t7 => ⟨fun w2 hb2 h5 h7 => ?_, fun t8 => ⟨fun w2 hb2 h8 => ?_, fun t9 w2 hb2 _ _ _ h9 => ?_⟩⟩⟩⟩
  · rintro r a b ⟨xs, h, hr⟩ hab; exact ⟨xs, h.below hab, hr⟩
  · rintro r a b ⟨y, h, hr⟩ hab; exact ⟨y, by rw [hab.cell (World.block_lt_of_cell? a _ h)]; exact h, hr⟩
  · exact spec.l1Words.c fun r w3 xs hb3 hr hl hy => ⟨r, rfl, hb3, xs, hr, hl, hy⟩
  · exact ldB (at1 hb2) (x := x.op) rfl ⟨x.op, rfl, Below.refl _ _, rfl⟩
  · obtain ⟨xs, hr, hl, hy⟩ := h5
    subst h7
    obtain ⟨y, hyx⟩ := get_some (l := xs) (k := x.op.toNat) (by omega)
    refine ixR hr (by omega) hyx rfl fun b o hA => ⟨⟨b, o, none⟩, rfl, Below.refl _ _, y, ?_, hy y (List.mem_of_getElem? hyx)⟩
    exact hA 0 (.string y) rfl
  · obtain ⟨y, hc, hy⟩ := h8
    exact ⟨y, hc, y, rfl, Below.refl _ _, hy⟩
  · have bb2 : Below w.heap.size w w2 := hb1.trans (hb2.mono hb1.size)
    have hs12 := hb2.size
    have ddst := dec_size (n := x.dst) (by omega)
    have dsrc := dec_size (n := x.src) (by omega)
    have doff := dec_size (n := x.off) (by omega)
    have dimm := dec_size (n := x.imm) (by omega)
    have dreg := regS_size (src := x.src) (imm := x.imm) (by omega) himm
    have kk : ∀ {w' : World} (r : ByteArray), Below w2.heap.size w2 w' → K r w' := fun r hb => hk _ _ (bb2.trans (hb.mono bb2.size))
    have c2 : ∀ {w' : World}, Below w2.heap.size w2 w' → w'.heap[w.heap.size]? = some (.cells x.cs 51 (0, 0)) := fun hb => at1 (hb2.trans (hb.mono hb2.size))
    have s1 : (⟨#[32]⟩ : ByteArray).size = 1 := rfl
    have s2 : (⟨#[32, 114]⟩ : ByteArray).size = 2 := rfl
    have qdec : ∀ (n : Int) {C : World → Prop} {K : ByteArray → Prop}, (-1000000000000000000 < n ∧ n < 1000000000000000000) → (∀ w4 w5, C w4 → Below w4.heap.size w4 w5 → C w5) → K (dec n) → QCl (.o (.lf .s)) P0 138 [.int .i64 n] C K :=
      fun n C K hn hC hK => qcl _ (fun w4 hb4 => spec.l1Dec.c hn fun w5 hb5 => ⟨rfl, hC _ _ hb4 hb5⟩) hK
    have qreg : ∀ {C : World → Prop} {K : ByteArray → Prop}, (∀ w4 w5, C w4 → Below w4.heap.size w4 w5 → C w5) → K (regS x.src x.imm) → QCl (.o (.lf .s)) P0 142 [.int .i64 x.src, .int .i64 x.imm] C K :=
      fun {C K} hC hK => qcl _ (fun w4 hb4 => spec.l1Reg.c (by omega) himm fun w5 hb5 => ⟨rfl, hC _ _ hb4 hb5⟩) hK
    have cl : ∀ {w3 : World} (w4 w5 : World), Below w3.heap.size w3 w4 → Below w4.heap.size w4 w5 → Below w3.heap.size w3 w5 := fun w4 w5 h1 h2 => h1.trans (h2.mono h1.size)
    refine ldB (c2 (Below.refl _ _)) (x := x.dst) rfl ?_
    refine spec.l1Dec.c (by omega) fun w3 hb3 => ⟨szS _ _ 30 (by rw [s2]; omega) (by omega), ?_⟩
    refine ldB (c2 hb3) (x := x.op) rfl (spec.l1Alu.c ?_)
    refine And.intro (fun _ => ?_) (fun _ => ?_)
    · refine ⟨szS _ _ 50 (by (try simp only [ByteArray.size_append, s1, s2]); omega) (by omega), szS _ _ 60 (by (try simp only [ByteArray.size_append, s1, s2]); omega) (by omega), ?_⟩
      refine ldB (c2 hb3) (x := x.src) rfl (ldB (c2 hb3) (x := x.imm) rfl ?_)
      refine spec.l1Reg.c (by omega) himm fun w4 hb4 => ⟨szS _ _ 100 (by (try simp only [ByteArray.size_append, s1, s2]); omega) (by omega), kk _ (hb3.trans (hb4.mono hb3.size))⟩
    · refine ldB (c2 hb3) (x := x.op) rfl (spec.l1Jump.c ?_)
      refine And.intro (fun _ => ?_) (fun _ => ?_)
      · refine ⟨szS _ _ 50 (by (try simp only [ByteArray.size_append, s1, s2]); omega) (by omega), szS _ _ 60 (by (try simp only [ByteArray.size_append, s1, s2]); omega) (by omega), ?_⟩
        refine qldB (c2 hb3) (x := x.src) rfl ?_
        refine qldB (c2 hb3) (x := x.imm) rfl ?_
        refine qreg cl ?_
        refine ⟨szS _ _ 100 (by (try simp only [ByteArray.size_append, s1, s2]); omega) (by omega), szS _ _ 100 (by (try simp only [ByteArray.size_append, s1, s2]); omega) (by omega), ?_⟩
        refine qldB (c2 hb3) (x := x.off) rfl ?_
        refine qdec x.off (by omega) cl ⟨szS _ _ 200 (by (try simp only [ByteArray.size_append, s1, s2]); omega) (by omega), fun w4 hb4 => kk _ (hb3.trans (hb4.mono hb3.size))⟩
      · refine ldB (c2 hb3) (x := x.op) rfl ?_
        refine And.intro (fun _ => ?_) (fun _ => ?_)
        · refine ⟨szS _ _ 50 (by (try simp only [ByteArray.size_append, s1, s2]); omega) (by omega), ldB (c2 hb3) (x := x.off) rfl ?_⟩
          exact spec.l1Dec.c (by omega) fun w4 hb4 => ⟨szS _ _ 100 (by (try simp only [ByteArray.size_append, s1, s2]); omega) (by omega), kk _ (hb3.trans (hb4.mono hb3.size))⟩
        · refine ldB (c2 hb3) (x := x.op) rfl ?_
          refine And.intro (fun h17 => ?_) (fun _ => ?_)
          · simp only [beq_iff_eq] at h17
            have hz := hsize (.inl h17)
            have dsz := dec_size (n := x.size) (by omega)
            refine qldB (c2 hb3) (x := x.size) rfl ?_
            refine qdec x.size (by omega) cl ?_
            refine ⟨szS _ _ 50 (by (try simp only [ByteArray.size_append, s1, s2]); omega) (by omega), szS _ _ 100 (by (try simp only [ByteArray.size_append, s1, s2]); omega) (by omega), szS _ _ 100 (by (try simp only [ByteArray.size_append, s1, s2]); omega) (by omega), ?_⟩
            refine qldB (c2 hb3) (x := x.src) rfl ?_
            refine qdec x.src (by omega) cl ?_
            refine ⟨szS _ _ 200 (by (try simp only [ByteArray.size_append, s1, s2]); omega) (by omega), szS _ _ 200 (by (try simp only [ByteArray.size_append, s1, s2]); omega) (by omega), ?_⟩
            refine qldB (c2 hb3) (x := x.off) rfl ?_
            refine qdec x.off (by omega) cl ⟨szS _ _ 200 (by (try simp only [ByteArray.size_append, s1, s2]); omega) (by omega), fun w4 hb4 => kk _ (hb3.trans (hb4.mono hb3.size))⟩
          · refine ldB (c2 hb3) (x := x.op) rfl ?_
            refine And.intro (fun h18 => ?_) (fun _ => ?_)
            · simp only [beq_iff_eq] at h18
              have hz := hsize (.inr h18)
              have dsz := dec_size (n := x.size) (by omega)
              refine qldB (c2 hb3) (x := x.size) rfl ?_
              refine qdec x.size (by omega) cl ?_
              refine ⟨szS _ _ 50 (by (try simp only [ByteArray.size_append, s1, s2]); omega) (by omega), szS _ _ 100 (by (try simp only [ByteArray.size_append, s1, s2]); omega) (by omega), szS _ _ 100 (by (try simp only [ByteArray.size_append, s1, s2]); omega) (by omega), ?_⟩
              refine qldB (c2 hb3) (x := x.off) rfl ?_
              refine qdec x.off (by omega) cl ?_
              refine ⟨szS _ _ 200 (by (try simp only [ByteArray.size_append, s1, s2]); omega) (by omega), szS _ _ 200 (by (try simp only [ByteArray.size_append, s1, s2]); omega) (by omega), ?_⟩
              refine qldB (c2 hb3) (x := x.src) rfl ?_
              refine qldB (c2 hb3) (x := x.imm) rfl ?_
              refine qreg cl ⟨szS _ _ 200 (by (try simp only [ByteArray.size_append, s1, s2]); omega) (by omega), fun w4 hb4 => kk _ (hb3.trans (hb4.mono hb3.size))⟩
            · refine ldB (c2 hb3) (x := x.op) rfl ?_
              refine And.intro (fun h19 => ?_) (fun _ => kk _ hb3)
              simp only [beq_iff_eq] at h19
              have hci := hcall h19
              refine ⟨fun a b => Below a.heap.size a b, spBelow w3, fun r _ => r.size ≤ 20, keptT, fun r w' => ∃ xs, SlR kS w' r xs ∧ xs.length = 7 ∧ ∀ y ∈ xs, y.size ≤ 8, ?_, fun v _ => v = x.imm, keptT, fun a w' => ∃ y : ByteArray, w'.cell? a = some (.string y) ∧ y.size ≤ 8, ?_, fun y _ => y.size ≤ 8, keptT, fun y _ => True, keptT,
                fun w4 hb4 => ⟨szS _ _ 50 (by simp only [s1]; omega) (by omega), _, rfl, Below.refl _ _, by simp only [ByteArray.size_append, s1]; omega⟩, fun t106 => ⟨fun w4 hb4 => ?_, fun t107 => ⟨fun w4 hb4 => ?_, fun t109 => ⟨fun w4 hb4 h107 h109 => ?_, fun t110 => ⟨fun w4 hb4 h110 => ?_, fun t111 => ⟨fun w4 hb4 h106 h111 => ?_, fun t112 w4 hb4 _ _ _ _ _ _ => kk _ (hb3.trans (hb4.mono hb3.size))⟩⟩⟩⟩⟩⟩
              · rintro r a b ⟨xs, h, hr⟩ hab; exact ⟨xs, h.below hab, hr⟩
              · rintro r a b ⟨y, h, hr⟩ hab; exact ⟨y, by rw [hab.cell (World.block_lt_of_cell? a _ h)]; exact h, hr⟩
              · exact spec.l1Calls.c fun r w5 xs hb5 hr hl hy => ⟨r, rfl, hb5, xs, hr, hl, hy⟩
              · exact ldB (c2 (hb3.trans (hb4.mono hb3.size))) (x := x.imm) rfl ⟨x.imm, rfl, Below.refl _ _, rfl⟩
              · obtain ⟨xs, hr, hl, hy⟩ := h107
                subst h109
                obtain ⟨y, hyx⟩ := get_some (l := xs) (k := x.imm.toNat) (by omega)
                refine ixR hr (by omega) hyx rfl fun b o hA => ⟨⟨b, o, none⟩, rfl, Below.refl _ _, y, ?_, hy y (List.mem_of_getElem? hyx)⟩
                exact hA 0 (.string y) rfl
              · obtain ⟨y, hc, hy⟩ := h110
                exact ⟨y, hc, y, rfl, Below.refl _ _, hy⟩
              · exact ⟨szS _ _ 50 (by omega) (by omega), _, rfl, Below.refl _ _, trivial⟩
end Go.Proofs.Ytdgnojjemlfhdaa.V
