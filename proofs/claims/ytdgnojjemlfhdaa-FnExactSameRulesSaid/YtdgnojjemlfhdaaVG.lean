/- Regions that draw their order and hold operations whose results lie in new memory: one fact for each operation, kept by every step. -/
import Derived.Test.YtdgnojjemlfhdaaV5
namespace Go.Proofs.Ytdgnojjemlfhdaa.V
open Go Go.RowKit

def fT : World → Prop := fun _ => True
def updF (f : Nat → World → Prop) (i : Nat) (φ : World → Prop) : Nat → World → Prop := fun k => if k = i then φ else f k
theorem updF_ne {f : Nat → World → Prop} {i k : Nat} {φ : World → Prop} (h : k ≠ i) : updF f i φ k = f k := if_neg h
theorem updF_eq {f : Nat → World → Prop} {i : Nat} {φ : World → Prop} : updF f i φ i = φ := if_pos rfl
theorem updF_comm {f : Nat → World → Prop} {i k : Nat} {φ ψ : World → Prop} (h : i ≠ k) : updF (updF f i φ) k ψ = updF (updF f k ψ) i φ := by
  funext q
  unfold updF
  split
  · rename_i h1; rw [if_neg (by omega)]
  · rfl
def Res (P : Program) (r : Result Next) (R : Value → World → Prop) : Prop :=
  match r with
  | .ok (.value v) w' => R v w'
  | .ok .skip w' => R undef w'
  | .ok (.enter f args) w' => Calls P f args w' fun
    | .returned v, w'' => R v w''
    | _, _ => False
  | .ok (.row row args) w' => Rows P row args w' R
  | _ => False
theorem put_inj {a : Act} {d : Nat} {u v : Value} (hd : d < a.tmps.size) (h : a.put (some d) u = a.put (some d) v) : u = v := by
  have h1 := congrArg (fun x : Act => x.tmps[d]?) h
  simp only [Act.put, Array.getElem?_setIfInBounds_self_of_lt hd, Option.some.injEq] at h1
  exact h1
theorem res_of_wp {P : Program} {o : Oper} {a : Act} {w : World} {R : Value → World → Prop} {d : Nat} (hd : o.dst = some d) (hs : d < a.tmps.size)
    (h : o.wp P a w (fun a' w' => ∃ v, a' = a.put o.dst v ∧ R v w') (fun _ _ _ => False)) : Res P ((execOp a.eval o).run P w) R := by
  unfold Oper.wp at h
  rw [hd] at h
  have inj : ∀ {u : Value} {w' : World}, (∃ v, a.put o.dst u = a.put (some d) v ∧ R v w') → R u w' := by
    rintro u w' ⟨v, he, hr⟩
    rw [hd] at he
    rw [put_inj hs he]; exact hr
  generalize (execOp a.eval o).run P w = r at *
  cases r with
  | ok n w' =>
    cases n <;> simp only [Oper.upon] at h
    case value v => exact inj h
    case skip => exact inj h
    case enter f args =>
      refine Calls.mono h fun e w'' he => ?_
      cases e with
      | returned v => exact inj he
      | panicked ch => exact he
      | outgrown => obtain ⟨_, _, hf⟩ := he; exact hf
    case row row args => exact Rows.mono h fun v w'' he => inj he
    case defer dd =>
      obtain ⟨v, he, _⟩ := h
      have h1 := congrArg (fun x : Act => x.defers.length) he
      rw [hd] at h1
      simp [Act.put] at h1
    all_goals exact h.elim
  | halt x w' => cases x <;> simp only [Oper.upon] at h
theorem wp_of_res {P : Program} {o : Oper} {a : Act} {w : World} {R : Value → World → Prop} {next : Act → World → Prop} {Q : Exit → Act → World → Prop} (h : Res P ((execOp a.eval o).run P w) R)
    (hn : ∀ v w', R v w' → next (a.put o.dst v) w') : o.wp P a w next Q := by
  unfold Oper.wp
  generalize (execOp a.eval o).run P w = r at *
  cases r with
  | ok n w' =>
    cases n <;> simp only [Res] at h <;> simp only [Oper.upon]
    case value v => exact hn _ _ h
    case skip => exact hn _ _ h
    case enter f args =>
      refine Calls.mono h fun e w'' he => ?_
      cases e with
      | returned v => exact hn _ _ he
      | panicked ch => exact he.elim
      | outgrown => exact he.elim
    case row row args => exact Rows.mono h fun v w'' he => hn _ _ he
  | halt x w' => simp only [Res] at h
section
variable (P : Program) (ops : Array Oper) (St : Nat → World → World → Prop) (C : World → Prop) (D : Nat → List Nat) (T : Nat → Sem Next → Value → (World → Prop) → Prop) (Q : Act → World → Prop)
/-- An operation is done now. -/
def SVat (i : Nat) (a : Act) (f : Nat → World → Prop) (K : Act → (Nat → World → Prop) → Prop) : Prop :=
  match ops[i]? with
  | none => False
  | some o => if Region.wanted o (yielded ops a.tmps) then
      (∀ w, C w → (∀ k ∈ D i, f k w) → Res P ((execOp a.eval o).run P w) fun v w' => ∃ φ, T i (execOp a.eval o) v φ ∧ St i w w' ∧ φ w') ∧
      (∃ v φ, T i (execOp a.eval o) v φ) ∧ ∀ v φ, T i (execOp a.eval o) v φ → K (a.put o.dst v) (updF f i φ)
    else K (a.put o.dst undef) (updF f i fT)
def SV : List Nat → Act → (Nat → World → Prop) → Prop
  | [], a, f => ∀ w, C w → (∀ k, f k w) → Q a w
  | i :: l, a, f => SVat P ops St C D T i a f (SV l)
end
section
variable {P : Program} {ops : Array Oper} {St : Nat → World → World → Prop} {C : World → Prop} {D : Nat → List Nat} {T : Nat → Sem Next → Value → (World → Prop) → Prop} {Q : Act → World → Prop}
theorem SVat.mono {i : Nat} {a : Act} {f : Nat → World → Prop} {K K' : Act → (Nat → World → Prop) → Prop} (h : SVat P ops St C D T i a f K) (hk : ∀ a f, K a f → K' a f) : SVat P ops St C D T i a f K' := by
  unfold SVat at *
  split
  · simp_all
  · rename_i o ho
    simp only [ho] at h
    split
    · rename_i hw; simp only [hw, if_true] at h; exact ⟨h.1, h.2.1, fun v φ ht => hk _ _ (h.2.2 v φ ht)⟩
    · rename_i hw; simp only [hw] at h; exact hk _ _ h
theorem swap {k i : Nat} {ok oi : Oper} (hok : ops[k]? = some ok) (hoi : ops[i]? = some oi) (hap : ok.apart ops oi = true) (hsk : ∀ cs b, ok.op ≠ .select cs b) (hsi : ∀ cs b, oi.op ≠ .select cs b)
    (hki : k ∉ D i) (hik : i ∉ D k) (hne : k ≠ i) {a : Act} {f : Nat → World → Prop} {K : Act → (Nat → World → Prop) → Prop}
    (h : SVat P ops St C D T k a f (fun a' f' => SVat P ops St C D T i a' f' K)) : SVat P ops St C D T i a f (fun a' f' => SVat P ops St C D T k a' f' K) := by
  obtain ⟨h1, h2, h3⟩ := Oper.apart_spec hap
  have ei : ∀ (a : Act) v, execOp (a.put ok.dst v).eval oi = execOp a.eval oi := fun a v => execOp_put oi hsi a ok.dst v h1
  have ek : ∀ (a : Act) v, execOp (a.put oi.dst v).eval ok = execOp a.eval ok := fun a v => execOp_put ok hsk a oi.dst v h3
  have wi : ∀ (a : Act) v, Region.wanted oi (yielded ops (a.put ok.dst v).tmps) = Region.wanted oi (yielded ops a.tmps) := fun a v => wanted_put oi a ok.dst v h1
  have wk : ∀ (a : Act) v, Region.wanted ok (yielded ops (a.put oi.dst v).tmps) = Region.wanted ok (yielded ops a.tmps) := fun a v => wanted_put ok a oi.dst v h3
  have pc : ∀ (a : Act) v u, (a.put oi.dst v).put ok.dst u = (a.put ok.dst u).put oi.dst v := fun a v u => (Act.put_comm a u v h2).symm
  have fi : ∀ (φ : World → Prop) w, (∀ q ∈ D i, f q w) → ∀ q ∈ D i, updF f k φ q w := fun φ w h q hq => by rw [updF_ne (fun e => by subst e; exact hki hq)]; exact h q hq
  have fk : ∀ (φ : World → Prop) w, (∀ q ∈ D k, updF f i φ q w) → ∀ q ∈ D k, f q w := fun φ w h q hq => by have := h q hq; rwa [updF_ne (fun e => by subst e; exact hik hq)] at this
  unfold SVat at h ⊢
  simp only [hok, hoi] at h ⊢
  simp only [ei, wi, ek, wk] at h ⊢
  by_cases hwk : Region.wanted ok (yielded ops a.tmps) = true
  · simp only [hwk, if_true] at h ⊢
    obtain ⟨hc, ⟨v0, φ0, ht0⟩, hK⟩ := h
    by_cases hwi : Region.wanted oi (yielded ops a.tmps) = true
    · simp only [hwi, if_true] at hK ⊢
      have h0 := hK v0 φ0 ht0
      refine ⟨fun w hw hf => h0.1 w hw (fi φ0 w hf), h0.2.1, fun v φ ht => ⟨fun w hw hf => hc w hw (fk φ w hf), ⟨v0, φ0, ht0⟩, fun u ψ hu => ?_⟩⟩
      rw [pc, updF_comm (Ne.symm hne)]
      exact (hK u ψ hu).2.2 v φ ht
    · simp only [hwi] at hK ⊢
      refine ⟨fun w hw hf => hc w hw (fk fT w hf), ⟨v0, φ0, ht0⟩, fun u ψ hu => ?_⟩
      rw [pc, updF_comm (Ne.symm hne)]
      exact hK u ψ hu
  · simp only [hwk] at h ⊢
    by_cases hwi : Region.wanted oi (yielded ops a.tmps) = true
    · simp only [hwi, if_true] at h ⊢
      refine ⟨fun w hw hf => h.1 w hw (fi fT w hf), h.2.1, fun v φ ht => ?_⟩
      rw [if_neg (by simp), pc, updF_comm (Ne.symm hne)]
      exact h.2.2 v φ ht
    · simp only [hwi] at h ⊢
      rw [if_neg (by simp)] at h ⊢
      rw [if_neg (by simp), pc, updF_comm (Ne.symm hne)]
      rw [if_neg (by simp)] at h
      exact h
theorem pull {i : Nat} {oi : Oper} (hoi : ops[i]? = some oi) (hsi : ∀ cs b, oi.op ≠ .select cs b) : ∀ (l1 l2 : List Nat) (a : Act) (f : Nat → World → Prop),
    (∀ k ∈ l1, ∃ ok, ops[k]? = some ok ∧ ok.apart ops oi = true ∧ k ∉ D i ∧ i ∉ D k ∧ k ≠ i ∧ ∀ cs b, ok.op ≠ .select cs b) → SV P ops St C D T Q (l1 ++ i :: l2) a f → SVat P ops St C D T i a f (SV P ops St C D T Q (l1 ++ l2))
  | [], l2, a, f, _, h => h
  | k :: l1, l2, a, f, hl, h => by
    obtain ⟨ok, hok, hap, hki, hik, hne, hsk⟩ := hl k List.mem_cons_self
    have h1 : SVat P ops St C D T k a f (fun a' f' => SVat P ops St C D T i a' f' (SV P ops St C D T Q (l1 ++ l2))) :=
      SVat.mono h fun a f hh => pull hoi hsi l1 l2 a f (fun q hq => hl q (List.mem_cons_of_mem _ hq)) hh
    exact swap hok hoi hap hsk hsi hki hik hne h1
/-- Operation i comes behind operation k, in so many steps. -/
def reach (ops : Array Oper) : Nat → Nat → Nat → Bool
  | 0, _, _ => false
  | f + 1, i, k => match ops[i]? with
    | none => false
    | some o => o.after.any fun e => Region.binds .any e && (e.on == k || reach ops f e.on k)
theorem reach_listed {ops : Array Oper} {L : Nat → Prop} (hc : ∀ j o, ops[j]? = some o → L j → ∀ e ∈ o.after, Region.binds .any e = true → L e.on) {k : Nat} :
    ∀ (f i : Nat) (o : Oper), ops[i]? = some o → (∀ e ∈ o.after, Region.binds .any e = true → L e.on) → reach ops f i k = true → L k
  | 0, _, _, _, _, h => by simp [reach] at h
  | f + 1, i, o, ho, he, h => by
    simp only [reach, ho] at h
    obtain ⟨e, hm, hh⟩ := Array.any_eq_true'.1 h
    simp only [Bool.and_eq_true, Bool.or_eq_true, beq_iff_eq] at hh
    obtain ⟨hb, h1 | h1⟩ := hh
    · exact h1 ▸ he e hm hb
    · cases hq : ops[e.on]? with
      | none =>
        cases f with
        | zero => simp [reach] at h1
        | succ f => simp [reach, hq] at h1
      | some o' => exact reach_listed hc f e.on o' hq (fun e' hm' hb' => hc _ _ hq (he e hm hb) e' hm' hb') h1
/-- What is asked of the region's text. -/
def depsOk (ops : Array Oper) (n : Nat) (D : Nat → List Nat) : Bool :=
  (List.range n).all fun i => match ops[i]? with
    | none => false
    | some o => (o.after.all fun e => !Region.binds .any e || decide (e.on < i)) && (D i).all (fun k => decide (k ≤ i)) && (match o.op with | .select _ _ => false | _ => true) &&
      (List.range i).all fun k => (o.after.any fun e => Region.binds .any e && e.on == k) || (match ops[k]? with | some ok => ok.apart ops o && !(D i).contains k | none => false) || reach ops 6 i k
theorem depsOk_spec {ops : Array Oper} {n : Nat} {D : Nat → List Nat} (h : depsOk ops n D = true) {i : Nat} (hi : i < n) {o : Oper} (ho : ops[i]? = some o) :
    (∀ e ∈ o.after, Region.binds .any e = true → e.on < i) ∧ (∀ k ∈ D i, k ≤ i) ∧ (∀ cs b, o.op ≠ .select cs b) ∧
    ∀ k, k < i → reach ops 6 i k = true ∨ ∃ ok, ops[k]? = some ok ∧ ok.apart ops o = true ∧ k ∉ D i := by
  have h1 := List.all_eq_true.1 h i (List.mem_range.2 hi)
  simp only [ho, Bool.and_eq_true, List.all_eq_true, decide_eq_true_eq, List.mem_range] at h1
  obtain ⟨⟨⟨ha, hD⟩, hsel⟩, hk⟩ := h1
  refine ⟨fun e he hb => ?_, hD, fun cs b e => by rw [e] at hsel; simp at hsel, fun k hki => ?_⟩
  · have := Array.all_eq_true_iff_forall_mem.1 ha e he
    simpa [hb] using this
  · have := hk k hki
    rw [Bool.or_eq_true, Bool.or_eq_true] at this
    rcases this with (h2 | h2) | h2
    · obtain ⟨e, he, hh⟩ := Array.any_eq_true'.1 h2
      simp only [Bool.and_eq_true, beq_iff_eq] at hh
      refine .inl ?_
      simp only [reach, ho]
      exact Array.any_eq_true'.2 ⟨e, he, by simp [hh.1, hh.2]⟩
    · split at h2
      · rename_i ok hok
        simp only [Bool.and_eq_true, Bool.not_eq_true', List.contains_eq_mem, decide_eq_false_iff_not] at h2
        exact .inr ⟨ok, hok, h2.1, h2.2⟩
      · simp at h2
    · exact .inl h2
def left (n : Nat) (listed : Array Bool) : List Nat := (List.range n).filter fun i => !listed.getD i true
theorem left_set {n i : Nat} {listed : Array Bool} (hs : n ≤ listed.size) (hi : i < n) (hl : listed.getD i true = false) :
    ∃ l1 l2, left n listed = l1 ++ i :: l2 ∧ left n (listed.setIfInBounds i true) = l1 ++ l2 ∧ (∀ k ∈ l1, k < i ∧ listed.getD k true = false) := by
  have hget : ∀ k, (listed.setIfInBounds i true).getD k true = if k = i then true else listed.getD k true := by
    intro k
    simp only [Array.getD_eq_getD_getElem?]
    by_cases hk : k = i
    · subst hk; rw [Array.getElem?_setIfInBounds_self_of_lt (by omega)]; simp
    · rw [Array.getElem?_setIfInBounds_ne (fun e => hk e.symm), if_neg hk]
  have hsplit : List.range n = List.range i ++ i :: (List.range (n - i - 1)).map (· + (i + 1)) := by
    refine List.ext_getElem? fun q => ?_
    rcases Nat.lt_trichotomy q i with h | h | h
    · rw [List.getElem?_append_left (by simpa using h), List.getElem?_range (by omega), List.getElem?_range h]
    · subst h; rw [List.getElem?_append_right (by simp)]; simp [hi]
    · rw [List.getElem?_append_right (by simp; omega)]
      rw [show q - (List.range i).length = (q - i - 1) + 1 by simp; omega, List.getElem?_cons_succ, List.getElem?_map]
      rcases Nat.lt_or_ge q n with h2 | h2
      · rw [List.getElem?_range h2, List.getElem?_range (by omega)]; simp; omega
      · rw [List.getElem?_eq_none (by simpa using h2), List.getElem?_eq_none (by simp; omega)]; rfl
  refine ⟨(List.range i).filter fun k => !listed.getD k true, ((List.range (n - i - 1)).map (· + (i + 1))).filter fun k => !listed.getD k true, ?_, ?_, ?_⟩
  · unfold left
    rw [hsplit, List.filter_append, List.filter_cons, if_pos (by simp [hl])]
  · unfold left
    rw [hsplit, List.filter_append, List.filter_cons, if_neg (by rw [hget]; simp)]
    congr 1
    · refine List.filter_congr fun k hk => ?_
      rw [hget, if_neg (by have := List.mem_range.1 hk; omega)]
    · refine List.filter_congr fun k hk => ?_
      obtain ⟨q, _, rfl⟩ := List.mem_map.1 hk
      rw [hget, if_neg (by omega)]
  · intro k hk
    rw [List.mem_filter] at hk
    exact ⟨List.mem_range.1 hk.1, by simpa using hk.2⟩
/-- The operations from n on come last, one by one. -/
def tailOk (ops : Array Oper) (n : Nat) : Bool :=
  (List.range ops.size).all fun i => decide (i < n) || match ops[i]? with
    | none => false
    | some o => o.guard.isNone && (o.after.all fun e => !Region.binds .any e || decide (e.on < i)) && (List.range i).all fun k => o.after.any fun e => Region.binds .any e && e.on == k
theorem tailOk_spec {n : Nat} (h : tailOk ops n = true) {i : Nat} (hi : n ≤ i) {o : Oper} (ho : ops[i]? = some o) :
    o.guard = none ∧ (∀ e ∈ o.after, Region.binds .any e = true → e.on < i) ∧ ∀ k, k < i → ∃ e ∈ o.after, Region.binds .any e = true ∧ e.on = k := by
  have h1 := List.all_eq_true.1 h i (List.mem_range.2 (Array.getElem?_eq_some_iff.1 ho).1)
  rw [Bool.or_eq_true] at h1
  rcases h1 with h1 | h1
  · simp only [decide_eq_true_eq] at h1; omega
  · simp only [ho, Bool.and_eq_true, List.all_eq_true, List.mem_range] at h1
    obtain ⟨⟨hg, ha⟩, hk⟩ := h1
    refine ⟨by simpa using hg, fun e he hb => ?_, fun k hki => ?_⟩
    · have := Array.all_eq_true_iff_forall_mem.1 ha e he
      simpa [hb] using this
    · obtain ⟨e, he, hh⟩ := Array.any_eq_true'.1 (hk k hki)
      simp only [Bool.and_eq_true, beq_iff_eq] at hh
      exact ⟨e, he, hh.1, hh.2⟩
theorem ready_iff {listed : Array Bool} {i : Nat} : i ∈ Region.ready .any ops listed ↔ ∃ o, ops[i]? = some o ∧ listed.getD i true = false ∧ ∀ e ∈ o.after, Region.binds .any e = true → listed.getD e.on false = true := by
  unfold Region.ready
  rw [List.mem_filter]
  constructor
  · rintro ⟨hir, hi2⟩
    have hir := List.mem_range.1 hir
    have ho : ops[i]? = some ops[i] := Array.getElem?_eq_getElem hir
    simp only [ho, Option.map_some, Option.getD_some, Bool.and_eq_true, Bool.not_eq_true'] at hi2
    refine ⟨_, ho, hi2.1, fun e he hb => ?_⟩
    have := Array.all_eq_true_iff_forall_mem.1 hi2.2 e he
    simpa [hb] using this
  · rintro ⟨o, ho, hl, ha⟩
    refine ⟨List.mem_range.2 (Array.getElem?_eq_some_iff.1 ho).1, ?_⟩
    simp only [ho, Option.map_some, Option.getD_some, Bool.and_eq_true, Bool.not_eq_true']
    refine ⟨hl, Array.all_eq_true_iff_forall_mem.2 fun e he => ?_⟩
    cases hb : Region.binds .any e with
    | false => simp
    | true => simpa using ha e he hb
theorem getD_tf {listed : Array Bool} {k : Nat} (hk : k < listed.size) : listed.getD k true = listed.getD k false := by
  simp only [Array.getD_eq_getD_getElem?, Array.getElem?_eq_getElem hk, Option.getD_some]
theorem wpAny_of_SV {n : Nat} (hn : n ≤ ops.size) (hD : depsOk ops n D = true) (hTl : tailOk ops n = true) (hT : ∀ i s v φ, T i s v φ → ∀ j x y, φ x → St j x y → φ y) (hC : ∀ j x y, C x → St j x y → C y) {Q' : Exit → Act → World → Prop} {m : Nat}
    (hQ : ∀ a w (listed : Array Bool), listed.size = ops.size → (∀ k, k < n → listed.getD k true = true) → (∀ k, n ≤ k → k < ops.size → listed.getD k true = false) → Q a w → wpAny P .any ops Q' m listed a w) :
    ∀ (fuel : Nat) (listed : Array Bool) (a : Act) (w : World) (f : Nat → World → Prop), listed.size = ops.size → (∀ k, n ≤ k → k < ops.size → listed.getD k true = false) → (∀ j o, ops[j]? = some o → listed.getD j true = true → ∀ e ∈ o.after, Region.binds .any e = true → listed.getD e.on true = true) → (left n listed).length = fuel → SV P ops St C D T Q (left n listed) a f → C w → (∀ k, f k w) →
      (∀ k j x y, j ≠ k → f k x → St j x y → f k y) → wpAny P .any ops Q' (fuel + m) listed a w
  | 0, listed, a, w, f, hsz, hB, _, hl, hS, hw, hf, _ => by
    have h0 : left n listed = [] := List.eq_nil_of_length_eq_zero hl
    rw [h0] at hS
    rw [Nat.zero_add]
    refine hQ _ _ _ hsz (fun k hk => ?_) hB (hS w hw hf)
    cases hb : listed.getD k true with
    | true => rfl
    | false =>
      obtain ⟨l1, l2, e1, _, _⟩ := left_set (show n ≤ listed.size by omega) hk hb
      rw [h0] at e1; simp at e1
  | fuel + 1, listed, a, w, f, hsz, hB, hcl, hl, hS, hw, hf, hst => by
    -- the first that is left
    obtain ⟨i0, hi0, hb0, hfirst⟩ : ∃ i0, i0 < n ∧ listed.getD i0 true = false ∧ ∀ k, k < i0 → listed.getD k true = true := by
      cases hll : left n listed with
      | nil => rw [hll] at hl; simp at hl
      | cons i l =>
        have hmem : i ∈ left n listed := by rw [hll]; exact List.mem_cons_self
        simp only [left, List.mem_filter, List.mem_range] at hmem
        refine ⟨i, hmem.1, by simpa using hmem.2, fun k hk => ?_⟩
        cases hb : listed.getD k true with
        | true => rfl
        | false =>
          exfalso
          have hs' : (left n listed).Pairwise (· < ·) := (List.pairwise_lt_range (n := n)).filter _
          have hk2 : k ∈ left n listed := by unfold left; rw [List.mem_filter]; exact ⟨List.mem_range.2 (by omega), by rw [hb]; rfl⟩
          rw [hll] at hk2 hs'
          rcases List.mem_cons.1 hk2 with e | e
          · omega
          · have := (List.pairwise_cons.1 hs').1 k e; omega
    rw [show fuel + 1 + m = (fuel + m) + 1 by omega]
    refine ⟨fun hnil => ?_, fun i hi => ?_⟩
    · exfalso
      have ho : ops[i0]? = some ops[i0] := Array.getElem?_eq_getElem (by omega)
      obtain ⟨h1, _, _, _⟩ := depsOk_spec hD hi0 ho
      have : i0 ∈ Region.ready .any ops listed := ready_iff.2 ⟨_, ho, hb0, fun e he hb => by
        have := h1 e he hb
        rw [← getD_tf (by omega)]; exact hfirst _ this⟩
      rw [hnil] at this; simp at this
    · obtain ⟨o, ho, hil, hia⟩ := ready_iff.1 hi
      have hin : i < n := by
        rcases Nat.lt_or_ge i n with h | h
        · exact h
        · exfalso
          obtain ⟨e, he, hb, hon⟩ := (tailOk_spec hTl h ho).2.2 i0 (by omega)
          have := hia e he hb
          rw [hon, ← getD_tf (by omega), hb0] at this
          simp at this
      obtain ⟨_, hDi, hsel, hk⟩ := depsOk_spec hD hin ho
      obtain ⟨l1, l2, e1, e2, e3⟩ := left_set (show n ≤ listed.size by omega) hin hil
      rw [e1] at hS hl
      have hp := pull ho hsel l1 l2 a f (fun k hkl => by
        obtain ⟨hlt, hkl'⟩ := e3 k hkl
        rcases hk k hlt with hr | ⟨ok, hok, hap, hnd⟩
        · exfalso
          have := reach_listed (L := fun k => listed.getD k true = true) hcl 6 i o ho (fun e he hb => by
            have h1 := (depsOk_spec hD hin ho).1 e he hb
            rw [getD_tf (by omega)]; exact hia e he hb) hr
          rw [hkl'] at this
          simp at this
        · have hds := depsOk_spec hD (show k < n by omega) hok
          exact ⟨ok, hok, hap, hnd, fun hh => by have := hds.2.1 i hh; omega, by omega, hds.2.2.1⟩) hS
      unfold SVat at hp
      unfold wpOp
      simp only [ho] at hp ⊢
      have hlen : (left n (listed.setIfInBounds i true)).length = fuel := by rw [e2]; simp at hl ⊢; omega
      have hB' : ∀ k, n ≤ k → k < ops.size → (listed.setIfInBounds i true).getD k true = false := fun k h1 h2 => by
        have := hB k h1 h2
        simp only [Array.getD_eq_getD_getElem?] at this ⊢
        rw [Array.getElem?_setIfInBounds_ne (by omega)]; exact this
      have hcl' : ∀ j oj, ops[j]? = some oj → (listed.setIfInBounds i true).getD j true = true → ∀ e ∈ oj.after, Region.binds .any e = true → (listed.setIfInBounds i true).getD e.on true = true := by
        have hget : ∀ k, (listed.setIfInBounds i true).getD k true = if k = i then true else listed.getD k true := by
          intro k
          simp only [Array.getD_eq_getD_getElem?]
          by_cases hk : k = i
          · subst hk; rw [Array.getElem?_setIfInBounds_self_of_lt (by omega)]; simp
          · rw [Array.getElem?_setIfInBounds_ne (fun e => hk e.symm), if_neg hk]
        intro j oj hoj hj e he hb
        rw [hget] at hj ⊢
        split
        · rfl
        · by_cases hji : j = i
          · subst hji
            rw [ho] at hoj; simp only [Option.some.injEq] at hoj; subst hoj
            have h1 := (depsOk_spec hD hin ho).1 e he hb
            rw [getD_tf (by omega)]; exact hia e he hb
          · rw [if_neg hji] at hj
            exact hcl j oj hoj hj e he hb
      split
      · rename_i hwt
        simp only [hwt, if_true] at hp
        refine .inl (wp_of_res (hp.1 w hw fun k _ => hf k) fun v w' hr => ?_)
        obtain ⟨φ, ht, hs, hφ⟩ := hr
        refine wpAny_of_SV hn hD hTl hT hC hQ fuel _ _ w' (updF f i φ) (by simpa using hsz) hB' hcl' hlen (by rw [e2]; exact hp.2.2 v φ ht) (hC _ _ _ hw hs) (fun k => ?_) (fun k j x y hjk hx hxy => ?_)
        · by_cases e : k = i
          · subst e; rw [updF_eq]; exact hφ
          · rw [updF_ne e]; exact hst k _ _ _ (fun e2 => e e2.symm) (hf k) hs
        · by_cases e : k = i
          · subst e; rw [updF_eq] at hx ⊢; exact hT _ _ _ _ ht _ _ _ hx hxy
          · rw [updF_ne e] at hx ⊢; exact hst k _ _ _ hjk hx hxy
      · rename_i hwt
        simp only [hwt] at hp
        refine wpAny_of_SV hn hD hTl hT hC hQ fuel _ _ w (updF f i fT) (by simpa using hsz) hB' hcl' hlen (by rw [e2]; exact hp) hw (fun k => ?_) (fun k j x y hjk hx hxy => ?_)
        · by_cases e : k = i
          · subst e; rw [updF_eq]; trivial
          · rw [updF_ne e]; exact hf k
        · by_cases e : k = i
          · subst e; rw [updF_eq]; trivial
          · rw [updF_ne e] at hx ⊢; exact hst k _ _ _ hjk hx hxy
/-- The tail, one by one. -/
theorem wpAny_tail {ds : List Deferred} {n : Nat} (hTl : tailOk ops n = true) {K : Exit → Env → World → Prop} {Q' : Exit → Act → World → Prop} {S : List Nat} {env0 : Env} (hK : ∀ e env' w', K e env' w' → Ag S env0 env' → Q' e (act ds env') w') :
    ∀ (ps : List OpP) (os : List Oper) (q : Nat) (listed : Array Bool) (env : Env) (w : World), n ≤ q → ops.toList.drop q = os → listed.size = ops.size → (∀ k, k < q → k < ops.size → listed.getD k true = true) → (∀ k, q ≤ k → k < ops.size → listed.getD k true = false) →
      (∀ o ∈ os, ∀ d, o.dst = some d → d ∈ S) → Ag S env0 env → evL P ops K ps os env w → wpAny P .any ops Q' os.length listed (act ds env) w
  | ps, [], q, listed, env, w, hq, hd, hsz, ht, hf, hS, ha, h => by
    have hqs : ops.size ≤ q := by
      have := congrArg List.length hd
      simp at this; omega
    refine ⟨?_, hK _ _ _ (by cases ps <;> exact h) ha⟩
    rw [List.eq_nil_iff_forall_not_mem]
    intro i hi
    obtain ⟨o, ho, hl, _⟩ := ready_iff.1 hi
    have hi' := (Array.getElem?_eq_some_iff.1 ho).1
    rw [ht i (by omega) hi'] at hl
    simp at hl
  | [], _ :: _, _, _, _, _, _, _, _, _, _, _, _, h => h.elim
  | p :: ps, o :: os, q, listed, env, w, hq, hd, hsz, ht, hf, hS, ha, h => by
    have hoq : ops[q]? = some o := by have := congrArg (·[0]?) hd; simpa using this
    have hos : ops.toList.drop (q + 1) = os := by have := congrArg List.tail hd; simpa using this
    have hqs := (Array.getElem?_eq_some_iff.1 hoq).1
    obtain ⟨hg, he1, he2⟩ := tailOk_spec hTl hq hoq
    rw [List.length_cons]
    refine ⟨fun hnil => ?_, fun i hi => ?_⟩
    · exfalso
      have : q ∈ Region.ready .any ops listed := ready_iff.2 ⟨o, hoq, hf q (Nat.le_refl _) hqs, fun e he hb => by
        have := he1 e he hb
        rw [← getD_tf (by omega)]; exact ht _ this (by omega)⟩
      rw [hnil] at this; simp at this
    · obtain ⟨o', ho', hil, hia⟩ := ready_iff.1 hi
      have hi' := (Array.getElem?_eq_some_iff.1 ho').1
      have hiq : i = q := by
        rcases Nat.lt_trichotomy i q with h1 | h1 | h1
        · rw [ht i h1 hi'] at hil; simp at hil
        · exact h1
        · exfalso
          obtain ⟨e, he, hb, hon⟩ := (tailOk_spec hTl (show n ≤ i by omega) ho').2.2 q h1
          have := hia e he hb
          rw [hon, ← getD_tf (by omega), hf q (Nat.le_refl _) hqs] at this
          simp at this
      subst hiq
      have ih := wpAny_tail hTl hK ps os (i + 1) (listed.setIfInBounds i true)
      have hset : ∀ k, (listed.setIfInBounds i true).getD k true = if k = i then true else listed.getD k true := by
        intro k
        simp only [Array.getD_eq_getD_getElem?]
        by_cases hk : k = i
        · subst hk; rw [Array.getElem?_setIfInBounds_self_of_lt (by omega)]; simp
        · rw [Array.getElem?_setIfInBounds_ne (fun e => hk e.symm), if_neg hk]
      unfold wpOp
      simp only [hoq]
      rw [if_pos (by simp [Region.wanted, hg])]
      simp only [evL, hg] at h
      refine .inl (evOp_sound h (fun v w' hk => ?_) (fun ch w' hk => hK _ _ _ hk ha))
      refine ih _ w' (by omega) hos (by simpa using hsz) (fun k h1 h2 => ?_) (fun k h1 h2 => ?_) (fun o' ho' => hS o' (List.mem_cons_of_mem _ ho')) (ha.trans (Ag.put env o.dst v (hS o List.mem_cons_self))) hk
      · rw [hset]
        split
        · rfl
        · exact ht k (by omega) h2
      · rw [hset, if_neg (by omega)]
        exact hf k (by omega) h2
end
end Go.Proofs.Ytdgnojjemlfhdaa.V
