/- What is proved here: each operation without memory comes, in Go's own run, to a value that is related to the evaluator's. The condition is the relation of its operands. -/
import Derived.Test.YtbjcajjlpehfiaaGreatDoorRfxD
import Derived.Laws.Slices
import Derived.Laws.StructEq
set_option linter.unusedVariables false
set_option linter.unusedSectionVars false
set_option linter.unusedSimpArgs false
set_option linter.constructorNameAsVariable false
namespace Go.Rfx
open Go
variable [Sy]

/-- operands read as the evaluator's -/
def OpR (p : Program) (φ : Phi) (F : T V) (ρ : Operand → Value) : Prop := ∀ x a v, cA p x = some a → gA F a = some v → RV φ v (ρ x)

section
variable {p : Program} {φ : Phi} {F : T V} {ρ : Operand → Value} {w : World} {o : Oper} {v : V}

theorem OpR.list (h : OpR p φ F ρ) : ∀ {xs : List Operand} {as : List A} {vs : List V}, xs.mapM (cA p) = some as → gAs F as = some vs → RVs φ vs (xs.map ρ)
  | [], as, vs, hc, hv => by simp at hc; subst hc; injection hv with hv; subst hv; exact .nil
  | x :: xs, as, vs, hc, hv => by
    rw [List.mapM_cons] at hc
    simp only [bind, Option.bind_eq_some_iff, pure] at hc
    obtain ⟨a, ha, r, hr, hc⟩ := hc
    injection hc with hc
    subst hc
    obtain ⟨y, hy, hv⟩ := ob_eq.1 (show ob (gA F a) _ = some vs from hv)
    obtain ⟨ys, hys, hv⟩ := ob_eq.1 hv
    injection hv with hv
    subst hv
    exact .cons _ _ _ _ (h _ _ _ ha hy) (OpR.list h hr hys)
theorem OpR.arr (h : OpR p φ F ρ) {xs : Array Operand} {as : List A} {vs : List V} (hc : cAs p xs = some as) (hv : gAs F as = some vs) : RVs φ vs (xs.map ρ).toList := by
  have := h.list hc hv
  simpa using this
/-- an operand that may lack -/
theorem OpR.opt (h : OpR p φ F ρ) {x : Option Operand} {a : Option A} {r : Option V} (hc : cAo p x = some a) (hv : gO F a = some r) :
    (x = none ∧ r = none) ∨ ∃ y v, x = some y ∧ r = some v ∧ RV φ v (ρ y) := by
  cases x with
  | none => simp [cAo] at hc; subst hc; injection hv with hv; exact .inl ⟨rfl, hv.symm⟩
  | some y =>
    simp only [cAo, Option.map_eq_some_iff] at hc
    obtain ⟨b, hb, rfl⟩ := hc
    obtain ⟨q, hq, hv⟩ := ob_eq.1 (show ob (gA F b) _ = some r from hv)
    injection hv with hv
    subst hv
    exact .inr ⟨y, q, rfl, rfl, h _ _ _ hb hq⟩

theorem OpR.take {β : Type} (h : OpR p φ F ρ) {x : Operand} {a : A} {k : V → Option β} {r : β} (ha : cA p x = some a) (hv : ob (gA F a) k = some r) : ∃ q, RV φ q (ρ x) ∧ k q = some r := by
  obtain ⟨q, hq, hv⟩ := ob_eq.1 hv
  exact ⟨q, h _ _ _ ha hq, hv⟩

/-- what such an operation comes to -/
def Does (p : Program) (φ : Phi) (ρ : Operand → Value) (o : Oper) (w : World) (v : V) : Prop := ∃ x, (execOp ρ o).run p w = .ok (.value x) w ∧ RV φ v x

theorem s_mv {x : Operand} {a : A} (h : OpR p φ F ρ) (ho : o.op = .move x ∨ o.op = .assign x) (ha : cA p x = some a) (hv : gA F a = some v) : Does p φ ρ o w v := by
  refine ⟨ρ x, ?_, h _ _ _ ha hv⟩
  rcases ho with ho | ho <;> simp [execOp, ho]
theorem s_pick {x y z : Operand} {a b c : A} (h : OpR p φ F ρ) (ho : o.op = .pick x y z) (ha : cA p x = some a) (hb : cA p y = some b) (hc : cA p z = some c) (hv : pPick F a b c = some v) : Does p φ ρ o w v := by
  obtain ⟨q, hq, hv⟩ := ob_eq.1 hv
  obtain ⟨t, rfl, hv⟩ := bK_some hv
  have hx := h _ _ _ ha hq
  generalize hρ : ρ x = r at hx
  cases hx
  cases t with
  | false => exact ⟨ρ z, by simp [execOp, ho, hρ, asBool], h _ _ _ hc hv⟩
  | true => exact ⟨ρ y, by simp [execOp, ho, hρ, asBool], h _ _ _ hb hv⟩

/-! ### numbers -/
theorem ho_bin {op : BinOp} {t y' : TypeId} {x y : Operand} (ho : o.op = .binOp op t x y y') (r : Value) (he : (eqGuard op t x y (ρ x) (ρ y)).run p w = .ok () w) (hb : (binOp op t (ρ x) (ρ y)).run p w = .ok r w) :
    (execOp ρ o).run p w = .ok (.value r) w := by
  simp [execOp, ho, he, hb]
theorem guard_ne {op : BinOp} {t : TypeId} {x y : Operand} {a b : Value} (h : ∀ l, a ≠ .agg l) (h' : a ≠ .nilIface) : (eqGuard op t x y a b).run p w = .ok () w := by
  cases a with
  | nilIface => exact absurd rfl h'
  | agg l => exact absurd rfl (h l)
  | _ => simp only [eqGuard_at_bool, eqGuard_at_int, eqGuard_at_float, eqGuard_at_complex, eqGuard_at_string, eqGuard_at_pointer, eqGuard_at_slice, eqGuard_at_map, eqGuard_at_chan, eqGuard_at_func, eqGuard_at_nilFunc, eqGuard_at_iface, eqGuard_at_tuple]; rfl
theorem intOp {op : BinOp} {t : TypeId} {k k' : IntKind} {m n : Int} (h : biI op k m k' n = some v) : ∃ x, (binOp op t (.int k m) (.int k' n)).run p w = .ok x w ∧ RV φ v x := by
  unfold biI at h
  rcases bc h with ⟨hs, h1⟩ | ⟨hs, h1⟩ <;> clear h
  · obtain ⟨hk, h⟩ := bcT h1
    clear h1
    rw [eqK_eq, decide_eq_true_iff] at hk
    subst hk
    have num : ∀ {r : Int}, vI k r = some v → ∀ {s : Sem Value}, s.run p w = .ok (.int k (k.wrap r)) w → ∃ x, s.run p w = .ok x w ∧ RV φ v x := by
      intro r h s hs
      rw [vI_eq] at h
      injection h with h
      subst h
      exact ⟨_, hs, .i _ _⟩
    have tru : ∀ {b : Bool}, vB b = some v → ∀ {s : Sem Value}, s.run p w = .ok (.bool b) w → ∃ x, s.run p w = .ok x w ∧ RV φ v x := by
      intro r h s hs
      rw [vB_eq] at h
      injection h with h
      subst h
      exact ⟨_, hs, .b _⟩
    cases op with
    | add => exact num h (by simp [binOp, Op.intArith, iadd_eq])
    | sub => exact num h (by simp [binOp, Op.intArith, iadd_eq, ineg_eq, Int.sub_eq_add_neg])
    | mul => exact num h (by simp [binOp, Op.intArith])
    | quo =>
      obtain ⟨h0, h⟩ := bcF (show (Bool.casesOn (ieq n 0) _ none : Option V) = some v from h)
      rw [ieq_eq, decide_eq_false_iff_not] at h0
      exact num h (by simp [binOp, Op.intDiv, h0])
    | rem =>
      obtain ⟨h0, h⟩ := bcF (show (Bool.casesOn (ieq n 0) _ none : Option V) = some v from h)
      rw [ieq_eq, decide_eq_false_iff_not] at h0
      simp only [iF_eq, Option.some.injEq] at h
      subst h
      exact ⟨_, by simp [binOp, Op.intDiv, h0], .i _ _⟩
    | and => exact num (show vI k _ = some v from h) (by simp [binOp, Op.intBits])
    | or => exact num (show vI k _ = some v from h) (by simp [binOp, Op.intBits])
    | xor => exact num (show vI k _ = some v from h) (by simp [binOp, Op.intBits])
    | andNot => exact num (show vI k _ = some v from h) (by simp [binOp, Op.intBits])
    | eql => exact tru h (by rw [ieq_eq]; simp [binOp, Op.intCmp]; rfl)
    | neq => exact tru h (by rw [ieq_eq]; simp [binOp, Op.intCmp]; rfl)
    | lss => exact tru h (by rw [ilt_eq]; simp [binOp, Op.intCmp])
    | leq => exact tru h (by rw [ilt_eq, ← decide_not]; simp [binOp, Op.intCmp])
    | gtr => exact tru h (by rw [ilt_eq]; simp [binOp, Op.intCmp])
    | geq => exact tru h (by rw [ilt_eq, ← decide_not]; simp [binOp, Op.intCmp])
    | shl => cases hs
    | shr => cases hs
  · unfold biS at h1
    obtain ⟨h0, h⟩ := bcF h1
    clear h1
    rw [ilt_eq, decide_eq_false_iff_not] at h0
    cases op with
    | shl =>
      simp only [vI_eq, Option.some.injEq] at h
      subst h
      exact ⟨_, by simp [binOp, Op.shift, h0, shN], .i _ _⟩
    | shr =>
      simp only [iF_eq, Option.some.injEq] at h
      subst h
      exact ⟨_, by simp [binOp, Op.shift, h0, shN], .i _ _⟩
    | _ => cases hs

/-! ### numbers that are not known -/
theorem i64_rng (x : Int) : -9223372036854775808 ≤ IntKind.i64.wrap x ∧ IntKind.i64.wrap x ≤ 9223372036854775807 := by
  simp only [IntKind.wrap, IntKind.signed, IntKind.bits, Bool.true_and, decide_eq_true_eq, show ((2 : Int) ^ 64) = 18446744073709551616 from rfl, show ((2 : Int) ^ (64 - 1)) = 9223372036854775808 from rfl]
  split <;> omega
theorem i64_id {x : Int} (h1 : -9223372036854775808 ≤ x) (h2 : x ≤ 9223372036854775807) : IntKind.i64.wrap x = x := by
  simp only [IntKind.wrap, IntKind.signed, IntKind.bits, Bool.true_and, decide_eq_true_eq, show ((2 : Int) ^ 64) = 18446744073709551616 from rfl, show ((2 : Int) ^ (64 - 1)) = 9223372036854775808 from rfl]
  split <;> omega
theorem yFull_rel {e : Ex} (h : yFull e = some v) (h1 : -9223372036854775808 ≤ e.den) (h2 : e.den ≤ 9223372036854775807) : RV φ v (.int .i64 e.den) := by
  injection h with h
  subst h
  exact .y _ _ _ h1 h2
theorem yV_rel {lo hi : Int} {e : Ex} (h : yV lo hi e = some v) (h1 : lo ≤ e.den) (h2 : e.den ≤ hi) : RV φ v (.int .i64 e.den) := by
  unfold yV at h
  rw [iF_eq, iF_eq] at h
  injection h with h
  subst h
  exact .y _ _ _ h1 h2
theorem pow_pos' (n : Nat) : (0 : Int) < ((2 ^ n : Nat) : Int) := by
  have : 0 < 2 ^ n := Nat.two_pow_pos n
  exact_mod_cast this
theorem yShl_rel {lo hi : Int} {e : Ex} {n : Nat} (h : yShl lo hi e n = some v) (h1 : lo ≤ e.den) (h2 : e.den ≤ hi) : RV φ v (.int .i64 (IntKind.i64.wrap (e.den * (2 ^ n : Nat)))) := by
  have hp := pow_pos' n
  unfold yShl at h
  have full : yFull (.ws e n) = some v → RV φ v (.int .i64 (IntKind.i64.wrap (e.den * (2 ^ n : Nat)))) := fun h => yFull_rel (e := .ws e n) h (i64_rng _).1 (i64_rng _).2
  rcases bc h with ⟨hc, h⟩ | ⟨hc, h⟩
  · rw [ilt_eq, decide_eq_false_iff_not] at hc
    rcases bc h with ⟨hd, h⟩ | ⟨hd, h⟩
    · exact full h
    · rw [ilt_eq, decide_eq_true_iff] at hd
      have g1 : lo * (2 ^ n : Nat) ≤ e.den * (2 ^ n : Nat) := Int.mul_le_mul_of_nonneg_right h1 (Int.le_of_lt hp)
      have g2 : e.den * (2 ^ n : Nat) ≤ hi * (2 ^ n : Nat) := Int.mul_le_mul_of_nonneg_right h2 (Int.le_of_lt hp)
      have g0 : 0 ≤ lo * (2 ^ n : Nat) := Int.mul_nonneg (by omega) (Int.le_of_lt hp)
      rw [i64_id (by omega) (by omega)]
      exact yV_rel (e := .sl e n) h g1 g2
  · exact full h
theorem fdiv_mono {a b : Int} (n : Nat) (h : a ≤ b) : a.fdiv (2 ^ n : Nat) ≤ b.fdiv (2 ^ n : Nat) := by
  have hp := pow_pos' n
  rw [Int.fdiv_eq_ediv_of_nonneg _ (Int.le_of_lt hp), Int.fdiv_eq_ediv_of_nonneg _ (Int.le_of_lt hp)]
  exact Int.ediv_le_ediv hp h
theorem fdiv_mul (a : Int) (n : Nat) : (a * (2 ^ n : Nat)).fdiv (2 ^ n : Nat) = a := by
  have hp := pow_pos' n
  rw [Int.fdiv_eq_ediv_of_nonneg _ (Int.le_of_lt hp)]
  exact Int.mul_ediv_cancel _ (by omega)
theorem ySr_rel {lo hi : Int} {e : Ex} {n : Nat} (h : ySr lo hi e n = some v) (h1 : lo ≤ e.den) (h2 : e.den ≤ hi) : RV φ v (.int .i64 (e.den.fdiv (2 ^ n : Nat))) :=
  yV_rel (e := .sr e n) h (fdiv_mono n h1) (fdiv_mono n h2)
theorem yShr_rel {lo hi : Int} {e : Ex} {n : Nat} (h : yShr lo hi e n = some v) (h1 : lo ≤ e.den) (h2 : e.den ≤ hi) : RV φ v (.int .i64 (e.den.fdiv (2 ^ n : Nat))) := by
  cases e with
  | sl x m =>
    rcases bc (show (Bool.casesOn (Nat.beq m n) _ _ : Option V) = some v from h) with ⟨hc, h⟩ | ⟨hc, h⟩
    · exact ySr_rel h h1 h2
    · obtain rfl := Nat.eq_of_beq_eq_true hc
      have e1 : (Ex.sl x m).den.fdiv (2 ^ m : Nat) = x.den := fdiv_mul _ _
      have g1 := fdiv_mono m h1
      have g2 := fdiv_mono m h2
      rw [e1] at g1 g2 ⊢
      exact yV_rel h g1 g2
  | _ => exact ySr_rel h h1 h2
theorem intOpY {op : BinOp} {t : TypeId} {lo hi : Int} {e : Ex} {k : IntKind} {c : Int} (h : biY op lo hi e k c = some v) (h1 : lo ≤ e.den) (h2 : e.den ≤ hi) : ∃ x, (binOp op t (.int .i64 e.den) (.int k c)).run p w = .ok x w ∧ RV φ v x := by
  unfold biY at h
  rcases bc h with ⟨hs, h⟩ | ⟨hs, h⟩
  · obtain ⟨hk, h⟩ := bcT h
    rw [eqK_eq, decide_eq_true_iff] at hk
    subst hk
    have tru : ∀ (b : Bool), some (V.b b) = some v → ∀ {s : Sem Value}, s.run p w = .ok (.bool b) w → ∃ x, s.run p w = .ok x w ∧ RV φ v x := by
      intro r h s hs
      injection h with h
      subst h
      exact ⟨_, hs, .b _⟩
    have two : ∀ {q q' : Bool} {r s : Option V}, (Bool.casesOn q (Bool.casesOn q' r none) s : Option V) = some v → (q = false ∧ q' = false ∧ r = some v) ∨ (q = true ∧ s = some v) := by
      intro q q' r s h
      cases q
      · cases q'
        · exact .inl ⟨rfl, rfl, h⟩
        · cases h
      · exact .inr ⟨rfl, h⟩
    cases op with
    | lss =>
      rcases two h with ⟨q1, q2, h⟩ | ⟨q1, h⟩
      · rw [ilt_eq, decide_eq_false_iff_not] at q1 q2
        exact tru _ h (by simp only [binOp, Op.intCmp, ne_eq, not_true_eq_false, if_false, Sem.run_pure]; rw [decide_eq_false (by omega)])
      · rw [ilt_eq, decide_eq_true_iff] at q1
        exact tru _ h (by simp only [binOp, Op.intCmp, ne_eq, not_true_eq_false, if_false, Sem.run_pure]; rw [decide_eq_true (by omega)])
    | geq =>
      rcases two h with ⟨q1, q2, h⟩ | ⟨q1, h⟩
      · rw [ilt_eq, decide_eq_false_iff_not] at q1 q2
        exact tru _ h (by simp only [binOp, Op.intCmp, ne_eq, not_true_eq_false, if_false, Sem.run_pure]; rw [decide_eq_true (by omega)])
      · rw [ilt_eq, decide_eq_true_iff] at q1
        exact tru _ h (by simp only [binOp, Op.intCmp, ne_eq, not_true_eq_false, if_false, Sem.run_pure]; rw [decide_eq_false (by omega)])
    | gtr =>
      rcases two h with ⟨q1, q2, h⟩ | ⟨q1, h⟩
      · rw [ilt_eq, decide_eq_false_iff_not] at q1 q2
        exact tru _ h (by simp only [binOp, Op.intCmp, ne_eq, not_true_eq_false, if_false, Sem.run_pure]; rw [decide_eq_false (by omega)])
      · rw [ilt_eq, decide_eq_true_iff] at q1
        exact tru _ h (by simp only [binOp, Op.intCmp, ne_eq, not_true_eq_false, if_false, Sem.run_pure]; rw [decide_eq_true (by omega)])
    | leq =>
      rcases two h with ⟨q1, q2, h⟩ | ⟨q1, h⟩
      · rw [ilt_eq, decide_eq_false_iff_not] at q1 q2
        exact tru _ h (by simp only [binOp, Op.intCmp, ne_eq, not_true_eq_false, if_false, Sem.run_pure]; rw [decide_eq_true (by omega)])
      · rw [ilt_eq, decide_eq_true_iff] at q1
        exact tru _ h (by simp only [binOp, Op.intCmp, ne_eq, not_true_eq_false, if_false, Sem.run_pure]; rw [decide_eq_false (by omega)])
    | _ => first | cases h | cases hs
  · unfold biYS at h
    obtain ⟨h0, h⟩ := bcF h
    rw [ilt_eq, decide_eq_false_iff_not] at h0
    rw [nF_eq] at h
    cases op with
    | shl =>
      refine ⟨_, ?_, yShl_rel (φ := φ) h h1 h2⟩
      simp [binOp, Op.shift, h0, shN]
    | shr =>
      refine ⟨_, ?_, yShr_rel (φ := φ) h h1 h2⟩
      simp [binOp, Op.shift, h0, shN]
    | _ => cases hs
theorem intOpYY {op : BinOp} {t : TypeId} {lo hi : Int} {e : Ex} {lo' hi' : Int} {e' : Ex} (h : biYY op lo hi e lo' hi' e' = some v) (h1 : lo ≤ e.den) (h2 : e.den ≤ hi) (h3 : lo' ≤ e'.den) (h4 : e'.den ≤ hi') :
    ∃ x, (binOp op t (.int .i64 e.den) (.int .i64 e'.den)).run p w = .ok x w ∧ RV φ v x := by
  cases op with
  | add =>
    obtain ⟨q1, h⟩ := bcF (show (Bool.casesOn (ilt (iadd lo lo') (Int.negSucc 9223372036854775807)) _ none : Option V) = some v from h)
    obtain ⟨q2, h⟩ := bcT h
    rw [ilt_eq, decide_eq_false_iff_not] at q1
    rw [ilt_eq, decide_eq_true_iff] at q2
    rw [iadd_eq] at q1 q2 h
    rw [iadd_eq] at h
    have e1 : (Int.negSucc 9223372036854775807) = -9223372036854775808 := rfl
    rw [e1] at q1
    refine ⟨.int .i64 (e.den + e'.den), ?_, yV_rel (e := .ad e e') h (by show _ ≤ e.den + e'.den; omega) (by show e.den + e'.den ≤ _; omega)⟩
    have : IntKind.i64.wrap (e.den + e'.den) = e.den + e'.den := i64_id (by omega) (by omega)
    simp [binOp, Op.intArith, this]
  | mul =>
    exact ⟨.int .i64 (IntKind.i64.wrap (e.den * e'.den)), by simp [binOp, Op.intArith], yFull_rel (e := .wm e e') h (i64_rng _).1 (i64_rng _).2⟩
  | _ => cases h

theorem s_bi {op : BinOp} {t t' : TypeId} {x y : Operand} {a b : A} (h : OpR p φ F ρ) (ho : o.op = .binOp op t x y t') (ha : cA p x = some a) (hb : cA p y = some b) (hv : pBi F op a b = some v) : Does p φ ρ o w v := by
  obtain ⟨q, hx, v1⟩ := h.take ha hv
  obtain ⟨r, hy, v2⟩ := h.take hb v1
  generalize hρ : ρ x = r1 at hx
  generalize hρ' : ρ y = r2 at hy
  have fin : ∀ {k k' : IntKind} {m n : Int}, r1 = .int k m → r2 = .int k' n → (∃ x, (binOp op t (.int k m) (.int k' n)).run p w = .ok x w ∧ RV φ v x) → Does p φ ρ o w v := by
    rintro k k' m n rfl rfl ⟨z, hz, hrel⟩
    refine ⟨z, ho_bin ho z ?_ ?_, hrel⟩
    · rw [hρ]; exact guard_ne (fun _ e => by cases e) (fun e => by cases e)
    · rw [hρ, hρ']; exact hz
  rcases yK_some (show V.yK q _ _ = some v from v2) with v2 | ⟨lo, hi, e, rfl, v2⟩
  · obtain ⟨k, m, rfl, v3⟩ := iK_some v2
    obtain ⟨k', n, rfl, v4⟩ := iK_some v3
    cases hx; cases hy
    exact fin rfl rfl (intOp v4)
  · cases hx with
    | y _ _ _ h1 h2 =>
    rcases yK_some (show V.yK r _ _ = some v from v2) with v2 | ⟨lo', hi', e', rfl, v2⟩
    · obtain ⟨k', n, rfl, v4⟩ := iK_some v2
      cases hy
      exact fin rfl rfl (intOpY v4 h1 h2)
    · cases hy with
      | y _ _ _ h3 h4 => exact fin rfl rfl (intOpYY v2 h1 h2 h3 h4)

/-! ### strings -/
theorem bytes_inj {a b : List UInt8} (h : a.map UInt8.toNat = b.map UInt8.toNat) : a = b := by
  induction a generalizing b with
  | nil => cases b with | nil => rfl | cons _ _ => simp at h
  | cons x a ih =>
    cases b with
    | nil => simp at h
    | cons y b =>
      simp only [List.map_cons, List.cons.injEq] at h
      rw [ih h.2, UInt8.toNat_inj.1 h.1]
theorem str_beq (a b : ByteArray) : (a.data.toList.map UInt8.toNat == b.data.toList.map UInt8.toNat) = (a.toList == b.toList) := by
  rw [ByteArray.toList_eq, ByteArray.toList_eq, Bool.eq_iff_iff]
  simp only [beq_iff_eq]
  exact ⟨bytes_inj, fun h => by rw [h]⟩
theorem s_bs {op : BinOp} {t t' : TypeId} {x y : Operand} {a b : A} (h : OpR p φ F ρ) (ho : o.op = .binOp op t x y t') (ha : cA p x = some a) (hb : cA p y = some b) (hv : pBs F op a b = some v) : Does p φ ρ o w v := by
  obtain ⟨q, hx, v1⟩ := h.take ha hv
  obtain ⟨l, rfl, v2⟩ := sK_some v1
  obtain ⟨r, hy, v3⟩ := h.take hb v2
  obtain ⟨m, rfl, v4⟩ := sK_some v3
  clear hv v1 v2 v3
  generalize hρ : ρ x = r1 at hx
  generalize hρ' : ρ y = r2 at hy
  cases hx with | s _ sx hsx => cases hy with | s _ sy hsy =>
  have key : ∃ z, (binOp op t (.string sx) (.string sy)).run p w = .ok z w ∧ RV φ v z := by
    subst hsx; subst hsy
    cases op with
    | eql => simp only [biT, vB_eq, eqL_eq, str_beq, Option.some.injEq] at v4; subst v4; exact ⟨_, by simp [binOp, Op.stringOp], .b _⟩
    | neq => simp only [biT, vB_eq, eqL_eq, str_beq, Option.some.injEq] at v4; subst v4; exact ⟨_, by simp [binOp, Op.stringOp], .b _⟩
    | add =>
      simp only [biT] at v4
      obtain ⟨hn, v5⟩ := bcT v4
      rw [lF_eq] at v5
      injection v5 with v5
      subst v5
      simp only [lenL_eq, List.length_map, Nat.ble_eq] at hn
      have hn' : ¬ (((sx.size + sy.size : Nat) : Int) > IntKind.i64.max) := by
        have h1 : sx.size = sx.data.toList.length := rfl
        have h2 : sy.size = sy.data.toList.length := rfl
        have : sx.data.toList.length + sy.data.toList.length ≤ 1000000 := hn
        rw [IntKind.max_i64]; omega
      refine ⟨.string (sx ++ sy), by simp only [binOp, Op.stringOp, if_neg hn']; rfl, .s _ _ ?_⟩
      rw [appL_eq, ← List.map_append]
      congr 1
    | _ => cases v4
  obtain ⟨z, hz, hrel⟩ := key
  refine ⟨z, ho_bin ho z ?_ ?_, hrel⟩
  · rw [hρ]; exact guard_ne (fun _ e => by cases e) (fun e => by cases e)
  · rw [hρ, hρ']; exact hz

/-! ### bools, nils, structs -/
theorem s_bb {ne : Bool} {op : BinOp} {t t' : TypeId} {x y : Operand} {a b : A} (h : OpR p φ F ρ) (ho : o.op = .binOp op t x y t') (ht : p.underlying t = some .bool)
    (hop : (op = .eql ∧ ne = false) ∨ (op = .neq ∧ ne = true)) (ha : cA p x = some a) (hb : cA p y = some b) (hv : pBb F ne a b = some v) : Does p φ ρ o w v := by
  obtain ⟨q, hx, v1⟩ := h.take ha hv
  obtain ⟨l, rfl, v2⟩ := bK_some v1
  obtain ⟨r, hy, v3⟩ := h.take hb v2
  obtain ⟨m, rfl, v4⟩ := bK_some v3
  clear hv v1 v2 v3
  generalize hρ : ρ x = r1 at hx
  generalize hρ' : ρ y = r2 at hy
  cases hx; cases hy
  rw [vB_eq, Option.some.injEq] at v4
  subst v4
  refine ⟨_, ho_bin ho (.bool (xorB ne (Bool.not (xorB l m)))) ?_ ?_, .b _⟩
  · rw [hρ]; exact guard_ne (fun _ e => by cases e) (fun e => by cases e)
  · rw [hρ, hρ']
    rcases hop with ⟨rfl, rfl⟩ | ⟨rfl, rfl⟩
    · rw [run_eql_bool _ _ _ _ ht]; cases l <;> cases m <;> rfl
    · rw [run_neq_bool _ _ _ _ ht]; cases l <;> cases m <;> rfl

def NilX (nk : NK) (x : Value) : Prop := match nk with | .p => x = .pointer none | .s => x = .slice none 0 0 | .m => x = .map none | .f => x = .nilFunc | .w => x = .nilIface
def NonX (nk : NK) (x : Value) : Prop := match nk with | .p => ∃ a, x = .pointer (some a) | .s => ∃ a n c, x = .slice (some a) n c | .m => ∃ r, x = .map (some r) | .f => ∃ f a c, x = .func f a c | .w => ∃ t v, x = .iface t v
theorem nK_rel {β : Type} {nk : NK} {v : V} {x : Value} {y n : Option β} {r : β} (h : V.nK nk v none y n = some r) (hx : RV φ v x) : (NilX nk x ∧ y = some r) ∨ (NonX nk x ∧ n = some r) := by
  cases nk <;> cases hx <;> first
    | (cases h; done)
    | exact .inl ⟨rfl, h⟩
    | exact .inr ⟨⟨_, rfl⟩, h⟩
    | exact .inr ⟨⟨_, _, rfl⟩, h⟩
    | exact .inr ⟨⟨_, _, _, rfl⟩, h⟩
/-- the type is of that kind -/
def NKt (p : Program) (nk : NK) (t : TypeId) : Prop := match nk with
  | .p => ∃ e, p.underlying t = some (.pointer e) | .s => ∃ e, p.underlying t = some (.slice e) | .m => ∃ k e, p.underlying t = some (.map k e)
  | .f => ∃ a b c, p.underlying t = some (.func a b c) | .w => ∃ ms, p.underlying t = some (.interface ms)
theorem eq_nn {nk : NK} {t : TypeId} {X Y : Value} (d : Nat) (ht : NKt p nk t) (h : NilX nk X) (k : NilX nk Y) : (Op.equalIn (d + 1) t X Y).run p w = .ok true w := by
  cases nk with
  | p => obtain ⟨_, ht⟩ := ht; cases h; cases k; simp [Op.equalIn, run_underlying ht]
  | s => obtain ⟨_, ht⟩ := ht; cases h; cases k; simp [Op.equalIn, run_underlying ht]
  | m => obtain ⟨_, _, ht⟩ := ht; cases h; cases k; simp [Op.equalIn, run_underlying ht]
  | f => obtain ⟨_, _, _, ht⟩ := ht; cases h; cases k; simp [Op.equalIn, run_underlying ht]
  | w => obtain ⟨_, ht⟩ := ht; cases h; cases k; simp [Op.equalIn, run_underlying ht]
theorem eq_ns {nk : NK} {t : TypeId} {X Y : Value} (d : Nat) (ht : NKt p nk t) (h : NilX nk X) (k : NonX nk Y) : (Op.equalIn (d + 1) t X Y).run p w = .ok false w := by
  cases nk with
  | p => obtain ⟨_, ht⟩ := ht; cases h; obtain ⟨_, rfl⟩ := k; simp [Op.equalIn, run_underlying ht]
  | s => obtain ⟨_, ht⟩ := ht; cases h; obtain ⟨_, _, _, rfl⟩ := k; simp [Op.equalIn, run_underlying ht]
  | m => obtain ⟨_, _, ht⟩ := ht; cases h; obtain ⟨_, rfl⟩ := k; simp [Op.equalIn, run_underlying ht]
  | f => obtain ⟨_, _, _, ht⟩ := ht; cases h; obtain ⟨_, _, _, rfl⟩ := k; simp [Op.equalIn, run_underlying ht]
  | w => obtain ⟨_, ht⟩ := ht; cases h; obtain ⟨_, _, rfl⟩ := k; simp [Op.equalIn, run_underlying ht]
theorem eq_sn {nk : NK} {t : TypeId} {X Y : Value} (d : Nat) (ht : NKt p nk t) (h : NonX nk X) (k : NilX nk Y) : (Op.equalIn (d + 1) t X Y).run p w = .ok false w := by
  cases nk with
  | p => obtain ⟨_, ht⟩ := ht; cases k; obtain ⟨_, rfl⟩ := h; simp [Op.equalIn, run_underlying ht]
  | s => obtain ⟨_, ht⟩ := ht; cases k; obtain ⟨_, _, _, rfl⟩ := h; simp [Op.equalIn, run_underlying ht]
  | m => obtain ⟨_, _, ht⟩ := ht; cases k; obtain ⟨_, rfl⟩ := h; simp [Op.equalIn, run_underlying ht]
  | f => obtain ⟨_, _, _, ht⟩ := ht; cases k; obtain ⟨_, _, _, rfl⟩ := h; simp [Op.equalIn, run_underlying ht]
  | w => obtain ⟨_, ht⟩ := ht; cases k; obtain ⟨_, _, rfl⟩ := h; simp [Op.equalIn, run_underlying ht]
theorem nil_bin {nk : NK} {t : TypeId} {X Y : Value} (h : NilX nk X ∨ NonX nk X) : binOp .eql t X Y = (do pure (.bool (← Op.equal t X Y))) ∧ binOp .neq t X Y = (do pure (.bool (!(← Op.equal t X Y)))) := by
  cases nk <;> simp only [NilX, NonX] at h
  · rcases h with rfl | ⟨_, rfl⟩ <;> exact ⟨rfl, rfl⟩
  · rcases h with rfl | ⟨_, _, _, rfl⟩ <;> exact ⟨rfl, rfl⟩
  · rcases h with rfl | ⟨_, rfl⟩ <;> exact ⟨rfl, rfl⟩
  · rcases h with rfl | ⟨_, _, _, rfl⟩ <;> exact ⟨rfl, rfl⟩
  · rcases h with rfl | ⟨_, _, rfl⟩ <;> exact ⟨rfl, rfl⟩
theorem guard_nil {nk : NK} {op : BinOp} {t : TypeId} {x y : Operand} {X Y : Value} (hc : nk = .w → isNilC x = true ∨ isNilC y = true) (h : NilX nk X ∨ NonX nk X) (h' : NilX nk Y ∨ NonX nk Y) : (eqGuard op t x y X Y).run p w = .ok () w := by
  by_cases hX : X = .nilIface
  · subst hX
    cases nk with
    | w =>
      rcases h' with h' | ⟨_, _, h'⟩
      · simp only [NilX] at h'; subst h'
        rcases hc rfl with hc | hc
        · cases x <;> first | (cases hc; done) | (rw [eqGuard_nil_constL]; rfl)
        · cases y <;> first | (cases hc; done) | (rw [eqGuard_nil_constR]; rfl)
      · subst h'; rw [eqGuard_nil_iface]; rfl
    | _ => rcases h with h | h <;> simp [NilX, NonX] at h
  · refine guard_ne (fun l e => ?_) hX
    subst e
    cases nk <;> simp [NilX, NonX] at h
theorem s_bn {nk : NK} {ne : Bool} {op : BinOp} {t t' : TypeId} {x y : Operand} {a b : A} (h : OpR p φ F ρ) (ho : o.op = .binOp op t x y t') (ht : NKt p nk t) (hc : nk = .w → isNilC x = true ∨ isNilC y = true)
    (hop : (op = .eql ∧ ne = false) ∨ (op = .neq ∧ ne = true)) (ha : cA p x = some a) (hb : cA p y = some b) (hv : pBn F nk ne a b = some v) : Does p φ ρ o w v := by
  obtain ⟨q, hx, v1⟩ := h.take ha hv
  obtain ⟨r, hy, v2⟩ := h.take hb v1
  clear hv v1
  have fin : ∀ bb : Bool, v = .b bb → ∀ c, (Op.equal t (ρ x) (ρ y)).run p w = .ok c w → (NilX nk (ρ x) ∨ NonX nk (ρ x)) → (NilX nk (ρ y) ∨ NonX nk (ρ y)) → (bb = if ne then !c else c) → Does p φ ρ o w v := by
    intro bb hv c hc' h1 h2 he
    subst hv
    refine ⟨_, ho_bin ho (.bool bb) (guard_nil hc h1 h2) ?_, .b _⟩
    rcases hop with ⟨rfl, rfl⟩ | ⟨rfl, rfl⟩
    · rw [(nil_bin h1).1]; simp [hc', he]
    · rw [(nil_bin h1).2]; simp [hc', he]
  rcases nK_rel v2 hx with ⟨h1, v3⟩ | ⟨h1, v3⟩ <;> rcases nK_rel v3 hy with ⟨h2, v4⟩ | ⟨h2, v4⟩
  · rw [vB_eq, Option.some.injEq] at v4
    exact fin _ v4.symm _ (eq_nn 9999 ht h1 h2) (.inl h1) (.inl h2) (by cases ne <;> rfl)
  · rw [vB_eq, Option.some.injEq] at v4
    exact fin _ v4.symm _ (eq_ns 9999 ht h1 h2) (.inl h1) (.inr h2) (by cases ne <;> rfl)
  · rw [vB_eq, Option.some.injEq] at v4
    exact fin _ v4.symm _ (eq_sn 9999 ht h1 h2) (.inr h1) (.inl h2) (by cases ne <;> rfl)
  · cases v4
end
end Go.Rfx
