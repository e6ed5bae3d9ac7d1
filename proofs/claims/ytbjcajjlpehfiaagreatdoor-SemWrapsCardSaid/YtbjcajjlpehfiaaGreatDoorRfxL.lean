/- What is proved here: operations that look into memory come, in Go's own run, to values that are related to the evaluator's. The conditions are the relations of operands and of memory. -/
import Derived.Test.YtbjcajjlpehfiaaGreatDoorRfxJ
import Derived.LaidEqlPtr
set_option linter.unusedVariables false
set_option linter.unusedSectionVars false
set_option linter.unusedSimpArgs false
set_option linter.constructorNameAsVariable false
namespace Go.Rfx
open Go
variable [Sy]

section
variable {β : Type}
theorem bC_some {b : B} {k : List V → Bool → Bool → Option β} {r : β} (h : bC b none k = some r) : ∃ l ro cl, b = .c l ro cl ∧ k l ro cl = some r := by
  cases b with
  | c l ro cl => exact ⟨l, ro, cl, rfl, h⟩
  | m es => cases h
theorem bM_some {b : B} {k : List (V × V) → Option β} {r : β} (h : bM b none k = some r) : ∃ es, b = .m es ∧ k es = some r := by
  cases b with
  | c l ro cl => cases h
  | m es => exact ⟨es, rfl, h⟩
end

/-! ### keys -/
/-- where the first such key stands -/
noncomputable def fidx (h : H) (kk : KK) (k : V) : List (V × V) → Option (Option Nat)
  | [] => some none
  | e :: r => ob (keyEq h kk k e.1) fun q => if q then some (some 0) else (fidx h kk k r).map (·.map (· + 1))
theorem find_cons (h : H) (kk : KK) (k : V) (e : V × V) (r : List (V × V)) : find h kk k (e :: r) = ob (keyEq h kk k e.1) fun q => Bool.casesOn q (find h kk k r) (some (some e.2)) := rfl
theorem upd_cons (h : H) (kk : KK) (k x : V) (e : V × V) (r : List (V × V)) : upd h kk k x (e :: r) = ob (keyEq h kk k e.1) fun q => Bool.casesOn q (ob (upd h kk k x r) fun r => some (e :: r)) (some ((k, x) :: r)) := rfl
theorem find_fidx {h : H} {kk : KK} {k : V} : ∀ {es : List (V × V)} {r : Option V}, find h kk k es = some r → ∃ fi, fidx h kk k es = some fi ∧ (match fi with | none => r = none | some j => ∃ e, es[j]? = some e ∧ r = some e.2)
  | [], r, hf => by injection hf with hf; exact ⟨none, rfl, hf.symm⟩
  | e :: es, r, hf => by
    rw [find_cons] at hf
    obtain ⟨q, hq, h1⟩ := ob_eq.1 hf
    cases q with
    | true => injection h1 with h1; exact ⟨some 0, by simp [fidx, hq], e, rfl, h1.symm⟩
    | false =>
      obtain ⟨fi, h2, h3⟩ := find_fidx (show find h kk k es = some r from h1)
      cases fi with
      | none => exact ⟨none, by simp [fidx, hq, h2], h3⟩
      | some j => obtain ⟨e', h4, h5⟩ := h3; exact ⟨some (j + 1), by simp [fidx, hq, h2], e', h4, h5⟩
theorem upd_fidx {h : H} {kk : KK} {k x : V} : ∀ {es r : List (V × V)}, upd h kk k x es = some r → ∃ fi, fidx h kk k es = some fi ∧ (match fi with | none => r = es ++ [(k, x)] | some j => (∃ e, es[j]? = some e ∧ keyEq h kk k e.1 = some true) ∧ r = es.set j (k, x))
  | [], r, hf => by injection hf with hf; exact ⟨none, rfl, hf.symm⟩
  | e :: es, r, hf => by
    rw [upd_cons] at hf
    obtain ⟨q, hq, h1⟩ := ob_eq.1 hf
    cases q with
    | true => injection h1 with h1; exact ⟨some 0, by simp [fidx, hq], ⟨e, rfl, hq⟩, h1.symm⟩
    | false =>
      obtain ⟨r', h2, h3⟩ := ob_eq.1 (show ob (upd h kk k x es) _ = some r from h1)
      injection h3 with h3
      subst h3
      obtain ⟨fi, h4, h5⟩ := upd_fidx h2
      cases fi with
      | none => exact ⟨none, by simp [fidx, hq, h4], by simp [h5]⟩
      | some j => obtain ⟨⟨e', h6, h7⟩, h8⟩ := h5; exact ⟨some (j + 1), by simp [fidx, hq, h4], ⟨e', by simpa using h6, h7⟩, by simp [h8]⟩

section
variable {p : Program} {φ : Phi} {h : H} {w : World}
/-- entries stand for Go's -/
def REs (φ : Phi) (es : List (V × V)) (xs : List MapEntry) : Prop := es.length = xs.length ∧ ∀ (j : Nat) (e : V × V), es[j]? = some e → ∃ x, xs[j]? = some x ∧ RV φ e.1 x.key ∧ RV φ e.2 x.val
theorem REs.cons {e : V × V} {es : List (V × V)} {x : MapEntry} {xs : List MapEntry} (hr : REs φ (e :: es) (x :: xs)) : RV φ e.1 x.key ∧ RV φ e.2 x.val ∧ REs φ es xs := by
  obtain ⟨y, hy, h1, h2⟩ := hr.2 0 e rfl
  injection hy with hy
  subst hy
  exact ⟨h1, h2, by simpa using hr.1, fun j q hq => by simpa using hr.2 (j + 1) q (by simpa using hq)⟩
/-- what a search comes to -/
def Fnd (xs : List MapEntry) (i : Nat) (fi : Option Nat) (R : Option (Nat × Value)) : Prop := match fi with | none => R = none | some j => ∃ e, xs[j]? = some e ∧ R = some (i + j, e.val)
theorem Fnd.cons {x : MapEntry} {xs : List MapEntry} {i : Nat} {fi : Option Nat} {R : Option (Nat × Value)} (hf : Fnd xs (i + 1) fi R) : Fnd (x :: xs) i (fi.map (· + 1)) R := by
  cases fi with
  | none => exact hf
  | some j => obtain ⟨e, h1, h2⟩ := hf; refine ⟨e, by simpa using h1, ?_⟩; rw [h2, show i + 1 + j = i + (j + 1) by omega]
theorem findNow_rel {kk : KK} {d : TypeDesc} (hd : (kk = .i ∧ ∃ q, d = .int q) ∨ (kk = .s ∧ d = .string)) {k : V} {kx : Value} (hk : RV φ k kx) : ∀ {es : List (V × V)} {xs : List MapEntry} {i : Nat} {fi : Option Nat}, REs φ es xs → fidx h kk k es = some fi →
    ∃ R, Instr.findNow d kx xs i = some R ∧ Fnd xs i fi R
  | [], xs, i, fi, hr, hf => by
    injection hf with hf; subst hf
    have : xs = [] := by have := hr.1; cases xs <;> simp_all
    subst this
    exact ⟨none, rfl, rfl⟩
  | e :: es, [], i, fi, hr, hf => by have := hr.1; simp at this
  | e :: es, x :: xs, i, fi, hr, hf => by
    obtain ⟨h1, h2, h3⟩ := hr.cons
    obtain ⟨q, hq, h4⟩ := ob_eq.1 (show ob (keyEq h kk k e.1) _ = some fi from hf)
    have hs : Instr.sameNow d kx x.key = some q := by
      rcases hd with ⟨rfl, dk, rfl⟩ | ⟨rfl, rfl⟩
      · obtain ⟨k1, a, rfl, h5⟩ := iK_some hq
        obtain ⟨k2, b, hb, h6⟩ := iK_some h5
        obtain ⟨h7, h8⟩ := bcT h6
        rw [eqK_eq, decide_eq_true_iff] at h7
        subst h7
        injection h8 with h8
        rw [hb] at h1
        generalize x.key = y at h1
        cases hk; cases h1
        simp [Instr.sameNow, ← h8, ieq_eq]; rfl
      · obtain ⟨a, rfl, h5⟩ := sK_some hq
        obtain ⟨b, hb, h6⟩ := sK_some h5
        injection h6 with h6
        rw [hb] at h1
        generalize x.key = y at h1
        cases hk with | s _ sx hsx => cases h1 with | s _ sy hsy =>
        simp only [Instr.sameNow, ← h6, eqL_eq, ← hsx, ← hsy, str_beq, beq_toListBytes]
    cases q with
    | true =>
      injection h4 with h4; subst h4
      exact ⟨some (i, x.val), by simp [Instr.findNow, hs], x, rfl, rfl⟩
    | false =>
      simp only [Bool.false_eq_true, if_false, Option.map_eq_some_iff] at h4
      obtain ⟨fi', h5, rfl⟩ := h4
      obtain ⟨R, h6, h7⟩ := findNow_rel hd hk h3 (i := i + 1) h5
      exact ⟨R, by simp [Instr.findNow, hs, h6], h7.cons⟩
/-- a pointer whose address can be told -/
theorem clear_some {i : K} (hc : clear h i = true) : ∃ l ro, h.get i = some (.c l ro true) := by
  unfold clear at hc
  cases hg : h.get i with
  | none => rw [hg] at hc; cases hc
  | some b =>
    rw [hg] at hc
    cases b with
    | c l ro cl => cases cl with | true => exact ⟨l, ro, rfl⟩ | false => cases hc
    | m es => cases hc
theorem RW.clear (r : RW p φ h w) {i : K} {ri : RI} (hi : φ i = some ri) (hc : clear h i = true) : ∃ cs t, w.heap[ri.b]? = some (.cells cs t (0, 0)) := by
  obtain ⟨l, ro, hg⟩ := clear_some hc
  obtain ⟨ri', hri', cs, t, fr, h1, h2, h3, h4, h5, h6⟩ := r.blk i _ hg
  rw [hi] at hri'
  injection hri' with e
  subst e
  exact ⟨cs, t, by rw [h1, h6 rfl]⟩
theorem findAsk_rel (r : RW p φ h w) {t e : TypeId} {j : TypeInfo} (ht : p.underlying t = some (.pointer e)) (hj : p.info? e = some j) (h0 : j.size ≠ 0) {k : V} {kx : Value} (hk : RV φ k kx) : ∀ {es : List (V × V)} {xs : List MapEntry} {i : Nat} {fi : Option Nat}, REs φ es xs → fidx h .p k es = some fi →
    ∃ R, (Instr.findAsking t kx xs i).run p w = .ok R w ∧ Fnd xs i fi R
  | [], xs, i, fi, hr, hf => by
    injection hf with hf; subst hf
    have : xs = [] := by have := hr.1; cases xs <;> simp_all
    subst this
    exact ⟨none, rfl, rfl⟩
  | e' :: es, [], i, fi, hr, hf => by have := hr.1; simp at this
  | e' :: es, x :: xs, i, fi, hr, hf => by
    obtain ⟨h1, h2, h3⟩ := hr.cons
    obtain ⟨q, hq, h4⟩ := ob_eq.1 (show ob (keyEq h .p k e'.1) _ = some fi from hf)
    have hs : (Op.equal t kx x.key).run p w = .ok q w := by
      obtain ⟨i1, o1, rfl, h5⟩ := pK_some hq
      obtain ⟨i2, o2, hb, h6⟩ := pK_some h5
      obtain ⟨c1, h7⟩ := bcT h6
      obtain ⟨c2, h8⟩ := bcT h7
      injection h8 with h8
      rw [hb] at h1
      generalize x.key = y at h1
      cases hk with | p _ _ ri1 hr1 => cases h1 with | p _ _ ri2 hr2 =>
      have key : ∀ d, (Op.equalIn (d + 1) t (.pointer (some ⟨ri1.b, o1, none⟩)) (.pointer (some ⟨ri2.b, o2, none⟩))).run p w = .ok q w := by
        intro d
        by_cases he : i1 = i2 ∧ o1 = o2
        · obtain ⟨rfl, rfl⟩ := he
          rw [hr1] at hr2
          injection hr2 with hr2
          subst hr2
          have : q = true := by
            rw [← h8, K.eq_iff.2 rfl]
            exact (beq_iff o1 o1).2 rfl
          subst this
          simp [Op.equalIn, run_underlying ht, sizeOf, typeInfo, hj, run_sameAddr_same]
        · obtain ⟨ca, ta, ha⟩ := r.clear hr1 c1
          obtain ⟨cb, tb, hbk⟩ := r.clear hr2 c2
          have hne : (⟨ri1.b, o1, none⟩ : Addr) ≠ ⟨ri2.b, o2, none⟩ := by
            intro ee
            injection ee with e1 e2
            obtain ⟨l1, r1, g1⟩ := clear_some c1
            obtain ⟨l2, r2, g2⟩ := clear_some c2
            exact he ⟨r.inj _ _ _ _ _ _ g1 g2 hr1 hr2 e1, e2⟩
          have : q = false := by
            rw [← h8]
            cases hk : K.eq i1 i2 with
            | false => rfl
            | true =>
              have hk' := K.eq_iff.1 hk
              cases ho : Nat.beq o1 o2 with
              | false => rfl
              | true => exact absurd ⟨hk', (beq_iff _ _).1 ho⟩ he
          subst this
          simp [Op.equalIn, run_underlying ht, sizeOf, typeInfo, hj, h0, run_sameAddr_other w hne ha hbk]
      exact key 9999
    cases q with
    | true =>
      injection h4 with h4; subst h4
      exact ⟨some (i, x.val), by simp [Instr.findAsking, hs], x, rfl, rfl⟩
    | false =>
      simp only [Bool.false_eq_true, if_false, Option.map_eq_some_iff] at h4
      obtain ⟨fi', h5, rfl⟩ := h4
      obtain ⟨R, h6, h7⟩ := findAsk_rel r ht hj h0 hk h3 (i := i + 1) h5
      exact ⟨R, by simp [Instr.findAsking, hs, h6], h7.cons⟩
/-- a key's kind, and its type -/
theorem kkOf_some {t : TypeId} {kk : KK} (hk : kkOf p t = some kk) : (kk = .i ∧ ∃ q, p.underlying t = some (.int q)) ∨ (kk = .s ∧ p.underlying t = some .string) ∨ (kk = .p ∧ ∃ e j, p.underlying t = some (.pointer e) ∧ p.info? e = some j ∧ j.size ≠ 0) := by
  unfold kkOf at hk
  cases ht : p.underlying t with
  | none => rw [ht] at hk; cases hk
  | some d =>
    rw [ht] at hk
    cases d with
    | int q => injection hk with hk; exact .inl ⟨hk.symm, q, rfl⟩
    | string => injection hk with hk; exact .inr (.inl ⟨hk.symm, rfl⟩)
    | pointer e =>
      simp only at hk
      cases hj : p.info? e with
      | none => rw [hj] at hk; cases hk
      | some j =>
        rw [hj] at hk
        simp only at hk
        by_cases h0 : j.size = 0
        · rw [if_pos h0] at hk; cases hk
        · rw [if_neg h0] at hk; injection hk with hk; exact .inr (.inr ⟨hk.symm, e, j, rfl, hj, h0⟩)
    | _ => cases hk
theorem run_checkKey {t : TypeId} {kk : KK} (hk : kkOf p t = some kk) (e : Bool) (d : Nat) (x : Value) : (Instr.checkKey e (d + 1) t x).run p w = .ok () w := by
  rcases kkOf_some hk with ⟨_, q, ht⟩ | ⟨_, ht⟩ | ⟨_, q, j, ht, _⟩ <;> simp [Instr.checkKey, run_underlying ht]
theorem run_findKey (r : RW p φ h w) {t : TypeId} {kk : KK} (hkk : kkOf p t = some kk) {k : V} {kx : Value} (hk : RV φ k kx) {es : List (V × V)} {xs : List MapEntry} {fi : Option Nat} (hr : REs φ es xs) (hf : fidx h kk k es = some fi) :
    ∃ R, (Instr.findKey t kx xs).run p w = .ok R w ∧ Fnd xs 0 fi R := by
  rcases kkOf_some hkk with ⟨rfl, q, ht⟩ | ⟨rfl, ht⟩ | ⟨rfl, e, j, ht, hj, h0⟩
  · obtain ⟨R, h1, h2⟩ := findNow_rel (h := h) (.inl ⟨rfl, q, rfl⟩) hk hr (i := 0) hf
    exact ⟨R, by simp [Instr.findKey, run_underlying ht, h1], h2⟩
  · obtain ⟨R, h1, h2⟩ := findNow_rel (h := h) (.inr ⟨rfl, rfl⟩) hk hr (i := 0) hf
    exact ⟨R, by simp [Instr.findKey, run_underlying ht, h1], h2⟩
  · obtain ⟨R, h1, h2⟩ := findAsk_rel r ht hj h0 hk hr (i := 0) hf
    refine ⟨R, ?_, h2⟩
    have : Instr.findNow (.pointer e) kx xs 0 = none ∨ (xs = [] ∧ Instr.findNow (.pointer e) kx xs 0 = some none) := by
      cases xs with
      | nil => exact .inr ⟨rfl, rfl⟩
      | cons x xs => exact .inl (by simp [Instr.findNow, Instr.sameNow])
    rcases this with h3 | ⟨rfl, h3⟩
    · simp [Instr.findKey, run_underlying ht, h3, h1]
    · simp only [Instr.findKey, Sem.run_bind, run_underlying ht, Result.andThen_ok, h3]
      exact h1
end
end Go.Rfx
