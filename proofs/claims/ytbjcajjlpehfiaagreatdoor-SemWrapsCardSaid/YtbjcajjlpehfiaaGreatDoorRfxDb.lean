/- What is proved here: what the evaluator's run of a plan leaves after each step. No condition but the plan's form. -/
import Derived.Test.YtbjcajjlpehfiaaGreatDoorRfxDa
set_option linter.unusedVariables false
set_option linter.unusedSectionVars false
set_option linter.unusedSimpArgs false
set_option linter.constructorNameAsVariable false
namespace Go.Rfx
open Go
variable [Sy]

theorem eqF_eq : ∀ (n : Nat) (v w : V), eqF n v w = true → v = w
  | 0, v, w, h => by cases h
  | n + 1, v, w, h => by
    have ls : ∀ (a b : List V), (List.rec (motive := fun _ => List V → Bool) (fun b => List.casesOn b true (fun _ _ => false)) (fun x _ ihl b => List.casesOn b false (fun y b => Bool.casesOn (eqF n x y) false (ihl b))) a b : Bool) = true → a = b := by
      intro a
      induction a with
      | nil => intro b hb; cases b with | nil => rfl | cons _ _ => exact absurd (show false = true from hb) Bool.false_ne_true
      | cons x a ih =>
        intro b hb
        cases b with
        | nil => exact absurd (show false = true from hb) Bool.false_ne_true
        | cons y b =>
          cases hq : eqF n x y with
          | false =>
            have hb' : (Bool.casesOn (eqF n x y) false _ : Bool) = true := hb
            rw [hq] at hb'; exact absurd (show false = true from hb') Bool.false_ne_true
          | true =>
            have hb' : (Bool.casesOn (eqF n x y) false _ : Bool) = true := hb
            rw [hq] at hb'
            rw [eqF_eq n x y hq, ih b hb']
    have bt : ∀ {c b : Bool}, (Bool.casesOn c false b : Bool) = true → c = true ∧ b = true := by
      intro c b hh; cases c with | false => cases hh | true => exact ⟨rfl, hh⟩
    have no : ∀ {P : Prop}, false = true → P := fun h => absurd h Bool.false_ne_true
    cases v with
    | u => cases w <;> first | exact no h | rfl
    | b a => cases w <;> first | exact no h | skip
             rename_i b
             have h' : Bool.not (xorB a b) = true := h
             cases a <;> cases b <;> first | rfl | exact no h'
    | i k a => cases w <;> first | exact no h | skip
               rename_i k' b
               obtain ⟨h1, h2⟩ := bt (show (Bool.casesOn (eqK k k') false (ieq a b) : Bool) = true from h)
               rw [eqK_eq, decide_eq_true_iff] at h1
               rw [ieq_eq, decide_eq_true_iff] at h2
               rw [h1, h2]
    | s a => cases w <;> first | exact no h | skip
             rename_i b
             have h' : eqL a b = true := h
             rw [eqL_eq] at h'
             rw [eq_of_beq h']
    | p i o => cases w <;> first | exact no h | skip
               rename_i j q
               obtain ⟨h1, h2⟩ := bt (show (Bool.casesOn (K.eq i j) false (Nat.beq o q) : Bool) = true from h)
               rw [K.eq_iff.1 h1, (beq_iff _ _).1 h2]
    | pn => cases w <;> first | exact no h | rfl
    | sl i o m c => cases w <;> first | exact no h | skip
                    rename_i j q k d
                    obtain ⟨h1, h2⟩ := bt (show (Bool.casesOn (K.eq i j) false (Bool.casesOn (Nat.beq o q) false (Bool.casesOn (Nat.beq m k) false _)) : Bool) = true from h)
                    obtain ⟨h3, h4⟩ := bt h2
                    obtain ⟨h5, h6⟩ := bt h4
                    rw [K.eq_iff.1 h1, (beq_iff _ _).1 h3, (beq_iff _ _).1 h5]
                    cases c with
                    | x c => cases d with
                      | x d => rw [(beq_iff c d).1 h6]
                      | o d => exact no h6
                    | o c => cases d with
                      | x d => exact no h6
                      | o d => rw [(beq_iff c d).1 h6]
    | sn => cases w <;> first | exact no h | rfl
    | m i => cases w <;> first | exact no h | skip
             rename_i j
             rw [K.eq_iff.1 (show K.eq i j = true from h)]
    | mn => cases w <;> first | exact no h | rfl
    | f f a c => cases w <;> first | exact no h | skip
                 rename_i g b d
                 obtain ⟨h1, h2⟩ := bt (show (Bool.casesOn (K.eq f g) false (Bool.casesOn _ false _) : Bool) = true from h)
                 obtain ⟨h3, h4⟩ := bt h2
                 rw [K.eq_iff.1 h1, ls a b h3, ls c d h4]
    | fn => cases w <;> first | exact no h | rfl
    | w t x => cases w <;> first | exact no h | skip
               rename_i u y
               obtain ⟨h1, h2⟩ := bt (show (Bool.casesOn (Nat.beq t u) false (eqF n x y) : Bool) = true from h)
               rw [(beq_iff _ _).1 h1, eqF_eq n x y h2]
    | wn => cases w <;> first | exact no h | rfl
    | a a => cases w <;> first | exact no h | skip
             rename_i b
             rw [ls a b h]
    | t a => cases w <;> first | exact no h | skip
             rename_i b
             rw [ls a b h]
    | y lo hi e => cases w <;> first | exact no h | skip
                   rename_i lo' hi' e'
                   obtain ⟨h1, h2⟩ := bt (show (Bool.casesOn (ieq lo lo') false (Bool.casesOn (ieq hi hi') false (Ex.eq e e')) : Bool) = true from h)
                   obtain ⟨h3, h4⟩ := bt h2
                   rw [ieq_eq, decide_eq_true_iff] at h1 h3
                   rw [h1, h3, Ex.eq_eq _ _ h4]

def dstOf : CO → Option K | .mk d _ _ => d
def gdOf : CO → Option (K × Bool) | .mk _ g _ => g
def slots : CO → List K | .mk _ g q => sG g ++ sO q

/-- what a plan must keep -/
structure Plan (ops : Array Oper) (cs : List CO) (l : List St) (pos : Nat → Nat) (pre : Nat → Nat → Bool) : Prop where
  len : cs.length = ops.size
  step : ∀ (t k : Nat) (chk hid : Bool) (c : CO), l[t]? = some (St.mk k chk hid c) → cs[k]? = some c ∧ hid = false
  own : ∀ (t k : Nat) (c : CO), l[t]? = some (St.mk k false false c) → t = pos k
  all : ∀ (k : Nat), k < ops.size → ∃ c, l[pos k]? = some (St.mk k false false c)
  into : ∀ (j : Nat) (o : Oper) (e : Edge), ops[j]? = some o → e ∈ o.after → Region.binds .any e = true → e.on < ops.size ∧ pre e.on j = true
  topo : ∀ (i j : Nat), i < ops.size → j < ops.size → pre i j = true → pos i < pos j
  wr : ∀ (i j : Nat) (ci cj : CO) (d : K), cs[i]? = some ci → cs[j]? = some cj → dstOf ci = some d → dstOf cj = some d → i = j
  rdr : ∀ (i j : Nat) (ci cj : CO) (d : K), cs[i]? = some ci → cs[j]? = some cj → dstOf ci = some d → d ∈ slots cj → i = j ∨ pre i j = true ∨ pre j i = true
  eff : ∀ (i j : Nat) (ci cj : CO), cs[i]? = some ci → cs[j]? = some cj → isE (oOf ci) = true → isE (oOf cj) = true → i = j ∨ pre i j = true ∨ pre j i = true
  al : ∀ (i j : Nat) (ci cj : CO), cs[i]? = some ci → cs[j]? = some cj → isAl (oOf ci) = true → isE (oOf cj) = true → pos i < pos j → pre i j = true
  rd : ∀ (i j : Nat) (ci cj : CO), cs[i]? = some ci → cs[j]? = some cj → isR (oOf ci) = true → isE (oOf cj) = true → pre i j = true ∨ pre j i = true ∨
    (pos i < pos j ∧ ∃ t : Nat, l[t]? = some (St.mk i true false ci) ∧ pos j < t ∧ (∀ (e : Nat) (ce : CO), cs[e]? = some ce → isE (oOf ce) = true → pos e < t → pos e ≤ pos j) ∧
      (∀ (u : Nat) (cu : CO) (d : K), cs[u]? = some cu → dstOf cu = some d → d ∈ slots ci → pos u < t → pos u < pos i))

/-- the evaluator's run of a plan -/
structure Trace (cl : K → List V → H → OR) (nx : K) (l : List St) (Fs : Nat → T V) (hs : Nat → H) : Prop where
  s : ∀ (t k : Nat) (c : CO), l[t]? = some (St.mk k false false c) → ev1 cl (Fs t) (kAdd nx k) (hs t) c .n = .n (Fs (t + 1)) (hs (t + 1))
  c : ∀ (t k : Nat) (c : CO), l[t]? = some (St.mk k true false c) → Fs (t + 1) = Fs t ∧ hs (t + 1) = hs t ∧ ∃ b, want (Fs t) (gdOf c) = some b ∧
    (b = true → ∃ q d v, oOf c = .r q ∧ dstOf c = some d ∧ evR (Fs t) (hs t) q = some v ∧ T.get d (Fs t) = some v)
section
variable {cl : K → List V → H → OR} {nx : K} {lo : Option A}
theorem ev1_n {F : T V} {nid : K} {h : H} {c : CO} {R0 : R} (hv : ev1 cl F nid h c .n = R0) (he : R0 ≠ .err) : ∃ F' h', R0 = .n F' h' := by
  cases c with | mk d g q =>
  cases hw : want F g with
  | none =>
    have : ev1 cl F nid h (.mk d g q) .n = .err := by show (Option.casesOn (want F g) _ _ : R) = _; rw [hw]
    exact absurd (hv.symm.trans this) he
  | some b =>
    have e1 : ev1 cl F nid h (.mk d g q) .n = Bool.casesOn b (putD d .u F fun F => .n F h) (OR.casesOn (evO cl F nid h q) .err fun v h => putD d v F fun F => .n F h) := by
      show (Option.casesOn (want F g) _ _ : R) = _; rw [hw]
    rw [e1] at hv
    cases b with
    | false =>
      have hv' : putD d .u F (fun F => R.n F h) = R0 := hv
      rw [putD_eq] at hv'
      exact ⟨_, _, hv'.symm⟩
    | true =>
      have hv' : (OR.casesOn (evO cl F nid h q) .err fun v h => putD d v F fun F => .n F h : R) = R0 := hv
      cases ho : evO cl F nid h q with
      | err => rw [ho] at hv'; exact absurd hv'.symm he
      | ok v h1 =>
        rw [ho] at hv'
        simp only [putD_eq] at hv'
        exact ⟨_, _, hv'.symm⟩
theorem chk_n {F : T V} {h : H} {c : CO} {R0 : R} {k : Nat} (hv : evS cl nx lo (.mk k true false c) F h = R0) (he : R0 ≠ .err) : R0 = .n F h ∧ ∃ b, want F (gdOf c) = some b ∧
    (b = true → ∃ q d v, oOf c = .r q ∧ dstOf c = some d ∧ evR F h q = some v ∧ T.get d F = some v) := by
  cases c with | mk d g q =>
  have hv1 : (Option.casesOn (want F g) .err fun b => Bool.casesOn b (.n F h) (chkR F h d q (.n F h)) : R) = R0 := hv
  cases hw : want F g with
  | none => rw [hw] at hv1; exact absurd hv1.symm he
  | some b =>
    rw [hw] at hv1
    cases b with
    | false => exact ⟨hv1.symm, false, hw, fun e => by cases e⟩
    | true =>
      have hv2 : chkR F h d q (.n F h) = R0 := hv1
      cases q with
      | r q =>
        have hv3 : (Option.casesOn (evR F h q) .err fun v => Option.casesOn d .err fun d => Option.casesOn (T.get d F) .err fun w => Bool.casesOn (eqF 12 v w) .err (.n F h) : R) = R0 := hv2
        cases h1 : evR F h q with
        | none => rw [h1] at hv3; exact absurd hv3.symm he
        | some v =>
          rw [h1] at hv3
          cases d with
          | none => exact absurd hv3.symm he
          | some d =>
            have hv4 : (Option.casesOn (T.get d F) .err fun w => Bool.casesOn (eqF 12 v w) .err (.n F h) : R) = R0 := hv3
            cases h2 : T.get d F with
            | none => rw [h2] at hv4; exact absurd hv4.symm he
            | some w =>
              rw [h2] at hv4
              have hv5 : (Bool.casesOn (eqF 12 v w) .err (.n F h) : R) = R0 := hv4
              cases h3 : eqF 12 v w with
              | false => rw [h3] at hv5; exact absurd hv5.symm he
              | true =>
                rw [h3] at hv5
                have := eqF_eq _ _ _ h3
                subst this
                exact ⟨hv5.symm, true, hw, fun _ => ⟨q, d, v, rfl, rfl, h1, h2⟩⟩
      | p q => exact absurd hv2.symm he
      | a q => exact absurd hv2.symm he
      | e q => exact absurd hv2.symm he
theorem evD_trace : ∀ (l : List St) (F : T V) (h : H) (R0 : R), (∀ (t k : Nat) (chk hid : Bool) (c : CO), l[t]? = some (St.mk k chk hid c) → hid = false) → evD cl nx lo l F h = R0 → R0 ≠ .err →
    ∃ Fs hs, Fs 0 = F ∧ hs 0 = h ∧ Trace cl nx l Fs hs ∧ R0 = .n (Fs l.length) (hs l.length)
  | [], F, h, R0, hh, hv, he => ⟨fun _ => F, fun _ => h, rfl, rfl, ⟨fun t k c ht => by simp at ht, fun t k c ht => by simp at ht⟩, hv.symm⟩
  | s :: l, F, h, R0, hh, hv, he => by
    have hv' : bR (evS cl nx lo s F h) (evD cl nx lo l) = R0 := hv
    have main : ∃ F1 h1, evS cl nx lo s F h = .n F1 h1 := by
      cases hx : evS cl nx lo s F h with
      | n F1 h1 => exact ⟨F1, h1, rfl⟩
      | err => rw [hx] at hv'; exact absurd hv'.symm he
      | x i F1 h1 =>
        exfalso
        cases s with | mk k chk hid c =>
        have := hh 0 k chk hid c rfl
        subst this
        cases chk with
        | false => obtain ⟨F', h', e⟩ := ev1_n (R0 := .x i F1 h1) hx (by intro e; cases e); cases e
        | true => obtain ⟨e, _⟩ := chk_n (R0 := .x i F1 h1) hx (by intro e; cases e); cases e
      | t F1 h1 =>
        exfalso
        cases s with | mk k chk hid c =>
        have := hh 0 k chk hid c rfl
        subst this
        cases chk with
        | false => obtain ⟨F', h', e⟩ := ev1_n (R0 := .t F1 h1) hx (by intro e; cases e); cases e
        | true => obtain ⟨e, _⟩ := chk_n (R0 := .t F1 h1) hx (by intro e; cases e); cases e
    obtain ⟨F1, h1, hx⟩ := main
    rw [hx] at hv'
    obtain ⟨Fs, hs, e1, e2, tr, e3⟩ := evD_trace l F1 h1 R0 (fun t k chk hid c ht => hh (t + 1) k chk hid c (by simpa using ht)) hv' he
    refine ⟨fun t => match t with | 0 => F | t + 1 => Fs t, fun t => match t with | 0 => h | t + 1 => hs t, rfl, rfl, ⟨?_, ?_⟩, e3⟩
    · intro t k c ht
      cases t with
      | zero =>
        simp only [List.getElem?_cons_zero, Option.some.injEq] at ht
        subst ht
        show ev1 cl F (kAdd nx k) h c .n = .n (Fs 0) (hs 0)
        rw [e1, e2]; exact hx
      | succ t => exact tr.s t k c (by simpa using ht)
    · intro t k c ht
      cases t with
      | zero =>
        simp only [List.getElem?_cons_zero, Option.some.injEq] at ht
        subst ht
        obtain ⟨g1, g2⟩ := chk_n hx (by intro e; cases e)
        injection g1 with g1 g3
        subst g1; subst g3
        exact ⟨e1, e2, g2⟩
      | succ t => exact tr.c t k c (by simpa using ht)
end
end Go.Rfx
