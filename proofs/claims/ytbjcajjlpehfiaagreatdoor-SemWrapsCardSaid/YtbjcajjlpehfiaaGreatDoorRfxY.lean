/- What is proved here: code and functions come, in Go's own run, to what the evaluator says. The conditions are the relations of slots and of memory; regions whose order is open: each by itself. -/
import Derived.Test.YtbjcajjlpehfiaaGreatDoorRfxX
set_option linter.unusedVariables false
set_option linter.unusedSectionVars false
set_option linter.unusedSimpArgs false
set_option linter.constructorNameAsVariable false
namespace Go.Rfx
open Go
variable [Sy]

section
variable {p : Program} {nt : Nat} {φ φ' : Phi} {F : T V} {a : Act} {h h' : H} {w w' : World} {cl : K → List V → H → OR}

/-- what stands where code ends -/
def Stands (p : Program) (nt : Nat) (φ : Phi) (h : H) (w : World) (F' : T V) (h' : H) (a' : Act) (w' : World) : Prop := ∃ φ', FR nt φ' F' a' ∧ RW p φ' h' w' ∧ Kp (fun k => h.nx.num ≤ k.num) φ h w φ' h' w'
/-- how code ends -/
def Post (p : Program) (nt : Nat) (φ : Phi) (h : H) (w : World) (R0 : R) : Exit → Act → World → Prop
  | .normal, a', w' => ∃ F' h', R0 = .n F' h' ∧ Stands p nt φ h w F' h' a' w'
  | .exit id, a', w' => ∃ F' h', R0 = .x id F' h' ∧ Stands p nt φ h w F' h' a' w'
  | .ret, a', w' => ∃ F' h', R0 = .t F' h' ∧ Stands p nt φ h w F' h' a' w'
  | _, _, _ => False
theorem Stands.after {F' : T V} {h1 h' : H} {a' : Act} {w1 w' : World} {φ1 : Phi} (kp : Kp (fun k => h.nx.num ≤ k.num) φ h w φ1 h1 w1) (s : Stands p nt φ1 h1 w1 F' h' a' w') : Stands p nt φ h w F' h' a' w' := by
  obtain ⟨φ', f, r, k⟩ := s
  exact ⟨φ', f, r, kp.trans k fun k hk => Nat.le_trans kp.nx hk⟩
theorem Post.after {R0 : R} {h1 : H} {w1 : World} {φ1 : Phi} (kp : Kp (fun k => h.nx.num ≤ k.num) φ h w φ1 h1 w1) {e : Exit} {a' : Act} {w' : World} (s : Post p nt φ1 h1 w1 R0 e a' w') : Post p nt φ h w R0 e a' w' := by
  cases e with
  | normal => obtain ⟨F', h', e, s⟩ := s; exact ⟨F', h', e, s.after kp⟩
  | exit id => obtain ⟨F', h', e, s⟩ := s; exact ⟨F', h', e, s.after kp⟩
  | ret => obtain ⟨F', h', e, s⟩ := s; exact ⟨F', h', e, s.after kp⟩
  | _ => exact s.elim

/-- a region whose order is open comes to what its plan says -/
def DrOK (p : Program) (nt : Nat) (ops : Array Oper) : Prop :=
  ∀ (cl : K → List V → H → OR) (n : Nat) (c : C), Snd p cl → cD nt p ops.toList = some c → ∀ (id : Nat) (φ : Phi) (F : T V) (h : H) (a : Act) (w : World) (R0 : R), R0 ≠ .err → FR nt φ F a → RW p φ h w →
    evC cl n c F h = R0 → (Code.region id ops true).wp p (Post p nt φ h w R0) a w
/-- all of these in code -/
def Drs (D : Array Oper → Prop) : Code → Prop
  | .region _ ops true => D ops
  | .seq a b => Drs D a ∧ Drs D b
  | .cond _ a b => Drs D a ∧ Drs D b
  | .block _ b => Drs D b
  | .loop b => Drs D b
  | _ => True

theorem code_rel (hs : Snd p cl) (n : Nat) : ∀ (code : Code) (c : C), cC nt p code = some c → Drs (DrOK p nt) code → ∀ (φ : Phi) (F : T V) (h : H) (a : Act) (w : World) (R0 : R), FR nt φ F a → RW p φ h w → evC cl n c F h = R0 → R0 ≠ .err → code.wp p (Post p nt φ h w R0) a w := by
  intro code
  induction code with
  | skip =>
    intro c hc _ φ F h a w R0 f r hv he
    injection hc with hc
    subst hc
    exact wp_skip ⟨F, h, hv.symm, φ, f, r, Kp.refl _ _ _ _⟩
  | region id ops draw =>
    intro c hc hd φ F h a w R0 f r hv he
    cases draw with
    | false =>
      simp only [cC, Option.map_eq_some_iff] at hc
      obtain ⟨l, hl, rfl⟩ := hc
      refine wp_region ?_
      rw [List.range_eq_range']
      refine row_rel hs he ops.size 0 l φ F h a w (by omega) hl f r hv fun F' h' φ' a' w' e f' r' k' => ?_
      exact ⟨F', h', e, φ', f', r', k'⟩
    | true =>
      have hc' : cD nt p ops.toList = some c := hc
      exact hd cl n c hs hc' id φ F h a w R0 he f r hv
  | seq x y ix iy =>
    intro c hc hd φ F h a w R0 f r hv he
    simp only [cC, bind, Option.bind_eq_some_iff, Option.some.injEq] at hc
    obtain ⟨cx, hcx, cy, hcy, rfl⟩ := hc
    have hv' : bR (evC cl n cx F h) (evC cl n cy) = R0 := hv
    refine wp_seq ?_
    cases hx : evC cl n cx F h with
    | err => rw [hx] at hv'; exact absurd hv'.symm he
    | n F1 h1 =>
      rw [hx] at hv'
      refine wp_mono (ix cx hcx hd.1 φ F h a w _ f r hx (by intro e; cases e)) fun e a1 w1 hp => ?_
      cases e with
      | normal =>
        obtain ⟨F', h', e, φ1, f1, r1, k1⟩ := hp
        injection e with e1 e2
        subst e1; subst e2
        exact wp_mono (iy cy hcy hd.2 φ1 F1 h1 a1 w1 R0 f1 r1 hv' he) fun e a2 w2 hp => hp.after k1
      | exit id => obtain ⟨F', h', e, _⟩ := hp; cases e
      | ret => obtain ⟨F', h', e, _⟩ := hp; cases e
      | _ => exact hp.elim
    | x id F1 h1 =>
      rw [hx] at hv'
      have hv2 : R.x id F1 h1 = R0 := hv'
      subst hv2
      refine wp_mono (ix cx hcx hd.1 φ F h a w _ f r hx he) fun e a1 w1 hp => ?_
      cases e with
      | normal => obtain ⟨F', h', e, _⟩ := hp; cases e
      | _ => exact hp
    | t F1 h1 =>
      rw [hx] at hv'
      have hv2 : R.t F1 h1 = R0 := hv'
      subst hv2
      refine wp_mono (ix cx hcx hd.1 φ F h a w _ f r hx he) fun e a1 w1 hp => ?_
      cases e with
      | normal => obtain ⟨F', h', e, _⟩ := hp; cases e
      | _ => exact hp
  | cond x y z iy iz =>
    intro c hc hd φ F h a w R0 f r hv he
    simp only [cC, bind, Option.bind_eq_some_iff, Option.some.injEq] at hc
    obtain ⟨cx, hcx, cy, hcy, cz, hcz, rfl⟩ := hc
    have hv' : condR F cx (evC cl n cy F h) (evC cl n cz F h) = R0 := hv
    cases hg : gA F cx with
    | none =>
      have : condR F cx (evC cl n cy F h) (evC cl n cz F h) = .err := by show (Option.casesOn (gA F cx) _ _ : R) = _; rw [hg]
      exact absurd (hv'.symm.trans this) he
    | some v =>
      have e1 : condR F cx (evC cl n cy F h) (evC cl n cz F h) = v.bK .err fun b => Bool.casesOn b (evC cl n cz F h) (evC cl n cy F h) := by show (Option.casesOn (gA F cx) _ _ : R) = _; rw [hg]
      rw [e1] at hv'
      have hr := f.ops r.gl x cx v hcx hg
      cases v with
      | b b =>
        generalize hz : a.eval x = z' at hr
        cases hr
        refine wp_cond hz ?_
        cases b with
        | true => exact iy cy hcy hd.1 φ F h a w R0 f r hv' he
        | false => exact iz cz hcz hd.2 φ F h a w R0 f r hv' he
      | _ => exact absurd hv'.symm he
  | block id x ix =>
    intro c hc hd φ F h a w R0 f r hv he
    simp only [cC, bind, Option.bind_eq_some_iff, Option.some.injEq] at hc
    obtain ⟨cx, hcx, rfl⟩ := hc
    have hv' : exR id (evC cl n cx F h) = R0 := hv
    refine wp_block ?_
    cases hx : evC cl n cx F h with
    | err => rw [hx] at hv'; exact absurd hv'.symm he
    | n F1 h1 =>
      rw [hx] at hv'
      have hv2 : R.n F1 h1 = R0 := hv'
      subst hv2
      refine wp_mono (ix cx hcx hd φ F h a w _ f r hx he) fun e a1 w1 hp => ?_
      cases e with
      | exit id => obtain ⟨F', h', e, _⟩ := hp; cases e
      | _ => exact hp
    | x j F1 h1 =>
      rw [hx] at hv'
      have hv2 : (Bool.casesOn (Nat.beq id j) (.x j F1 h1) (.n F1 h1) : R) = R0 := hv'
      refine wp_mono (ix cx hcx hd φ F h a w _ f r hx (by intro e; cases e)) fun e a1 w1 hp => ?_
      cases e with
      | exit i =>
        obtain ⟨F', h', e, hst⟩ := hp
        injection e with e0 e1 e2
        subst e0; subst e1; subst e2
        show if j = id then _ else _
        by_cases hj : j = id
        · subst hj
          have : Nat.beq j j = true := by simp
          rw [this] at hv2
          rw [if_pos rfl]
          exact ⟨F1, h1, hv2.symm, hst⟩
        · have : Nat.beq id j = false := by
            cases hb : Nat.beq id j with
            | false => rfl
            | true => exact absurd ((beq_iff _ _).1 hb).symm hj
          rw [this] at hv2
          rw [if_neg hj]
          exact ⟨F1, h1, hv2.symm, hst⟩
      | normal => obtain ⟨F', h', e, _⟩ := hp; cases e
      | ret => obtain ⟨F', h', e, _⟩ := hp; cases e
      | _ => exact hp
    | t F1 h1 =>
      rw [hx] at hv'
      have hv2 : R.t F1 h1 = R0 := hv'
      subst hv2
      refine wp_mono (ix cx hcx hd φ F h a w _ f r hx he) fun e a1 w1 hp => ?_
      cases e with
      | exit id => obtain ⟨F', h', e, _⟩ := hp; cases e
      | _ => exact hp
  | loop x ix =>
    intro c hc hd φ F h a w R0 f r hv he
    simp only [cC, bind, Option.bind_eq_some_iff, Option.some.injEq] at hc
    obtain ⟨cx, hcx, rfl⟩ := hc
    have hv' : loopF n (evC cl n cx) F h = R0 := hv
    clear hv
    refine wp_loop_rounds n ?_
    have key : ∀ (m : Nat) (φ : Phi) (F : T V) (h : H) (a : Act) (w : World), FR nt φ F a → RW p φ h w → loopF m (evC cl n cx) F h = R0 → Code.rounds p x (Post p nt φ h w R0) m a w := by
      intro m
      induction m with
      | zero => intro φ F h a w f r hv; exact absurd hv.symm he
      | succ m ih =>
        intro φ F h a w f r hv
        have hv' : bR (evC cl n cx F h) (loopF m (evC cl n cx)) = R0 := hv
        rw [rounds_succ]
        cases hx : evC cl n cx F h with
        | err => rw [hx] at hv'; exact absurd hv'.symm he
        | n F1 h1 =>
          rw [hx] at hv'
          refine wp_mono (ix cx hcx hd φ F h a w _ f r hx (by intro e; cases e)) fun e a1 w1 hp => ?_
          cases e with
          | normal =>
            obtain ⟨F', h', e, φ1, f1, r1, k1⟩ := hp
            injection e with e1 e2
            subst e1; subst e2
            have := ih φ1 F1 h1 a1 w1 f1 r1 hv'
            have mono : ∀ (m : Nat) (a1 : Act) (w2 : World), Code.rounds p x (Post p nt φ1 h1 w1 R0) m a1 w2 → Code.rounds p x (Post p nt φ h w R0) m a1 w2 := by
              intro m
              induction m with
              | zero => intro a1 w2 hh; exact hh
              | succ m ih2 =>
                intro a1 w2 hh
                rw [rounds_succ] at hh ⊢
                refine wp_mono hh fun e a2 w3 hp => ?_
                cases e with
                | normal => exact ih2 _ _ hp
                | exit id => exact Post.after (e := .exit id) k1 hp
                | ret => exact Post.after (e := .ret) k1 hp
                | _ => exact hp.elim
            exact mono _ _ _ this
          | exit id => obtain ⟨F', h', e, _⟩ := hp; cases e
          | ret => obtain ⟨F', h', e, _⟩ := hp; cases e
          | _ => exact hp.elim
        | x id F1 h1 =>
          rw [hx] at hv'
          have hv2 : R.x id F1 h1 = R0 := hv'
          subst hv2
          refine wp_mono (ix cx hcx hd φ F h a w _ f r hx he) fun e a1 w1 hp => ?_
          cases e with
          | normal => obtain ⟨F', h', e, _⟩ := hp; cases e
          | _ => exact hp
        | t F1 h1 =>
          rw [hx] at hv'
          have hv2 : R.t F1 h1 = R0 := hv'
          subst hv2
          refine wp_mono (ix cx hcx hd φ F h a w _ f r hx he) fun e a1 w1 hp => ?_
          cases e with
          | normal => obtain ⟨F', h', e, _⟩ := hp; cases e
          | _ => exact hp
    exact key n φ F h a w f r hv'
  | exit id =>
    intro c hc _ φ F h a w R0 f r hv he
    injection hc with hc
    subst hc
    exact wp_exit ⟨F, h, hv.symm, φ, f, r, Kp.refl _ _ _ _⟩
  | ret =>
    intro c hc _ φ F h a w R0 f r hv he
    injection hc with hc
    subst hc
    exact wp_ret ⟨F, h, hv.symm, φ, f, r, Kp.refl _ _ _ _⟩
  | _ =>
    intro c hc _ φ F h a w R0 f r hv he
    injection hc with hc
    subst hc
    exact absurd hv.symm he
end
end Go.Rfx
