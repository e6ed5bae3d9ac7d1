/- What is proved here: what slots and heaps of a plan's run are between its steps. The condition is the plan's form. -/
import Derived.Test.YtbjcajjlpehfiaaGreatDoorRfxDb
set_option linter.unusedVariables false
set_option linter.unusedSectionVars false
set_option linter.unusedSimpArgs false
set_option linter.constructorNameAsVariable false
namespace Go.Rfx
open Go
variable [Sy]

theorem mapM_get {α β : Type} {f : α → Option β} : ∀ {l : List α} {r : List β}, l.mapM f = some r → ∀ (j : Nat) (c : β), r[j]? = some c → ∃ a, l[j]? = some a ∧ f a = some c
  | [], r, h, j, c, hc => by simp at h; subst h; simp at hc
  | a :: l, r, h, j, c, hc => by
    rw [List.mapM_cons] at h
    simp only [bind, Option.bind_eq_some_iff, pure, Option.some.injEq] at h
    obtain ⟨b, hb, r', hr, rfl⟩ := h
    cases j with
    | zero => simp at hc; subst hc; exact ⟨a, rfl, hb⟩
    | succ j => obtain ⟨x, hx, hf⟩ := mapM_get hr j c (by simpa using hc); exact ⟨x, by simpa using hx, hf⟩
theorem kAdd_inj {nx : K} {i j : Nat} (h : kAdd nx i = kAdd nx j) : i = j := by
  have := congrArg K.num h
  rw [kAdd_num, kAdd_num] at this
  omega

section
variable {ops : Array Oper} {cs : List CO} {l : List St} {pos : Nat → Nat} {pre : Nat → Nat → Bool} {cl : K → List V → H → OR} {nx : K} {Fs : Nat → T V} {hs : Nat → H}
theorem Plan.lt (P : Plan ops cs l pos pre) {k : Nat} {c : CO} (h : cs[k]? = some c) : k < ops.size := by
  rw [← P.len]; exact (List.getElem?_eq_some_iff.1 h).1
theorem Plan.some (P : Plan ops cs l pos pre) {k : Nat} (h : k < ops.size) : ∃ c, cs[k]? = some c := ⟨_, List.getElem?_eq_getElem (by rw [P.len]; exact h)⟩
theorem Plan.stepAt (P : Plan ops cs l pos pre) {k : Nat} {c : CO} (h : cs[k]? = Option.some c) : l[pos k]? = Option.some (St.mk k false false c) := by
  obtain ⟨c', h1⟩ := P.all k (P.lt h)
  obtain ⟨h2, _⟩ := P.step _ _ _ _ _ h1
  rw [h] at h2
  injection h2 with h2
  rw [h2]; exact h1
theorem Plan.pos_lt (P : Plan ops cs l pos pre) {k : Nat} {c : CO} (h : cs[k]? = Option.some c) : pos k < l.length := (List.getElem?_eq_some_iff.1 (P.stepAt h)).1
theorem Plan.pos_inj (P : Plan ops cs l pos pre) {i j : Nat} {ci cj : CO} (hi : cs[i]? = Option.some ci) (hj : cs[j]? = Option.some cj) (h : pos i = pos j) : i = j := by
  have h1 := P.stepAt hi
  have h2 := P.stepAt hj
  rw [h, h2] at h1
  injection h1 with h1
  injection h1 with h1
  exact h1.symm

/-- what an operation's own step does -/
theorem Trace.own (P : Plan ops cs l pos pre) (tr : Trace cl nx l Fs hs) {k : Nat} {d : Option K} {g : Option (K × Bool)} {q : O} (h : cs[k]? = some (.mk d g q)) :
    ∃ b, want (Fs (pos k)) g = some b ∧ ((b = false ∧ Fs (pos k + 1) = putF d .u (Fs (pos k)) ∧ hs (pos k + 1) = hs (pos k)) ∨
      (b = true ∧ ∃ v, evO cl (Fs (pos k)) (kAdd nx k) (hs (pos k)) q = .ok v (hs (pos k + 1)) ∧ Fs (pos k + 1) = putF d v (Fs (pos k)))) := by
  have hv := tr.s _ _ _ (P.stepAt h)
  cases hw : want (Fs (pos k)) g with
  | none =>
    have : ev1 cl (Fs (pos k)) (kAdd nx k) (hs (pos k)) (.mk d g q) .n = .err := by show (Option.casesOn (want _ g) _ _ : R) = _; rw [hw]
    rw [this] at hv; cases hv
  | some b =>
    have e1 : ev1 cl (Fs (pos k)) (kAdd nx k) (hs (pos k)) (.mk d g q) .n = Bool.casesOn b (putD d .u (Fs (pos k)) fun F => .n F (hs (pos k))) (OR.casesOn (evO cl (Fs (pos k)) (kAdd nx k) (hs (pos k)) q) .err fun v h => putD d v (Fs (pos k)) fun F => .n F h) := by
      show (Option.casesOn (want _ g) _ _ : R) = _; rw [hw]
    rw [e1] at hv
    refine ⟨b, rfl, ?_⟩
    cases b with
    | false =>
      have hv' : putD d .u (Fs (pos k)) (fun F => R.n F (hs (pos k))) = .n (Fs (pos k + 1)) (hs (pos k + 1)) := hv
      rw [putD_eq] at hv'
      injection hv' with a1 a2
      exact .inl ⟨rfl, a1.symm, a2.symm⟩
    | true =>
      have hv' : (OR.casesOn (evO cl (Fs (pos k)) (kAdd nx k) (hs (pos k)) q) .err fun v h => putD d v (Fs (pos k)) fun F => .n F h : R) = .n (Fs (pos k + 1)) (hs (pos k + 1)) := hv
      cases ho : evO cl (Fs (pos k)) (kAdd nx k) (hs (pos k)) q with
      | err => rw [ho] at hv'; cases hv'
      | ok v h1 =>
        rw [ho] at hv'
        simp only [putD_eq] at hv'
        injection hv' with a1 a2
        exact .inr ⟨rfl, v, by rw [a2], a1.symm⟩
theorem putF_other {d : Option K} {v : V} {F : T V} {s : K} (h : d ≠ some s) : T.get s (putF d v F) = T.get s F := by
  cases d with
  | none => rfl
  | some d => exact T.get_put_other _ (fun e => h (by rw [e])) _
theorem putF_same {v : V} {F : T V} {s : K} : T.get s (putF (some s) v F) = some v := T.get_put_same _ _ _

/-- a slot that is not written -/
theorem Trace.slot (P : Plan ops cs l pos pre) (tr : Trace cl nx l Fs hs) {s : K} {t1 : Nat} : ∀ t2, t1 ≤ t2 → t2 ≤ l.length → (∀ (k : Nat) (c : CO), cs[k]? = some c → dstOf c = some s → ¬ (t1 ≤ pos k ∧ pos k < t2)) → T.get s (Fs t1) = T.get s (Fs t2)
  | 0, h1, h2, h3 => by have : t1 = 0 := by omega
                        rw [this]
  | t2 + 1, h1, h2, h3 => by
    by_cases e : t1 = t2 + 1
    · rw [e]
    · rw [Trace.slot P tr t2 (by omega) (by omega) fun k c hk hd hh => h3 k c hk hd ⟨hh.1, by omega⟩]
      have hlt : t2 < l.length := by omega
      cases hl : l[t2] with | mk k chk hid c =>
      have hl' : l[t2]? = some (St.mk k chk hid c) := by rw [List.getElem?_eq_getElem hlt, hl]
      obtain ⟨hk, rfl⟩ := P.step _ _ _ _ _ hl'
      cases chk with
      | true => rw [(tr.c _ _ _ hl').1]
      | false =>
        have ht := P.own _ _ _ hl'
        cases c with | mk d g q =>
        have hd : d ≠ some s := fun e => h3 k _ hk e ⟨by omega, by omega⟩
        obtain ⟨b, _, h4⟩ := tr.own P hk
        rw [← ht] at h4
        rcases h4 with ⟨_, h5, _⟩ | ⟨_, v, _, h5⟩ <;> rw [h5, putF_other hd]

/-- no effect in between -/
def Calm (cs : List CO) (pos : Nat → Nat) (t1 t2 : Nat) : Prop := ∀ (e : Nat) (ce : CO), cs[e]? = some ce → isE (oOf ce) = true → ¬ (t1 ≤ pos e ∧ pos e < t2)
/-- blocks alone are made -/
theorem Trace.heap (P : Plan ops cs l pos pre) (tr : Trace cl nx l Fs hs) {t1 : Nat} (n : K) : ∀ t2, t1 ≤ t2 → t2 ≤ l.length → Calm cs pos t1 t2 → (hs t2).nx = (hs t1).nx ∧
    ((∃ (A : Nat) (c : CO), cs[A]? = some c ∧ isAl (oOf c) = true ∧ t1 ≤ pos A ∧ pos A < t2 ∧ n = kAdd nx A ∧ (hs t2).get n = (hs (pos A + 1)).get n) ∨
      ((∀ (A : Nat) (c : CO), cs[A]? = some c → isAl (oOf c) = true → t1 ≤ pos A → pos A < t2 → n ≠ kAdd nx A) ∧ (hs t2).get n = (hs t1).get n))
  | 0, h1, h2, h3 => by
    have : t1 = 0 := by omega
    subst this
    exact ⟨rfl, .inr ⟨fun A c _ _ _ h => by omega, rfl⟩⟩
  | t2 + 1, h1, h2, h3 => by
    by_cases e : t1 = t2 + 1
    · subst e
      exact ⟨rfl, .inr ⟨fun A c _ _ _ h => by omega, rfl⟩⟩
    · obtain ⟨ih1, ih2⟩ := Trace.heap P tr n t2 (by omega) (by omega) fun k c hk hd hh => h3 k c hk hd ⟨hh.1, by omega⟩
      have hlt : t2 < l.length := by omega
      cases hl : l[t2] with | mk k chk hid c =>
      have hl' : l[t2]? = some (St.mk k chk hid c) := by rw [List.getElem?_eq_getElem hlt, hl]
      obtain ⟨hk, rfl⟩ := P.step _ _ _ _ _ hl'
      have keep : hs (t2 + 1) = hs t2 → (∀ (A : Nat) (c : CO), cs[A]? = some c → isAl (oOf c) = true → pos A = t2 → n ≠ kAdd nx A) → (hs (t2 + 1)).nx = (hs t1).nx ∧
          ((∃ (A : Nat) (c : CO), cs[A]? = some c ∧ isAl (oOf c) = true ∧ t1 ≤ pos A ∧ pos A < t2 + 1 ∧ n = kAdd nx A ∧ (hs (t2 + 1)).get n = (hs (pos A + 1)).get n) ∨
          ((∀ (A : Nat) (c : CO), cs[A]? = some c → isAl (oOf c) = true → t1 ≤ pos A → pos A < t2 + 1 → n ≠ kAdd nx A) ∧ (hs (t2 + 1)).get n = (hs t1).get n)) := by
        intro e1 e2
        refine ⟨by rw [e1]; exact ih1, ?_⟩
        rcases ih2 with ⟨A, cA, a1, a2, a3, a4, a5, a6⟩ | ⟨a1, a2⟩
        · exact .inl ⟨A, cA, a1, a2, a3, by omega, a5, by rw [e1]; exact a6⟩
        · refine .inr ⟨fun A c b1 b2 b3 b4 => ?_, by rw [e1]; exact a2⟩
          by_cases e : pos A = t2
          · exact e2 A c b1 b2 e
          · exact a1 A c b1 b2 b3 (by omega)
      cases chk with
      | true =>
        refine keep (tr.c _ _ _ hl').2.1 fun A c' b1 b2 b3 => ?_
        have := P.stepAt b1
        rw [b3, hl'] at this
        injection this with this
        injection this with _ this
        cases this
      | false =>
        have ht := P.own _ _ _ hl'
        have only : ∀ (A : Nat) (c' : CO), cs[A]? = some c' → pos A = t2 → A = k := fun A c' b1 b3 => P.pos_inj b1 hk (by omega)
        cases c with | mk d g q =>
        obtain ⟨b, _, h4⟩ := tr.own P hk
        rw [← ht] at h4
        cases q with
        | p q =>
          refine keep ?_ fun A c' b1 b2 b3 => ?_
          · rcases h4 with ⟨_, _, h5⟩ | ⟨_, v, h5, _⟩
            · exact h5
            · obtain ⟨v', g1, g2⟩ := OR_none (show (Option.casesOn (evP (Fs t2) q) .err fun v => .ok v (hs t2) : OR) = .ok v (hs (t2 + 1)) from h5)
              injection g2 with _ g2
              exact g2.symm
          · have := only A c' b1 b3
            subst this
            rw [hk] at b1; injection b1 with b1; subst b1; cases b2
        | r q =>
          refine keep ?_ fun A c' b1 b2 b3 => ?_
          · rcases h4 with ⟨_, _, h5⟩ | ⟨_, v, h5, _⟩
            · exact h5
            · obtain ⟨v', g1, g2⟩ := OR_none (show (Option.casesOn (evR (Fs t2) (hs t2) q) .err fun v => .ok v (hs t2) : OR) = .ok v (hs (t2 + 1)) from h5)
              injection g2 with _ g2
              exact g2.symm
          · have := only A c' b1 b3
            subst this
            rw [hk] at b1; injection b1 with b1; subst b1; cases b2
        | e q => exact absurd ⟨by omega, by omega⟩ (h3 k _ hk rfl)
        | a q =>
          have hnx : (hs (t2 + 1)).nx = (hs t2).nx ∧ ∀ m, m ≠ kAdd nx k → (hs (t2 + 1)).get m = (hs t2).get m := by
            rcases h4 with ⟨_, _, h5⟩ | ⟨_, v, h5, _⟩
            · rw [h5]; exact ⟨rfl, fun _ _ => rfl⟩
            · obtain ⟨⟨v', b'⟩, g1, g2⟩ := OR_none (show (Option.casesOn (evA (Fs t2) (kAdd nx k) q) .err fun r => .ok r.1 ((hs t2).set (kAdd nx k) r.2) : OR) = .ok v (hs (t2 + 1)) from h5)
              injection g2 with _ g2
              rw [← g2]
              exact ⟨H.nx_set _ _ _, fun m hm => H.get_set_other _ _ hm⟩
          refine ⟨by rw [hnx.1]; exact ih1, ?_⟩
          by_cases e : n = kAdd nx k
          · exact .inl ⟨k, _, hk, rfl, by omega, by omega, e, by rw [← ht]⟩
          · rcases ih2 with ⟨A, cA, a1, a2, a3, a4, a5, a6⟩ | ⟨a1, a2⟩
            · exact .inl ⟨A, cA, a1, a2, a3, by omega, a5, by rw [hnx.2 n e]; exact a6⟩
            · refine .inr ⟨fun A c b1 b2 b3 b4 => ?_, by rw [hnx.2 n e]; exact a2⟩
              by_cases e' : pos A = t2
              · rw [only A c b1 e']; exact e
              · exact a1 A c b1 b2 b3 (by omega)
end
end Go.Rfx
