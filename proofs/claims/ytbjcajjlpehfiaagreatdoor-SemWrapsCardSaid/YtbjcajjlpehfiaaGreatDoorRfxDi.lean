/- What is proved here: a region whose plan is checked comes to what its plan says. No condition but the check. -/
import Derived.Test.YtbjcajjlpehfiaaGreatDoorRfxDh
set_option linter.unusedVariables false
set_option linter.unusedSectionVars false
set_option linter.unusedSimpArgs false
set_option linter.constructorNameAsVariable false
namespace Go.Rfx
open Go
variable [Sy]

theorem mapM_get' {α β : Type} {f : α → Option β} : ∀ {l : List α} {r : List β}, l.mapM f = some r → ∀ (j : Nat) (a : α), l[j]? = some a → ∃ c, r[j]? = some c ∧ f a = some c
  | [], r, h, j, a, ha => by simp at ha
  | b :: l, r, h, j, a, ha => by
    rw [List.mapM_cons] at h
    simp only [bind, Option.bind_eq_some_iff, pure, Option.some.injEq] at h
    obtain ⟨c, hc, r', hr, rfl⟩ := h
    cases j with
    | zero => simp at ha; subst ha; exact ⟨c, rfl, hc⟩
    | succ j => obtain ⟨x, hx, hf⟩ := mapM_get' hr j a (by simpa using ha); exact ⟨x, by simpa using hx, hf⟩
theorem sts_of {cs : List CO} {pl : PS} {l : List St} (hl : stsOf cs pl = some l) : ∀ (t k : Nat) (chk hid : Bool) (c : CO), l[t]? = some (St.mk k chk hid c) ↔ pl[t]? = some (k, chk, hid) ∧ cs[k]? = some c := by
  refine fun t k chk hid c => ⟨fun h => ?_, fun h => ?_⟩
  · obtain ⟨s, h1, h2⟩ := mapM_get hl t _ h
    simp only [Option.map_eq_some_iff] at h2
    obtain ⟨c', h3, h4⟩ := h2
    injection h4 with g1 g2 g3 g4
    obtain ⟨k', chk', hid'⟩ := s
    simp only at g1 g2 g3 h3
    subst g1; subst g2; subst g3; subst g4
    exact ⟨h1, h3⟩
  · obtain ⟨h1, h2⟩ := h
    obtain ⟨s, h3, h4⟩ := mapM_get' hl t _ h1
    simp only [h2, Option.map_some, Option.some.injEq] at h4
    rw [h3, ← h4]
theorem planB_len {ops : Array Oper} {cs : List CO} {pl : PS} {ms ps : List Nat} (hb : planB ops cs pl ms ps = true) : cs.length = ops.size := by
  simp only [planB, Bool.and_eq_true] at hb
  exact (beq_iff _ _).1 hb.1.1.1.1.1.1.1.1.1.1
theorem drOK_by {p : Program} {nt : Nat} {ops : Array Oper} {cs : List CO} {ps : List Nat} (hm : p.follows .mixedOrders = true) (hcs : ops.toList.mapM (cO p nt ops.toList) = some cs) (hpr : pairL (masks ops.toList) cs = none)
    (hb : hides (mkPlan (masks ops.toList) cs) = false → edgesB ops (masks ops.toList) = true ∧ planB ops cs (mkPlan (masks ops.toList) cs) (masks ops.toList) ps = true) : DrOK p nt ops := by
  refine drOK_of hm fun c hcD => ?_
  simp only [cD, hcs, bind, Option.bind_some, hpr] at hcD
  cases hh : hides (mkPlan (masks ops.toList) cs) with
  | true => rw [hh] at hcD; injection hcD with hcD; exact .inl hcD.symm
  | false =>
    rw [hh] at hcD
    obtain ⟨hE, hb⟩ := hb hh
    simp only [Option.map_eq_some_iff, Bool.false_eq_true, if_false] at hcD
    obtain ⟨l, hl, rfl⟩ := hcD
    exact .inr (.inl ⟨none, l, cs, _, _, by rw [planB_len hb], hcs, plan_of (sts_of hl) hb, edges_of hE⟩)
theorem drOK_by2 {p : Program} {nt : Nat} {ops : Array Oper} {cs : List CO} {psA psB : List Nat} {L M : Nat} (hm : p.follows .mixedOrders = true) (hcs : ops.toList.mapM (cO p nt ops.toList) = some cs) (hpr : pairL (masks ops.toList) cs = some (L, M))
    (hb : (hides (mkPlan (joinM (masks ops.toList) L M) cs) || hides (mkPlan (joinM (masks ops.toList) M L) cs)) = false →
      planB2 ops cs (mkPlan (joinM (masks ops.toList) L M) cs) (masks ops.toList) (mkPlan (joinM (masks ops.toList) M L) cs) (joinM (masks ops.toList) L M) (joinM (masks ops.toList) M L) psA psB L M = true) : DrOK p nt ops := by
  refine drOK_of hm fun c hcD => ?_
  simp only [cD, hcs, bind, Option.bind_some, hpr] at hcD
  cases hh : (hides (mkPlan (joinM (masks ops.toList) L M) cs) || hides (mkPlan (joinM (masks ops.toList) M L) cs)) with
  | true => rw [hh] at hcD; injection hcD with hcD; exact .inl hcD.symm
  | false =>
    rw [hh] at hcD
    replace hb := hb hh
    simp only [Option.bind_eq_some_iff, Option.map_eq_some_iff, Bool.false_eq_true, if_false] at hcD
    obtain ⟨l, hl, m, hm', rfl⟩ := hcD
    simp only [planB2, Bool.and_eq_true, Bool.not_eq_true'] at hb
    obtain ⟨⟨⟨⟨⟨⟨⟨⟨⟨⟨pA, pB⟩, e0⟩, hL⟩, hM⟩, ne⟩, n1⟩, n2⟩, xA⟩, xB⟩, cl⟩ := hb
    have PA := plan_of (sts_of hl) pA
    have PB := plan_of (sts_of hm') pB
    refine .inr (.inr ⟨l, m, cs, _, _, preB ops.size (masks ops.toList), _, _, L, M, by rw [planB_len pA], hcs, PA, PB, edges_of e0, fun j o e h1 h2 h3 => (PA.into j o e h1 h2 h3).1, blt_t hL, blt_t hM, ?_, n1, n2, ext_of xA, ext_of xB, ?_⟩)
    · intro e
      rw [e] at ne
      have : Nat.beq M M = true := (beq_iff _ _).2 rfl
      rw [this] at ne; cases ne
    · intro j c hj hc
      have h1 := allN_iff.1 cl j (by rw [← planB_len pA]; exact (List.getElem?_eq_some_iff.1 hj).1)
      have h2 : atC cs j = true := by simp only [atC, hj, hc]
      rw [h2] at h1
      simp only [Bool.not_true, Bool.false_or, Bool.or_eq_true] at h1
      rcases h1 with h | h | h | h
      · exact .inl ((beq_iff _ _).1 h)
      · exact .inr (.inl ((beq_iff _ _).1 h))
      · exact .inr (.inr (.inl h))
      · exact .inr (.inr (.inr h))
end Go.Rfx
