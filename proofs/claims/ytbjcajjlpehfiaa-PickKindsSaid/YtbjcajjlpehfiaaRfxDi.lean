/- What is proved here: a region whose plan is checked comes to what its plan says. No condition but the check. -/
import Derived.Test.YtbjcajjlpehfiaaRfxDh
set_option linter.unusedVariables false
set_option linter.unusedSimpArgs false
set_option linter.constructorNameAsVariable false
namespace Go.Rfx
open Go

theorem mapM_get' {α β : Type} {f : α → Option β} : ∀ {l : List α} {r : List β}, l.mapM f = some r → ∀ (j : Nat) (a : α), l[j]? = some a → ∃ c, r[j]? = some c ∧ f a = some c
  | [], r, h, j, a, ha => by simp at ha
  | b :: l, r, h, j, a, ha => by
    rw [List.mapM_cons] at h
    simp only [bind, Option.bind_eq_some_iff, pure, Option.some.injEq] at h
    obtain ⟨c, hc, r', hr, rfl⟩ := h
    cases j with
    | zero => simp at ha; subst ha; exact ⟨c, rfl, hc⟩
    | succ j => obtain ⟨x, hx, hf⟩ := mapM_get' hr j a (by simpa using ha); exact ⟨x, by simpa using hx, hf⟩
theorem drOK_by {p : Program} {nt : Nat} {ops : Array Oper} {cs : List CO} {pl : PS} {ms ps : List Nat} (hm : p.follows .mixedOrders = true) (hcs : ops.toList.mapM (cO p nt ops.toList) = some cs) (hpl : mkPlan (masks ops.toList) cs = pl)
    (hb : planB ops cs pl ms ps = true) : DrOK p nt ops := by
  refine drOK_of hm fun n lo l hcD => ?_
  simp only [cD, hcs, bind, Option.bind_some, Option.bind_eq_some_iff, Option.some.injEq, hpl] at hcD
  obtain ⟨l', hl, hcD⟩ := hcD
  injection hcD with e1 e2 e3
  subst e3
  have hlen : cs.length = ops.size := by
    have : planB ops cs pl ms ps = true := hb
    simp only [planB, Bool.and_eq_true] at this
    exact (beq_iff _ _).1 this.1.1.1.1.1.1.1.1.1.1
  refine ⟨by rw [← e1, hlen], cs, _, _, hcs, plan_of (l := l') (fun t k chk hid c => ⟨fun h => ?_, fun h => ?_⟩) hb⟩
  · obtain ⟨s, h1, h2⟩ := mapM_get hl t _ h
    simp only [Option.map_eq_some_iff] at h2
    obtain ⟨c', h3, h4⟩ := h2
    injection h4 with g1 g2 g3 g4
    obtain ⟨k', chk', hid'⟩ := s
    simp only at g1 g2 g3 h3
    subst g1; subst g2; subst g3; subst g4
    exact ⟨h1, h3⟩
  · obtain ⟨h1, h2⟩ := h
    obtain ⟨s, h3, h4⟩ := mapM_get' hl t _ h1
    simp only [h2, Option.map_some, Option.some.injEq] at h4
    rw [h3, ← h4]
end Go.Rfx
