/- What is proved here: whatever order a region's operations are done in, each step stands for the plan's. The condition is the plan's form. -/
import Derived.Test.YtbjcajjlpehfiaaGreatDoorRfxDd
set_option linter.unusedVariables false
set_option linter.unusedSectionVars false
set_option linter.unusedSimpArgs false
set_option linter.constructorNameAsVariable false
namespace Go.Rfx
open Go
variable [Sy]

/-- a heap with these put back -/
theorem mix (f : Nat → K) (h g g' : H) : ∀ n : Nat, ∃ h' : H, h'.nx = g'.nx ∧ ∀ k, ((∃ A, A < n ∧ k = f A) → h'.get k = (match h.get k, g.get k with | some b, none => some b | _, _ => g'.get k)) ∧ ((¬ ∃ A, A < n ∧ k = f A) → h'.get k = g'.get k)
  | 0 => ⟨g', rfl, fun k => ⟨fun ⟨A, h, _⟩ => by omega, fun _ => rfl⟩⟩
  | n + 1 => by
    obtain ⟨h1, e1, e2⟩ := mix f h g g' n
    have keep : ∀ k, k ≠ f n → ((∃ A, A < n + 1 ∧ k = f A) ↔ ∃ A, A < n ∧ k = f A) := fun k hk => ⟨fun ⟨A, h, e⟩ => ⟨A, by
      rcases Nat.lt_or_ge A n with h' | h'
      · exact h'
      · have : A = n := by omega
        subst this; exact absurd e hk, e⟩, fun ⟨A, h, e⟩ => ⟨A, by omega, e⟩⟩
    cases hq : h.get (f n) with
    | none =>
      refine ⟨h1, e1, fun k => ?_⟩
      by_cases hk : k = f n
      · subst hk
        refine ⟨fun _ => ?_, fun hh => absurd ⟨n, by omega, rfl⟩ hh⟩
        rw [hq]
        by_cases hx : ∃ A, A < n ∧ f n = f A
        · rw [(e2 _).1 hx, hq]
        · rw [(e2 _).2 hx]
      · rw [keep k hk]; exact e2 k
    | some b =>
      cases hg : g.get (f n) with
      | some b2 =>
        refine ⟨h1, e1, fun k => ?_⟩
        by_cases hk : k = f n
        · subst hk
          refine ⟨fun _ => ?_, fun hh => absurd ⟨n, by omega, rfl⟩ hh⟩
          rw [hq, hg]
          by_cases hx : ∃ A, A < n ∧ f n = f A
          · rw [(e2 _).1 hx, hq, hg]
          · rw [(e2 _).2 hx]
        · rw [keep k hk]; exact e2 k
      | none =>
        refine ⟨h1.set (f n) b, by rw [H.nx_set]; exact e1, fun k => ?_⟩
        by_cases hk : k = f n
        · subst hk
          refine ⟨fun _ => ?_, fun hh => absurd ⟨n, by omega, rfl⟩ hh⟩
          rw [hq, hg, H.get_set_same]
        · rw [keep k hk, H.get_set_other _ _ hk]; exact e2 k

section
variable {p : Program} {nt : Nat} {ops : Array Oper} {cs : List CO} {l : List St} {pos : Nat → Nat} {pre : Nat → Nat → Bool} {cl : K → List V → H → OR} {nx : K} {Fs : Nat → T V} {hs : Nat → H}
  {φ0 : Phi} {h0 : H} {w0 : World} {X X' : Nat → Prop} {t : Nat} {φ φ' : Phi} {h h' : H} {a : Act} {w w' : World}

/-- no effect: the plan's time stays -/
theorem Inv.still (P : Plan ops cs l pos pre) (I : Inv p nt ops cs l pos nx Fs hs φ0 h0 w0 X t φ h a w) {j : Nat} {c : CO} {o : Oper} {v : V} {x : Value} (hj : cs[j]? = some c) (hX : ∀ i, X' i ↔ X i ∨ i = j) (nX : ¬ X j)
    (hd : DstOK nt (dstOf c) o.dst) (hF : Fs (pos j + 1) = putF (dstOf c) v (Fs (pos j))) (hr : RV φ' v x) (r : RW p φ' h' w') (kp : Kp (fun k => k = kAdd nx j ∨ h.nx.num ≤ k.num) φ h w φ' h' w') (nE : isE (oOf c) = false) (hnx : h'.nx = h.nx)
    (hh : (isAl (oOf c) = false ∧ ∀ n, h'.get n = h.get n) ∨ (isAl (oOf c) = true ∧ t ≤ pos j ∧ (∀ n, n ≠ kAdd nx j → h'.get n = h.get n) ∧ h'.get (kAdd nx j) = mkq cs pos nx Fs hs j ∧ (h'.get (kAdd nx j) = none → φ' (kAdd nx j) = none))) :
    Inv p nt ops cs l pos nx Fs hs φ0 h0 w0 X' t φ' h' (a.put o.dst x) w' := by
  obtain ⟨s1, s2, s3, s4⟩ := I.put P hj hX hd hF hr kp.ext
  have notE : ∀ (e : Nat) (ce : CO), cs[e]? = some ce → isE (oOf ce) = true → e ≠ j := by
    intro e ce h1 h2 h3
    subst h3
    rw [hj] at h1; injection h1 with h1; subst h1
    rw [h2] at nE; cases nE
  have hoth : ∀ n, n ≠ kAdd nx j → h'.get n = h.get n := by
    intro n hn
    rcases hh with ⟨_, h1⟩ | ⟨_, _, h1, _⟩
    · exact h1 n
    · exact h1 n hn
  have nmm : ∀ k, k < ops.size → k ≠ j → φ (kAdd nx k) = none → φ' (kAdd nx k) = none := by
    intro k hk hne h1
    cases h2 : φ' (kAdd nx k) with
    | none => rfl
    | some ri =>
      rcases kp.new _ h1 (by rw [h2]; exact fun e => by cases e) with h3 | h3
      · exact absurd (kAdd_inj h3) hne
      · rw [I.hn, kAdd_num] at h3
        have := I.nn.1
        omega
  refine ⟨s1, s2, s3, s4, I.tl, ?_, ?_, ?_, ?_, ?_, I.fr, by rw [hnx]; exact I.hn, r, I.kp.trans kp ?_, I.nn⟩
  · intro e ce h1 h2
    rw [hX, ← I.tau e ce h1 h2]
    exact ⟨fun hh => hh.resolve_right (notE e ce h1 h2), .inl⟩
  · rcases I.tm with h1 | ⟨e, ce, h1, h2, h3, h4⟩
    · exact .inl h1
    · exact .inr ⟨e, ce, h1, h2, (hX e).2 (.inl h3), h4⟩
  · intro k hk hnX
    exact nmm k hk (fun e => hnX ((hX k).2 (.inr e))) (I.nm k hk fun h => hnX ((hX k).2 (.inl h)))
  · intro A cA hA h1 h2 h3 h4
    by_cases e : A = j
    · subst e
      rw [hj] at h1; injection h1 with h1; subst h1
      rcases hh with ⟨h5, _⟩ | ⟨_, _, _, _, h5⟩
      · rw [h2] at h5; cases h5
      · exact h5 h4
    · rw [hoth _ (fun h => e (kAdd_inj h))] at h4
      exact nmm A (P.lt h1) e (I.nm2 A cA (((hX A).1 hA).resolve_right e) h1 h2 h3 h4)
  · intro n
    by_cases e : n = kAdd nx j
    · subst e
      rcases hh with ⟨h5, h6⟩ | ⟨h5, h6, h7, h8, _⟩
      · rcases I.hp (kAdd nx j) with ⟨A, cA, b0, b1, b2, b3, b4, b5⟩ | ⟨b1, b2⟩
        · exact .inl ⟨A, cA, (hX A).2 (.inl b0), b1, b2, b3, b4, by rw [h6]; exact b5⟩
        · refine .inr ⟨fun A cA d0 d1 d2 d3 d4 => ?_, by rw [h6]; exact b2⟩
          have := kAdd_inj d4
          subst this
          rw [hj] at d1; injection d1 with d1; subst d1
          rw [d2] at h5; cases h5
      · exact .inl ⟨j, c, (hX j).2 (.inr rfl), hj, h5, h6, rfl, h8⟩
    · rcases I.hp n with ⟨A, cA, b0, b1, b2, b3, b4, b5⟩ | ⟨b1, b2⟩
      · exact .inl ⟨A, cA, (hX A).2 (.inl b0), b1, b2, b3, b4, by rw [hoth n e]; exact b5⟩
      · refine .inr ⟨fun A cA d0 d1 d2 d3 d4 => ?_, by rw [hoth n e]; exact b2⟩
        by_cases e' : A = j
        · subst e'; exact e d4
        · exact b1 A cA (((hX A).1 d0).resolve_right e') d1 d2 d3 d4
  · rintro k (rfl | hk)
    · have := I.nn.2
      rw [kAdd_num]; omega
    · have h1 := I.nn
      rw [I.hn] at hk
      omega

/-- an effect: the plan's time goes on -/
theorem Inv.effect (P : Plan ops cs l pos pre) (tr : Trace cl nx l Fs hs) (I : Inv p nt ops cs l pos nx Fs hs φ0 h0 w0 X t φ h a w) (cd : ∀ i j, pre i j = true → j < ops.size → X j → X i)
    {j : Nat} {c : CO} {o : Oper} {v : V} {x : Value} (hj : cs[j]? = some c) (hX : ∀ i, X' i ↔ X i ∨ i = j) (nX : ¬ X j) (rdy : ∀ i, pre i j = true → X i)
    (hd : DstOK nt (dstOf c) o.dst) (hF : Fs (pos j + 1) = putF (dstOf c) v (Fs (pos j))) (hE : isE (oOf c) = true) :
    RW p φ (hs (pos j)) w ∧ nx.num + ops.size ≤ (hs (pos j)).nx.num ∧ ∀ (φ' : Phi) (w' : World), RV φ' v x → RW p φ' (hs (pos j + 1)) w' → Kp (fun k => k = kAdd nx j ∨ (hs (pos j)).nx.num ≤ k.num) φ (hs (pos j)) w φ' (hs (pos j + 1)) w' →
      ∃ h', Inv p nt ops cs l pos nx Fs hs φ0 h0 w0 X' (pos j + 1) φ' h' (a.put o.dst x) w' := by
  have hpl := P.pos_lt hj
  have ht : t ≤ pos j := by
    rcases I.tm with h1 | ⟨e, ce, h1, h2, h3, h4⟩
    · omega
    · rcases P.eff e j ce c h1 hj h2 hE with rfl | h5 | h5
      · exact absurd h3 nX
      · have := P.topo e j (P.lt h1) (P.lt hj) h5; omega
      · exact absurd (cd _ _ h5 (P.lt h1) h3) nX
  have calm : Calm cs pos t (pos j) := by
    intro e ce h1 h2 hh
    have hnX : ¬ X e := fun hx => by have := (I.tau e ce h1 h2).1 hx; omega
    rcases P.eff e j ce c h1 hj h2 hE with rfl | h5 | h5
    · omega
    · exact hnX (rdy e h5)
    · have := P.topo j e (P.lt hj) (P.lt h1) h5; omega
  have alX : ∀ (A : Nat) (cA : CO), cs[A]? = some cA → isAl (oOf cA) = true → pos A < pos j → X A := fun A cA h1 h2 h3 => rdy A (P.al A j cA c h1 hj h2 hE h3)
  have W := fun n => tr.heap P n (pos j) ht (by omega) calm
  have hnx : (hs (pos j)).nx.num = (hs t).nx.num := by rw [(W nx).1]
  have neA : ∀ (A : Nat) (cA : CO), cs[A]? = some cA → isAl (oOf cA) = true → pos A ≠ pos j := by
    intro A cA h1 h2 h3
    have := P.pos_inj h1 hj h3
    subst this
    rw [hj] at h1; injection h1 with h1; subst h1
    generalize oOf c = q at h2 hE
    cases q <;> first | (cases h2; done) | cases hE
  have part : ∀ n b, (hs (pos j)).get n = some b → h.get n = some b := by
    intro n b hg
    rcases (W n).2 with ⟨A, cA, a1, a2, a3, a4, a5, a6⟩ | ⟨a1, a2⟩
    · rcases I.hp n with ⟨A', c', b0, b1, b2, b3, b4, b5⟩ | ⟨b1, _⟩
      · have := kAdd_inj (a5.symm.trans b4)
        subst this
        exact b5.trans ((mkq_of P tr a1 a3 (calm.sub (by omega)) (I.fr _ _ a1 a2 a3)).symm.trans (by rw [← a5, ← a6]; exact hg))
      · exact absurd a5 (b1 A cA (alX A cA a1 a2 a4) a1 a2 a3)
    · rcases I.hp n with ⟨A', c', b0, b1, b2, b3, b4, b5⟩ | ⟨_, b2⟩
      · exfalso
        have := I.fr A' c' b1 b2 b3
        rw [a2, b4, this] at hg
        cases hg
      · rw [b2, ← a2]; exact hg
  -- what is not made yet
  have later : ∀ (A : Nat) (cA : CO), cs[A]? = some cA → isAl (oOf cA) = true → pos j + 1 ≤ pos A → (hs (pos j)).get (kAdd nx A) = none := by
    intro A cA h1 h2 h3
    rcases (W (kAdd nx A)).2 with ⟨A', c', a1, a2, a3, a4, a5, a6⟩ | ⟨a1, a2⟩
    · have := kAdd_inj a5
      subst this
      omega
    · rw [a2]; exact I.fr A cA h1 h2 (by omega)
  -- what stands beside
  have aside : ∀ n b, h.get n = some b → (hs (pos j)).get n = none → ∃ (A : Nat) (cA : CO), X A ∧ cs[A]? = some cA ∧ isAl (oOf cA) = true ∧ pos j + 1 ≤ pos A ∧ n = kAdd nx A ∧ h.get n = mkq cs pos nx Fs hs A := by
    intro n b h1 h2
    rcases I.hp n with ⟨A, c', b0, b1, b2, b3, b4, b5⟩ | ⟨b1, b2⟩
    · refine ⟨A, c', b0, b1, b2, ?_, b4, b5⟩
      rcases Nat.lt_or_ge (pos j) (pos A) with h3 | h3
      · exact h3
      · exfalso
        rcases (W n).2 with ⟨A', c2, a1, a2, a3, a4, a5, a6⟩ | ⟨a1, a2⟩
        · have := kAdd_inj (a5.symm.trans b4)
          subst this
          rw [a6, a5, mkq_some (b5.symm.trans h1)] at h2
          cases h2
        · exact a1 A c' b1 b2 b3 (by have := neA A c' b1 b2; omega) b4
    · exfalso
      rcases (W n).2 with ⟨A', c2, a1, a2, a3, a4, a5, a6⟩ | ⟨a1, a2⟩
      · exact b1 A' c2 (alX A' c2 a1 a2 a4) a1 a2 a3 a5
      · rw [a2, ← b2, h1] at h2
        cases h2
  have rg : RW p φ (hs (pos j)) w := I.rw.part part (by rw [hnx]; exact I.hn.symm)
  refine ⟨rg, by rw [hnx]; exact I.nn.1, fun φ' w' hr r' kp => ?_⟩
  obtain ⟨s1, s2, s3, s4⟩ := I.put P hj hX hd hF hr kp.ext
  obtain ⟨h', e1, e2⟩ := mix (fun A => kAdd nx A) h (hs (pos j)) (hs (pos j + 1)) ops.size
  have hget : ∀ k, h'.get k = (match h.get k, (hs (pos j)).get k with | some b, none => some b | _, _ => (hs (pos j + 1)).get k) := by
    intro k
    by_cases hk : ∃ A, A < ops.size ∧ k = kAdd nx A
    · exact (e2 k).1 hk
    · rw [(e2 k).2 hk]
      cases h1 : h.get k with
      | none => rfl
      | some b =>
        cases h2 : (hs (pos j)).get k with
        | some b2 => rfl
        | none =>
          obtain ⟨A, cA, _, g1, _, _, g2, _⟩ := aside k b h1 h2
          exact absurd ⟨A, P.lt g1, g2⟩ hk
  obtain ⟨rw', kp'⟩ := I.rw.beside part (by rw [hnx]; exact I.hn.symm) r' kp hget (by rw [e1])
  have nmm : ∀ k, k < ops.size → k ≠ j → φ (kAdd nx k) = none → φ' (kAdd nx k) = none := by
    intro k hk hne h1
    cases h2 : φ' (kAdd nx k) with
    | none => rfl
    | some ri =>
      rcases kp.new _ h1 (by rw [h2]; exact fun e => by cases e) with h3 | h3
      · exact absurd (kAdd_inj h3) hne
      · rw [hnx, kAdd_num] at h3
        have := I.nn.1
        omega
  have neAj : ∀ (A : Nat) (cA : CO), cs[A]? = some cA → isAl (oOf cA) = true → A ≠ j := fun A cA h1 h2 e => neA A cA h1 h2 (by rw [e])
  have fr' : ∀ (A : Nat) (cA : CO), cs[A]? = some cA → isAl (oOf cA) = true → pos j + 1 ≤ pos A → (hs (pos j + 1)).get (kAdd nx A) = none := by
    intro A cA h1 h2 h3
    cases hq : (hs (pos j + 1)).get (kAdd nx A) with
    | none => rfl
    | some q =>
      exfalso
      obtain ⟨ri, g1, _⟩ := r'.blk _ _ hq
      have hφ : φ (kAdd nx A) ≠ none := fun hn => by
        rw [nmm A (P.lt h1) (neAj A cA h1 h2) hn] at g1; cases g1
      have hXA : X A := Classical.byContradiction fun hnX => hφ (I.nm A (P.lt h1) hnX)
      cases hh : h.get (kAdd nx A) with
      | none => exact hφ (I.nm2 A cA hXA h1 h2 (by omega) hh)
      | some b =>
        obtain ⟨ri0, g2, _⟩ := I.rw.blk _ _ hh
        have g3 := kp.ext _ _ g2
        rw [g1] at g3; injection g3 with g3; subst g3
        have hlt := I.rw.lt hh g2
        have hn : ¬ Nm φ (hs (pos j)) ri.b := by
          rintro ⟨k', q', ri', f1, f2, f3⟩
          have := I.rw.inj _ _ _ _ _ _ (part _ _ f1) hh f2 g2 f3
          subst this
          rw [later A cA h1 h2 h3] at f1; cases f1
        exact kp.nm _ hlt hn ⟨_, q, ri, hq, g1, rfl⟩
  refine ⟨h', s1, s2, s3, s4, by omega, ?_, ?_, ?_, ?_, ?_, fr', by rw [e1], rw', I.kp.trans kp' ?_, ⟨?_, I.nn.2⟩⟩
  · intro e ce h1 h2
    rw [hX]
    constructor
    · rintro (hx | rfl)
      · have := (I.tau e ce h1 h2).1 hx; omega
      · omega
    · intro hlt
      by_cases e' : e = j
      · exact .inr e'
      · refine .inl ?_
        rcases P.eff e j ce c h1 hj h2 hE with rfl | h5 | h5
        · exact absurd rfl e'
        · exact rdy e h5
        · have := P.topo j e (P.lt hj) (P.lt h1) h5; omega
  · exact .inr ⟨j, c, hj, hE, (hX j).2 (.inr rfl), rfl⟩
  · intro k hk hnX
    exact nmm k hk (fun e => hnX ((hX k).2 (.inr e))) (I.nm k hk fun h => hnX ((hX k).2 (.inl h)))
  · intro A cA hA h1 h2 h3 h4
    have hXA := ((hX A).1 hA).resolve_right (neAj A cA h1 h2)
    rw [hget] at h4
    cases hh : h.get (kAdd nx A) with
    | none => exact nmm A (P.lt h1) (neAj A cA h1 h2) (I.nm2 A cA hXA h1 h2 (by omega) hh)
    | some b => rw [hh, later A cA h1 h2 h3] at h4; cases h4
  · intro n
    by_cases hA : ∃ (A : Nat) (cA : CO), X' A ∧ cs[A]? = some cA ∧ isAl (oOf cA) = true ∧ pos j + 1 ≤ pos A ∧ n = kAdd nx A
    · obtain ⟨A, cA, b0, b1, b2, b3, b4⟩ := hA
      refine .inl ⟨A, cA, b0, b1, b2, b3, b4, ?_⟩
      have hXA := ((hX A).1 b0).resolve_right (neAj A cA b1 b2)
      have own : h.get n = mkq cs pos nx Fs hs A := by
        rcases I.hp n with ⟨A', c', d0, d1, d2, d3, d4, d5⟩ | ⟨d1, _⟩
        · have := kAdd_inj (b4.symm.trans d4)
          subst this
          exact d5
        · exact absurd b4 (d1 A cA hXA b1 b2 (by omega))
      have hl : (hs (pos j)).get n = none := by rw [b4]; exact later A cA b1 b2 b3
      rw [hget, hl]
      cases hh : h.get n with
      | some b => rw [← own, hh]
      | none =>
        show (hs (pos j + 1)).get n = _
        rw [← own, hh, b4]
        exact fr' A cA b1 b2 b3
    · refine .inr ⟨fun A cA d0 d1 d2 d3 d4 => hA ⟨A, cA, d0, d1, d2, d3, d4⟩, ?_⟩
      rw [hget]
      cases h1 : h.get n with
      | none => rfl
      | some b =>
        cases h2 : (hs (pos j)).get n with
        | some b2 => rfl
        | none =>
          obtain ⟨A, cA, g0, g1, g2, g3, g4, _⟩ := aside n b h1 h2
          exact absurd ⟨A, cA, (hX A).2 (.inl g0), g1, g2, g3, g4⟩ hA
  · rintro k (rfl | hk)
    · have := I.nn.2
      rw [kAdd_num]; omega
    · have h1 := I.nn
      rw [hnx] at hk
      omega
  · have := kp.nx
    have h1 := I.nn.1
    omega
end
end Go.Rfx
