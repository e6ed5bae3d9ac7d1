/- What is proved here: whatever order a region's operations are done in, what is done stands for the plan's run. The condition is the plan's form. -/
import Derived.Test.YtbjcajjlpehfiaaGreatDoorRfxDc
set_option linter.unusedVariables false
set_option linter.unusedSectionVars false
set_option linter.unusedSimpArgs false
set_option linter.constructorNameAsVariable false
namespace Go.Rfx
open Go
variable [Sy]

section
variable {p : Program} {nt : Nat} {ops : Array Oper} {cs : List CO} {l : List St} {pos : Nat → Nat} {pre : Nat → Nat → Bool} {cl : K → List V → H → OR} {nx : K} {Fs : Nat → T V} {hs : Nat → H}
  {φ0 : Phi} {h0 : H} {w0 : World}

/-- the block that an operation of the plan makes -/
noncomputable def mkq (cs : List CO) (pos : Nat → Nat) (nx : K) (Fs : Nat → T V) (hs : Nat → H) (A : Nat) : Option B :=
  match cs[A]? with
  | some c => match want (Fs (pos A)) (gdOf c) with | some true => (hs (pos A + 1)).get (kAdd nx A) | _ => none
  | none => none
theorem mkq_some {A : Nat} {b : B} (h : mkq cs pos nx Fs hs A = some b) : (hs (pos A + 1)).get (kAdd nx A) = some b := by
  unfold mkq at h
  split at h
  · split at h
    · exact h
    · cases h
  · cases h
theorem mkq_of (P : Plan ops cs l pos pre) (tr : Trace cl nx l Fs hs) {A t : Nat} {c : CO} (h : cs[A]? = some c) (h1 : t ≤ pos A) (h2 : Calm cs pos t (pos A)) (h3 : (hs t).get (kAdd nx A) = none) :
    (hs (pos A + 1)).get (kAdd nx A) = mkq cs pos nx Fs hs A := by
  cases c with | mk d g q =>
  obtain ⟨b, hw, hc⟩ := tr.own P h
  have e : mkq cs pos nx Fs hs A = (match want (Fs (pos A)) g with | some true => (hs (pos A + 1)).get (kAdd nx A) | _ => none) := by
    unfold mkq; rw [h]; rfl
  rw [e, hw]
  rcases hc with ⟨rfl, _, h5⟩ | ⟨rfl, _⟩
  · show _ = none
    rw [h5]
    rcases (tr.heap P (kAdd nx A) (pos A) h1 (Nat.le_of_lt (P.pos_lt h)) h2).2 with ⟨A', c', a1, a2, a3, a4, a5, a6⟩ | ⟨a1, a2⟩
    · have := kAdd_inj a5
      subst this
      omega
    · rw [a2]; exact h3
  · rfl
theorem Calm.sub {t1 t2 t3 : Nat} (h : Calm cs pos t1 t2) (h3 : t3 ≤ t2) : Calm cs pos t1 t3 := fun e ce h1 h2 hh => h e ce h1 h2 ⟨hh.1, by omega⟩
/-- what is done of these stands for the plan's run; t: the plan's time after the last effect -/
structure Inv (p : Program) (nt : Nat) (ops : Array Oper) (cs : List CO) (l : List St) (pos : Nat → Nat) (nx : K) (Fs : Nat → T V) (hs : Nat → H) (φ0 : Phi) (h0 : H) (w0 : World) (X : Nat → Prop) (t : Nat) (φ : Phi) (h : H) (a : Act) (w : World) : Prop where
  sl1 : ∀ (i : Nat) (c : CO) (d : K), X i → cs[i]? = some c → dstOf c = some d → ∃ v x, T.get d (Fs (pos i + 1)) = some v ∧ a.tmps[d.num]? = some x ∧ RV φ v x
  sl2 : ∀ (d : K) (v : V), (∀ (i : Nat) (c : CO), X i → cs[i]? = some c → dstOf c ≠ some d) → T.get d (Fs 0) = some v → ∃ x, a.tmps[d.num]? = some x ∧ RV φ v x
  sz : nt ≤ a.tmps.size
  df : a.defers = []
  tl : t ≤ l.length
  tau : ∀ (e : Nat) (c : CO), cs[e]? = some c → isE (oOf c) = true → (X e ↔ pos e < t)
  tm : t = 0 ∨ ∃ (e : Nat) (c : CO), cs[e]? = some c ∧ isE (oOf c) = true ∧ X e ∧ t = pos e + 1
  nm : ∀ k, k < ops.size → ¬ X k → φ (kAdd nx k) = none
  nm2 : ∀ (A : Nat) (c : CO), X A → cs[A]? = some c → isAl (oOf c) = true → t ≤ pos A → h.get (kAdd nx A) = none → φ (kAdd nx A) = none
  hp : ∀ n, (∃ (A : Nat) (c : CO), X A ∧ cs[A]? = some c ∧ isAl (oOf c) = true ∧ t ≤ pos A ∧ n = kAdd nx A ∧ h.get n = mkq cs pos nx Fs hs A) ∨
    ((∀ (A : Nat) (c : CO), X A → cs[A]? = some c → isAl (oOf c) = true → t ≤ pos A → n ≠ kAdd nx A) ∧ h.get n = (hs t).get n)
  fr : ∀ (A : Nat) (c : CO), cs[A]? = some c → isAl (oOf c) = true → t ≤ pos A → (hs t).get (kAdd nx A) = none
  hn : h.nx.num = (hs t).nx.num
  rw : RW p φ h w
  kp : Kp (fun k => h0.nx.num ≤ k.num) φ0 h0 w0 φ h w
  nn : nx.num + ops.size ≤ (hs t).nx.num ∧ h0.nx.num ≤ nx.num

/-- the slots of an operation that is to be done are the plan's -/
theorem Inv.slots {X : Nat → Prop} {t : Nat} {φ : Phi} {h : H} {a : Act} {w : World} (P : Plan ops cs l pos pre) (tr : Trace cl nx l Fs hs) (I : Inv p nt ops cs l pos nx Fs hs φ0 h0 w0 X t φ h a w)
    (cd : ∀ i j, pre i j = true → j < ops.size → X j → X i) {j : Nat} {c : CO} (hj : cs[j]? = some c) (nX : ¬ X j) (rdy : ∀ i, pre i j = true → X i) :
    FR nt φ (only (Fs (pos j)) (Rfx.slots c)) a := by
  refine ⟨fun k v hk => ?_, I.sz, I.df⟩
  rw [only_get] at hk
  split at hk
  · rename_i hmem
    have hpl := P.pos_lt hj
    by_cases hw : ∃ (i : Nat) (ci : CO), cs[i]? = some ci ∧ dstOf ci = some k
    · obtain ⟨i, ci, hi, hd⟩ := hw
      have uniq : ∀ (k' : Nat) (c' : CO), cs[k']? = some c' → dstOf c' = some k → k' = i := fun k' c' h1 h2 => P.wr _ _ _ _ _ h1 hi h2 hd
      by_cases hX : X i
      · have hpre : pre i j = true := by
          rcases P.rdr i j ci c k hi hj hd hmem with rfl | h1 | h1
          · exact absurd hX nX
          · exact h1
          · exact absurd (cd _ _ h1 (P.lt hi) hX) nX
        have hlt := P.topo i j (P.lt hi) (P.lt hj) hpre
        have hsl := tr.slot P (s := k) (t1 := pos i + 1) (pos j) (by omega) (by omega) fun k' c' h1 h2 hh => by
          have := uniq k' c' h1 h2
          subst this
          omega
        obtain ⟨v', x, h1, h2, h3⟩ := I.sl1 i ci k hX hi hd
        rw [hsl, hk] at h1
        injection h1 with h1
        subst h1
        exact ⟨x, h2, h3⟩
      · have hge : pos j ≤ pos i := by
          rcases P.rdr i j ci c k hi hj hd hmem with rfl | h1 | h1
          · exact Nat.le_refl _
          · exact absurd (rdy i h1) hX
          · exact Nat.le_of_lt (P.topo j i (P.lt hj) (P.lt hi) h1)
        have hsl := tr.slot P (s := k) (t1 := 0) (pos j) (by omega) (by omega) fun k' c' h1 h2 hh => by
          have := uniq k' c' h1 h2
          subst this
          omega
        exact I.sl2 k v (fun i' c' h1 h2 h3 => hX (by rw [← uniq i' c' h2 h3]; exact h1)) (by rw [hsl]; exact hk)
    · have hsl := tr.slot P (s := k) (t1 := 0) (pos j) (by omega) (by omega) fun k' c' h1 h2 _ => hw ⟨k', c', h1, h2⟩
      exact I.sl2 k v (fun i' c' _ h2 h3 => hw ⟨i', c', h2, h3⟩) (by rw [hsl]; exact hk)
  · cases hk

/-- the heap has what the plan's heap has, where it is known of -/
theorem Inv.has {X : Nat → Prop} {t : Nat} {φ : Phi} {h : H} {a : Act} {w : World} (P : Plan ops cs l pos pre) (tr : Trace cl nx l Fs hs) (I : Inv p nt ops cs l pos nx Fs hs φ0 h0 w0 X t φ h a w)
    {t' : Nat} (h1 : t ≤ t') (h2 : t' ≤ l.length) (h3 : Calm cs pos t t') : Has φ (hs t') h := by
  intro n b hn hg
  obtain ⟨_, hw⟩ := tr.heap P n t' h1 h2 h3
  rcases hw with ⟨A, c, a1, a2, a3, a4, a5, a6⟩ | ⟨a1, a2⟩
  · have hX : X A := by
      apply Classical.byContradiction
      intro hX
      exact hn (by rw [a5]; exact I.nm A (P.lt a1) hX)
    rcases I.hp n with ⟨A', c', b0, b1, b2, b3, b4, b5⟩ | ⟨b1, _⟩
    · have := kAdd_inj (a5.symm.trans b4)
      subst this
      exact b5.trans ((mkq_of P tr a1 a3 (h3.sub (by omega)) (I.fr _ _ a1 a2 a3)).symm.trans (by rw [← a5, ← a6]; exact hg))
    · exact absurd a5 (b1 A c hX a1 a2 a3)
  · rcases I.hp n with ⟨A', c', b0, b1, b2, b3, b4, b5⟩ | ⟨_, b2⟩
    · exfalso
      have := I.fr A' c' b1 b2 b3
      rw [a2, b4, this] at hg
      cases hg
    · rw [b2, ← a2]; exact hg

/-- what is put into slots -/
theorem Inv.put {X X' : Nat → Prop} {t : Nat} {φ φ' : Phi} {h : H} {a : Act} {w : World} (P : Plan ops cs l pos pre) (I : Inv p nt ops cs l pos nx Fs hs φ0 h0 w0 X t φ h a w)
    {j : Nat} {c : CO} {o : Oper} {v : V} {x : Value} (hj : cs[j]? = some c) (hX : ∀ i, X' i ↔ X i ∨ i = j) (hd : DstOK nt (dstOf c) o.dst) (hF : Fs (pos j + 1) = putF (dstOf c) v (Fs (pos j))) (hr : RV φ' v x) (he : Ext φ φ') :
    (∀ (i : Nat) (c : CO) (d : K), X' i → cs[i]? = some c → dstOf c = some d → ∃ v y, T.get d (Fs (pos i + 1)) = some v ∧ (a.put o.dst x).tmps[d.num]? = some y ∧ RV φ' v y) ∧
    (∀ (d : K) (v : V), (∀ (i : Nat) (c : CO), X' i → cs[i]? = some c → dstOf c ≠ some d) → T.get d (Fs 0) = some v → ∃ y, (a.put o.dst x).tmps[d.num]? = some y ∧ RV φ' v y) ∧
    nt ≤ (a.put o.dst x).tmps.size ∧ (a.put o.dst x).defers = [] := by
  have other : ∀ d : K, dstOf c ≠ some d → (a.put o.dst x).tmps[d.num]? = a.tmps[d.num]? := by
    intro d hne
    cases hc : dstOf c with
    | none =>
      rw [hc] at hd
      have hd' : o.dst = none := hd
      rw [hd']; rfl
    | some k =>
      rw [hc] at hd hne
      obtain ⟨h1, _⟩ := hd
      rw [h1]
      have : k.num ≠ d.num := fun e => hne (by rw [K.num_inj e])
      simp [Act.put, Array.getElem?_setIfInBounds, this]
  have own : ∀ d : K, dstOf c = some d → (a.put o.dst x).tmps[d.num]? = some x := by
    intro d hc
    rw [hc] at hd
    obtain ⟨h1, h2⟩ := hd
    rw [h1]
    have hlt : d.num < a.tmps.size := Nat.lt_of_lt_of_le h2 I.sz
    simp [Act.put, hlt]
  refine ⟨?_, ?_, ?_, ?_⟩
  · intro i ci d hi hci hdi
    by_cases e : i = j
    · subst e
      rw [hj] at hci; injection hci with hci; subst hci
      exact ⟨v, x, by rw [hF, hdi, putF_same], own d hdi, hr⟩
    · have hXi : X i := ((hX i).1 hi).resolve_right e
      obtain ⟨u, y, h1, h2, h3⟩ := I.sl1 i ci d hXi hci hdi
      exact ⟨u, y, h1, by rw [other d fun hh => e (P.wr _ _ _ _ _ hci hj hdi hh)]; exact h2, h3.mono he⟩
  · intro d u hn hg
    obtain ⟨y, h1, h2⟩ := I.sl2 d u (fun i ci hi => hn i ci ((hX i).2 (.inl hi))) hg
    exact ⟨y, by rw [other d (hn j c ((hX j).2 (.inr rfl)) hj)]; exact h1, h2.mono he⟩
  · have := I.sz
    cases o.dst <;> simp [Act.put] <;> exact this
  · have := I.df
    cases o.dst <;> simp [Act.put] <;> exact this
end
end Go.Rfx
