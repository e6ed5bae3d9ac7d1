/- What is proved here: a region whose order is open comes to what its plan says. The condition is the plan's form. -/
import Derived.Test.YtbjcajjlpehfiaaGreatDoorRfxDf
set_option linter.unusedVariables false
set_option linter.unusedSectionVars false
set_option linter.unusedSimpArgs false
set_option linter.constructorNameAsVariable false
namespace Go.Rfx
open Go
variable [Sy]

section
variable {p : Program} {nt : Nat} {ops : Array Oper} {cs : List CO} {l : List St} {pos : Nat → Nat} {pre : Nat → Nat → Bool} {cl : K → List V → H → OR} {nx : K} {Fs : Nat → T V} {hs : Nat → H}
  {φ0 : Phi} {h0 : H} {w0 : World} {X X' : Nat → Prop} {t : Nat} {φ φ' : Phi} {h h' : H} {a : Act} {w w' : World}

/-- all is done -/
theorem Inv.fin (P : Plan ops cs l pos pre) (tr : Trace cl nx l Fs hs) (I : Inv p nt ops cs l pos nx Fs hs φ0 h0 w0 X t φ h a w) (hX : ∀ i, i < ops.size → X i) : Stands p nt φ0 h0 w0 (Fs l.length) (hs l.length) a w := by
  have calm : Calm cs pos t l.length := fun e ce h1 h2 hh => by
    have := (I.tau e ce h1 h2).1 (hX e (P.lt h1))
    omega
  have W := fun n => tr.heap P n l.length I.tl (Nat.le_refl _) calm
  have heq : ∀ n, (hs l.length).get n = h.get n := by
    intro n
    rcases (W n).2 with ⟨A, cA, a1, a2, a3, a4, a5, a6⟩ | ⟨a1, a2⟩
    · rcases I.hp n with ⟨A', c', b0, b1, b2, b3, b4, b5⟩ | ⟨b1, _⟩
      · have := kAdd_inj (a5.symm.trans b4)
        subst this
        rw [a6, b5, ← mkq_of P tr a1 a3 (calm.sub (by omega)) (I.fr _ _ a1 a2 a3), a5]
      · exact absurd a5 (b1 A cA (hX A (P.lt a1)) a1 a2 a3)
    · rcases I.hp n with ⟨A', c', b0, b1, b2, b3, b4, b5⟩ | ⟨_, b2⟩
      · exact absurd b4 (a1 A' c' b1 b2 b3 (P.pos_lt b1))
      · rw [a2, b2]
  have hnx : (hs l.length).nx.num = h.nx.num := by rw [(W nx).1]; exact I.hn.symm
  refine ⟨φ, ⟨fun k v hk => ?_, I.sz, I.df⟩, I.rw.same heq hnx, I.kp.same heq hnx⟩
  by_cases hw : ∃ (i : Nat) (ci : CO), cs[i]? = some ci ∧ dstOf ci = some k
  · obtain ⟨i, ci, hi, hd⟩ := hw
    have hpl := P.pos_lt hi
    have hsl := tr.slot P (s := k) (t1 := pos i + 1) l.length (by omega) (Nat.le_refl _) fun k' c' h1 h2 hh => by
      have := P.wr _ _ _ _ _ h1 hi h2 hd
      subst this
      omega
    obtain ⟨v', x, h1, h2, h3⟩ := I.sl1 i ci k (hX i (P.lt hi)) hi hd
    rw [hsl, hk] at h1
    injection h1 with h1
    subst h1
    exact ⟨x, h2, h3⟩
  · have hsl := tr.slot P (s := k) (t1 := 0) l.length (by omega) (Nat.le_refl _) fun k' c' h1 h2 _ => hw ⟨k', c', h1, h2⟩
    exact I.sl2 k v (fun i' c' _ h2 h3 => hw ⟨i', c', h2, h3⟩) (by rw [hsl]; exact hk)

/-- what stands ahead of an operation is what its edges say -/
def Edges (ops : Array Oper) (pre : Nat → Nat → Bool) : Prop := ∀ (i j : Nat), j < ops.size → pre i j = true → ∃ o e, ops[j]? = some o ∧ e ∈ o.after ∧ Region.binds .any e = true ∧ (i = e.on ∨ pre i e.on = true)
def Lst (listed : Array Bool) (i : Nat) : Prop := listed.getD i false = true
/-- nothing is ready: all is done -/
theorem all_of_none (P : Plan ops cs l pos pre) {listed : Array Bool} (hsz : listed.size = ops.size) (hr : Region.ready .any ops listed = []) : ∀ (n i : Nat), pos i ≤ n → i < ops.size → Lst listed i := by
  intro n
  induction n using Nat.strongRecOn with
  | _ n ih =>
    intro i hi hlt
    cases hl : listed.getD i false with
    | true => exact hl
    | false =>
      exfalso
      have hl' : listed.getD i true = false := by
        have hi' : i < listed.size := by omega
        simpa [Array.getD_eq_getD_getElem?, hi'] using hl
      have : i ∈ Region.ready .any ops listed := by
        rw [mem_ready]
        refine ⟨hl', ops[i], by simp [hlt], fun e he hb => ?_⟩
        obtain ⟨h1, h2⟩ := P.into i ops[i] e (by simp [hlt]) he hb
        have h3 := P.topo e.on i h1 hlt h2
        exact ih (pos e.on) (by omega) e.on (Nat.le_refl _) h1
      rw [hr] at this
      cases this
theorem region_any (hS : Snd p cl) (P : Plan ops cs l pos pre) (hE : Edges ops pre) (hcs : ops.toList.mapM (cO p nt ops.toList) = some cs) (tr : Trace cl nx l Fs hs) {Q : Exit → Act → World → Prop} (hQ : ∀ a w, Stands p nt φ0 h0 w0 (Fs l.length) (hs l.length) a w → Q .normal a w) :
    ∀ (fuel : Nat) (listed : Array Bool) (t : Nat) (φ : Phi) (h : H) (a : Act) (w : World), listed.size = ops.size → listed.toList.countP (fun b => !b) = fuel →
      (∀ i j, pre i j = true → j < ops.size → Lst listed j → Lst listed i) → Inv p nt ops cs l pos nx Fs hs φ0 h0 w0 (Lst listed) t φ h a w → wpAny p .any ops Q fuel listed a w
  | 0, listed, t, φ, h, a, w, hsz, hcnt, cd, I => by
    have hall : ∀ i, i < ops.size → Lst listed i := by
      intro i hi
      rw [List.countP_eq_zero] at hcnt
      have hi' : i < listed.size := by omega
      have := hcnt listed[i] (by simp)
      show listed.getD i false = true
      simpa [Array.getD_eq_getD_getElem?, hi'] using this
    refine ⟨?_, hQ a w (I.fin P tr hall)⟩
    cases hr : Region.ready .any ops listed with
    | nil => rfl
    | cons j r =>
      exfalso
      have hm : j ∈ Region.ready .any ops listed := by rw [hr]; simp
      rw [mem_ready] at hm
      obtain ⟨h1, o, h2, _⟩ := hm
      have hlt : j < ops.size := (Array.getElem?_eq_some_iff.1 h2).1
      have h3 : listed.getD j false = true := hall j hlt
      have hi' : j < listed.size := by omega
      simp [Array.getD_eq_getD_getElem?, hi'] at h1 h3
      rw [h1] at h3; cases h3
  | fuel + 1, listed, t, φ, h, a, w, hsz, hcnt, cd, I => by
    refine ⟨fun hr => hQ a w (I.fin P tr fun i hi => all_of_none P hsz hr _ i (Nat.le_refl _) hi), fun j hm => ?_⟩
    rw [mem_ready] at hm
    obtain ⟨h1, o, h2, h3⟩ := hm
    have hlt : j < ops.size := (Array.getElem?_eq_some_iff.1 h2).1
    have hi' : j < listed.size := by omega
    have hf : listed[j] = false := by simpa [Array.getD_eq_getD_getElem?, hi'] using h1
    have nX : ¬ Lst listed j := fun hh => by
      have hh' : listed.getD j false = true := hh
      simp [Array.getD_eq_getD_getElem?, hi', hf] at hh'
    obtain ⟨c, hj⟩ := P.some hlt
    obtain ⟨o', ho', hco⟩ := mapM_get hcs j c hj
    rw [Array.getElem?_toList, h2] at ho'
    injection ho' with ho'
    subst ho'
    have rdy : ∀ i, pre i j = true → Lst listed i := by
      intro i hp
      obtain ⟨o2, e, g1, g2, g3, g4⟩ := hE i j hlt hp
      rw [h2] at g1; injection g1 with g1; subst g1
      have hon : Lst listed e.on := h3 e g2 g3
      rcases g4 with rfl | g4
      · exact hon
      · exact cd i e.on g4 (P.into j o e h2 g2 g3).1 hon
    have hX : ∀ i, Lst (listed.setIfInBounds j true) i ↔ Lst listed i ∨ i = j := by
      intro i
      by_cases e : j = i
      · subst e
        refine ⟨fun _ => .inr rfl, fun _ => ?_⟩
        show (listed.setIfInBounds j true).getD j false = true
        simp [Array.getD_eq_getD_getElem?, hi']
      · show (listed.setIfInBounds j true).getD i false = true ↔ _
        rw [getD_set_ne false e]
        exact ⟨.inl, fun hh => hh.resolve_right fun h => e h.symm⟩
    have hsz' : (listed.setIfInBounds j true).size = ops.size := by simpa using hsz
    have hcnt' : (listed.setIfInBounds j true).toList.countP (fun b => !b) = fuel := by
      rw [Array.toList_setIfInBounds, List.countP_set (h := by simpa using hi')]
      have : listed.toList[j]'(by simpa using hi') = false := by simpa using hf
      rw [this, hcnt]
      simp
    have cd' : ∀ i k, pre i k = true → k < ops.size → Lst (listed.setIfInBounds j true) k → Lst (listed.setIfInBounds j true) i := by
      intro i k hp hk hl
      rw [hX] at hl ⊢
      rcases hl with hl | rfl
      · exact .inl (cd i k hp hk hl)
      · exact .inl (rdy i hp)
    have ih : ∀ x w', (∃ t' φ' h', Inv p nt ops cs l pos nx Fs hs φ0 h0 w0 (Lst (listed.setIfInBounds j true)) t' φ' h' (a.put o.dst x) w') → wpAny p .any ops Q fuel (listed.setIfInBounds j true) (a.put o.dst x) w' := by
      rintro x w' ⟨t', φ', h', I'⟩
      exact region_any hS P hE hcs tr hQ fuel _ t' φ' h' _ w' hsz' hcnt' cd' I'
    show wpOp p ops Q j _ a w
    unfold wpOp
    rw [h2]
    rcases I.step hS P tr cd hj hco hX nX rdy with ⟨hw, hg⟩ | ⟨hw, hi⟩
    · simp only [hw, if_true]
      exact .inl (hg.goes.wp fun x w' hh => ih x w' hh)
    · simp only [hw, if_false, Bool.false_eq_true]
      exact ih _ _ hi

theorem eqT_eq {α : Type} {e : α → α → Bool} (he : ∀ x y, e x y = true → x = y) : ∀ (s t : T α), eqT e s t = true → s = t
  | .leaf, .leaf, _ => rfl
  | .leaf, .node _ _ _, h => absurd (show false = true from h) Bool.false_ne_true
  | .node _ _ _, .leaf, h => absurd (show false = true from h) Bool.false_ne_true
  | .node l v r, .node l' v' r', h => by
    have h1 : (Bool.casesOn (eqT e l l') false (Bool.casesOn (Option.casesOn v (Option.casesOn v' true fun _ => false) fun x => Option.casesOn v' false fun y => e x y) false (eqT e r r')) : Bool) = true := h
    cases a : eqT e l l' with
    | false => rw [a] at h1; cases h1
    | true =>
      rw [a] at h1
      have h2 : (Bool.casesOn (Option.casesOn v (Option.casesOn v' true fun _ => false) fun x => Option.casesOn v' false fun y => e x y) false (eqT e r r') : Bool) = true := h1
      have hl := eqT_eq he l l' a
      cases v with
      | none =>
        cases v' with
        | none => rw [hl, eqT_eq he r r' h2]
        | some y => exact absurd (show false = true from h2) Bool.false_ne_true
      | some x =>
        cases v' with
        | none => exact absurd (show false = true from h2) Bool.false_ne_true
        | some y =>
          have h3 : (Bool.casesOn (e x y) false (eqT e r r') : Bool) = true := h2
          cases b : e x y with
          | false => rw [b] at h3; cases h3
          | true => rw [b] at h3; rw [hl, he x y b, eqT_eq he r r' h3]
theorem esV_inj : ∀ (a b : List (V × V)), esV a = esV b → a = b
  | [], [], _ => rfl
  | [], _ :: _, h => by cases h
  | _ :: _, [], h => by cases h
  | (x, y) :: a, (x', y') :: b, h => by
    have h' : x :: y :: esV a = x' :: y' :: esV b := h
    injection h' with h1 h2
    injection h2 with h2 h3
    rw [h1, h2, esV_inj a b h3]
theorem xorB_f {a b : Bool} {c : Bool} (h : (Bool.casesOn (xorB a b) c false : Bool) = true) : a = b ∧ c = true := by
  cases a <;> cases b <;> first | exact ⟨rfl, h⟩ | cases h
theorem eqB_eq (a b : B) (h : eqB a b = true) : a = b := by
  cases a with
  | c l ro cl =>
    cases b with
    | m es => cases h
    | c l' ro' cl' =>
      obtain ⟨rfl, h1⟩ := xorB_f (show (Bool.casesOn (xorB ro ro') (Bool.casesOn (xorB cl cl') (eqF 30 (.a l) (.a l')) false) false : Bool) = true from h)
      obtain ⟨rfl, h2⟩ := xorB_f h1
      have h3 := eqF_eq _ _ _ h2
      injection h3 with h3
      rw [h3]
  | m es =>
    cases b with
    | c l' ro' cl' => cases h
    | m es' =>
      have h3 := eqF_eq 30 (.a (esV es)) (.a (esV es')) h
      injection h3 with h3
      rw [esV_inj _ _ h3]
theorem eqH_eq (g h : H) (hh : eqH g h = true) : g = h := by
  cases g with | mk t nx =>
  cases h with | mk t' nx' =>
  have h1 : (Bool.casesOn (K.eq nx nx') false (eqT eqB t t') : Bool) = true := hh
  cases a : K.eq nx nx' with
  | false => rw [a] at h1; cases h1
  | true => rw [a] at h1; rw [K.eq_iff.1 a, eqT_eq eqB_eq t t' h1]

section
variable {lA lB : List St} {posA posB : Nat → Nat} {pre0 preA preB : Nat → Nat → Bool} {FA FB : Nat → T V} {hA hB : Nat → H} {L M : Nat}
/-- two effects whose order is open: none is done, or one plan is followed -/
def Ph (p : Program) (nt : Nat) (ops : Array Oper) (cs : List CO) (lA lB : List St) (posA posB : Nat → Nat) (nx : K) (FA FB : Nat → T V) (hA hB : Nat → H) (φ0 : Phi) (h0 : H) (w0 : World) (L M : Nat) (X : Nat → Prop) (a : Act) (w : World) : Prop :=
  (¬ X L ∧ ¬ X M ∧ (∃ t φ h, Inv p nt ops cs lA posA nx FA hA φ0 h0 w0 X t φ h a w) ∧ ∃ t φ h, Inv p nt ops cs lB posB nx FB hB φ0 h0 w0 X t φ h a w) ∨
    (X L ∧ ∃ t φ h, Inv p nt ops cs lA posA nx FA hA φ0 h0 w0 X t φ h a w) ∨ (X M ∧ ∃ t φ h, Inv p nt ops cs lB posB nx FB hB φ0 h0 w0 X t φ h a w)
theorem region_any2 (hS : Snd p cl) (hE : Edges ops pre0) (into0 : ∀ (j : Nat) (o : Oper) (e : Edge), ops[j]? = some o → e ∈ o.after → Region.binds .any e = true → e.on < ops.size) (hL : L < ops.size) (hM : M < ops.size) (ne : L ≠ M) (nLM : pre0 L M = false) (nML : pre0 M L = false)
    (PA : Plan ops cs lA posA preA) (PB : Plan ops cs lB posB preB) (eA : ∀ i j, preA i j = true → j < ops.size → pre0 i j = true ∨ ((i = L ∨ pre0 i L = true) ∧ (j = M ∨ pre0 M j = true))) (eB : ∀ i j, preB i j = true → j < ops.size → pre0 i j = true ∨ ((i = M ∨ pre0 i M = true) ∧ (j = L ∨ pre0 L j = true)))
    (hN : ∀ (j : Nat) (c : CO), cs[j]? = some c → isCall (oOf c) = true → j = L ∨ j = M ∨ pre0 L j = true ∨ pre0 M j = true)
    (hcs : ops.toList.mapM (cO p nt ops.toList) = some cs) (trA : Trace cl nx lA FA hA) (trB : Trace cl nx lB FB hB) {Q : Exit → Act → World → Prop} (hQA : ∀ a w, Stands p nt φ0 h0 w0 (FA lA.length) (hA lA.length) a w → Q .normal a w)
    (hQB : ∀ a w, Stands p nt φ0 h0 w0 (FB lB.length) (hB lB.length) a w → Q .normal a w) :
    ∀ (fuel : Nat) (listed : Array Bool) (a : Act) (w : World), listed.size = ops.size → listed.toList.countP (fun b => !b) = fuel →
      (∀ i j, pre0 i j = true → j < ops.size → Lst listed j → Lst listed i) → Ph p nt ops cs lA lB posA posB nx FA FB hA hB φ0 h0 w0 L M (Lst listed) a w → wpAny p .any ops Q fuel listed a w := by
  intro fuel
  induction fuel with
  | zero =>
    intro listed a w hsz hcnt cd I
    have hall : ∀ i, i < ops.size → Lst listed i := by
      intro i hi
      rw [List.countP_eq_zero] at hcnt
      have hi' : i < listed.size := by omega
      have := hcnt listed[i] (by simp)
      show listed.getD i false = true
      simpa [Array.getD_eq_getD_getElem?, hi'] using this
    refine ⟨?_, ?_⟩
    · cases hr : Region.ready .any ops listed with
      | nil => rfl
      | cons j r =>
        exfalso
        have hm : j ∈ Region.ready .any ops listed := by rw [hr]; simp
        rw [mem_ready] at hm
        obtain ⟨h1, o, h2, _⟩ := hm
        have hlt : j < ops.size := (Array.getElem?_eq_some_iff.1 h2).1
        have h3 : listed.getD j false = true := hall j hlt
        have hi' : j < listed.size := by omega
        simp [Array.getD_eq_getD_getElem?, hi'] at h1 h3
        rw [h1] at h3; cases h3
    · rcases I with ⟨n1, _⟩ | ⟨_, t, φ, h, I⟩ | ⟨_, t, φ, h, I⟩
      · exact absurd (hall L hL) n1
      · exact hQA a w (I.fin PA trA hall)
      · exact hQB a w (I.fin PB trB hall)
  | succ fuel IH =>
    intro listed a w hsz hcnt cd I
    refine ⟨fun hr => ?_, fun j hm => ?_⟩
    · have hall : ∀ i, i < ops.size → Lst listed i := fun i hi => all_of_none PA hsz hr _ i (Nat.le_refl _) hi
      rcases I with ⟨n1, _⟩ | ⟨_, t, φ, h, I⟩ | ⟨_, t, φ, h, I⟩
      · exact absurd (hall L hL) n1
      · exact hQA a w (I.fin PA trA hall)
      · exact hQB a w (I.fin PB trB hall)
    rw [mem_ready] at hm
    obtain ⟨h1, o, h2, h3⟩ := hm
    have hlt : j < ops.size := (Array.getElem?_eq_some_iff.1 h2).1
    have hi' : j < listed.size := by omega
    have hf : listed[j] = false := by simpa [Array.getD_eq_getD_getElem?, hi'] using h1
    have nX : ¬ Lst listed j := fun hh => by
      have hh' : listed.getD j false = true := hh
      simp [Array.getD_eq_getD_getElem?, hi', hf] at hh'
    obtain ⟨c, hj⟩ := PA.some hlt
    obtain ⟨o', ho', hco⟩ := mapM_get hcs j c hj
    rw [Array.getElem?_toList, h2] at ho'
    injection ho' with ho'
    subst ho'
    have rdy : ∀ i, pre0 i j = true → Lst listed i := by
      intro i hp
      obtain ⟨o2, e, g1, g2, g3, g4⟩ := hE i j hlt hp
      rw [h2] at g1; injection g1 with g1; subst g1
      have hon : Lst listed e.on := h3 e g2 g3
      rcases g4 with rfl | g4
      · exact hon
      · exact cd i e.on g4 (into0 j o e h2 g2 g3) hon
    have hX : ∀ i, Lst (listed.setIfInBounds j true) i ↔ Lst listed i ∨ i = j := by
      intro i
      by_cases e : j = i
      · subst e
        refine ⟨fun _ => .inr rfl, fun _ => ?_⟩
        show (listed.setIfInBounds j true).getD j false = true
        simp [Array.getD_eq_getD_getElem?, hi']
      · show (listed.setIfInBounds j true).getD i false = true ↔ _
        rw [getD_set_ne false e]
        exact ⟨.inl, fun hh => hh.resolve_right fun h => e h.symm⟩
    have hsz' : (listed.setIfInBounds j true).size = ops.size := by simpa using hsz
    have hcnt' : (listed.setIfInBounds j true).toList.countP (fun b => !b) = fuel := by
      rw [Array.toList_setIfInBounds, List.countP_set (h := by simpa using hi')]
      have : listed.toList[j]'(by simpa using hi') = false := by simpa using hf
      rw [this, hcnt]
      simp
    have cd' : ∀ i k, pre0 i k = true → k < ops.size → Lst (listed.setIfInBounds j true) k → Lst (listed.setIfInBounds j true) i := by
      intro i k hp hk hl
      rw [hX] at hl ⊢
      rcases hl with hl | rfl
      · exact .inl (cd i k hp hk hl)
      · exact .inl (rdy i hp)
    have ih : ∀ x w', Ph p nt ops cs lA lB posA posB nx FA FB hA hB φ0 h0 w0 L M (Lst (listed.setIfInBounds j true)) (a.put o.dst x) w' → wpAny p .any ops Q fuel (listed.setIfInBounds j true) (a.put o.dst x) w' :=
      fun x w' I' => IH _ _ w' hsz' hcnt' cd' I'
    -- one plan is followed
    have one : ∀ {l : List St} {pos : Nat → Nat} {pre : Nat → Nat → Bool} {Fs : Nat → T V} {hs : Nat → H} {t : Nat} {φ : Phi} {h : H}, Plan ops cs l pos pre → Trace cl nx l Fs hs → Inv p nt ops cs l pos nx Fs hs φ0 h0 w0 (Lst listed) t φ h a w →
        (∀ i k, pre i k = true → k < ops.size → Lst listed k → Lst listed i) → (∀ i, pre i j = true → Lst listed i) →
        (Region.wanted o (yielded ops a.tmps) = true ∧ GoesX (isCall (oOf c)) p a.eval o w fun x w' => ∃ t' φ' h', Inv p nt ops cs l pos nx Fs hs φ0 h0 w0 (Lst (listed.setIfInBounds j true)) t' φ' h' (a.put o.dst x) w') ∨
          (Region.wanted o (yielded ops a.tmps) = false ∧ ∃ t' φ' h', Inv p nt ops cs l pos nx Fs hs φ0 h0 w0 (Lst (listed.setIfInBounds j true)) t' φ' h' (a.put o.dst undef) w) :=
      fun P tr I cdP rdyP => I.step hS P tr cdP hj hco hX nX rdyP
    have key : (Region.wanted o (yielded ops a.tmps) = true ∧ Goes p a.eval o w fun x w' => Ph p nt ops cs lA lB posA posB nx FA FB hA hB φ0 h0 w0 L M (Lst (listed.setIfInBounds j true)) (a.put o.dst x) w') ∨
        (Region.wanted o (yielded ops a.tmps) = false ∧ Ph p nt ops cs lA lB posA posB nx FA FB hA hB φ0 h0 w0 L M (Lst (listed.setIfInBounds j true)) (a.put o.dst undef) w) := by
      have inA : Lst listed L ∨ j = L → (∀ i k, preA i k = true → k < ops.size → Lst listed k → Lst listed i) → (∀ i, preA i j = true → Lst listed i) → ∀ t φ h, Inv p nt ops cs lA posA nx FA hA φ0 h0 w0 (Lst listed) t φ h a w → (Region.wanted o (yielded ops a.tmps) = true ∧ Goes p a.eval o w fun x w' => Ph p nt ops cs lA lB posA posB nx FA FB hA hB φ0 h0 w0 L M (Lst (listed.setIfInBounds j true)) (a.put o.dst x) w') ∨
            (Region.wanted o (yielded ops a.tmps) = false ∧ Ph p nt ops cs lA lB posA posB nx FA FB hA hB φ0 h0 w0 L M (Lst (listed.setIfInBounds j true)) (a.put o.dst undef) w) := fun hl c1 c2 t φ h I => by
        have hLX : Lst (listed.setIfInBounds j true) L := (hX L).2 (hl.imp id fun e => e.symm)
        rcases one PA trA I c1 c2 with ⟨hw, hg⟩ | ⟨hw, hi⟩
        · exact .inl ⟨hw, hg.goes.mono fun x w' hh => .inr (.inl ⟨hLX, hh⟩)⟩
        · exact .inr ⟨hw, .inr (.inl ⟨hLX, hi⟩)⟩
      have inB : Lst listed M ∨ j = M → (∀ i k, preB i k = true → k < ops.size → Lst listed k → Lst listed i) → (∀ i, preB i j = true → Lst listed i) → ∀ t φ h, Inv p nt ops cs lB posB nx FB hB φ0 h0 w0 (Lst listed) t φ h a w → (Region.wanted o (yielded ops a.tmps) = true ∧ Goes p a.eval o w fun x w' => Ph p nt ops cs lA lB posA posB nx FA FB hA hB φ0 h0 w0 L M (Lst (listed.setIfInBounds j true)) (a.put o.dst x) w') ∨
            (Region.wanted o (yielded ops a.tmps) = false ∧ Ph p nt ops cs lA lB posA posB nx FA FB hA hB φ0 h0 w0 L M (Lst (listed.setIfInBounds j true)) (a.put o.dst undef) w) := fun hl c1 c2 t φ h I => by
        have hMX : Lst (listed.setIfInBounds j true) M := (hX M).2 (hl.imp id fun e => e.symm)
        rcases one PB trB I c1 c2 with ⟨hw, hg⟩ | ⟨hw, hi⟩
        · exact .inl ⟨hw, hg.goes.mono fun x w' hh => .inr (.inr ⟨hMX, hh⟩)⟩
        · exact .inr ⟨hw, .inr (.inr ⟨hMX, hi⟩)⟩
      have upL : Lst listed L → ∀ i, (i = L ∨ pre0 i L = true) → Lst listed i := fun hl i hi => hi.elim (fun e => e ▸ hl) fun hp => cd i L hp hL hl
      have upM : Lst listed M → ∀ i, (i = M ∨ pre0 i M = true) → Lst listed i := fun hl i hi => hi.elim (fun e => e ▸ hl) fun hp => cd i M hp hM hl
      rcases I with ⟨n1, n2, ⟨tA, φA, hA', IA⟩, tB, φB, hB', IB⟩ | ⟨hl, t, φ, h, I⟩ | ⟨hl, t, φ, h, I⟩
      · have cA : ∀ i k, preA i k = true → k < ops.size → Lst listed k → Lst listed i := fun i k hp hk hx => by
          rcases eA i k hp hk with h | ⟨_, rfl | h⟩
          · exact cd i k h hk hx
          · exact absurd hx n2
          · exact absurd (cd M k h hk hx) n2
        have cB : ∀ i k, preB i k = true → k < ops.size → Lst listed k → Lst listed i := fun i k hp hk hx => by
          rcases eB i k hp hk with h | ⟨_, rfl | h⟩
          · exact cd i k h hk hx
          · exact absurd hx n1
          · exact absurd (cd L k h hk hx) n1
        by_cases jL : j = L
        · refine inA (.inr jL) cA (fun i hp => ?_) tA φA hA' IA
          rcases eA i j hp hlt with h | ⟨_, h | h⟩
          · exact rdy i h
          · exact absurd (jL.symm.trans h) ne
          · rw [jL, nML] at h; cases h
        by_cases jM : j = M
        · refine inB (.inr jM) cB (fun i hp => ?_) tB φB hB' IB
          rcases eB i j hp hlt with h | ⟨_, h | h⟩
          · exact rdy i h
          · exact absurd h jL
          · rw [jM, nLM] at h; cases h
        have rA : ∀ i, preA i j = true → Lst listed i := fun i hp => by
          rcases eA i j hp hlt with h | ⟨_, h | h⟩
          · exact rdy i h
          · exact absurd h jM
          · exact absurd (rdy M h) n2
        have rB : ∀ i, preB i j = true → Lst listed i := fun i hp => by
          rcases eB i j hp hlt with h | ⟨_, h | h⟩
          · exact rdy i h
          · exact absurd h jL
          · exact absurd (rdy L h) n1
        have nc : isCall (oOf c) = false := by
          cases hc : isCall (oOf c) with
          | false => rfl
          | true =>
            rcases hN j c hj hc with h | h | h | h
            · exact absurd h jL
            · exact absurd h jM
            · exact absurd (rdy L h) n1
            · exact absurd (rdy M h) n2
        have m1 : ¬ Lst (listed.setIfInBounds j true) L := fun hh => ((hX L).1 hh).elim n1 fun e => jL e.symm
        have m2 : ¬ Lst (listed.setIfInBounds j true) M := fun hh => ((hX M).1 hh).elim n2 fun e => jM e.symm
        have sA := one PA trA IA cA rA
        have sB := one PB trB IB cB rB
        rw [nc] at sA sB
        rcases sA with ⟨hw, gA⟩ | ⟨hw, iA⟩
        · rcases sB with ⟨hw', gB⟩ | ⟨hw', iB⟩
          · exact .inl ⟨hw, (gA.both gB).mono fun x w' hh => .inl ⟨m1, m2, hh.1, hh.2⟩⟩
          · rw [hw] at hw'; cases hw'
        · rcases sB with ⟨hw', gB⟩ | ⟨hw', iB⟩
          · rw [hw] at hw'; cases hw'
          · exact .inr ⟨hw, .inl ⟨m1, m2, iA, iB⟩⟩
      · refine inA (.inl hl) (fun i k hp hk hx => ?_) (fun i hp => ?_) t φ h I
        · rcases eA i k hp hk with h | ⟨h, _⟩
          · exact cd i k h hk hx
          · exact upL hl i h
        · rcases eA i j hp hlt with h | ⟨h, _⟩
          · exact rdy i h
          · exact upL hl i h
      · refine inB (.inl hl) (fun i k hp hk hx => ?_) (fun i hp => ?_) t φ h I
        · rcases eB i k hp hk with h | ⟨h, _⟩
          · exact cd i k h hk hx
          · exact upM hl i h
        · rcases eB i j hp hlt with h | ⟨h, _⟩
          · exact rdy i h
          · exact upM hl i h
    show wpOp p ops Q j _ a w
    unfold wpOp
    rw [h2]
    rcases key with ⟨hw, hg⟩ | ⟨hw, hi⟩
    · simp only [hw, if_true]
      exact .inl (hg.wp fun x w' hh => ih x w' hh)
    · simp only [hw, if_false, Bool.false_eq_true]
      exact ih _ _ hi
end

/-- the beginning -/
theorem Inv.begin (P : Plan ops cs l pos pre) {F : T V} (f : FR nt φ F a) (r : RW p φ h w) (e1 : Fs 0 = F) (e2 : hs 0 = h.bump ops.size) :
    Inv p nt ops cs l pos h.nx Fs hs φ h w (Lst (Array.replicate ops.size false)) 0 φ (h.bump ops.size) a { w with drawn := w.drawn + 1 } := by
  have no : ∀ i, ¬ Lst (Array.replicate ops.size false) i := by
    intro i hh
    have hh' : (Array.replicate ops.size false).getD i false = true := hh
    rw [Array.getD_eq_getD_getElem?, Array.getElem?_replicate] at hh'
    split at hh' <;> simp at hh'
  have hnone : ∀ k : Nat, φ (kAdd h.nx k) = none := fun k => r.dom _ (by rw [kAdd_num]; omega)
  refine ⟨fun i _ _ hx => absurd hx (no i), fun d v _ hv => ?_, f.sz, f.df, Nat.zero_le _, fun e ce _ _ => ⟨fun hx => absurd hx (no e), fun hx => by omega⟩, .inl rfl, fun k _ _ => hnone k, fun A _ hx => absurd hx (no A), fun n => .inr ⟨fun A _ hx => absurd hx (no A), by rw [e2]⟩, ?_, by rw [e2],
    (r.bump _).drew, ⟨rfl, rfl, rfl, Nat.le_refl _, Ext.refl _, fun b _ hn => ⟨rfl, fun ⟨k, q, ri, g1, g2⟩ => hn ⟨k, q, ri, by rwa [H.get_bump] at g1, g2⟩⟩, fun _ h1 h2 => absurd h1 h2, by rw [H.nx_bump]; omega, fun b _ hn => fun ⟨k, q, ri, g1, g2⟩ => hn ⟨k, q, ri, by rwa [H.get_bump] at g1, g2⟩⟩, ?_⟩
  · rw [e1] at hv
    obtain ⟨x, hx, hr⟩ := f.tm d v hv
    exact ⟨x, hx, hr⟩
  · intro A c _ _ _
    rw [e2, H.get_bump]
    cases hq : h.get (kAdd h.nx A) with
    | none => rfl
    | some b =>
      obtain ⟨ri, g1, _⟩ := r.blk _ _ hq
      rw [hnone A] at g1; cases g1
  · rw [e2, H.nx_bump]
    exact ⟨Nat.le_refl _, Nat.le_refl _⟩
/-- a region whose order is open -/
theorem drOK_of (hm : p.follows .mixedOrders = true) (hp : ∀ c, cD nt p ops.toList = some c → c = .bad ∨
    (∃ lo l cs pos pre, c = .dr ops.size lo l ∧ ops.toList.mapM (cO p nt ops.toList) = some cs ∧ Plan ops cs l pos pre ∧ Edges ops pre) ∨
    ∃ lA lB cs posA posB pre0 preA preB L M, c = .d2 ops.size lA lB ∧ ops.toList.mapM (cO p nt ops.toList) = some cs ∧ Plan ops cs lA posA preA ∧ Plan ops cs lB posB preB ∧ Edges ops pre0 ∧
      (∀ (j : Nat) (o : Oper) (e : Edge), ops[j]? = some o → e ∈ o.after → Region.binds .any e = true → e.on < ops.size) ∧ L < ops.size ∧ M < ops.size ∧ L ≠ M ∧ pre0 L M = false ∧ pre0 M L = false ∧
      (∀ i j, preA i j = true → j < ops.size → pre0 i j = true ∨ ((i = L ∨ pre0 i L = true) ∧ (j = M ∨ pre0 M j = true))) ∧ (∀ i j, preB i j = true → j < ops.size → pre0 i j = true ∨ ((i = M ∨ pre0 i M = true) ∧ (j = L ∨ pre0 L j = true))) ∧
      (∀ (j : Nat) (c : CO), cs[j]? = some c → isCall (oOf c) = true → j = L ∨ j = M ∨ pre0 L j = true ∨ pre0 M j = true)) : DrOK p nt ops := by
  intro cl n c hS hcD id φ F h a w R0 he f r hv
  have cd0 : ∀ (pre : Nat → Nat → Bool) i j, pre i j = true → j < ops.size → Lst (Array.replicate ops.size false) j → Lst (Array.replicate ops.size false) i := by
    intro pre i j _ _ hh
    have hh' : (Array.replicate ops.size false).getD j false = true := hh
    rw [Array.getD_eq_getD_getElem?, Array.getElem?_replicate] at hh'
    split at hh' <;> simp at hh'
  rcases hp c hcD with rfl | ⟨lo, l, cs, pos, pre, rfl, hcs, P, hE⟩ | ⟨lA, lB, cs, posA, posB, pre0, preA, preB, L, M, rfl, hcs, PA, PB, hE, into0, hL, hM, ne, nLM, nML, eA, eB, hN⟩
  · exact absurd hv.symm he
  · have hv' : evD cl h.nx lo l F (h.bump ops.size) = R0 := hv
    obtain ⟨Fs, hs, e1, e2, tr, e3⟩ := evD_trace l F (h.bump ops.size) R0 (fun t k chk hid c ht => (P.step t k chk hid c ht).2) hv' he
    refine wp_region_any hm ?_
    exact region_any hS P hE hcs tr (φ0 := φ) (h0 := h) (w0 := w) (fun a' w' hst => ⟨_, _, e3, hst⟩) ops.size _ 0 φ (h.bump ops.size) a _ (by simp) (by simp [List.countP_replicate]) (cd0 pre) (Inv.begin P f r e1 e2)
  · have hv' : bR (evD cl h.nx none lA F (h.bump ops.size)) (fun F1 h1 => bR (evD cl h.nx none lB F (h.bump ops.size)) fun F2 h2 => Bool.casesOn (eqT (eqF 30) F1 F2) .err (Bool.casesOn (eqH h1 h2) .err (.n F1 h1))) = R0 := hv
    have ha : evD cl h.nx none lA F (h.bump ops.size) ≠ .err := fun e => by rw [e] at hv'; exact he hv'.symm
    obtain ⟨FA, hA, a1, a2, trA, a3⟩ := evD_trace lA F (h.bump ops.size) _ (fun t k chk hid c ht => (PA.step t k chk hid c ht).2) rfl ha
    rw [a3] at hv'
    have hv2 : bR (evD cl h.nx none lB F (h.bump ops.size)) (fun F2 h2 => Bool.casesOn (eqT (eqF 30) (FA lA.length) F2) .err (Bool.casesOn (eqH (hA lA.length) h2) .err (.n (FA lA.length) (hA lA.length)))) = R0 := hv'
    have hb : evD cl h.nx none lB F (h.bump ops.size) ≠ .err := fun e => by rw [e] at hv2; exact he hv2.symm
    obtain ⟨FB, hB, b1, b2, trB, b3⟩ := evD_trace lB F (h.bump ops.size) _ (fun t k chk hid c ht => (PB.step t k chk hid c ht).2) rfl hb
    rw [b3] at hv2
    have hv3 : (Bool.casesOn (eqT (eqF 30) (FA lA.length) (FB lB.length)) .err (Bool.casesOn (eqH (hA lA.length) (hB lB.length)) .err (.n (FA lA.length) (hA lA.length))) : R) = R0 := hv2
    cases q1 : eqT (eqF 30) (FA lA.length) (FB lB.length) with
    | false => rw [q1] at hv3; exact absurd hv3.symm he
    | true =>
      rw [q1] at hv3
      have hv4 : (Bool.casesOn (eqH (hA lA.length) (hB lB.length)) .err (.n (FA lA.length) (hA lA.length)) : R) = R0 := hv3
      cases q2 : eqH (hA lA.length) (hB lB.length) with
      | false => rw [q2] at hv4; exact absurd hv4.symm he
      | true =>
        rw [q2] at hv4
        have g1 := eqT_eq (fun x y => eqF_eq 30 x y) _ _ q1
        have g2 := eqH_eq _ _ q2
        refine wp_region_any hm ?_
        refine region_any2 hS hE into0 hL hM ne nLM nML PA PB eA eB hN hcs trA trB (φ0 := φ) (h0 := h) (w0 := w) (fun a' w' hst => ⟨_, _, hv4.symm, hst⟩) (fun a' w' hst => ⟨_, _, hv4.symm, by rw [g1, g2]; exact hst⟩) ops.size _ a _ (by simp) (by simp [List.countP_replicate]) (cd0 pre0)
          (.inl ⟨?_, ?_, ⟨0, φ, _, Inv.begin PA f r a1 a2⟩, 0, φ, _, Inv.begin PB f r b1 b2⟩)
        all_goals
          intro hh
          have hh' : (Array.replicate ops.size false).getD _ false = true := hh
          rw [Array.getD_eq_getD_getElem?, Array.getElem?_replicate] at hh'
          split at hh' <;> simp at hh'
end
end Go.Rfx
