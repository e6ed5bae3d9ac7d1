/- What is proved here: a check, done by computing, that a plan keeps what it must. No condition. -/
import Derived.Test.YtbjcajjlpehfiaaGreatDoorRfxDg
set_option linter.unusedVariables false
set_option linter.unusedSectionVars false
set_option linter.unusedSimpArgs false
set_option linter.constructorNameAsVariable false
namespace Go.Rfx
open Go
variable [Sy]

noncomputable section
def allN (n : Nat) (f : Nat → Bool) : Bool := (List.range n).all f
theorem allN_iff {n : Nat} {f : Nat → Bool} : allN n f = true ↔ ∀ i, i < n → f i = true := by simp [allN]
def preB (n : Nat) (ms : List Nat) (i j : Nat) : Bool := Nat.blt i n && bit (ms.getD j 0) i
def posL (n : Nat) (pl : PS) : List Nat := (List.range n).map fun k => (pl.findIdx? fun s => s.1 == k && !s.2.1).getD pl.length
def memK (k : K) : List K → Bool
  | [] => false
  | j :: r => K.eq k j || memK k r
theorem memK_iff {k : K} : ∀ {l : List K}, memK k l = true ↔ k ∈ l
  | [] => by simp [memK]
  | j :: r => by simp [memK, memK_iff (l := r), K.eq_iff]
def sameD (a b : Option K) : Bool := match a, b with | some a, some b => K.eq a b | _, _ => false
section
variable (ops : Array Oper) (cs : List CO) (pl : PS) (ms ps : List Nat)
def atE (j : Nat) : Bool := match cs[j]? with | some c => isE (oOf c) | none => false
def atA (j : Nat) : Bool := match cs[j]? with | some c => isAl (oOf c) | none => false
def atR (j : Nat) : Bool := match cs[j]? with | some c => isR (oOf c) | none => false
def atD (j : Nat) : Option K := match cs[j]? with | some c => dstOf c | none => none
def atS (j : Nat) : List K := match cs[j]? with | some c => slots c | none => []
def b1 : Bool := pl.all fun s => !s.2.2
def b2 : Bool := allN pl.length fun t => match pl[t]? with | some s => s.2.1 || Nat.beq (ps.getD s.1 0) t | none => true
def b3 : Bool := allN ops.size fun k => match pl[ps.getD k 0]? with | some s => Nat.beq s.1 k && !s.2.1 | none => false
def edgesB : Bool := allN ops.size fun j => match ops[j]? with
  | some o => allN ops.size fun i => !preB ops.size ms i j || o.after.toList.any fun e => Region.binds .any e && (Nat.beq i e.on || preB ops.size ms i e.on)
  | none => false
def b4 : Bool := allN ops.size fun j => match ops[j]? with
  | some o => o.after.toList.all fun e => !Region.binds .any e || (Nat.blt e.on ops.size && preB ops.size ms e.on j)
  | none => false
def b5 : Bool := allN ops.size fun i => allN ops.size fun j => !preB ops.size ms i j || Nat.blt (ps.getD i 0) (ps.getD j 0)
def b6 : Bool := allN ops.size fun i => allN ops.size fun j => Nat.beq i j || !sameD (atD cs i) (atD cs j)
def b7 : Bool := allN ops.size fun i => match atD cs i with
  | none => true
  | some d => allN ops.size fun j => Nat.beq i j || !memK d (atS cs j) || preB ops.size ms i j || preB ops.size ms j i
def b8 : Bool := allN ops.size fun i => !atE cs i || allN ops.size fun j => Nat.beq i j || !atE cs j || preB ops.size ms i j || preB ops.size ms j i
def b9 : Bool := allN ops.size fun i => !atA cs i || allN ops.size fun j => !atE cs j || !Nat.blt (ps.getD i 0) (ps.getD j 0) || preB ops.size ms i j
def b10 : Bool := allN ops.size fun i => !atR cs i || allN ops.size fun j => !atE cs j || preB ops.size ms i j || preB ops.size ms j i ||
  (Nat.blt (ps.getD i 0) (ps.getD j 0) && (List.range pl.length).any fun t => (match pl[t]? with | some s => Nat.beq s.1 i && s.2.1 | none => false) && Nat.blt (ps.getD j 0) t &&
    (allN ops.size fun e => !atE cs e || !Nat.blt (ps.getD e 0) t || Nat.ble (ps.getD e 0) (ps.getD j 0)) &&
    (allN ops.size fun u => match atD cs u with | none => true | some d => !memK d (atS cs i) || !Nat.blt (ps.getD u 0) t || Nat.blt (ps.getD u 0) (ps.getD i 0)))
def planB : Bool := Nat.beq cs.length ops.size && b1 pl && b2 pl ps && b3 ops pl ps && b4 ops ms && b5 ops ms ps && b6 ops cs && b7 ops cs ms && b8 ops cs ms && b9 ops cs ms ps && b10 ops cs pl ms ps
def atC (j : Nat) : Bool := match cs[j]? with | some c => isCall (oOf c) | none => false
def extB (n : Nat) (ms mA : List Nat) (L M : Nat) : Bool := allN n fun i => allN n fun j => !preB n mA i j || (preB n ms i j || ((Nat.beq i L || preB n ms i L) && (Nat.beq j M || preB n ms M j)))
def planB2 (pm : PS) (mA mB psA psB : List Nat) (L M : Nat) : Bool := planB ops cs pl mA psA && planB ops cs pm mB psB && edgesB ops ms && Nat.blt L ops.size && Nat.blt M ops.size && !Nat.beq L M && !preB ops.size ms L M && !preB ops.size ms M L &&
  extB ops.size ms mA L M && extB ops.size ms mB M L && allN ops.size fun j => !atC cs j || (Nat.beq j L || (Nat.beq j M || (preB ops.size ms L j || preB ops.size ms M j)))
end
end

theorem blt_t {a b : Nat} (h : Nat.blt a b = true) : a < b := (blt_iff a b).1 h
theorem preB_lt {n : Nat} {ms : List Nat} {i j : Nat} (h : preB n ms i j = true) : i < n := by
  simp only [preB, Bool.and_eq_true] at h; exact blt_t h.1
theorem edges_of {ops : Array Oper} {ms : List Nat} (hb : edgesB ops ms = true) : Edges ops (preB ops.size ms) := by
  intro i j hj hp
  have := allN_iff.1 hb j hj
  cases ho : ops[j]? with
  | none => rw [ho] at this; cases this
  | some o =>
    rw [ho] at this
    have h1 := allN_iff.1 this i (preB_lt hp)
    rw [hp] at h1
    simp only [Bool.not_true, Bool.false_or, List.any_eq_true, Bool.and_eq_true, Bool.or_eq_true] at h1
    obtain ⟨e, he, hb, h2⟩ := h1
    exact ⟨o, e, rfl, by simpa using he, hb, h2.imp (beq_iff _ _).1 id⟩
theorem ext_of {n : Nat} {ms mA : List Nat} {L M : Nat} (hb : extB n ms mA L M = true) : ∀ i j, preB n mA i j = true → j < n → preB n ms i j = true ∨ ((i = L ∨ preB n ms i L = true) ∧ (j = M ∨ preB n ms M j = true)) := by
  intro i j hp hj
  have h1 := allN_iff.1 (allN_iff.1 hb i (preB_lt hp)) j hj
  rw [hp] at h1
  simp only [Bool.not_true, Bool.false_or, Bool.and_eq_true, Bool.or_eq_true] at h1
  exact h1.imp id fun h => ⟨h.1.imp (beq_iff _ _).1 id, h.2.imp (beq_iff _ _).1 id⟩
theorem plan_of {ops : Array Oper} {cs : List CO} {pl : PS} {ms ps : List Nat} {l : List St} (hl : ∀ (t k : Nat) (chk hid : Bool) (c : CO), l[t]? = some (St.mk k chk hid c) ↔ pl[t]? = some (k, chk, hid) ∧ cs[k]? = some c)
    (hb : planB ops cs pl ms ps = true) : Plan ops cs l (fun k => ps.getD k 0) (preB ops.size ms) := by
  simp only [planB, Bool.and_eq_true] at hb
  obtain ⟨⟨⟨⟨⟨⟨⟨⟨⟨⟨c0, c1⟩, c2⟩, c3⟩, c4⟩, c5⟩, c6⟩, c7⟩, c8⟩, c9⟩, c10⟩ := hb
  have len := (beq_iff _ _).1 c0
  have lt : ∀ {i : Nat} {c : CO}, cs[i]? = some c → i < ops.size := fun h => by rw [← len]; exact (List.getElem?_eq_some_iff.1 h).1
  have pl_lt : ∀ {i j : Nat}, preB ops.size ms i j = true → i < ops.size := fun h => by
    simp only [preB, Bool.and_eq_true] at h; exact blt_t h.1
  refine ⟨len, ?_, ?_, ?_, ?_, ?_, ?_, ?_, ?_, ?_, ?_⟩
  · intro t k chk hid c h
    obtain ⟨h1, h2⟩ := (hl t k chk hid c).1 h
    refine ⟨h2, ?_⟩
    have := List.all_eq_true.1 c1 _ (List.mem_of_getElem? h1)
    simpa using this
  · intro t k c h
    obtain ⟨h1, h2⟩ := (hl _ _ _ _ _).1 h
    have := allN_iff.1 c2 t (List.getElem?_eq_some_iff.1 h1).1
    rw [h1] at this
    simp only [Bool.false_or] at this
    exact ((beq_iff _ _).1 this).symm
  · intro k hk
    have := allN_iff.1 c3 k hk
    cases hs : pl[ps.getD k 0]? with
    | none => rw [hs] at this; cases this
    | some s =>
      rw [hs] at this
      simp only [Bool.and_eq_true, Bool.not_eq_true'] at this
      obtain ⟨h1, h2⟩ := this
      have h1' := (beq_iff _ _).1 h1
      have h3 := List.all_eq_true.1 c1 _ (List.mem_of_getElem? hs)
      obtain ⟨k', chk, hid⟩ := s
      simp only at h1' h2
      have h3' : hid = false := by simpa using h3
      subst h1'; subst h2; subst h3'
      obtain ⟨c, hc⟩ : ∃ c, cs[k']? = some c := ⟨_, List.getElem?_eq_getElem (by rw [len]; exact hk)⟩
      exact ⟨c, (hl _ _ _ _ _).2 ⟨hs, hc⟩⟩
  · intro j o e ho he hb
    have := allN_iff.1 c4 j (Array.getElem?_eq_some_iff.1 ho).1
    rw [ho] at this
    have h1 := List.all_eq_true.1 this e (by simpa using he)
    rw [hb] at h1
    simp only [Bool.not_true, Bool.false_or, Bool.and_eq_true] at h1
    exact ⟨blt_t h1.1, h1.2⟩
  · intro i j hi hj hp
    have := allN_iff.1 (allN_iff.1 c5 i hi) j hj
    rw [hp] at this
    exact blt_t (by simpa using this)
  · intro i j ci cj d hi hj h1 h2
    have := allN_iff.1 (allN_iff.1 c6 i (lt hi)) j (lt hj)
    have e1 : atD cs i = some d := by simp only [atD, hi, h1]
    have e2 : atD cs j = some d := by simp only [atD, hj, h2]
    rw [e1, e2] at this
    have hd : K.eq d d = true := K.eq_iff.2 rfl
    simp only [sameD, hd, Bool.not_true, Bool.or_false] at this
    exact (beq_iff _ _).1 this
  · intro i j ci cj d hi hj h1 h2
    have := allN_iff.1 c7 i (lt hi)
    have e1 : atD cs i = some d := by simp only [atD, hi, h1]
    rw [e1] at this
    have h3 := allN_iff.1 this j (lt hj)
    have e2 : memK d (atS cs j) = true := by simp only [atS, hj]; exact memK_iff.2 h2
    rw [e2] at h3
    simp only [Bool.not_true, Bool.or_false, Bool.or_eq_true] at h3
    rcases h3 with (h3 | h3) | h3
    · exact .inl ((beq_iff _ _).1 h3)
    · exact .inr (.inl h3)
    · exact .inr (.inr h3)
  · intro i j ci cj hi hj h1 h2
    have := allN_iff.1 c8 i (lt hi)
    have e1 : atE cs i = true := by simp only [atE, hi, h1]
    rw [e1] at this
    simp only [Bool.not_true, Bool.false_or] at this
    have h3 := allN_iff.1 this j (lt hj)
    have e2 : atE cs j = true := by simp only [atE, hj, h2]
    rw [e2] at h3
    simp only [Bool.not_true, Bool.or_false, Bool.or_eq_true] at h3
    rcases h3 with (h3 | h3) | h3
    · exact .inl ((beq_iff _ _).1 h3)
    · exact .inr (.inl h3)
    · exact .inr (.inr h3)
  · intro i j ci cj hi hj h1 h2 hlt
    have := allN_iff.1 c9 i (lt hi)
    have e1 : atA cs i = true := by simp only [atA, hi, h1]
    rw [e1] at this
    simp only [Bool.not_true, Bool.false_or] at this
    have h3 := allN_iff.1 this j (lt hj)
    have e2 : atE cs j = true := by simp only [atE, hj, h2]
    have e3 : Nat.blt (ps.getD i 0) (ps.getD j 0) = true := (blt_iff _ _).2 hlt
    rw [e2, e3] at h3
    simpa using h3
  · intro i j ci cj hi hj h1 h2
    have := allN_iff.1 c10 i (lt hi)
    have e1 : atR cs i = true := by simp only [atR, hi, h1]
    rw [e1] at this
    simp only [Bool.not_true, Bool.false_or] at this
    have h3 := allN_iff.1 this j (lt hj)
    have e2 : atE cs j = true := by simp only [atE, hj, h2]
    rw [e2] at h3
    simp only [Bool.not_true, Bool.false_or, Bool.or_eq_true, Bool.and_eq_true, List.any_eq_true] at h3
    rcases h3 with (h3 | h3) | ⟨h3, t, ht, ⟨⟨h4, h5⟩, h6⟩, h7⟩
    · exact .inl h3
    · exact .inr (.inl h3)
    · refine .inr (.inr ⟨blt_t h3, t, ?_, blt_t h5, ?_, ?_⟩)
      · cases hs : pl[t]? with
        | none => rw [hs] at h4; cases h4
        | some s =>
          rw [hs] at h4
          simp only [Bool.and_eq_true] at h4
          obtain ⟨k, chk, hid⟩ := s
          have g1 := (beq_iff _ _).1 h4.1
          have g2 := h4.2
          have g3 := List.all_eq_true.1 c1 _ (List.mem_of_getElem? hs)
          simp only at g1 g2
          have g3' : hid = false := by simpa using g3
          subst g1; subst g2; subst g3'
          exact (hl _ _ _ _ _).2 ⟨hs, hi⟩
      · intro e ce he hE hlt
        have h8 := allN_iff.1 h6 e (lt he)
        have e3 : atE cs e = true := by simp only [atE, he, hE]
        have e4 : Nat.blt (ps.getD e 0) t = true := (blt_iff _ _).2 hlt
        rw [e3, e4] at h8
        exact Nat.le_of_ble_eq_true (by simpa using h8)
      · intro u cu d hu hd hm hlt
        have h8 := allN_iff.1 h7 u (lt hu)
        have e3 : atD cs u = some d := by simp only [atD, hu, hd]
        have e4 : Nat.blt (ps.getD u 0) t = true := (blt_iff _ _).2 hlt
        have e5 : memK d (atS cs i) = true := by simp only [atS, hi]; exact memK_iff.2 hm
        rw [e3] at h8
        simp only [e4, e5] at h8
        exact blt_t (by simpa using h8)
end Go.Rfx
