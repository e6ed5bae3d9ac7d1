/- What is proved here: an operation of the evaluator looks at its own slots alone; what it reads it finds in any heap that has the blocks it knows of; what is not named stays beside. No condition but these. -/
import Derived.Test.YtbjcajjlpehfiaaGreatDoorRfxZ
set_option linter.unusedVariables false
set_option linter.unusedSectionVars false
set_option linter.unusedSimpArgs false
set_option linter.constructorNameAsVariable false
namespace Go.Rfx
open Go
variable [Sy]

/-! ### slots -/
def sA : A → List K
  | .t k => [k]
  | .c _ => []
def sAs (l : List A) : List K := l.flatMap sA
def sAo : Option A → List K
  | none => []
  | some a => sA a
def sPs (l : List (Nat × Nat × A)) : List K := l.flatMap fun p => sA p.2.2
def sP : P → List K
  | .mv x | .ng x | .no x | .xo x | .cv _ x | .cs x | .wi _ x | .fa _ x | .fd _ _ _ x | .ex _ x | .ln x | .ls x | .nc x => sA x
  | .bi _ x y | .bs _ x y | .bb _ x y | .bn _ _ x y | .be _ _ x y | .ia _ x y | .iaa _ _ x y | .ix x y | .mm _ x y => sA x ++ sA y
  | .pick x y z => sA x ++ (sA y ++ sA z)
  | .mf _ a b => sAs a ++ sAs b
  | .ss x a b => sA x ++ (sAo a ++ sAo b)
  | .sl _ x a b c => sA x ++ (sAo a ++ (sAo b ++ sAo c))
  | .bd _ ps => sPs ps
  | .bad => []
def sR : Rd → List K
  | .ld _ _ x | .lm x | .bs x => sA x
  | .lk _ _ _ x y => sA x ++ sA y
def sL : Al → List K
  | .bx x | .sb x => sA x
  | .sl _ _ _ ps => sPs ps
  | .mm => []
  | .ms _ _ x y => sA x ++ sA y
def sE : E → List K
  | .st _ x y | .ap _ x y => sA x ++ sA y
  | .mu _ x y z => sA x ++ (sA y ++ sA z)
  | .ca _ as => sAs as
  | .cv x as => sA x ++ sAs as
def sO : O → List K
  | .p o => sP o
  | .r o => sR o
  | .a o => sL o
  | .e o => sE o

/-- two frames are one on these -/
def Eqs (F G : T V) (l : List K) : Prop := ∀ k, k ∈ l → T.get k F = T.get k G
theorem Eqs.left {F G : T V} {a b : List K} (h : Eqs F G (a ++ b)) : Eqs F G a := fun k hk => h k (List.mem_append_left _ hk)
theorem Eqs.right {F G : T V} {a b : List K} (h : Eqs F G (a ++ b)) : Eqs F G b := fun k hk => h k (List.mem_append_right _ hk)
section
variable {F G : T V}
theorem gA_congr {a : A} (h : Eqs F G (sA a)) : gA F a = gA G a := by
  cases a with
  | t k => exact h k (by simp [sA])
  | c v => rfl
theorem gAs_congr : ∀ {l : List A}, Eqs F G (sAs l) → gAs F l = gAs G l
  | [], _ => rfl
  | a :: l, h => by
    have h' : Eqs F G (sA a ++ sAs l) := by simpa [sAs] using h
    show ob (gA F a) (fun v => ob (gAs F l) fun r => some (v :: r)) = ob (gA G a) (fun v => ob (gAs G l) fun r => some (v :: r))
    rw [gA_congr h'.left, gAs_congr h'.right]
theorem gO_congr {a : Option A} (h : Eqs F G (sAo a)) : gO F a = gO G a := by
  cases a with
  | none => rfl
  | some a => show ob (gA F a) _ = ob (gA G a) _; rw [gA_congr h]
theorem fillP_congr : ∀ {ps : List (Nat × Nat × A)} (l : List V), Eqs F G (sPs ps) → fillP F ps l = fillP G ps l
  | [], _, _ => rfl
  | p :: ps, l, h => by
    have h' : Eqs F G (sA p.2.2 ++ sPs ps) := by simpa [sPs] using h
    have ih : fillP F ps = fillP G ps := funext fun l => fillP_congr l h'.right
    show ob (gA F p.2.2) (fun v => ob (cells v) fun c => Bool.casesOn (Nat.beq (lenL c) p.2.1) none (ob (overL c l p.1) (fillP F ps))) = ob (gA G p.2.2) (fun v => ob (cells v) fun c => Bool.casesOn (Nat.beq (lenL c) p.2.1) none (ob (overL c l p.1) (fillP G ps)))
    rw [gA_congr h'.left, ih]
theorem evP_congr {q : P} (h : Eqs F G (sP q)) : evP F q = evP G q := by
  cases q with
  | mv x => exact gA_congr h
  | pick x y z => show pPick F x y z = pPick G x y z; unfold pPick; rw [gA_congr h.left, gA_congr h.right.left, gA_congr h.right.right]
  | bi op x y => show pBi F op x y = pBi G op x y; unfold pBi; rw [gA_congr h.left, gA_congr h.right]
  | bs op x y => show pBs F op x y = pBs G op x y; unfold pBs; rw [gA_congr h.left, gA_congr h.right]
  | bb ne x y => show pBb F ne x y = pBb G ne x y; unfold pBb; rw [gA_congr h.left, gA_congr h.right]
  | bn nk ne x y => show pBn F nk ne x y = pBn G nk ne x y; unfold pBn; rw [gA_congr h.left, gA_congr h.right]
  | be ne ks x y => show pBe F ne ks x y = pBe G ne ks x y; unfold pBe; rw [gA_congr h.left, gA_congr h.right]
  | ng x => show pNg F x = pNg G x; unfold pNg; rw [gA_congr h]
  | no x => show pNo F x = pNo G x; unfold pNo; rw [gA_congr h]
  | xo x => show pXo F x = pXo G x; unfold pXo; rw [gA_congr h]
  | cv k x => show pCv F k x = pCv G k x; unfold pCv; rw [gA_congr h]
  | cs x => show pCs F x = pCs G x; unfold pCs; rw [gA_congr h]
  | wi t x => show pWi F t x = pWi G t x; unfold pWi; rw [gA_congr h]
  | mf f a b => show pMf F f a b = pMf G f a b; unfold pMf; rw [gAs_congr h.left, gAs_congr h.right]
  | ss x a b => show pSs F x a b = pSs G x a b; unfold pSs; rw [gA_congr h.left, gO_congr h.right.left, gO_congr h.right.right]
  | sl sz x a b c => show pSl F sz x a b c = pSl G sz x a b c; unfold pSl; rw [gA_congr h.left, gO_congr h.right.left, gO_congr h.right.right.left, gO_congr h.right.right.right]
  | fa o x => show pFa F o x = pFa G o x; unfold pFa; rw [gA_congr h]
  | fd ag n o x => show pFd F ag n o x = pFd G ag n o x; unfold pFd; rw [gA_congr h]
  | ia sz x y => show pIa F sz x y = pIa G sz x y; unfold pIa; rw [gA_congr h.left, gA_congr h.right]
  | iaa l sz x y => show pIaa F l sz x y = pIaa G l sz x y; unfold pIaa; rw [gA_congr h.left, gA_congr h.right]
  | ix x y => show pIx F x y = pIx G x y; unfold pIx; rw [gA_congr h.left, gA_congr h.right]
  | ex n x => show pEx F n x = pEx G n x; unfold pEx; rw [gA_congr h]
  | ln x => show pLn F x = pLn G x; unfold pLn; rw [gA_congr h]
  | ls x => show pLs F x = pLs G x; unfold pLs; rw [gA_congr h]
  | mm mx x y => show pMm F mx x y = pMm G mx x y; unfold pMm; rw [gA_congr h.left, gA_congr h.right]
  | bd z ps => show pBd F z ps = pBd G z ps; unfold pBd; rw [fillP_congr _ h]
  | nc x => show pNc F x = pNc G x; unfold pNc; rw [gA_congr h]
  | bad => rfl
theorem evR_congr {q : Rd} {hh : H} (h : Eqs F G (sR q)) : evR F hh q = evR G hh q := by
  cases q with
  | ld ag n x => show rLd F hh ag n x = rLd G hh ag n x; unfold rLd; rw [gA_congr h]
  | lk kk z ok x y => show rLk F hh kk z ok x y = rLk G hh kk z ok x y; unfold rLk; rw [gA_congr h.left, gA_congr h.right]
  | lm x => show rLm F hh x = rLm G hh x; unfold rLm; rw [gA_congr h]
  | bs x => show rBs F hh x = rBs G hh x; unfold rBs; rw [gA_congr h]
theorem evA_congr {q : Al} {nid : K} (h : Eqs F G (sL q)) : evA F nid q = evA G nid q := by
  cases q with
  | bx x => show aBx F nid x = aBx G nid x; unfold aBx; rw [gA_congr h]
  | sl sz n z ps => show aSl F nid sz n z ps = aSl G nid sz n z ps; unfold aSl; rw [fillP_congr _ h]
  | mm => rfl
  | ms sz z x y => show aMs F nid sz z x y = aMs G nid sz z x y; unfold aMs; rw [gA_congr h.left, gA_congr h.right]
  | sb x => show aSb F nid x = aSb G nid x; unfold aSb; rw [gA_congr h]
theorem evE_congr {cl : K → List V → H → OR} {q : E} {nid : K} {hh : H} (h : Eqs F G (sE q)) : evE cl F nid hh q = evE cl G nid hh q := by
  cases q with
  | st n x y => show eSt F hh n x y = eSt G hh n x y; unfold eSt; rw [gA_congr h.left, gA_congr h.right]
  | mu kk x y z => show eMu F hh kk x y z = eMu G hh kk x y z; unfold eMu; rw [gA_congr h.left, gA_congr h.right.left, gA_congr h.right.right]
  | ap sz x y => show eAp F nid hh sz x y = eAp G nid hh sz x y; unfold eAp; rw [gA_congr h.left, gA_congr h.right]
  | ca f as => show eCa cl F hh f as = eCa cl G hh f as; unfold eCa; rw [gAs_congr h]
  | cv x as => show eCv cl F hh x as = eCv cl G hh x as; unfold eCv; rw [gA_congr h.left, gAs_congr h.right]
theorem evO_congr {cl : K → List V → H → OR} {q : O} {nid : K} {hh : H} (h : Eqs F G (sO q)) : evO cl F nid hh q = evO cl G nid hh q := by
  cases q with
  | p q => show vO (evP F q) hh = vO (evP G q) hh; rw [evP_congr h]
  | r q => show vO (evR F hh q) hh = vO (evR G hh q) hh; rw [evR_congr h]
  | a q => show (Option.casesOn (evA F nid q) .err fun r => .ok r.1 (hh.set nid r.2) : OR) = Option.casesOn (evA G nid q) .err fun r => .ok r.1 (hh.set nid r.2); rw [evA_congr h]
  | e q => exact evE_congr h
def sG : Option (K × Bool) → List K
  | none => []
  | some kb => [kb.1]
theorem want_congr {g : Option (K × Bool)} (h : Eqs F G (sG g)) : want F g = want G g := by
  cases g with
  | none => rfl
  | some kb => show ob (T.get kb.1 F) _ = ob (T.get kb.1 G) _; rw [h kb.1 (by simp [sG])]
/-- a frame of these slots alone -/
noncomputable def only (F : T V) : List K → T V
  | [] => .leaf
  | k :: l => T.put (T.get k F) k (only F l)
theorem only_get (F : T V) : ∀ (l : List K) (k : K), T.get k (only F l) = if k ∈ l then T.get k F else none
  | [], k => by simp [only, T.get_leaf]
  | j :: l, k => by
    by_cases e : k = j
    · subst e; simp [only, T.get_put_same]
    · rw [only, T.get_put_other _ e, only_get F l k]
      simp [e]
theorem only_eqs (F : T V) (l : List K) : Eqs F (only F l) l := fun k hk => by rw [only_get, if_pos hk]
end

/-! ### heaps -/
section
variable {p : Program} {φ φ' : Phi} {F : T V} {ρ : Operand → Value} {h h' g : H} {w w' : World}
/-- the same blocks -/
theorem RW.same (r : RW p φ h w) (e : ∀ k, g.get k = h.get k) (n : g.nx.num = h.nx.num) : RW p φ g w :=
  ⟨fun k b hk => r.blk k b (by rwa [e] at hk), fun k k' b b' ri ri' h1 h2 => r.inj k k' b b' ri ri' (by rwa [e] at h1) (by rwa [e] at h2), fun k hk => r.dom k (by rwa [n] at hk), r.gl⟩
/-- some of the blocks -/
theorem RW.part (r : RW p φ h w) (e : ∀ k b, g.get k = some b → h.get k = some b) (n : g.nx.num = h.nx.num) : RW p φ g w :=
  ⟨fun k b hk => r.blk k b (e _ _ hk), fun k k' b b' ri ri' h1 h2 => r.inj k k' b b' ri ri' (e _ _ h1) (e _ _ h2), fun k hk => r.dom k (by rwa [n] at hk), r.gl⟩
/-- what is beside stays beside: g is a part of h; after it came to g', all else is put back -/
theorem RW.beside {N : K → Prop} {g g' h' : H} (r : RW p φ h w) (e : ∀ k b, g.get k = some b → h.get k = some b) (n : g.nx.num = h.nx.num)
    (r' : RW p φ' g' w') (kp : Kp N φ g w φ' g' w')
    (e' : ∀ k, h'.get k = (match h.get k, g.get k with | some b, none => some b | _, _ => g'.get k)) (n' : h'.nx.num = g'.nx.num) :
    RW p φ' h' w' ∧ Kp N φ h w φ' h' w' := by
  -- a block beside
  have hb : ∀ {k b ri}, h.get k = some b → g.get k = none → φ k = some ri → ri.b < w.heap.size ∧ w'.heap[ri.b]? = w.heap[ri.b]? ∧ ¬ Nm φ' g' ri.b := by
    intro k b ri h1 h2 h3
    have hlt := r.lt h1 h3
    have hn : ¬ Nm φ g ri.b := by
      rintro ⟨k', q, ri', g1, g2, g3⟩
      have := r.inj _ _ _ _ _ _ (e _ _ g1) h1 g2 h3 g3
      subst this
      rw [h2] at g1; cases g1
    have hl : ¬ Lv φ g ri.b := fun ⟨k', q, ri', g1, g2, g3, g4⟩ => hn ⟨k', q, ri', g1, g3, g4⟩
    exact ⟨hlt, (kp.blk _ hlt hl).1, kp.nm _ hlt hn⟩
  have cs : ∀ {k b}, h'.get k = some b → (h.get k = some b ∧ g.get k = none) ∨ g'.get k = some b := by
    intro k b hk
    rw [e'] at hk
    cases h1 : h.get k with
    | none => rw [h1] at hk; exact .inr hk
    | some q =>
      cases h2 : g.get k with
      | none => rw [h1, h2] at hk; exact .inl ⟨hk, rfl⟩
      | some q2 => rw [h1, h2] at hk; exact .inr hk
  have old : ∀ {k b}, h.get k = some b → ∃ ri, φ k = some ri ∧ φ' k = some ri ∧ RB φ b ri w.heap[ri.b]? := by
    intro k b hk
    obtain ⟨ri, h1, h2⟩ := r.blk k b hk
    exact ⟨ri, h1, kp.ext _ _ h1, h2⟩
  refine ⟨⟨?_, ?_, fun k hk => r'.dom k (by rwa [n'] at hk), r'.gl⟩, ⟨kp.os, kp.tape, kp.out, kp.size, kp.ext, ?_, kp.new, by rw [n', ← n]; exact kp.nx, ?_⟩⟩
  · intro k b hk
    rcases cs hk with ⟨h1, h2⟩ | h1
    · obtain ⟨ri, h3, h4, h5⟩ := old h1
      exact ⟨ri, h4, by rw [(hb h1 h2 h3).2.1]; exact h5.mono kp.ext⟩
    · exact r'.blk k b h1
  · intro k k' b b' ri ri' hk hk' hi hi' hbb
    rcases cs hk with ⟨h1, h2⟩ | h1
    · obtain ⟨ri1, h3, h4, _⟩ := old h1
      rw [h4] at hi; injection hi with hi; subst hi
      rcases cs hk' with ⟨h1', h2'⟩ | h1'
      · obtain ⟨ri2, h3', h4', _⟩ := old h1'
        rw [h4'] at hi'; injection hi' with hi'; subst hi'
        exact r.inj _ _ _ _ _ _ h1 h1' h3 h3' hbb
      · exact absurd ⟨k', b', ri', h1', hi', hbb.symm⟩ (hb h1 h2 h3).2.2
    · rcases cs hk' with ⟨h1', h2'⟩ | h1'
      · obtain ⟨ri2, h3', h4', _⟩ := old h1'
        rw [h4'] at hi'; injection hi' with hi'; subst hi'
        exact absurd ⟨k, b, ri, h1, hi, hbb⟩ (hb h1' h2' h3').2.2
      · exact r'.inj _ _ _ _ _ _ h1 h1' hi hi' hbb
  · intro b hlt hn
    have hn' : ¬ Lv φ g b := fun ⟨k, q, ri, g1, g2, g3, g4⟩ => hn ⟨k, q, ri, e _ _ g1, g2, g3, g4⟩
    obtain ⟨k1, k2⟩ := kp.blk b hlt hn'
    refine ⟨k1, ?_⟩
    rintro ⟨k, q, ri, g1, g2, g3, g4⟩
    rcases cs g1 with ⟨h1, h2⟩ | h1
    · obtain ⟨ri1, h3, h4, _⟩ := old h1
      rw [h4] at g3; injection g3 with g3; subst g3
      exact hn ⟨k, q, ri1, h1, g2, h3, g4⟩
    · exact k2 ⟨k, q, ri, h1, g2, g3, g4⟩
  · intro b hlt hn
    have hn' : ¬ Nm φ g b := fun ⟨k, q, ri, g1, g3, g4⟩ => hn ⟨k, q, ri, e _ _ g1, g3, g4⟩
    have k2 := kp.nm b hlt hn'
    rintro ⟨k, q, ri, g1, g3, g4⟩
    rcases cs g1 with ⟨h1, h2⟩ | h1
    · obtain ⟨ri1, h3, h4, _⟩ := old h1
      rw [h4] at g3; injection g3 with g3; subst g3
      exact hn ⟨k, q, ri1, h1, h3, g4⟩
    · exact k2 ⟨k, q, ri, h1, g3, g4⟩

/-- a heap that has the blocks that are known of -/
def Has (φ : Phi) (g h : H) : Prop := ∀ k b, φ k ≠ none → g.get k = some b → h.get k = some b
theorem clear_has (hs : Has φ g h) {i : K} (hi : φ i ≠ none) (hc : clear g i = true) : clear h i = true := by
  obtain ⟨l, ro, hg⟩ := clear_some hc
  unfold clear
  rw [hs i _ hi hg]; rfl
theorem keyEq_has (hs : Has φ g h) {kk : KK} {k e : V} {kx ex : Value} {b : Bool} (hk : RV φ k kx) (he : RV φ e ex) (hq : keyEq g kk k e = some b) : keyEq h kk k e = some b := by
  cases kk with
  | i => exact hq
  | s => exact hq
  | p =>
    obtain ⟨i1, o1, rfl, h1⟩ := pK_some hq
    obtain ⟨i2, o2, rfl, h2⟩ := pK_some h1
    obtain ⟨c1, h3⟩ := bcT h2
    obtain ⟨c2, h4⟩ := bcT h3
    cases hk with | p _ _ r1 e1 =>
    cases he with | p _ _ r2 e2 =>
    have d1 := clear_has hs (by rw [e1]; exact fun h => by cases h) c1
    have d2 := clear_has hs (by rw [e2]; exact fun h => by cases h) c2
    show (Bool.casesOn (clear h i1) none (Bool.casesOn (clear h i2) none _) : Option Bool) = _
    rw [d1, d2]; exact h4
theorem find_has (hs : Has φ g h) {kk : KK} {k : V} {kx : Value} (hk : RV φ k kx) : ∀ {es : List (V × V)} {xs : List MapEntry} {r : Option V}, REs φ es xs → find g kk k es = some r → find h kk k es = some r
  | [], xs, r, hr, hf => hf
  | e :: es, [], r, hr, hf => by have := hr.1; simp at this
  | e :: es, x :: xs, r, hr, hf => by
    obtain ⟨h1, h2, h3⟩ := hr.cons
    rw [find_cons] at hf ⊢
    obtain ⟨q, hq, hf⟩ := ob_eq.1 hf
    rw [keyEq_has hs hk h1 hq]
    cases q with
    | true => exact hf
    | false => exact find_has hs hk h3 hf
theorem RV.named {i : K} {o : Nat} {x : Value} (hr : RV φ (.p i o) x) : φ i ≠ none := by
  cases hr with | p _ _ ri e => rw [e]; exact fun h => by cases h
theorem Kp.same {N : K → Prop} (kp : Kp N φ h w φ' h' w') (e : ∀ k, g.get k = h'.get k) (n : g.nx.num = h'.nx.num) : Kp N φ h w φ' g w' :=
  ⟨kp.os, kp.tape, kp.out, kp.size, kp.ext, fun b hb hn => ⟨(kp.blk b hb hn).1, fun ⟨k, q, ri, g1, g2⟩ => (kp.blk b hb hn).2 ⟨k, q, ri, by rwa [e] at g1, g2⟩⟩, kp.new, by rw [n]; exact kp.nx,
    fun b hb hn => fun ⟨k, q, ri, g1, g2⟩ => kp.nm b hb hn ⟨k, q, ri, by rwa [e] at g1, g2⟩⟩
/-- operands that stand for Go's -/
def OkA (φ : Phi) (F : T V) (a : A) : Prop := ∀ u, gA F a = some u → ∃ x, RV φ u x
def OkR (φ : Phi) (F : T V) : Rd → Prop
  | .ld _ _ x | .lm x | .bs x => OkA φ F x
  | .lk _ _ _ x y => OkA φ F x ∧ OkA φ F y
theorem OpR.okA (h : OpR p φ F ρ) {x : Operand} {a : A} (ha : cA p x = some a) : OkA φ F a := fun u hu => ⟨_, h x a u ha hu⟩
theorem read_ok {o : Oper} {q : Rd} (hp : OpR p φ F ρ) (hc : cOp p o.op = some (.r q)) : OkR φ F q := by
  cases ho : o.op with
  | load t x =>
    rw [ho] at hc
    simp only [cOp, bind, Option.bind_eq_some_iff, Option.some.injEq, O.r.injEq] at hc
    obtain ⟨g, hg, n, hn, a, ha, rfl⟩ := hc
    exact hp.okA ha
  | lookup t x i ok =>
    rw [ho] at hc
    cases ht : p.underlying t with
    | none => simp only [cOp, ht] at hc; cases hc
    | some d =>
      cases d with
      | map k e =>
        simp only [cOp, ht, bind, Option.bind_eq_some_iff, Option.some.injEq, O.r.injEq] at hc
        obtain ⟨kk, hk, z, hz, a, ha, b, hb, rfl⟩ := hc
        exact ⟨hp.okA ha, hp.okA hb⟩
      | _ => simp only [cOp, ht] at hc; cases hc
  | convert s d x =>
    rw [ho] at hc
    simp only [cOp, bind, Option.bind_eq_some_iff] at hc
    obtain ⟨a, ha, hc⟩ := hc
    cases hs : p.underlying s with
    | none => rw [hs] at hc; cases hc
    | some ds =>
      cases hd : p.underlying d with
      | none => rw [hs, hd] at hc; cases ds <;> cases hc
      | some dd =>
        rw [hs, hd] at hc
        cases ds <;> cases dd <;> first
          | (cases hc; done)
          | (simp at hc; done)
          | (rename_i e
             by_cases he : isU8 p e = true
             · simp only [he, if_true, Option.some.injEq, O.r.injEq, reduceCtorEq] at hc
               subst hc
               exact hp.okA ha
             · simp only [he, if_false, reduceCtorEq, Bool.false_eq_true] at hc)
  | call c =>
    rw [ho] at hc
    simp only [cOp] at hc
    cases hcc : c.callee with
    | value x =>
      simp only [cCall, hcc] at hc
      cases x <;> simp [Option.bind_eq_some_iff] at hc
    | invoke r m => simp only [cCall, hcc] at hc; cases hc
    | builtin bi =>
      cases bi with
      | len =>
        simp only [cCall, hcc] at hc
        cases hts : c.argTypes.toList with
        | nil => rw [hts] at hc; cases hc
        | cons t ts =>
          cases hxs : c.args.toList with
          | nil => rw [hts, hxs] at hc; cases hc
          | cons x xs =>
            rw [hts, hxs] at hc
            simp only [Option.bind_eq_some_iff] at hc
            obtain ⟨a, ha, hc⟩ := hc
            cases ht : p.underlying t with
            | none => simp only [cLen, ht] at hc; cases hc
            | some d =>
              cases d with
              | map k e => simp only [cLen, ht, Option.some.injEq, O.r.injEq] at hc; subst hc; exact hp.okA ha
              | _ => simp [cLen, ht] at hc
      | append =>
        simp only [cCall, hcc] at hc
        split at hc
        · simp only [Option.bind_eq_some_iff] at hc
          obtain ⟨a, ha, b, hb, hc⟩ := hc
          unfold cApp at hc
          split at hc
          · simp [Option.bind_eq_some_iff] at hc
          · cases hc
        · cases hc
      | max =>
        simp only [cCall, hcc] at hc
        split at hc
        · simp [Option.bind_eq_some_iff] at hc
        · cases hc
      | min =>
        simp only [cCall, hcc] at hc
        split at hc
        · simp [Option.bind_eq_some_iff] at hc
        · cases hc
      | _ => simp only [cCall, hcc] at hc; cases hc
  | move x => rw [ho] at hc; simp [cOp, bind, Option.bind_eq_some_iff] at hc
  | assign x => rw [ho] at hc; simp [cOp, bind, Option.bind_eq_some_iff] at hc
  | pick x y z => rw [ho] at hc; simp [cOp, bind, Option.bind_eq_some_iff] at hc
  | nilCheck x => rw [ho] at hc; simp [cOp, bind, Option.bind_eq_some_iff] at hc
  | extract x i => rw [ho] at hc; simp [cOp, bind, Option.bind_eq_some_iff] at hc
  | binOp op t x y t' => rw [ho] at hc; simp [cOp, bind, Option.bind_eq_some_iff] at hc
  | unOp op t x => rw [ho] at hc; cases op <;> simp [cOp, bind, Option.bind_eq_some_iff] at hc
  | alloc t => rw [ho] at hc; simp [cOp, bind, Option.bind_eq_some_iff] at hc
  | box t x => rw [ho] at hc; simp [cOp, bind, Option.bind_eq_some_iff] at hc
  | store t x y => rw [ho] at hc; simp [cOp, bind, Option.bind_eq_some_iff] at hc
  | makeMap t r => rw [ho] at hc; cases r <;> simp [cOp] at hc
  | makeFunc f a c => rw [ho] at hc; cases f <;> simp [cOp, bind, Option.bind_eq_some_iff] at hc
  | build t ps =>
    rw [ho] at hc
    simp only [cOp, bind, Option.bind_eq_some_iff] at hc
    obtain ⟨z, hz, hc⟩ := hc
    split at hc
    · simp [Option.bind_eq_some_iff] at hc
    · cases hc
  | makeInterface t x =>
    rw [ho] at hc
    simp only [cOp] at hc
    split at hc
    · cases hc
    · simp [bind, Option.bind_eq_some_iff] at hc
    · cases hc
  | fieldAddr t x i =>
    rw [ho] at hc
    simp only [cOp] at hc
    split at hc
    · simp only [bind, Option.bind_eq_some_iff] at hc
      obtain ⟨f, hf, n, hn, hc⟩ := hc
      split at hc
      · cases hc
      · simp [Option.bind_eq_some_iff] at hc
    · cases hc
  | field t x i =>
    rw [ho] at hc
    simp only [cOp] at hc
    split at hc
    · simp [bind, Option.bind_eq_some_iff] at hc
    · cases hc
  | indexAddr t x i =>
    rw [ho] at hc
    simp only [cOp] at hc
    split at hc
    · simp [bind, Option.bind_eq_some_iff] at hc
    · simp [bind, Option.bind_eq_some_iff] at hc
    · cases hc
  | index t x i =>
    rw [ho] at hc
    simp only [cOp] at hc
    split at hc
    · simp [bind, Option.bind_eq_some_iff] at hc
    · cases hc
  | slice t x lo hi mx =>
    rw [ho] at hc
    simp only [cOp] at hc
    split at hc
    · split at hc
      · simp [bind, Option.bind_eq_some_iff] at hc
      · cases hc
    · simp [bind, Option.bind_eq_some_iff] at hc
    · cases hc
  | buildSlice t n ps =>
    rw [ho] at hc
    simp only [cOp] at hc
    split at hc
    · simp [bind, Option.bind_eq_some_iff] at hc
    · cases hc
  | makeSlice t n c =>
    rw [ho] at hc
    simp only [cOp] at hc
    split at hc
    · split at hc
      · simp [bind, Option.bind_eq_some_iff] at hc
      · cases hc
    · cases hc
  | mapUpdate t m k x =>
    rw [ho] at hc
    simp only [cOp] at hc
    split at hc
    · simp [bind, Option.bind_eq_some_iff] at hc
    · cases hc
  | insert t m k x =>
    rw [ho] at hc
    simp only [cOp] at hc
    split at hc
    · simp [bind, Option.bind_eq_some_iff] at hc
    · cases hc
  | _ => rw [ho] at hc; cases hc
theorem evR_has (hs : Has φ g h) (r : RW p φ h w) {q : Rd} {v : V} (hp : OkR φ F q) (hv : evR F g q = some v) : evR F h q = some v := by
  cases q with
  | ld ag n x =>
    obtain ⟨u, hu, v1⟩ := ob_eq.1 (show ob (gA F x) _ = some v from hv)
    obtain ⟨y, hy⟩ := hp u hu
    obtain ⟨i, o, rfl, v2⟩ := pK_some v1
    obtain ⟨b, hb, v3⟩ := ob_eq.1 v2
    show ob (gA F x) _ = some v
    rw [hu]
    show ob (h.get i) _ = some v
    rw [hs i b hy.named hb]
    exact v3
  | lk kk z ok x y =>
    obtain ⟨u, hu, v1⟩ := ob_eq.1 (show ob (gA F x) _ = some v from hv)
    obtain ⟨k, hk, v2⟩ := ob_eq.1 v1
    obtain ⟨xu, hxu⟩ := hp.1 u hu
    obtain ⟨xk, hxk⟩ := hp.2 k hk
    obtain ⟨hok, v3⟩ := bcT v2
    show ob (gA F x) _ = some v
    rw [hu]
    show ob (gA F y) _ = some v
    rw [hk]
    show (Bool.casesOn (okKey kk k) none _ : Option V) = some v
    rw [hok]
    rcases mK_some v3 with ⟨rfl, v4⟩ | ⟨m, rfl, v4⟩
    · exact v4
    · obtain ⟨b, hb, v5⟩ := ob_eq.1 v4
      obtain ⟨es, rfl, v6⟩ := bM_some v5
      obtain ⟨res, hres, v7⟩ := ob_eq.1 v6
      cases hxu with | m _ ri hri =>
      have hb' := hs m _ (by rw [hri]; exact fun h => by cases h) hb
      obtain ⟨ents, clk, _, hrel⟩ := r.mapAt hb' hri
      show ob (h.get m) _ = some v
      rw [hb']
      show ob (find h kk k es) _ = some v
      rw [find_has hs hxk hrel hres]
      exact v7
  | lm x =>
    obtain ⟨u, hu, v1⟩ := ob_eq.1 (show ob (gA F x) _ = some v from hv)
    obtain ⟨y, hy⟩ := hp u hu
    show ob (gA F x) _ = some v
    rw [hu]
    rcases mK_some v1 with ⟨rfl, v2⟩ | ⟨m, rfl, v2⟩
    · exact v2
    · obtain ⟨b, hb, v3⟩ := ob_eq.1 v2
      cases hy with | m _ ri hri =>
      show ob (h.get m) _ = some v
      rw [hs m b (by rw [hri]; exact fun h => by cases h) hb]
      exact v3
  | bs x =>
    obtain ⟨u, hu, v1⟩ := ob_eq.1 (show ob (gA F x) _ = some v from hv)
    obtain ⟨y, hy⟩ := hp u hu
    show ob (gA F x) _ = some v
    rw [hu]
    rcases slK_some v1 with ⟨rfl, v2⟩ | ⟨i, o, n, c, rfl, v2⟩
    · exact v2
    · obtain ⟨l, hl, v3⟩ := ob_eq.1 v2
      obtain ⟨b, hb, v4⟩ := ob_eq.1 hl
      cases hy with | sl _ _ _ _ cap ri hri hc =>
      show ob (loadC h i o n) _ = some v
      have : loadC h i o n = some l := by
        show ob (h.get i) _ = some l
        rw [hs i b (by rw [hri]; exact fun h => by cases h) hb]
        exact v4
      rw [this]
      exact v3
end
end Go.Rfx
