/- What is proved here: a region whose order is open comes to what its plan says. The condition is the plan's form. -/
import Derived.Test.YtbjcajjlpehfiaaRfxDf
set_option linter.unusedVariables false
set_option linter.unusedSimpArgs false
set_option linter.constructorNameAsVariable false
namespace Go.Rfx
open Go

section
variable {p : Program} {nt : Nat} {ops : Array Oper} {cs : List CO} {l : List St} {pos : Nat → Nat} {pre : Nat → Nat → Bool} {cl : K → List V → H → OR} {nx : K} {Fs : Nat → T V} {hs : Nat → H}
  {φ0 : Phi} {h0 : H} {w0 : World} {X X' : Nat → Prop} {t : Nat} {φ φ' : Phi} {h h' : H} {a : Act} {w w' : World}

/-- all is done -/
theorem Inv.fin (P : Plan ops cs l pos pre) (tr : Trace cl nx l Fs hs) (I : Inv p nt ops cs l pos nx Fs hs φ0 h0 w0 X t φ h a w) (hX : ∀ i, i < ops.size → X i) : Stands p nt φ0 h0 w0 (Fs l.length) (hs l.length) a w := by
  have calm : Calm cs pos t l.length := fun e ce h1 h2 hh => by
    have := (I.tau e ce h1 h2).1 (hX e (P.lt h1))
    omega
  have W := fun n => tr.heap P n l.length I.tl (Nat.le_refl _) calm
  have heq : ∀ n, (hs l.length).get n = h.get n := by
    intro n
    rcases (W n).2 with ⟨A, cA, a1, a2, a3, a4, a5, a6⟩ | ⟨a1, a2⟩
    · rcases I.hp n with ⟨A', c', b0, b1, b2, b3, b4, b5⟩ | ⟨b1, _⟩
      · have := kAdd_inj (a5.symm.trans b4)
        subst this
        rw [a6, b5, ← mkq_of P tr a1 a3 (calm.sub (by omega)) (I.fr _ _ a1 a2 a3), a5]
      · exact absurd a5 (b1 A cA (hX A (P.lt a1)) a1 a2 a3)
    · rcases I.hp n with ⟨A', c', b0, b1, b2, b3, b4, b5⟩ | ⟨_, b2⟩
      · exact absurd b4 (a1 A' c' b1 b2 b3 (P.pos_lt b1))
      · rw [a2, b2]
  have hnx : (hs l.length).nx.num = h.nx.num := by rw [(W nx).1]; exact I.hn.symm
  refine ⟨φ, ⟨fun k v hk => ?_, I.sz, I.df⟩, I.rw.same heq hnx, I.kp.same heq hnx⟩
  by_cases hw : ∃ (i : Nat) (ci : CO), cs[i]? = some ci ∧ dstOf ci = some k
  · obtain ⟨i, ci, hi, hd⟩ := hw
    have hpl := P.pos_lt hi
    have hsl := tr.slot P (s := k) (t1 := pos i + 1) l.length (by omega) (Nat.le_refl _) fun k' c' h1 h2 hh => by
      have := P.wr _ _ _ _ _ h1 hi h2 hd
      subst this
      omega
    obtain ⟨v', x, h1, h2, h3⟩ := I.sl1 i ci k (hX i (P.lt hi)) hi hd
    rw [hsl, hk] at h1
    injection h1 with h1
    subst h1
    exact ⟨x, h2, h3⟩
  · have hsl := tr.slot P (s := k) (t1 := 0) l.length (by omega) (Nat.le_refl _) fun k' c' h1 h2 _ => hw ⟨k', c', h1, h2⟩
    exact I.sl2 k v (fun i' c' _ h2 h3 => hw ⟨i', c', h2, h3⟩) (by rw [hsl]; exact hk)

def Lst (listed : Array Bool) (i : Nat) : Prop := listed.getD i false = true
/-- nothing is ready: all is done -/
theorem all_of_none (P : Plan ops cs l pos pre) {listed : Array Bool} (hsz : listed.size = ops.size) (hr : Region.ready .any ops listed = []) : ∀ (n i : Nat), pos i ≤ n → i < ops.size → Lst listed i := by
  intro n
  induction n using Nat.strongRecOn with
  | _ n ih =>
    intro i hi hlt
    cases hl : listed.getD i false with
    | true => exact hl
    | false =>
      exfalso
      have hl' : listed.getD i true = false := by
        have hi' : i < listed.size := by omega
        simpa [Array.getD_eq_getD_getElem?, hi'] using hl
      have : i ∈ Region.ready .any ops listed := by
        rw [mem_ready]
        refine ⟨hl', ops[i], by simp [hlt], fun e he hb => ?_⟩
        obtain ⟨h1, h2⟩ := P.into i ops[i] e (by simp [hlt]) he hb
        have h3 := P.topo e.on i h1 hlt h2
        exact ih (pos e.on) (by omega) e.on (Nat.le_refl _) h1
      rw [hr] at this
      cases this
theorem region_any (hS : Snd p cl) (P : Plan ops cs l pos pre) (hcs : ops.toList.mapM (cO p nt ops.toList) = some cs) (tr : Trace cl nx l Fs hs) {Q : Exit → Act → World → Prop} (hQ : ∀ a w, Stands p nt φ0 h0 w0 (Fs l.length) (hs l.length) a w → Q .normal a w) :
    ∀ (fuel : Nat) (listed : Array Bool) (t : Nat) (φ : Phi) (h : H) (a : Act) (w : World), listed.size = ops.size → listed.toList.countP (fun b => !b) = fuel →
      (∀ i j, pre i j = true → j < ops.size → Lst listed j → Lst listed i) → Inv p nt ops cs l pos nx Fs hs φ0 h0 w0 (Lst listed) t φ h a w → wpAny p .any ops Q fuel listed a w
  | 0, listed, t, φ, h, a, w, hsz, hcnt, cd, I => by
    have hall : ∀ i, i < ops.size → Lst listed i := by
      intro i hi
      rw [List.countP_eq_zero] at hcnt
      have hi' : i < listed.size := by omega
      have := hcnt listed[i] (by simp)
      show listed.getD i false = true
      simpa [Array.getD_eq_getD_getElem?, hi'] using this
    refine ⟨?_, hQ a w (I.fin P tr hall)⟩
    cases hr : Region.ready .any ops listed with
    | nil => rfl
    | cons j r =>
      exfalso
      have hm : j ∈ Region.ready .any ops listed := by rw [hr]; simp
      rw [mem_ready] at hm
      obtain ⟨h1, o, h2, _⟩ := hm
      have hlt : j < ops.size := (Array.getElem?_eq_some_iff.1 h2).1
      have h3 : listed.getD j false = true := hall j hlt
      have hi' : j < listed.size := by omega
      simp [Array.getD_eq_getD_getElem?, hi'] at h1 h3
      rw [h1] at h3; cases h3
  | fuel + 1, listed, t, φ, h, a, w, hsz, hcnt, cd, I => by
    refine ⟨fun hr => hQ a w (I.fin P tr fun i hi => all_of_none P hsz hr _ i (Nat.le_refl _) hi), fun j hm => ?_⟩
    rw [mem_ready] at hm
    obtain ⟨h1, o, h2, h3⟩ := hm
    have hlt : j < ops.size := (Array.getElem?_eq_some_iff.1 h2).1
    have hi' : j < listed.size := by omega
    have hf : listed[j] = false := by simpa [Array.getD_eq_getD_getElem?, hi'] using h1
    have nX : ¬ Lst listed j := fun hh => by
      have hh' : listed.getD j false = true := hh
      simp [Array.getD_eq_getD_getElem?, hi', hf] at hh'
    obtain ⟨c, hj⟩ := P.some hlt
    obtain ⟨o', ho', hco⟩ := mapM_get hcs j c hj
    rw [Array.getElem?_toList, h2] at ho'
    injection ho' with ho'
    subst ho'
    have rdy : ∀ i, pre i j = true → Lst listed i := by
      intro i hp
      obtain ⟨o2, e, g1, g2, g3, g4⟩ := P.edge i j hlt hp
      rw [h2] at g1; injection g1 with g1; subst g1
      have hon : Lst listed e.on := h3 e g2 g3
      rcases g4 with rfl | g4
      · exact hon
      · exact cd i e.on g4 (P.into j o e h2 g2 g3).1 hon
    have hX : ∀ i, Lst (listed.setIfInBounds j true) i ↔ Lst listed i ∨ i = j := by
      intro i
      by_cases e : j = i
      · subst e
        refine ⟨fun _ => .inr rfl, fun _ => ?_⟩
        show (listed.setIfInBounds j true).getD j false = true
        simp [Array.getD_eq_getD_getElem?, hi']
      · show (listed.setIfInBounds j true).getD i false = true ↔ _
        rw [getD_set_ne false e]
        exact ⟨.inl, fun hh => hh.resolve_right fun h => e h.symm⟩
    have hsz' : (listed.setIfInBounds j true).size = ops.size := by simpa using hsz
    have hcnt' : (listed.setIfInBounds j true).toList.countP (fun b => !b) = fuel := by
      rw [Array.toList_setIfInBounds, List.countP_set (h := by simpa using hi')]
      have : listed.toList[j]'(by simpa using hi') = false := by simpa using hf
      rw [this, hcnt]
      simp
    have cd' : ∀ i k, pre i k = true → k < ops.size → Lst (listed.setIfInBounds j true) k → Lst (listed.setIfInBounds j true) i := by
      intro i k hp hk hl
      rw [hX] at hl ⊢
      rcases hl with hl | rfl
      · exact .inl (cd i k hp hk hl)
      · exact .inl (rdy i hp)
    have ih : ∀ x w', (∃ t' φ' h', Inv p nt ops cs l pos nx Fs hs φ0 h0 w0 (Lst (listed.setIfInBounds j true)) t' φ' h' (a.put o.dst x) w') → wpAny p .any ops Q fuel (listed.setIfInBounds j true) (a.put o.dst x) w' := by
      rintro x w' ⟨t', φ', h', I'⟩
      exact region_any hS P hcs tr hQ fuel _ t' φ' h' _ w' hsz' hcnt' cd' I'
    show wpOp p ops Q j _ a w
    unfold wpOp
    rw [h2]
    rcases I.step hS P tr cd hj hco hX nX rdy with ⟨hw, hg⟩ | ⟨hw, hi⟩
    · simp only [hw, if_true]
      exact .inl (hg.wp fun x w' hh => ih x w' hh)
    · simp only [hw, if_false, Bool.false_eq_true]
      exact ih _ _ hi

/-- the beginning -/
theorem Inv.begin (P : Plan ops cs l pos pre) {F : T V} (f : FR nt φ F a) (r : RW p φ h w) (e1 : Fs 0 = F) (e2 : hs 0 = h.bump ops.size) :
    Inv p nt ops cs l pos h.nx Fs hs φ h w (Lst (Array.replicate ops.size false)) 0 φ (h.bump ops.size) a { w with drawn := w.drawn + 1 } := by
  have no : ∀ i, ¬ Lst (Array.replicate ops.size false) i := by
    intro i hh
    have hh' : (Array.replicate ops.size false).getD i false = true := hh
    rw [Array.getD_eq_getD_getElem?, Array.getElem?_replicate] at hh'
    split at hh' <;> simp at hh'
  have hnone : ∀ k : Nat, φ (kAdd h.nx k) = none := fun k => r.dom _ (by rw [kAdd_num]; omega)
  refine ⟨fun i _ _ hx => absurd hx (no i), fun d v _ hv => ?_, f.sz, f.df, Nat.zero_le _, fun e ce _ _ => ⟨fun hx => absurd hx (no e), fun hx => by omega⟩, .inl rfl, fun k _ _ => hnone k, fun A _ hx => absurd hx (no A), fun n => .inr ⟨fun A _ hx => absurd hx (no A), by rw [e2]⟩, ?_, by rw [e2],
    (r.bump _).drew, ⟨rfl, rfl, rfl, Nat.le_refl _, Ext.refl _, fun b _ hn => ⟨rfl, fun ⟨k, q, ri, g1, g2⟩ => hn ⟨k, q, ri, by rwa [H.get_bump] at g1, g2⟩⟩, fun _ h1 h2 => absurd h1 h2, by rw [H.nx_bump]; omega, fun b _ hn => fun ⟨k, q, ri, g1, g2⟩ => hn ⟨k, q, ri, by rwa [H.get_bump] at g1, g2⟩⟩, ?_⟩
  · rw [e1] at hv
    obtain ⟨x, hx, hr⟩ := f.tm d v hv
    exact ⟨x, hx, hr⟩
  · intro A c _ _ _
    rw [e2, H.get_bump]
    cases hq : h.get (kAdd h.nx A) with
    | none => rfl
    | some b =>
      obtain ⟨ri, g1, _⟩ := r.blk _ _ hq
      rw [hnone A] at g1; cases g1
  · rw [e2, H.nx_bump]
    exact ⟨Nat.le_refl _, Nat.le_refl _⟩
/-- a region whose order is open -/
theorem drOK_of (hm : p.follows .mixedOrders = true) (hp : ∀ n lo l, cD nt p ops.toList = some (.dr n lo l) → n = ops.size ∧ ∃ cs pos pre, ops.toList.mapM (cO p nt ops.toList) = some cs ∧ Plan ops cs l pos pre) : DrOK p nt ops := by
  intro cl n lo l hS hcD id φ F h a w R0 he f r hv
  obtain ⟨rfl, cs, pos, pre, hcs, P⟩ := hp n lo l hcD
  obtain ⟨Fs, hs, e1, e2, tr, e3⟩ := evD_trace l F (h.bump ops.size) R0 (fun t k chk hid c ht => (P.step t k chk hid c ht).2) hv he
  refine wp_region_any hm ?_
  refine region_any hS P hcs tr (φ0 := φ) (h0 := h) (w0 := w) (fun a' w' hst => ⟨_, _, e3, hst⟩) ops.size _ 0 φ (h.bump ops.size) a _ (by simp) (by simp [List.countP_replicate]) ?_ (Inv.begin P f r e1 e2)
  intro i j _ _ hh
  have hh' : (Array.replicate ops.size false).getD j false = true := hh
  rw [Array.getD_eq_getD_getElem?, Array.getElem?_replicate] at hh'
  split at hh' <;> simp at hh'
end
end Go.Rfx
