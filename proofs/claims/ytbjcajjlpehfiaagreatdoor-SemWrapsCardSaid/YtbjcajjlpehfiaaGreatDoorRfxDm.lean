/- What is proved here: what an evaluation says of a call where package variables alone are named; a function without arguments that is known to come to true. No condition but the table. -/
import Derived.Test.YtbjcajjlpehfiaaGreatDoorRfxDl
set_option linter.unusedVariables false
set_option linter.unusedSectionVars false
set_option linter.unusedSimpArgs false
set_option linter.constructorNameAsVariable false
namespace Go.Rfx
open Go
variable [Sy]

/-- package variables, each of so many cells, and no more -/
def phi0 (G : Nat) (sz : Nat → Nat) : Phi := fun k => if k.num < G then some ⟨k.num, sz k.num⟩ else none
/-- blocks that are only read -/
noncomputable def base (gs : List (K × List V)) (nx : K) : H := .mk (tOf (gs.map fun e => (e.1, B.c e.2 true false))) nx
/-- what a package variable's cells are -/
def Laid (φ : Phi) (w : World) (g n : Nat) (l : List V) : Prop := ∃ cs t fr, w.heap[g]? = some (.cells cs t fr) ∧ cs.size = n ∧ l.length ≤ n ∧ ∀ (j : Nat) (v : V), l[j]? = some v → ∃ x, cs[j]? = some x ∧ RV φ v x
/-- a number; a type's handle -/
def GV (p : Program) (v : V) : Prop := (∃ k n, v = .i k n) ∨ ∃ t k o, v = .w t (.a [.p k o]) ∧ k.num < gN p ∧ K.of k.num = k
theorem GV.to {p : Program} {φ φ' : Phi} (h : ∀ k ri, k.num < gN p → K.of k.num = k → φ k = some ri → φ' k = some ri) {v : V} {x : Value} (g : GV p v) (r : RV φ v x) : RV φ' v x := by
  rcases g with ⟨k, n, rfl⟩ | ⟨t, k, o, rfl, h1, h2⟩
  · cases r; exact .i k n
  · cases r with | w _ _ y r =>
    cases r with | a _ xs r =>
    generalize hx : xs.toList = ys at r
    cases r with | cons _ z _ zs r rs =>
    cases rs
    cases r with | p _ _ ri hk =>
    refine .w _ _ _ (.a _ _ ?_)
    rw [hx]
    exact .cons _ _ _ _ (.p _ _ _ (h _ _ h1 h2 hk)) .nil

theorem base_get {gs : List (K × List V)} {nx k : K} {b : B} (h : (base gs nx).get k = some b) : ∃ l, (k, l) ∈ gs ∧ b = .c l true false := by
  have h1 := tOf_get (show T.get k (tOf _) = some b from h)
  rw [List.mem_map] at h1
  obtain ⟨e, he, h2⟩ := h1
  injection h2 with h3 h4
  exact ⟨e.2, by rw [← h3]; exact he, h4.symm⟩

section
variable {p : Program} {gs : List (K × List V)} {nx : K} {sz : Nat → Nat} {w : World} {cl : K → List V → H → OR}
theorem RW.base (hk : ∀ g, g < gN p → (K.of g).num = g) (hn : gN p ≤ nx.num) (hlt : ∀ e ∈ gs, e.1.num < gN p) (hl : ∀ e ∈ gs, Laid (phi0 (gN p) sz) w e.1.num (sz e.1.num) e.2) : RW p (phi0 (gN p) sz) (base gs nx) w where
  blk k b h := by
    obtain ⟨l, hm, rfl⟩ := base_get h
    have h1 := hlt _ hm
    obtain ⟨cs, t, fr, a1, a2, a3, a4⟩ := hl _ hm
    exact ⟨⟨k.num, sz k.num⟩, by simp only [phi0]; rw [if_pos h1], cs, t, fr, a1, a2, a3, fun j v hv => let ⟨x, hx, hr⟩ := a4 j v hv; ⟨x, hx, hr⟩, (fun e => by cases e), (fun e => by cases e)⟩
  inj k k' b b' ri ri' h1 h2 h3 h4 h5 := by
    obtain ⟨l, hm, rfl⟩ := base_get h1
    obtain ⟨l', hm', rfl⟩ := base_get h2
    have a := hlt _ hm
    have a' := hlt _ hm'
    simp only [phi0] at h3 h4
    rw [if_pos a] at h3
    rw [if_pos a'] at h4
    injection h3 with h3
    injection h4 with h4
    subst h3; subst h4
    exact K.num_inj h5
  dom k h := by
    have hn : ¬ k.num < gN p := by have : nx.num ≤ k.num := h; omega
    simp only [phi0]; rw [if_neg hn]
  gl g hg := ⟨⟨(K.of g).num, sz (K.of g).num⟩, by simp only [phi0]; rw [if_pos (by rw [hk g hg]; exact hg)], hk g hg⟩

/-- all that was stays, and nothing was put out -/
structure Kept (w w' : World) : Prop where
  os : w'.os = w.os
  tape : w'.tape = w.tape
  out : w'.output = w.output
  size : w.heap.size ≤ w'.heap.size
  blk : ∀ b, b < w.heap.size → w'.heap[b]? = w.heap[b]?
theorem Kept.stays {w w' : World} (k : Kept w w') : Stays w w' := stays_of k.os k.out k.blk
theorem Kept.rw {φ : Phi} {h : H} {w w' : World} (k : Kept w w') (r : RW p φ h w) : RW p φ h w' :=
  ⟨fun i b hi => by
    obtain ⟨ri, h1, h2⟩ := r.blk i b hi
    have hs : ∃ o, w.heap[ri.b]? = some o := by
      cases b with
      | c l ro cl => obtain ⟨cs, t, fr, e, _⟩ := h2; exact ⟨_, e⟩
      | m es => obtain ⟨es', c, e, _⟩ := h2; exact ⟨_, e⟩
    obtain ⟨o, ho⟩ := hs
    exact ⟨ri, h1, by rw [k.blk ri.b (Array.getElem?_eq_some_iff.1 ho).1]; exact h2⟩, r.inj, r.dom, r.gl⟩
theorem Kept.kp {N : K → Prop} {φ : Phi} {h : H} {w w' : World} (k : Kept w w') : Kp N φ h w φ h w' :=
  ⟨k.os, k.tape, k.out, k.size, Ext.refl _, fun b hb hn => ⟨k.blk b hb, hn⟩, fun _ h1 h2 => absurd h1 h2, Nat.le_refl _, fun _ _ h => h⟩

/-- a call that comes to true, package variables alone named -/
theorem calls_base (hS : Snd p cl) (hk : ∀ g, g < gN p → (K.of g).num = g) (hn : gN p ≤ nx.num) (hlt : ∀ e ∈ gs, e.1.num < gN p) {f : K} {as : List V} (hev : okT (cl f as (base gs nx)) = true)
    {args : Array Value} (hr : RVs (phi0 (gN p) sz) as args.toList) (w : World) (hl : ∀ e ∈ gs, Laid (phi0 (gN p) sz) w e.1.num (sz e.1.num) e.2) : Calls p f.num args w fun e w' => e = .returned (.bool true) ∧ Kept w w' := by
  obtain ⟨h', hv⟩ := okT_some hev
  obtain ⟨_, hc⟩ := hS _ _ _ _ _ hv
  refine (hc _ w args hr (RW.base hk hn hlt hl)).mono fun e w' hh => ?_
  obtain ⟨x, rfl, φ', hx, _, kp⟩ := hh
  cases hx
  refine ⟨rfl, kp.os, kp.tape, kp.out, kp.size, fun b hb => (kp.blk b hb ?_).1⟩
  rintro ⟨k, q, ri, h1, h2, _⟩
  obtain ⟨l, _, rfl⟩ := base_get h1
  cases h2
end

noncomputable section
/-- are these blocks there? -/
def hasB (h : H) (gs : List (K × List V)) : Bool :=
  List.rec (motive := fun _ => Bool) true (fun e _ ih => Option.casesOn (h.get e.1) false fun b => bC b false fun l _ _ => Bool.casesOn (eqF 4 (.a l) (.a e.2)) false ih) gs
/-- a function without arguments that is known to come to true -/
def hkT (gs : List (K × List V)) (as : List V) (h : H) : OR := List.casesOn as (Bool.casesOn (hasB h gs) .err (.ok (.b true) h)) fun _ _ => .err
end
theorem hasB_get {h : H} : ∀ {gs : List (K × List V)}, hasB h gs = true → ∀ e ∈ gs, ∃ ro cl, h.get e.1 = some (.c e.2 ro cl)
  | [], _, e, he => by cases he
  | a :: gs, hh, e, he => by
    have hh' : (Option.casesOn (h.get a.1) false fun b => bC b false fun l _ _ => Bool.casesOn (eqF 4 (.a l) (.a a.2)) false (hasB h gs) : Bool) = true := hh
    cases hg : h.get a.1 with
    | none => rw [hg] at hh'; cases hh'
    | some b =>
      rw [hg] at hh'
      cases b with
      | m es => cases hh'
      | c l ro cl =>
        have h2 : (Bool.casesOn (eqF 4 (.a l) (.a a.2)) false (hasB h gs) : Bool) = true := hh'
        cases hq : eqF 4 (.a l) (.a a.2) with
        | false => rw [hq] at h2; cases h2
        | true =>
          rw [hq] at h2
          have e1 := eqF_eq _ _ _ hq
          injection e1 with e1
          subst e1
          rcases List.mem_cons.1 he with rfl | he
          · exact ⟨ro, cl, hg⟩
          · exact hasB_get (gs := gs) h2 e he
theorem served_known {p : Program} {cl : K → List V → H → OR} {gs : List (K × List V)} {nx f : K} (hS : Snd p cl) (hok : okFunc p f.num = true) (hk : ∀ g, g < gN p → (K.of g).num = g) (hn : gN p ≤ nx.num)
    (hlt : ∀ e ∈ gs, e.1.num < gN p) (hkk : ∀ e ∈ gs, K.of e.1.num = e.1) (hint : ∀ e ∈ gs, ∀ v ∈ e.2, GV p v) (hev : okT (cl f [] (base gs nx)) = true) : Served p f.num (.h (hkT gs)) := by
  refine ⟨hok, fun as h v h' hv φ w args hr r => ?_⟩
  cases as with
  | cons a as => cases hv
  | nil =>
    have hv' : (Bool.casesOn (hasB h gs) .err (.ok (.b true) h) : OR) = .ok v h' := hv
    cases hb : hasB h gs with
    | false => rw [hb] at hv'; cases hv'
    | true =>
      rw [hb] at hv'
      injection hv' with e1 e2
      subst e1; subst e2
      let sz : Nat → Nat := fun g => match φ (K.of g) with | some ri => ri.n | none => 0
      have hl : ∀ e ∈ gs, Laid (phi0 (gN p) sz) w e.1.num (sz e.1.num) e.2 := by
        intro e he
        obtain ⟨ro, cl', hg⟩ := hasB_get hb e he
        obtain ⟨ri, h1, cs, t, fr, a1, a2, a3, a4, _⟩ := r.blk _ _ hg
        obtain ⟨ri', h2, h3⟩ := r.gl _ (hlt e he)
        rw [hkk e he, h1] at h2
        injection h2 with h2
        subst h2
        have hsz : sz e.1.num = ri.n := by show (match φ (K.of e.1.num) with | some ri => ri.n | none => 0) = _; rw [hkk e he, h1]
        rw [hsz]
        refine ⟨cs, t, fr, by rw [← h3]; exact a1, a2, a3, fun j v hv => ?_⟩
        obtain ⟨x, hx, hr⟩ := a4 j v hv
        refine ⟨x, hx, (hint e he v (List.mem_of_getElem? hv)).to (fun k rk k1 k2 k3 => ?_) hr⟩
        obtain ⟨rk', g1, g2⟩ := r.gl _ k1
        rw [k2, k3] at g1
        injection g1 with g1
        subst g1
        have hs : sz k.num = rk.n := by show (match φ (K.of k.num) with | some ri => ri.n | none => 0) = _; rw [k2, k3]
        simp only [phi0]
        rw [if_pos k1, hs]
        cases rk with | mk b n =>
        simp only at g2
        rw [g2]
      have hr0 : RVs (phi0 (gN p) sz) ([] : List V) args.toList := by
        cases hargs : args.toList with
        | nil => exact .nil
        | cons x xs => rw [hargs] at hr; cases hr
      refine (calls_base hS hk hn hlt hev hr0 w hl).mono fun e w' hh => ?_
      obtain ⟨rfl, kpt⟩ := hh
      exact ⟨_, rfl, φ, .b true, kpt.rw r, kpt.kp⟩
end Go.Rfx
