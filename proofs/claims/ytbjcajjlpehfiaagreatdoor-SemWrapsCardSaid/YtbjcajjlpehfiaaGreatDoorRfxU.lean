/- What is proved here: every operation of the evaluator is one of Go's own run. The conditions are the relations of operands and of memory; calls: that the callee is served. -/
import Derived.Test.YtbjcajjlpehfiaaGreatDoorRfxS
set_option linter.unusedVariables false
set_option linter.unusedSectionVars false
set_option linter.unusedSimpArgs false
set_option linter.constructorNameAsVariable false
namespace Go.Rfx
open Go
variable [Sy]

/-- what stands after it -/
def After (p : Program) (N : K → Prop) (φ : Phi) (h : H) (w : World) (v : V) (h' : H) : Value → World → Prop := fun x w' => ∃ φ', RV φ' v x ∧ RW p φ' h' w' ∧ Kp N φ h w φ' h' w'
/-- an operation that comes to this -/
def Goes (p : Program) (ρ : Operand → Value) (o : Oper) (w : World) (R : Value → World → Prop) : Prop :=
  (∃ x w', (execOp ρ o).run p w = .ok (.value x) w' ∧ R x w') ∨ (∃ w', (execOp ρ o).run p w = .ok .skip w' ∧ R undef w') ∨
    ∃ f args, (execOp ρ o).run p w = .ok (.enter f args) w ∧ Calls p f args w fun e w' => ∃ x, e = .returned x ∧ R x w'
theorem Goes.wp {p : Program} {o : Oper} {a : Act} {w : World} {R : Value → World → Prop} {next : Act → World → Prop} {Q : Exit → Act → World → Prop} (g : Goes p a.eval o w R) (hn : ∀ x w', R x w' → next (a.put o.dst x) w') : o.wp p a w next Q := by
  rcases g with ⟨x, w', e, hr⟩ | ⟨w', e, hr⟩ | ⟨f, args, e, hc⟩
  · rw [Oper.wp, e, Oper.upon_value]; exact hn x w' hr
  · rw [Oper.wp, e, Oper.upon_skip]; exact hn _ w' hr
  · rw [Oper.wp, e, Oper.upon_enter]
    refine hc.mono fun e w' hh => ?_
    obtain ⟨x, rfl, hr⟩ := hh
    exact hn x w' hr
theorem Goes.mono {p : Program} {ρ : Operand → Value} {o : Oper} {w : World} {R R' : Value → World → Prop} (g : Goes p ρ o w R) (hm : ∀ x w', R x w' → R' x w') : Goes p ρ o w R' := by
  rcases g with ⟨x, w', e, hr⟩ | ⟨w', e, hr⟩ | ⟨f, args, e, hc⟩
  · exact .inl ⟨x, w', e, hm _ _ hr⟩
  · exact .inr (.inl ⟨w', e, hm _ _ hr⟩)
  · exact .inr (.inr ⟨f, args, e, hc.mono fun e w' hh => let ⟨x, h1, h2⟩ := hh; ⟨x, h1, hm _ _ h2⟩⟩)

/-- a call of a function -/
def isCall : O → Bool
  | .e (.ca _ _) => true
  | .e (.cv _ _) => true
  | _ => false
/-- an operation that comes to this; a call alone enters a function -/
def GoesX (c : Bool) (p : Program) (ρ : Operand → Value) (o : Oper) (w : World) (R : Value → World → Prop) : Prop :=
  (∃ x w', (execOp ρ o).run p w = .ok (.value x) w' ∧ R x w') ∨ (∃ w', (execOp ρ o).run p w = .ok .skip w' ∧ R undef w') ∨
    c = true ∧ ∃ f args, (execOp ρ o).run p w = .ok (.enter f args) w ∧ Calls p f args w fun e w' => ∃ x, e = .returned x ∧ R x w'
theorem GoesX.goes {c : Bool} {p : Program} {ρ : Operand → Value} {o : Oper} {w : World} {R : Value → World → Prop} (g : GoesX c p ρ o w R) : Goes p ρ o w R := by
  rcases g with h | h | ⟨_, h⟩
  · exact .inl h
  · exact .inr (.inl h)
  · exact .inr (.inr h)
theorem Goes.x {p : Program} {ρ : Operand → Value} {o : Oper} {w : World} {R : Value → World → Prop} (g : Goes p ρ o w R) : GoesX true p ρ o w R := by
  rcases g with h | h | h
  · exact .inl h
  · exact .inr (.inl h)
  · exact .inr (.inr ⟨rfl, h⟩)
theorem GoesX.mono {c : Bool} {p : Program} {ρ : Operand → Value} {o : Oper} {w : World} {R R' : Value → World → Prop} (g : GoesX c p ρ o w R) (hm : ∀ x w', R x w' → R' x w') : GoesX c p ρ o w R' := by
  rcases g with ⟨x, w', e, hr⟩ | ⟨w', e, hr⟩ | ⟨hc, f, args, e, hcl⟩
  · exact .inl ⟨x, w', e, hm _ _ hr⟩
  · exact .inr (.inl ⟨w', e, hm _ _ hr⟩)
  · exact .inr (.inr ⟨hc, f, args, e, hcl.mono fun e w' hh => let ⟨x, h1, h2⟩ := hh; ⟨x, h1, hm _ _ h2⟩⟩)
theorem GoesX.both {p : Program} {ρ : Operand → Value} {o : Oper} {w : World} {R R' : Value → World → Prop} (g : GoesX false p ρ o w R) (g' : GoesX false p ρ o w R') : Goes p ρ o w fun x w' => R x w' ∧ R' x w' := by
  rcases g with ⟨x, w1, e, hr⟩ | ⟨w1, e, hr⟩ | ⟨hc, _⟩
  · rcases g' with ⟨x', w1', e', hr'⟩ | ⟨w1', e', hr'⟩ | ⟨hc, _⟩
    · rw [e] at e'
      injection e' with e1 e2
      injection e1 with e1
      subst e1; subst e2
      exact .inl ⟨x, w1, e, hr, hr'⟩
    · rw [e] at e'
      injection e' with e1 e2
      cases e1
    · cases hc
  · rcases g' with ⟨x', w1', e', hr'⟩ | ⟨w1', e', hr'⟩ | ⟨hc, _⟩
    · rw [e] at e'
      injection e' with e1 e2
      cases e1
    · rw [e] at e'
      injection e' with e1 e2
      subst e2
      exact .inr (.inl ⟨w1, e, hr, hr'⟩)
    · cases hc
  · cases hc

/-- what is served comes back -/
def Snd (p : Program) (cl : K → List V → H → OR) : Prop := ∀ f as h v h', cl f as h = .ok v h' → okFunc p f.num = true ∧ ∀ φ w (args : Array Value), RVs φ as args.toList → RW p φ h w →
  Calls p f.num args w fun e w' => ∃ x, e = .returned x ∧ After p (fun k => h.nx.num ≤ k.num) φ h w v h' x w'

section
variable {p : Program} {φ : Phi} {F : T V} {ρ : Operand → Value} {h h' : H} {w : World} {o : Oper} {v : V} {nid : K} {cl : K → List V → H → OR}

theorem run_callFunc {f : FuncId} (hf : okFunc p f = true) (args : Array Value) : (callFunc f args).run p w = .ok (.enter f args) w := by
  unfold okFunc at hf
  cases hfn : p.funcs[f]? with
  | none => rw [hfn] at hf; cases hf
  | some fn =>
    rw [hfn] at hf
    simp only [Bool.and_eq_true, Bool.not_eq_true'] at hf
    obtain ⟨h1, h2⟩ := hf
    have h3 : ¬ fn.body = none := fun hq => by rw [hq] at h1; cases h1
    have h4 : ¬ fn.name = "runtime.NumGoroutine" := fun hq => by rw [hq] at h2; simp at h2
    simp [callFunc, hfn, h3, h4]
theorem RVs.empty {xs : Array Value} (h : RVs φ [] xs.toList) : xs = #[] := by
  have : xs.toList = [] := by generalize xs.toList = l at h; cases h; rfl
  apply Array.ext'; simpa using this
theorem OR_none {β : Type} {o : Option β} {k : β → OR} (hv : (Option.casesOn o .err k : OR) = .ok v h') : ∃ a, o = some a ∧ k a = .ok v h' := by
  cases o with
  | none => cases hv
  | some a => exact ⟨a, rfl, hv⟩
theorem s_ca {c : Call} {f : FuncId} {k : K} {as : List A} (hs : Snd p cl) (hp : OpR p φ F ρ) (r : RW p φ h w) (ho : o.op = .call c) (hc : c.callee = .value (.func f)) (hk : cK f = some k) (ha : cAs p c.args = some as) (hv : eCa cl F h k as = .ok v h') :
    Goes p ρ o w (After p (fun k => h.nx.num ≤ k.num) φ h w v h') := by
  obtain ⟨l, hl, hv⟩ := OR_none hv
  have hargs := hp.arr ha hl
  have hf := hp (.func f) (.c (.f k [] [])) (.f k [] []) (by simp [cA, hk]) rfl
  generalize hρ : ρ (.func f) = z at hf
  cases hf with | f _ _ _ xs ys hx hy =>
  have := RVs.empty hx; subst this
  have := RVs.empty hy; subst this
  obtain ⟨h1, h2⟩ := hs _ _ _ _ _ hv
  refine .inr (.inr ⟨k.num, c.args.map ρ, ?_, h2 φ w _ hargs r⟩)
  simp only [execOp, ho, resolve, hc, hρ, Deferred.ofValue, Sem.run_bind, Sem.run_pure, Result.andThen_ok, invoke, Array.empty_append, Array.append_empty, run_callFunc h1]
theorem fK_OR {v' : V} {k : K → List V → List V → OR} (hv : v'.fK .err k = .ok v h') : ∃ f a c, v' = .f f a c ∧ k f a c = .ok v h' := by
  cases v' <;> first | cases hv; done | exact ⟨_, _, _, rfl, hv⟩
theorem s_cvl {c : Call} {x : Operand} {a : A} {as : List A} (hs : Snd p cl) (hp : OpR p φ F ρ) (r : RW p φ h w) (ho : o.op = .call c) (hc : c.callee = .value x) (hk : cA p x = some a) (ha : cAs p c.args = some as) (hv : eCv cl F h a as = .ok v h') :
    Goes p ρ o w (After p (fun k => h.nx.num ≤ k.num) φ h w v h') := by
  obtain ⟨q, hq, hv⟩ := OR_none hv
  have hx := hp x a q hk hq
  obtain ⟨f, as1, cs1, rfl, hv⟩ := fK_OR hv
  obtain ⟨l, hl, hv⟩ := OR_none hv
  have hargs := hp.arr ha hl
  generalize hρ : ρ x = z at hx
  cases hx with | f _ _ _ xs ys hx hy =>
  obtain ⟨h1, h2⟩ := hs _ _ _ _ _ hv
  refine .inr (.inr ⟨f.num, xs ++ c.args.map ρ ++ ys, ?_, h2 φ w _ ?_ r⟩)
  · simp only [execOp, ho, resolve, hc, hρ, Deferred.ofValue, Sem.run_bind, Sem.run_pure, Result.andThen_ok, invoke, run_callFunc h1]
  · rw [appL_eq, appL_eq, Array.toList_append, Array.toList_append, List.append_assoc]
    exact hx.append (hargs.append hy)

theorem eff_rel {q : E} (hs : Snd p cl) (hp : OpR p φ F ρ) (r : RW p φ h w) (hn : φ nid = none) (hlt : nid.num < h.nx.num) (hc : cOp p o.op = some (.e q)) (hv : evE cl F nid h q = .ok v h') :
    GoesX (isCall (.e q)) p ρ o w (After p (fun k => k = nid ∨ h.nx.num ≤ k.num) φ h w v h') := by
  cases ho : o.op with
  | store t x y =>
    rw [ho] at hc
    simp only [cOp, bind, Option.bind_eq_some_iff, Option.some.injEq, O.e.injEq] at hc
    obtain ⟨n, hn', a, ha, b, hb, rfl⟩ := hc
    obtain ⟨rfl, w', e, k1, k2⟩ := s_st hp r ho hn' ha hb hv
    exact .inr (.inl ⟨w', e, φ, .u, k1, k2.weaken fun _ hh => hh.elim⟩)
  | mapUpdate t m k x =>
    rw [ho] at hc
    simp only [cOp] at hc
    split at hc
    · rename_i kt et ht
      simp only [bind, Option.bind_eq_some_iff, Option.some.injEq, O.e.injEq] at hc
      obtain ⟨kk, hkk, a, ha, b, hb, c, hcx, rfl⟩ := hc
      obtain ⟨rfl, w', e, k1, k2⟩ := s_mu hp r (.inl ho) ht hkk ha hb hcx hv
      exact .inr (.inl ⟨w', e, φ, .u, k1, k2.weaken fun _ hh => hh.elim⟩)
    · cases hc
  | insert t m k x =>
    rw [ho] at hc
    simp only [cOp] at hc
    split at hc
    · rename_i kt et ht
      simp only [bind, Option.bind_eq_some_iff, Option.some.injEq, O.e.injEq] at hc
      obtain ⟨kk, hkk, a, ha, b, hb, c, hcx, rfl⟩ := hc
      obtain ⟨rfl, w', e, k1, k2⟩ := s_mu hp r (.inr ho) ht hkk ha hb hcx hv
      exact .inr (.inl ⟨w', e, φ, .u, k1, k2.weaken fun _ hh => hh.elim⟩)
    · cases hc
  | call c =>
    rw [ho] at hc
    simp only [cOp] at hc
    cases hcc : c.callee with
    | value x =>
      have other : (cA p x).bind (fun a => (cAs p c.args).bind fun as => some (O.e (.cv a as))) = some (.e q) → GoesX (isCall (.e q)) p ρ o w (After p (fun k => k = nid ∨ h.nx.num ≤ k.num) φ h w v h') := by
        intro hc
        simp only [Option.bind_eq_some_iff, Option.some.injEq, O.e.injEq] at hc
        obtain ⟨a, ha, as, has, rfl⟩ := hc
        refine (s_cvl hs hp r ho hcc ha has hv).x.mono ?_
        rintro x w' ⟨φ', k1, k2, k3⟩
        exact ⟨φ', k1, k2, k3.weaken fun _ hh => .inr hh⟩
      cases x with
      | func f =>
        simp only [cCall, hcc, Option.bind_eq_some_iff, Option.some.injEq, O.e.injEq] at hc
        obtain ⟨k, hk, as, has, rfl⟩ := hc
        refine (s_ca hs hp r ho hcc hk has hv).x.mono ?_
        rintro x w' ⟨φ', k1, k2, k3⟩
        exact ⟨φ', k1, k2, k3.weaken fun _ hh => .inr hh⟩
      | tmp t => simp only [cCall, hcc] at hc; exact other hc
      | const t => simp only [cCall, hcc] at hc; exact other hc
      | global t => simp only [cCall, hcc] at hc; exact other hc
    | invoke r m => simp only [cCall, hcc] at hc; cases hc
    | builtin bi =>
      cases bi with
      | len =>
        simp only [cCall, hcc] at hc
        split at hc
        · simp only [Option.bind_eq_some_iff] at hc
          obtain ⟨a, ha, hc⟩ := hc
          unfold cLen at hc
          split at hc <;> simp at hc
        · cases hc
      | append =>
        simp only [cCall, hcc] at hc
        split at hc
        · rename_i t u s x hts hxs
          simp only [Option.bind_eq_some_iff] at hc
          obtain ⟨a, ha, b, hb, hc⟩ := hc
          unfold cApp at hc
          split at hc
          · rename_i e ht
            simp only [Option.bind_eq_some_iff] at hc
            obtain ⟨d, hu, sz, hsz, hc⟩ := hc
            split at hc
            · rename_i hif
              simp only [Bool.and_eq_true, Option.isSome_iff_exists] at hif
              obtain ⟨⟨hf, hd⟩, z, hz⟩ := hif
              simp only [Option.some.injEq, O.e.injEq] at hc
              subst hc
              obtain ⟨xv, w', φ', e1, k1, k2, k3⟩ := s_ap hp r hn hlt ho hcc hts hxs ht hu hd hf hsz hz ha hb hv
              exact .inl ⟨xv, w', e1, φ', k1, k2, k3.weaken fun _ hh => .inl hh⟩
            · cases hc
          · cases hc
        · cases hc
      | max =>
        simp only [cCall, hcc] at hc
        split at hc
        · simp [Option.bind_eq_some_iff] at hc
        · cases hc
      | min =>
        simp only [cCall, hcc] at hc
        split at hc
        · simp [Option.bind_eq_some_iff] at hc
        · cases hc
      | _ => simp only [cCall, hcc] at hc; cases hc
  | alloc t => rw [ho] at hc; simp [cOp, bind, Option.bind_eq_some_iff] at hc
  | box t x => rw [ho] at hc; simp [cOp, bind, Option.bind_eq_some_iff] at hc
  | makeMap t r => rw [ho] at hc; cases r <;> simp [cOp] at hc
  | buildSlice t n ps =>
    rw [ho] at hc
    simp only [cOp] at hc
    split at hc
    · simp [bind, Option.bind_eq_some_iff] at hc
    · cases hc
  | makeSlice t n c =>
    rw [ho] at hc
    simp only [cOp] at hc
    split at hc
    · simp [bind, Option.bind_eq_some_iff] at hc
    · cases hc
  | convert s d x =>
    rw [ho] at hc
    simp only [cOp, bind, Option.bind_eq_some_iff] at hc
    obtain ⟨a, ha, hc⟩ := hc
    split at hc <;> first | (cases hc; done) | (simp at hc; done) | (split at hc <;> first | (cases hc; done) | (simp at hc; done))
  | move x => rw [ho] at hc; simp [cOp, bind, Option.bind_eq_some_iff] at hc
  | assign x => rw [ho] at hc; simp [cOp, bind, Option.bind_eq_some_iff] at hc
  | pick x y z => rw [ho] at hc; simp [cOp, bind, Option.bind_eq_some_iff] at hc
  | nilCheck x => rw [ho] at hc; simp [cOp, bind, Option.bind_eq_some_iff] at hc
  | extract x i => rw [ho] at hc; simp [cOp, bind, Option.bind_eq_some_iff] at hc
  | load t x => rw [ho] at hc; simp [cOp, bind, Option.bind_eq_some_iff] at hc
  | binOp op t x y t' => rw [ho] at hc; simp [cOp, bind, Option.bind_eq_some_iff] at hc
  | unOp op t x => rw [ho] at hc; cases op <;> simp [cOp, bind, Option.bind_eq_some_iff] at hc
  | makeFunc f a c => rw [ho] at hc; cases f <;> simp [cOp, bind, Option.bind_eq_some_iff] at hc
  | build t ps =>
    rw [ho] at hc
    simp only [cOp, bind, Option.bind_eq_some_iff] at hc
    obtain ⟨z, hz, hc⟩ := hc
    split at hc
    · simp [Option.bind_eq_some_iff] at hc
    · cases hc
  | makeInterface t x =>
    rw [ho] at hc
    simp only [cOp] at hc
    split at hc
    · cases hc
    · simp [bind, Option.bind_eq_some_iff] at hc
    · cases hc
  | fieldAddr t x i =>
    rw [ho] at hc
    simp only [cOp] at hc
    split at hc
    · simp only [bind, Option.bind_eq_some_iff] at hc
      obtain ⟨f, hf, n, hn, hc⟩ := hc
      split at hc
      · cases hc
      · simp [Option.bind_eq_some_iff] at hc
    · cases hc
  | field t x i =>
    rw [ho] at hc
    simp only [cOp] at hc
    split at hc
    · simp [bind, Option.bind_eq_some_iff] at hc
    · cases hc
  | indexAddr t x i =>
    rw [ho] at hc
    simp only [cOp] at hc
    split at hc
    · simp [bind, Option.bind_eq_some_iff] at hc
    · simp [bind, Option.bind_eq_some_iff] at hc
    · cases hc
  | index t x i =>
    rw [ho] at hc
    simp only [cOp] at hc
    split at hc
    · simp [bind, Option.bind_eq_some_iff] at hc
    · cases hc
  | slice t x lo hi mx =>
    rw [ho] at hc
    simp only [cOp] at hc
    split at hc
    · split at hc
      · simp [bind, Option.bind_eq_some_iff] at hc
      · cases hc
    · simp [bind, Option.bind_eq_some_iff] at hc
    · cases hc
  | lookup t x i ok =>
    rw [ho] at hc
    simp only [cOp] at hc
    split at hc
    · simp [bind, Option.bind_eq_some_iff] at hc
    · cases hc
  | _ => rw [ho] at hc; cases hc

theorem ops_relX {q : O} (hs : Snd p cl) (hp : OpR p φ F ρ) (r : RW p φ h w) (hn : φ nid = none) (hlt : nid.num < h.nx.num) (hc : cOp p o.op = some q) (hv : evO cl F nid h q = .ok v h') :
    GoesX (isCall q) p ρ o w (After p (fun k => k = nid ∨ h.nx.num ≤ k.num) φ h w v h') := by
  cases q with
  | p q =>
    obtain ⟨v', h1, h2⟩ := OR_none (show (Option.casesOn (evP F q) .err fun v => .ok v h : OR) = .ok v h' from hv)
    injection h2 with e1 e2
    subst e1; subst e2
    obtain ⟨x, e, hx⟩ := pure_rel (w := w) hp hc h1
    exact .inl ⟨x, w, e, φ, hx, r, Kp.refl _ _ _ _⟩
  | r q =>
    obtain ⟨v', h1, h2⟩ := OR_none (show (Option.casesOn (evR F h q) .err fun v => .ok v h : OR) = .ok v h' from hv)
    injection h2 with e1 e2
    subst e1; subst e2
    obtain ⟨x, e, hx⟩ := read_rel hp r hc h1
    exact .inl ⟨x, w, e, φ, hx, r, Kp.refl _ _ _ _⟩
  | a q =>
    obtain ⟨⟨v', b⟩, h1, h2⟩ := OR_none (show (Option.casesOn (evA F nid q) .err fun r => .ok r.1 (h.set nid r.2) : OR) = .ok v h' from hv)
    injection h2 with e1 e2
    subst e1; subst e2
    obtain ⟨x, w', φ', e, hx, k1, k2⟩ := (make_rel (w := w) hp hc h1).done r hn hlt
    exact .inl ⟨x, w', e, φ', hx, k1, k2.weaken fun _ hh => .inl hh⟩
  | e q => exact eff_rel hs hp r hn hlt hc hv
theorem ops_rel {q : O} (hs : Snd p cl) (hp : OpR p φ F ρ) (r : RW p φ h w) (hn : φ nid = none) (hlt : nid.num < h.nx.num) (hc : cOp p o.op = some q) (hv : evO cl F nid h q = .ok v h') :
    Goes p ρ o w (After p (fun k => k = nid ∨ h.nx.num ≤ k.num) φ h w v h') := (ops_relX hs hp r hn hlt hc hv).goes
end
end Go.Rfx
