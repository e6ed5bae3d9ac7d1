/- What is proved here: functions come, in Go's own run, to what the evaluator says. The condition is the table: each entry is a function's own code, or is served. -/
import Derived.Test.YtbjcajjlpehfiaaGreatDoorRfxY
set_option linter.unusedVariables false
set_option linter.unusedSectionVars false
set_option linter.unusedSimpArgs false
set_option linter.constructorNameAsVariable false
namespace Go.Rfx
open Go
variable [Sy]

section
variable {p : Program} {nt : Nat} {φ φ' : Phi} {F : T V} {a : Act} {h h' : H} {w w' : World} {cl : K → List V → H → OR}

theorem frame_get : ∀ (l : List V) (k : K) (F : T V) (j : K) (v : V), T.get j (frame l k F) = some v → T.get j F = some v ∨ ∃ i, j.num = k.num + i ∧ l[i]? = some v
  | [], k, F, j, v, h => .inl h
  | u :: l, k, F, j, v, h => by
    have h' : T.get j (frame l k.succ (T.set u k F)) = some v := by
      have e : frame (u :: l) k F = frame l k.succ (T.set u k F) := T.fc_eq (T.set u k F) (fun F => frame l k.succ F)
      rw [← e]; exact h
    rcases frame_get l k.succ (T.set u k F) j v h' with h1 | ⟨i, h1, h2⟩
    · by_cases e : j = k
      · subst e
        rw [T.set, T.get_put_same] at h1
        exact .inr ⟨0, rfl, h1⟩
      · rw [T.set, T.get_put_other _ e] at h1
        exact .inl h1
    · exact .inr ⟨i + 1, by rw [h1, K.num_succ]; omega, h2⟩
theorem FR.start {as : List V} {args : Array Value} (hr : RVs φ as args.toList) : FR nt φ (frame as .e .leaf) { tmps := args ++ Array.replicate (nt - args.size) undef, defers := [] } := by
  refine ⟨fun k v hv => ?_, by simp; omega, rfl⟩
  rcases frame_get as .e .leaf k v hv with h1 | ⟨i, h1, h2⟩
  · rw [T.get_leaf] at h1; cases h1
  · obtain ⟨x, hx, hr⟩ := hr.get i v h2
    refine ⟨x, ?_, hr⟩
    have hk : k.num = i := by rw [h1]; exact Nat.zero_add i
    rw [Array.getElem?_toList] at hx
    have hlt : i < args.size := (Array.getElem?_eq_some_iff.1 hx).1
    rw [hk]
    show (args ++ _)[i]? = _
    rw [Array.getElem?_append_left hlt]
    exact hx

/-- what a function gives back -/
def resOf (tmps : Array Value) : ResultVar → Sem Value
  | .tmp t => pure (tmps.getD t undef)
  | .cell a t => do loadVar t (← asAddr (tmps.getD a undef))
theorem res_one (f : FR nt φ F a) (r : RW p φ h w) {q : ResultVar} {s : Rs} {v : V} (hc : cRs p q = some s) (hv : resV F h s = some v) : ∃ x, (resOf a.tmps q).run p w = .ok x w ∧ RV φ v x := by
  cases q with
  | tmp t =>
    simp only [cRs, Option.map_eq_some_iff] at hc
    obtain ⟨k, hk, rfl⟩ := hc
    obtain ⟨x, hx, hr⟩ := f.tm k v hv
    rw [cK_some hk] at hx
    exact ⟨x, by simp [resOf, Array.getD_eq_getD_getElem?, hx], hr⟩
  | cell b t =>
    simp only [cRs, bind, Option.bind_eq_some_iff, Option.some.injEq] at hc
    obtain ⟨k, hk, ag, hag, n, hn, rfl⟩ := hc
    obtain ⟨q, hq, v1⟩ := ob_eq.1 (show ob (T.get k F) _ = some v from hv)
    obtain ⟨x, hx, hr⟩ := f.tm k q hq
    rw [cK_some hk] at hx
    obtain ⟨i, o', rfl, v2⟩ := pK_some v1
    cases hr with | p _ _ ri hri =>
    obtain ⟨bb, hb, v3⟩ := ob_eq.1 v2
    obtain ⟨l, ro, cl, rfl, v4⟩ := bC_some v3
    have hgd : a.tmps.getD b undef = .pointer (some ⟨ri.b, o', none⟩) := by simp [Array.getD_eq_getD_getElem?, hx]
    cases ag with
    | false =>
      have v5 : l[o']? = some v := by rw [← nth_eq]; exact v4
      obtain ⟨y, hy, hr⟩ := r.cell hb hri v5
      exact ⟨y, by simp [resOf, hgd, asAddr, loadVar, tAgg_run hag, hy], hr⟩
    | true =>
      obtain ⟨q, hq, v5⟩ := ob_eq.1 (show ob (takeL (dropL l o') n) _ = some v from v4)
      obtain ⟨h1, rfl⟩ := takeL_some.1 hq
      injection v5 with v5
      subst v5
      rw [dropL_eq] at h1 ⊢
      obtain ⟨xs, hxs, hlen, hrel⟩ := r.loads hb hri (o := o') (n := n) (by rw [List.length_drop] at h1; exact h1)
      exact ⟨.agg xs.toArray, by simp [resOf, hgd, asAddr, loadVar, tAgg_run hag, tSize_run hn, hxs], .a _ _ (by simpa using hrel)⟩
theorem res_all (f : FR nt φ F a) (r : RW p φ h w) : ∀ {qs : List ResultVar} {ss : List Rs} {vs : List V}, qs.mapM (cRs p) = some ss → resVs F h ss = some vs → ∃ xs, (qs.mapM (resOf a.tmps)).run p w = .ok xs w ∧ RVs φ vs xs
  | [], ss, vs, hc, hv => by
    simp at hc
    subst hc
    injection hv with hv
    subst hv
    exact ⟨[], rfl, .nil⟩
  | q :: qs, ss, vs, hc, hv => by
    rw [List.mapM_cons] at hc
    simp only [bind, Option.bind_eq_some_iff, pure, Option.some.injEq] at hc
    obtain ⟨s, hs, ss', hss, rfl⟩ := hc
    obtain ⟨v, hv1, hv2⟩ := ob_eq.1 (show ob (resV F h s) (fun v => ob (resVs F h ss') fun l => some (v :: l)) = some vs from hv)
    obtain ⟨vs', hv3, hv4⟩ := ob_eq.1 hv2
    injection hv4 with hv4
    subst hv4
    obtain ⟨x, hx, hr⟩ := res_one f r hs hv1
    obtain ⟨xs, hxs, hrs⟩ := res_all f r hss hv3
    exact ⟨x :: xs, by rw [List.mapM_cons]; simp [hx, hxs], .cons _ _ _ _ hr hrs⟩
theorem results_rel (f : FR nt φ F a) (r : RW p φ h w) {fn : Func} {ss : List Rs} {v : V} (hc : fn.results.toList.mapM (cRs p) = some ss) (hv : res F h ss = .ok v h') : h' = h ∧ ∃ x, (results fn a.tmps).run p w = .ok x w ∧ RV φ v x := by
  obtain ⟨vs, hvs, hv1⟩ := OR_none (show (Option.casesOn (resVs F h ss) .err _ : OR) = .ok v h' from hv)
  obtain ⟨xs, hxs, hrs⟩ := res_all f r hc hvs
  have hmap : (fn.results.mapM (resOf a.tmps)).run p w = .ok xs.toArray w := by
    rw [Array.mapM_eq_mapM_toList]
    simp [hxs]
  have hrun : (results fn a.tmps).run p w = .ok (if h : xs.toArray.size = 1 then xs.toArray[0] else .tuple xs.toArray) w := by
    show (do let vs ← fn.results.mapM (resOf a.tmps); pure (if h : vs.size = 1 then vs[0] else .tuple vs) : Sem Value).run p w = _
    simp only [Sem.run_bind, hmap, Result.andThen_ok, Sem.run_pure]
  rw [hrun]
  cases vs with
  | nil =>
    cases hrs
    injection hv1 with e1 e2
    subst e1; subst e2
    exact ⟨rfl, _, rfl, .u⟩
  | cons u us =>
    cases hrs with | cons _ x _ xs h1 h2 =>
    cases us with
    | nil =>
      cases h2
      injection hv1 with e1 e2
      subst e1; subst e2
      exact ⟨rfl, _, rfl, h1⟩
    | cons u2 us =>
      cases h2 with | cons _ x2 _ xs h2 h3 =>
      injection hv1 with e1 e2
      subst e1; subst e2
      exact ⟨rfl, _, rfl, .t _ _ (.cons _ _ _ _ h1 (.cons _ _ _ _ h2 h3))⟩

/-- a function's own code -/
theorem fun_rel (hs : Snd p cl) (n : Nat) {f : FuncId} {fn : Func} {code : Code} {cf : CF} (hf : p.funcs[f]? = some fn) (hb : fn.body = some code) (hc : cF p fn = some cf) (hd : Drs (DrOK p fn.ntmps) code) {as : List V} {v : V} (hv : evB cl n cf as h = .ok v h')
    {args : Array Value} (hr : RVs φ as args.toList) (r : RW p φ h w) : Calls p f args w fun e w' => ∃ x, e = .returned x ∧ After p (fun k => h.nx.num ≤ k.num) φ h w v h' x w' := by
  simp only [cF, hb, bind, Option.bind_some, Option.bind_eq_some_iff, Option.some.injEq] at hc
  obtain ⟨c, hcc, ss, hss, rfl⟩ := hc
  have hv' : (R.casesOn (evC cl n c (frame as .e .leaf) h) .err (fun F h => res F h ss) (fun _ _ _ => .err) (fun F h => res F h ss) : OR) = .ok v h' := hv
  refine calls_of_wp hf hb (wp_mono (code_rel hs n code c hcc hd φ (frame as .e .leaf) h _ w _ (FR.start hr) r rfl ?_) fun e a' w' hp => ?_)
  · intro e
    rw [e] at hv'
    cases hv'
  · have fin : ∀ F' h1, Stands p fn.ntmps φ h w F' h1 a' w' → res F' h1 ss = .ok v h' → a'.defers = [] ∧ ∃ x, (results fn a'.tmps).run p w' = .ok x w' ∧ ∃ y, Ending.returned x = .returned y ∧ After p (fun k => h.nx.num ≤ k.num) φ h w v h' y w' := by
      rintro F' h1 ⟨φ', f', r', k'⟩ hres
      obtain ⟨rfl, x, hx, hrel⟩ := results_rel f' r' hss hres
      exact ⟨f'.df, x, hx, x, rfl, φ', hrel, r', k'⟩
    cases e with
    | normal =>
      obtain ⟨F', h1, e, hst⟩ := hp
      rw [e] at hv'
      exact fin F' h1 hst hv'
    | exit id =>
      obtain ⟨F', h1, e, hst⟩ := hp
      rw [e] at hv'
      cases hv'
    | ret =>
      obtain ⟨F', h1, e, hst⟩ := hp
      rw [e] at hv'
      exact fin F' h1 hst hv'
    | _ => exact hp.elim
end

/-- what stands in a table -/
def Served (p : Program) (f : Nat) (s : FS) : Prop :=
  okFunc p f = true ∧ match s with
  | .c cf => ∃ fn code, p.funcs[f]? = some fn ∧ fn.body = some code ∧ cF p fn = some cf ∧ Drs (DrOK p fn.ntmps) code
  | .h g => ∀ as h v h', g as h = .ok v h' → ∀ φ w (args : Array Value), RVs φ as args.toList → RW p φ h w → Calls p f args w fun e w' => ∃ x, e = .returned x ∧ After p (fun k => h.nx.num ≤ k.num) φ h w v h' x w'
theorem evF_sound {p : Program} {pr : T FS} (hp : ∀ k s, T.get k pr = some s → Served p k.num s) (n : Nat) : ∀ d, Snd p (evF pr n d)
  | 0 => fun f as h v h' hv => by cases hv
  | d + 1 => fun f as h v h' hv => by
    have ih := evF_sound hp n d
    obtain ⟨s, hs, hv1⟩ := OR_none (show (Option.casesOn (T.get f pr) .err fun s => FS.casesOn s (fun c => evB (evF pr n d) n c as h) (fun g => g as h) : OR) = .ok v h' from hv)
    obtain ⟨h1, h2⟩ := hp f s hs
    refine ⟨h1, fun φ w args hr r => ?_⟩
    cases s with
    | c cf =>
      obtain ⟨fn, code, h3, h4, h5, h6⟩ := h2
      exact fun_rel ih n h3 h4 h5 h6 hv1 hr r
    | h g => exact h2 as h v h' hv1 φ w args hr r
end Go.Rfx
