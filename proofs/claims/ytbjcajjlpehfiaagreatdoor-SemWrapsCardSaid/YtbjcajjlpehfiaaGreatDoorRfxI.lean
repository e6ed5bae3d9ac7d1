/- What is proved here: an operation that is compiled to one without memory comes, in Go's own run, to a value that is related to the evaluator's. The condition is the relation of the operands. -/
import Derived.Test.YtbjcajjlpehfiaaGreatDoorRfxG
set_option linter.unusedVariables false
set_option linter.unusedSectionVars false
set_option linter.unusedSimpArgs false
set_option linter.constructorNameAsVariable false
namespace Go.Rfx
open Go
variable [Sy]
section
variable {p : Program} {φ : Phi} {F : T V} {ρ : Operand → Value} {w : World} {o : Oper} {v : V}

theorem bin_rel {op : BinOp} {t t' : TypeId} {x y : Operand} {a b : A} {q : P} (h : OpR p φ F ρ) (ho : o.op = .binOp op t x y t') (ha : cA p x = some a) (hb : cA p y = some b) (hc : cBin p op t x y a b = some q) (hv : evP F q = some v) : Does p φ ρ o w v := by
  have ne2 : ∀ {f : Bool → P}, (neOf op).map f = some q → ∃ n, q = f n ∧ ((op = .eql ∧ n = false) ∨ (op = .neq ∧ n = true)) := by
    intro f hf
    simp only [Option.map_eq_some_iff] at hf
    obtain ⟨n, hn, rfl⟩ := hf
    refine ⟨n, rfl, ?_⟩
    cases op <;> first
      | (cases hn; done)
      | (injection hn with hn; exact .inl ⟨rfl, hn.symm⟩)
      | (injection hn with hn; exact .inr ⟨rfl, hn.symm⟩)
  cases ht : p.underlying t with
  | none => simp only [cBin, ht] at hc; cases hc
  | some d =>
    cases d with
    | int k => simp only [cBin, ht] at hc; injection hc with hc; subst hc; exact s_bi h ho ha hb hv
    | string => simp only [cBin, ht] at hc; injection hc with hc; subst hc; exact s_bs h ho ha hb hv
    | bool => simp only [cBin, ht] at hc; obtain ⟨n, rfl, hn⟩ := ne2 hc; exact s_bb h ho ht hn ha hb hv
    | pointer e => simp only [cBin, ht] at hc; obtain ⟨n, rfl, hn⟩ := ne2 hc; exact s_bn (nk := .p) h ho ⟨_, ht⟩ (fun e => by cases e) hn ha hb hv
    | slice e => simp only [cBin, ht] at hc; obtain ⟨n, rfl, hn⟩ := ne2 hc; exact s_bn (nk := .s) h ho ⟨_, ht⟩ (fun e => by cases e) hn ha hb hv
    | map k e => simp only [cBin, ht] at hc; obtain ⟨n, rfl, hn⟩ := ne2 hc; exact s_bn (nk := .m) h ho ⟨_, _, ht⟩ (fun e => by cases e) hn ha hb hv
    | func a1 b1 c1 => simp only [cBin, ht] at hc; obtain ⟨n, rfl, hn⟩ := ne2 hc; exact s_bn (nk := .f) h ho ⟨_, _, _, ht⟩ (fun e => by cases e) hn ha hb hv
    | interface ms =>
      simp only [cBin, ht] at hc
      by_cases hi : (isNilC x || isNilC y) = true
      · rw [if_pos hi] at hc
        obtain ⟨n, rfl, hn⟩ := ne2 hc
        exact s_bn (nk := .w) h ho ⟨_, ht⟩ (fun _ => by simpa using hi) hn ha hb hv
      · rw [if_neg hi] at hc; cases hc
    | struct fs =>
      simp only [cBin, ht] at hc
      by_cases hg : (p.eqGuardType p.depth t || p.stoodInHeld t) = true
      · rw [if_pos hg] at hc; cases hc
      · rw [if_neg hg] at hc
        simp only [Option.bind_eq_some_iff] at hc
        obtain ⟨ks, hk, hc⟩ := hc
        have hg' : p.eqGuardType p.depth t = false ∧ p.stoodInHeld t = false := by simpa using hg
        obtain ⟨n, rfl, hn⟩ := ne2 hc
        exact s_be h ho ht hg'.1 hg'.2 hk hn ha hb hv
    | _ => simp only [cBin, ht] at hc; cases hc

theorem pure_rel {q : P} (h : OpR p φ F ρ) (hc : cOp p o.op = some (.p q)) (hv : evP F q = some v) : Does p φ ρ o w v := by
  cases ho : o.op with
  | move x =>
    rw [ho] at hc
    simp only [cOp, bind, Option.bind_eq_some_iff, Option.some.injEq, O.p.injEq] at hc
    obtain ⟨a, ha, rfl⟩ := hc
    exact s_mv h (.inl ho) ha hv
  | assign x =>
    rw [ho] at hc
    simp only [cOp, bind, Option.bind_eq_some_iff, Option.some.injEq, O.p.injEq] at hc
    obtain ⟨a, ha, rfl⟩ := hc
    exact s_mv h (.inr ho) ha hv
  | pick x y z =>
    rw [ho] at hc
    simp only [cOp, bind, Option.bind_eq_some_iff, Option.some.injEq, O.p.injEq] at hc
    obtain ⟨a, ha, b, hb, c, hcc, rfl⟩ := hc
    exact s_pick h ho ha hb hcc hv
  | build t ps =>
    rw [ho] at hc
    simp only [cOp, bind, Option.bind_eq_some_iff] at hc
    obtain ⟨z, hz, hc⟩ := hc
    cases ht : p.underlying t with
    | none => rw [ht] at hc; cases hc
    | some d =>
      rw [ht] at hc
      cases d with
      | struct fs =>
        simp only [Option.bind_eq_some_iff, Option.some.injEq, O.p.injEq] at hc
        obtain ⟨sz, hsz, qs, hq, rfl⟩ := hc
        exact s_bd h ho ht hz hsz hq hv
      | _ => cases hc
  | nilCheck x =>
    rw [ho] at hc
    simp only [cOp, bind, Option.bind_eq_some_iff, Option.some.injEq, O.p.injEq] at hc
    obtain ⟨a, ha, rfl⟩ := hc
    exact s_nc h ho ha hv
  | binOp op t x y t' =>
    rw [ho] at hc
    simp only [cOp, bind, Option.bind_eq_some_iff, Option.map_eq_some_iff, O.p.injEq] at hc
    obtain ⟨a, ha, b, hb, q', hq, rfl⟩ := hc
    exact bin_rel h ho ha hb hq hv
  | unOp op t x =>
    rw [ho] at hc
    cases op <;> simp only [cOp, bind, Option.bind_eq_some_iff, Option.some.injEq, O.p.injEq] at hc
    all_goals obtain ⟨a, ha, rfl⟩ := hc
    all_goals first | exact s_ng h ho ha hv | exact s_no h ho ha hv | exact s_xo h ho ha hv
  | convert s d x =>
    rw [ho] at hc
    simp only [cOp, bind, Option.bind_eq_some_iff] at hc
    obtain ⟨a, ha, hc⟩ := hc
    cases hs : p.underlying s with
    | none => rw [hs] at hc; cases hc
    | some ds =>
      cases hd : p.underlying d with
      | none => rw [hs, hd] at hc; cases ds <;> cases hc
      | some dd =>
        rw [hs, hd] at hc
        cases ds <;> cases dd <;> first
          | (cases hc; done)
          | (simp only [Option.some.injEq, O.p.injEq] at hc; subst hc; first | exact s_cv h ho hs hd ha hv | exact s_cs h ho hs hd ha hv)
          | (simp at hc)
  | makeInterface t x =>
    rw [ho] at hc
    cases ht : p.underlying t with
    | none => simp only [cOp, ht] at hc; cases hc
    | some d =>
      cases d with
      | interface ms => simp only [cOp, ht] at hc; cases hc
      | _ =>
        simp only [cOp, ht, bind, Option.bind_eq_some_iff, Option.some.injEq, O.p.injEq] at hc
        obtain ⟨a, ha, rfl⟩ := hc
        exact s_wi h ho ht (fun _ e => by cases e) ha hv
  | makeFunc f a c =>
    rw [ho] at hc
    cases f with
    | func f =>
      simp only [cOp, bind, Option.bind_eq_some_iff, Option.some.injEq, O.p.injEq] at hc
      obtain ⟨k, hk, as, ha, bs, hb, rfl⟩ := hc
      have hk' : k.num = f := by
        unfold cK at hk
        split at hk
        · rename_i h1; injection hk with hk; subst hk; exact h1
        · cases hk
      exact s_mf h ho hk' ha hb hv
    | _ => cases hc
  | slice t x lo hi mx =>
    rw [ho] at hc
    cases ht : p.underlying t with
    | none => simp only [cOp, ht] at hc; cases hc
    | some d =>
      cases d with
      | string =>
        cases mx with
        | none =>
          simp only [cOp, ht, bind, Option.bind_eq_some_iff, Option.some.injEq, O.p.injEq] at hc
          obtain ⟨a, ha, b, hb, c, hcc, rfl⟩ := hc
          exact s_ss h ho ht ha hb hcc hv
        | some m => simp only [cOp, ht] at hc; cases hc
      | slice e =>
        simp only [cOp, ht, bind, Option.bind_eq_some_iff, Option.some.injEq, O.p.injEq] at hc
        obtain ⟨n, hn, a, ha, b, hb, c, hcc, m, hm, rfl⟩ := hc
        exact s_sl h ho ht hn ha hb hcc hm hv
      | _ => simp only [cOp, ht] at hc; cases hc
  | fieldAddr t x i =>
    rw [ho] at hc
    cases ht : p.underlying t with
    | none => simp only [cOp, ht] at hc; cases hc
    | some d =>
      cases d with
      | struct fs =>
        simp only [cOp, ht, bind, Option.bind_eq_some_iff] at hc
        obtain ⟨f, hf, n, hn, hc⟩ := hc
        by_cases h0 : n = 0
        · rw [if_pos h0] at hc; cases hc
        · rw [if_neg h0] at hc
          simp only [Option.bind_eq_some_iff, Option.some.injEq, O.p.injEq] at hc
          obtain ⟨a, ha, rfl⟩ := hc
          simp only [tSize, Option.map_eq_some_iff] at hn
          obtain ⟨j, hj, rfl⟩ := hn
          exact s_fa h ho ht hf hj h0 ha hv
      | _ => simp only [cOp, ht] at hc; cases hc
  | field t x i =>
    rw [ho] at hc
    cases ht : p.underlying t with
    | none => simp only [cOp, ht] at hc; cases hc
    | some d =>
      cases d with
      | struct fs =>
        simp only [cOp, ht, bind, Option.bind_eq_some_iff, Option.some.injEq, O.p.injEq] at hc
        obtain ⟨f, hf, n, hn, g, hg, a, ha, rfl⟩ := hc
        exact s_fd h ho ht hf hn hg ha hv
      | _ => simp only [cOp, ht] at hc; cases hc
  | indexAddr t x i =>
    rw [ho] at hc
    cases ht : p.underlying t with
    | none => simp only [cOp, ht] at hc; cases hc
    | some d =>
      cases d with
      | slice e =>
        simp only [cOp, ht, bind, Option.bind_eq_some_iff, Option.some.injEq, O.p.injEq] at hc
        obtain ⟨n, hn, a, ha, b, hb, rfl⟩ := hc
        exact s_ia h ho ht hn ha hb hv
      | array len e =>
        simp only [cOp, ht, bind, Option.bind_eq_some_iff, Option.some.injEq, O.p.injEq] at hc
        obtain ⟨n, hn, a, ha, b, hb, rfl⟩ := hc
        exact s_iaa h ho ht hn ha hb hv
      | _ => simp only [cOp, ht] at hc; cases hc
  | index t x i =>
    rw [ho] at hc
    cases ht : p.underlying t with
    | none => simp only [cOp, ht] at hc; cases hc
    | some d =>
      cases d with
      | string =>
        simp only [cOp, ht, bind, Option.bind_eq_some_iff, Option.some.injEq, O.p.injEq] at hc
        obtain ⟨a, ha, b, hb, rfl⟩ := hc
        exact s_ix h ho ht ha hb hv
      | _ => simp only [cOp, ht] at hc; cases hc
  | extract x i =>
    rw [ho] at hc
    simp only [cOp, bind, Option.bind_eq_some_iff, Option.some.injEq, O.p.injEq] at hc
    obtain ⟨a, ha, rfl⟩ := hc
    exact s_ex h ho ha hv
  | call c =>
    rw [ho] at hc
    simp only [cOp] at hc
    cases hcc : c.callee with
    | value x =>
      simp only [cCall, hcc] at hc
      cases x <;> simp [Option.bind_eq_some_iff] at hc
    | invoke r m => simp only [cCall, hcc] at hc; cases hc
    | builtin bi =>
      cases bi with
      | len =>
        simp only [cCall, hcc] at hc
        cases hts : c.argTypes.toList with
        | nil => rw [hts] at hc; cases hc
        | cons t ts =>
          cases hxs : c.args.toList with
          | nil => rw [hts, hxs] at hc; cases hc
          | cons x xs =>
            rw [hts, hxs] at hc
            simp only [Option.bind_eq_some_iff] at hc
            obtain ⟨a, ha, hc⟩ := hc
            cases ht : p.underlying t with
            | none => simp only [cLen, ht] at hc; cases hc
            | some d =>
              cases d with
              | string => simp only [cLen, ht, Option.some.injEq, O.p.injEq] at hc; subst hc; exact s_ls h ho hcc hts hxs ht ha hv
              | slice e => simp only [cLen, ht, Option.some.injEq, O.p.injEq] at hc; subst hc; exact s_ln h ho hcc hts hxs ht ha hv
              | _ => simp only [cLen, ht] at hc; cases hc
      | append =>
        simp only [cCall, hcc] at hc
        split at hc
        · simp only [Option.bind_eq_some_iff] at hc
          obtain ⟨a, ha, b, hb, hc⟩ := hc
          unfold cApp at hc
          split at hc
          · simp [Option.bind_eq_some_iff] at hc
          · cases hc
        · cases hc
      | max =>
        simp only [cCall, hcc] at hc
        split at hc
        · rename_i x y hxs
          simp only [Option.bind_eq_some_iff, Option.some.injEq, O.p.injEq] at hc
          obtain ⟨a, ha, b, hb, rfl⟩ := hc
          exact s_mm (mx := true) h ho hcc hxs ha hb hv
        · cases hc
      | min =>
        simp only [cCall, hcc] at hc
        split at hc
        · rename_i x y hxs
          simp only [Option.bind_eq_some_iff, Option.some.injEq, O.p.injEq] at hc
          obtain ⟨a, ha, b, hb, rfl⟩ := hc
          exact s_mm (mx := false) h ho hcc hxs ha hb hv
        · cases hc
      | _ => simp only [cCall, hcc] at hc; cases hc
  | alloc t => rw [ho] at hc; simp [cOp, bind, Option.bind_eq_some_iff] at hc
  | box t x => rw [ho] at hc; simp [cOp, bind, Option.bind_eq_some_iff] at hc
  | load t x => rw [ho] at hc; simp [cOp, bind, Option.bind_eq_some_iff] at hc
  | store t x y => rw [ho] at hc; simp [cOp, bind, Option.bind_eq_some_iff] at hc
  | buildSlice t n ps =>
    rw [ho] at hc
    simp only [cOp] at hc
    split at hc
    · simp [bind, Option.bind_eq_some_iff] at hc
    · cases hc
  | makeMap t r => rw [ho] at hc; cases r <;> simp [cOp] at hc
  | makeSlice t n c =>
    rw [ho] at hc
    simp only [cOp] at hc
    split at hc
    · split at hc
      · simp [bind, Option.bind_eq_some_iff] at hc
      · cases hc
    · cases hc
  | lookup t x i ok =>
    rw [ho] at hc
    simp only [cOp] at hc
    split at hc
    · simp [bind, Option.bind_eq_some_iff] at hc
    · cases hc
  | mapUpdate t m k x =>
    rw [ho] at hc
    simp only [cOp] at hc
    split at hc
    · simp [bind, Option.bind_eq_some_iff] at hc
    · cases hc
  | insert t m k x =>
    rw [ho] at hc
    simp only [cOp] at hc
    split at hc
    · simp [bind, Option.bind_eq_some_iff] at hc
    · cases hc
  | _ => rw [ho] at hc; cases hc
end
end Go.Rfx
